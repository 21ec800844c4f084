/- UTF-8: the laws of positions. -/
import Derived.Test.YtjokidcjjfdkpaaUtfPosS
namespace Go.Proofs.Ytjokidcjjfdkpaa
open Go.RowKit Go.Shelf

/-! ### plain -/
theorem off_lt_of {rs : List Int} {i j : Nat} (h : i < j) (hj : j ≤ rs.length) : Utf.off rs i < Utf.off rs j := by
  have h1 := Utf.off_succ rs i (by omega)
  have h2 := Utf.wid_bd rs[i]
  have h3 := off_le_of (rs := rs) (show i + 1 ≤ j by omega)
  omega
def plt (p q : Int × Int) : Prop := p.1 < q.1 ∨ (p.1 = q.1 ∧ p.2 < q.2)
theorem plt_aft (p : Int × Int) (r : Int) : plt p (aft p r) := by
  unfold plt aft
  split <;> dsimp only <;> omega
theorem plt_trans {p q r : Int × Int} (h : plt p q) (k : plt q r) : plt p r := by unfold plt at *; omega
theorem plt_ne {p q : Int × Int} (h : plt p q) : p ≠ q := by rintro rfl; unfold plt at h; omega
theorem pos_lt {rs : List Int} {i : Nat} : ∀ j, i < j → j ≤ rs.length → plt (posOf (rs.take i)) (posOf (rs.take j)) := by
  intro j
  induction j with
  | zero => omega
  | succ j ih =>
    intro h hj
    have e : posOf (rs.take (j + 1)) = aft (posOf (rs.take j)) rs[j] := by rw [List.take_succ_eq_append_getElem (by omega), posOf_snoc]
    rw [e]
    rcases Nat.lt_or_ge i j with h1 | h1
    · exact plt_trans (ih h1 (by omega)) (plt_aft _ _)
    · obtain rfl : i = j := by omega
      exact plt_aft _ _
theorem off_inj {rs : List Int} {i j : Nat} (hi : i ≤ rs.length) (hj : j ≤ rs.length) (h : Utf.off rs i = Utf.off rs j) : i = j := by
  rcases Nat.lt_trichotomy i j with h1 | h1 | h1
  · have := off_lt_of h1 hj; omega
  · exact h1
  · have := off_lt_of h1 hi; omega
theorem pos_inj {rs : List Int} {i j : Nat} (hi : i ≤ rs.length) (hj : j ≤ rs.length) (h : posOf (rs.take i) = posOf (rs.take j)) : i = j := by
  rcases Nat.lt_trichotomy i j with h1 | h1 | h1
  · exact absurd h (plt_ne (pos_lt j h1 hj))
  · exact h1
  · exact absurd h.symm (plt_ne (pos_lt i h1 hi))
theorem posIs_ex (rs : List Int) (rest : List UInt8) (a : Int) : ∃ x1 x2 e, PosIs rs rest a x1 x2 e := by
  by_cases hr : rest.length = 0
  · by_cases h : ∃ k, k ≤ rs.length ∧ (Utf.off rs k : Int) = a
    · obtain ⟨k, h1, h2⟩ := h
      exact ⟨_, _, 0, .inr ⟨hr, .inl ⟨k, h1, h2, rfl, rfl, rfl⟩⟩⟩
    · exact ⟨0, 0, 2, .inr ⟨hr, .inr ⟨fun k h1 h2 => h ⟨k, h1, h2⟩, rfl, rfl, rfl⟩⟩⟩
  · exact ⟨0, 0, 5, .inl ⟨hr, rfl, rfl, rfl⟩⟩
theorem posIs_fun {rs : List Int} {rest : List UInt8} {a x1 x2 e y1 y2 f : Int} (h : PosIs rs rest a x1 x2 e) (k : PosIs rs rest a y1 y2 f) : x1 = y1 ∧ x2 = y2 ∧ e = f := by
  rcases h with ⟨h0, rfl, rfl, rfl⟩ | ⟨h0, h⟩ <;> rcases k with ⟨k0, rfl, rfl, rfl⟩ | ⟨k0, k⟩
  · exact ⟨rfl, rfl, rfl⟩
  · exact absurd k0 h0
  · exact absurd h0 k0
  · rcases h with ⟨i, i1, i2, rfl, rfl, rfl⟩ | ⟨hn, rfl, rfl, rfl⟩ <;> rcases k with ⟨j, j1, j2, rfl, rfl, rfl⟩ | ⟨kn, rfl, rfl, rfl⟩
    · obtain rfl := off_inj i1 j1 (by omega)
      exact ⟨rfl, rfl, rfl⟩
    · exact absurd i2 (kn i i1)
    · exact absurd j2 (hn j j1)
    · exact ⟨rfl, rfl, rfl⟩
theorem offIs_ex (rs : List Int) (rest : List UInt8) (p1 p2 : Int) : ∃ n e, OffIs rs rest p1 p2 n e := by
  by_cases hr : rest.length = 0
  · by_cases h : ∃ k, k ≤ rs.length ∧ posOf (rs.take k) = (p1, p2)
    · obtain ⟨k, h1, h2⟩ := h
      exact ⟨_, 0, .inr ⟨hr, .inl ⟨k, h1, h2, rfl, rfl⟩⟩⟩
    · exact ⟨0, 2, .inr ⟨hr, .inr ⟨fun k h1 h2 => h ⟨k, h1, h2⟩, rfl, rfl⟩⟩⟩
  · exact ⟨0, 5, .inl ⟨hr, rfl, rfl⟩⟩
theorem offIs_fun {rs : List Int} {rest : List UInt8} {p1 p2 n e m f : Int} (h : OffIs rs rest p1 p2 n e) (k : OffIs rs rest p1 p2 m f) : n = m ∧ e = f := by
  rcases h with ⟨h0, rfl, rfl⟩ | ⟨h0, h⟩ <;> rcases k with ⟨k0, rfl, rfl⟩ | ⟨k0, k⟩
  · exact ⟨rfl, rfl⟩
  · exact absurd k0 h0
  · exact absurd h0 k0
  · rcases h with ⟨i, i1, i2, rfl, rfl⟩ | ⟨hn, rfl, rfl⟩ <;> rcases k with ⟨j, j1, j2, rfl, rfl⟩ | ⟨kn, rfl, rfl⟩
    · obtain rfl := pos_inj i1 j1 (i2.trans j2.symm)
      exact ⟨rfl, rfl⟩
    · exact absurd i2 (kn i i1)
    · exact absurd j2 (hn j j1)
    · exact ⟨rfl, rfl⟩
/-- From an offset to a position and back. -/
theorem pos_back {rs : List Int} {rest : List UInt8} {a x1 x2 : Int} (h : PosIs rs rest a x1 x2 0) : OffIs rs rest x1 x2 a 0 := by
  rcases h with ⟨_, _, _, h⟩ | ⟨h0, ⟨i, i1, i2, rfl, rfl, _⟩ | ⟨_, _, _, h⟩⟩
  · omega
  · exact .inr ⟨h0, .inl ⟨i, i1, rfl, i2.symm, rfl⟩⟩
  · omega
theorem off_back {rs : List Int} {rest : List UInt8} {p1 p2 n : Int} (h : OffIs rs rest p1 p2 n 0) : PosIs rs rest n p1 p2 0 := by
  rcases h with ⟨_, _, h⟩ | ⟨h0, ⟨i, i1, i2, rfl, _⟩ | ⟨_, _, h⟩⟩
  · omega
  · exact .inr ⟨h0, .inl ⟨i, i1, rfl, by rw [i2], by rw [i2], rfl⟩⟩
  · omega
theorem pos_mono {rs : List Int} {rest : List UInt8} {a b x1 x2 y1 y2 : Int} (h : PosIs rs rest a x1 x2 0) (k : PosIs rs rest b y1 y2 0) (hab : a < b) : plt (x1, x2) (y1, y2) := by
  rcases h with ⟨_, _, _, h⟩ | ⟨h0, ⟨i, i1, rfl, rfl, rfl, _⟩ | ⟨_, _, _, h⟩⟩
  · omega
  · rcases k with ⟨_, _, _, k⟩ | ⟨k0, ⟨j, j1, rfl, rfl, rfl, _⟩ | ⟨_, _, _, k⟩⟩
    · omega
    · rcases Nat.lt_or_ge i j with h1 | h1
      · exact pos_lt j h1 j1
      · have := off_le_of (rs := rs) h1; omega
    · omega
  · omega

/-! ### the laws -/
theorem position_is {s : ByteArray} {rs : List Int} {rest : List UInt8} (h : Utf.Split s.data.toList rs rest) (hs : s.size ≤ 4096) {a x1 x2 r : Int} (hp : PosIs rs rest a x1 x2 r) (w : World) :
    Calls Try.prog 29 #[.string s, .int .i64 a] w fun e w' => e = .returned (.tuple #[.agg #[.int .i64 x1, .int .i64 x2], .int .i64 r]) ∧ Below w.heap.size w w' :=
  (position_any h hs a w).mono fun e w' ⟨y1, y2, q, hq, he, hb⟩ => by obtain ⟨rfl, rfl, rfl⟩ := posIs_fun hp hq; exact ⟨he, hb⟩
theorem rposition_is {s : ByteArray} {rs : List Int} {rest : List UInt8} (h : Utf.Split s.data.toList rs rest) (hs : s.size ≤ 4096) {a x1 x2 r : Int} (hp : PosIs rs rest a x1 x2 r) (w : World) :
    Calls Try.prog 30 #[.string s, .int .i64 a] w fun e w' => e = .returned (.tuple #[.agg #[.int .i64 x1, .int .i64 x2], .int .i64 r]) ∧ Below w.heap.size w w' :=
  (rposition_any h hs a w).mono fun e w' ⟨y1, y2, q, hq, he, hb⟩ => by obtain ⟨rfl, rfl, rfl⟩ := posIs_fun hp hq; exact ⟨he, hb⟩
theorem offset_is {s : ByteArray} {rs : List Int} {rest : List UInt8} (h : Utf.Split s.data.toList rs rest) (hs : s.size ≤ 4096) {p1 p2 n r : Int} (hp : OffIs rs rest p1 p2 n r) (w : World) :
    Calls Try.prog 31 #[.string s, .agg #[.int .i64 p1, .int .i64 p2]] w fun e w' => e = .returned (.tuple #[.int .i64 n, .int .i64 r]) ∧ Below w.heap.size w w' :=
  (offset_any h hs p1 p2 w).mono fun e w' ⟨m, q, hq, he, hb⟩ => by obtain ⟨rfl, rfl⟩ := offIs_fun hp hq; exact ⟨he, hb⟩
theorem roffset_is {s : ByteArray} {rs : List Int} {rest : List UInt8} (h : Utf.Split s.data.toList rs rest) (hs : s.size ≤ 4096) {p1 p2 n r : Int} (hp : OffIs rs rest p1 p2 n r) (w : World) :
    Calls Try.prog 32 #[.string s, .agg #[.int .i64 p1, .int .i64 p2]] w fun e w' => e = .returned (.tuple #[.int .i64 n, .int .i64 r]) ∧ Below w.heap.size w w' :=
  (roffset_any h hs p1 p2 w).mono fun e w' ⟨m, q, hq, he, hb⟩ => by obtain ⟨rfl, rfl⟩ := offIs_fun hp hq; exact ⟨he, hb⟩

set_option maxRecDepth 100000 in
set_option maxHeartbeats 2000000 in
theorem positions_law (s : ByteArray) (a p1 p2 x1 x2 r n g : Int) (hs : s.size ≤ 4096)
    (h1 : ∀ w, Calls Try.prog 29 #[.string s, .int .i64 a] w fun e w' => e = .returned (.tuple #[.agg #[.int .i64 x1, .int .i64 x2], .int .i64 r]) ∧ Below w.heap.size w w')
    (h2 : ∀ w, Calls Try.prog 30 #[.string s, .int .i64 a] w fun e w' => e = .returned (.tuple #[.agg #[.int .i64 x1, .int .i64 x2], .int .i64 r]) ∧ Below w.heap.size w w')
    (h3 : ∀ w, Calls Try.prog 31 #[.string s, .agg #[.int .i64 p1, .int .i64 p2]] w fun e w' => e = .returned (.tuple #[.int .i64 n, .int .i64 g]) ∧ Below w.heap.size w w')
    (h4 : ∀ w, Calls Try.prog 32 #[.string s, .agg #[.int .i64 p1, .int .i64 p2]] w fun e w' => e = .returned (.tuple #[.int .i64 n, .int .i64 g]) ∧ Below w.heap.size w w') (w : World) :
    Calls Try.prog 10 #[.string s, .int .i64 a, .agg #[.int .i64 p1, .int .i64 p2]] w fun e w' => e = .returned (.bool true) ∧ Below w.heap.size w w' := by
  have H1 := Lib.hid h1; clear h1
  have H2 := Lib.hid h2; clear h2
  have H3 := Lib.hid h3; clear h3
  have H4 := Lib.hid h4; clear h4
  have d1 : decide (4096 < (s.size : Int)) = false := decide_eq_false (by omega)
  have hq : ∀ W, (binOp .eql 48 (.agg #[.int .i64 x1, .int .i64 x2]) (.agg #[.int .i64 x1, .int .i64 x2])).run Try.prog W = .ok (.bool true) W := fun W => by rw [pos_eql, decide_eq_true rfl]
  go_enter Try.func10, Try.ntmps10
  go_wp2_with fail
  refine (H1.out _).mono ?_; rintro e w1 ⟨rfl, hb1⟩
  have hp1 := (Whole.new w 48 #[.int .i64 p1, .int .i64 p2]).below hb1 (by simp)
  have hbb : Below w.heap.size w w1 := ((Below.refl _ _).alloc (Nat.le_refl _) _).trans (hb1.mono (by simp))
  have hz1 := hp1.lt
  clear hb1
  go_wp2_with fail
  refine (H2.out _).mono ?_; rintro e w2 ⟨rfl, hb2⟩
  have hp2 := (hp1.alloc _).below hb2 (by simp; omega)
  have hx2 := (Whole.new w1 48 #[.int .i64 x1, .int .i64 x2]).below hb2 (by simp)
  replace hbb := (hbb.alloc (by omega) (.cells #[.int .i64 x1, .int .i64 x2] 48)).trans (hb2.mono (by simp; omega))
  have hz2 := hx2.lt
  clear hb2 hp1
  have ca0 := (hp2.alloc (.cells #[.int .i64 x1, .int .i64 x2] 48)).c0
  have ca1 := (hp2.alloc (.cells #[.int .i64 x1, .int .i64 x2] 48)).c1
  go_wp2_with fail
  refine (H3.out _).mono ?_; rintro e w3 ⟨rfl, hb3⟩
  have hp3 := (hp2.alloc _).below hb3 (by simp; omega)
  have hx3 := (hx2.alloc _).below hb3 (by simp; omega)
  have hy3 := (Whole.new w2 48 #[.int .i64 x1, .int .i64 x2]).below hb3 (by simp)
  replace hbb := (hbb.alloc (by omega) (.cells #[.int .i64 x1, .int .i64 x2] 48)).trans (hb3.mono (by simp; omega))
  have hz3 := hy3.lt
  clear hb3 hp2 hx2 ca0 ca1
  have ca0 := hp3.c0
  have ca1 := hp3.c1
  go_wp2_with fail
  refine (H4.out _).mono ?_; rintro e w4 ⟨rfl, hb4⟩
  have hx4 := hx3.below hb4 (by omega)
  have hy4 := hy3.below hb4 (by omega)
  replace hbb := hbb.trans (hb4.mono (by omega))
  clear hb4 hp3 hx3 hy3 ca0 ca1
  have cx0 := hx4.c0
  have cx1 := hx4.c1
  have cy0 := hy4.c0
  have cy1 := hy4.c1
  go_wp2_with fail
  refine (utf_awake _).mono ?_; rintro e w5 ⟨rfl, hb5⟩
  go_wp2_with fail
  go_ret
  exact ⟨rfl, below_then hbb hb5⟩

set_option maxRecDepth 100000 in
set_option maxHeartbeats 4000000 in
theorem inverse_law (s : ByteArray) (a b p1 p2 x1 x2 e y1 y2 f n g : Int) (hs : s.size ≤ 4096)
    (h1 : ∀ w, Calls Try.prog 29 #[.string s, .int .i64 a] w fun r w' => r = .returned (.tuple #[.agg #[.int .i64 x1, .int .i64 x2], .int .i64 e]) ∧ Below w.heap.size w w')
    (h2 : ∀ w, Calls Try.prog 29 #[.string s, .int .i64 b] w fun r w' => r = .returned (.tuple #[.agg #[.int .i64 y1, .int .i64 y2], .int .i64 f]) ∧ Below w.heap.size w w')
    (h3 : e = 0 → ∀ w, Calls Try.prog 31 #[.string s, .agg #[.int .i64 x1, .int .i64 x2]] w fun r w' => r = .returned (.tuple #[.int .i64 a, .int .i64 0]) ∧ Below w.heap.size w w')
    (h4 : e = 0 → f = 0 → a < b → plt (x1, x2) (y1, y2))
    (h5 : ∀ w, Calls Try.prog 31 #[.string s, .agg #[.int .i64 p1, .int .i64 p2]] w fun r w' => r = .returned (.tuple #[.int .i64 n, .int .i64 g]) ∧ Below w.heap.size w w')
    (h6 : g = 0 → ∀ w, Calls Try.prog 29 #[.string s, .int .i64 n] w fun r w' => r = .returned (.tuple #[.agg #[.int .i64 p1, .int .i64 p2], .int .i64 0]) ∧ Below w.heap.size w w') (w : World) :
    Calls Try.prog 11 #[.string s, .int .i64 a, .int .i64 b, .agg #[.int .i64 p1, .int .i64 p2]] w fun r w' => r = .returned (.bool true) ∧ Below w.heap.size w w' := by
  have H1 := Lib.hid h1; clear h1
  have H2 := Lib.hid h2; clear h2
  have H5 := Lib.hid h5; clear h5
  have H6 := Lib.hid h6; clear h6
  have d1 : decide (4096 < (s.size : Int)) = false := decide_eq_false (by omega)
  have hqp : ∀ W, (binOp .neq 48 (.agg #[.int .i64 p1, .int .i64 p2]) (.agg #[.int .i64 p1, .int .i64 p2])).run Try.prog W = .ok (.bool false) W := fun W => by simp [go_sem]
  by_cases he : e = 0
  · subst he
    have H3 := Lib.hid (h3 rfl); clear h3
    rcases Decidable.em (f = 0) with hf | hf
    · subst hf
      by_cases hab : a < b
      · have hlt := h4 rfl rfl hab
        clear h4
        have dab : decide (a < b) = true := decide_eq_true hab
        clear hab
        rcases hlt with hlt | ⟨hlt, hlt2⟩
        · dsimp only at hlt
          have e1 : decide (y1 < x1) = false := decide_eq_false (by omega)
          have e2 : (y1 == x1) = false := beq_eq_false_iff_ne.2 (by omega)
          clear hlt
          rcases Decidable.em (g = 0) with hg | hg
          · subst hg
            replace H6 := Lib.hid (H6.out rfl)
            go_enter Try.func11, Try.ntmps11
            go_wp2_with fail
            refine (H1.out _).mono ?_; rintro r w1 ⟨rfl, hb1⟩
            have hp1 := (Whole.new w 48 #[.int .i64 p1, .int .i64 p2]).below hb1 (by simp)
            have hbb : Below w.heap.size w w1 := ((Below.refl _ _).alloc (Nat.le_refl _) _).trans (hb1.mono (by simp))
            have hz1 := hp1.lt
            clear hb1
            go_wp2_with fail
            refine (H2.out _).mono ?_; rintro r w2 ⟨rfl, hb2⟩
            have hp2 := (hp1.alloc (.cells #[.int .i64 x1, .int .i64 x2] 48)).below hb2 (by simp; omega)
            have hx2 := (Whole.new w1 48 #[.int .i64 x1, .int .i64 x2]).below hb2 (by simp)
            replace hbb := (hbb.alloc (by omega) (.cells #[.int .i64 x1, .int .i64 x2] 48)).trans (hb2.mono (by simp; omega))
            have hz2 := hx2.lt
            clear hb2 hp1
            have hp3 := hp2.alloc (.cells #[.int .i64 y1, .int .i64 y2] 48)
            have hx3 := hx2.alloc (.cells #[.int .i64 y1, .int .i64 y2] 48)
            have hy3 := Whole.new w2 48 #[.int .i64 y1, .int .i64 y2]
            have hb3 := hbb.alloc (by omega) (.cells #[.int .i64 y1, .int .i64 y2] 48)
            have hz3 : w2.heap.size < (w2.alloc (.cells #[.int .i64 y1, .int .i64 y2] 48)).heap.size := by simp
            clear hp2 hx2 hbb
            have ca0 := hp3.c0
            have ca1 := hp3.c1
            have cb0 := hx3.c0
            have cb1 := hx3.c1
            have cc0 := hy3.c0
            have cc1 := hy3.c1
            go_wp2_with fail
            refine (H3.out _).mono ?_; rintro r w4 ⟨rfl, hb4⟩
            replace hp3 := hp3.below hb4 (by omega)
            replace hx3 := hx3.below hb4 (by omega)
            replace hy3 := hy3.below hb4 (by omega)
            replace hb3 := hb3.trans (hb4.mono (by omega))
            replace hz3 := Nat.lt_of_lt_of_le hz3 hb4.size
            clear hb4 ca0 ca1 cb0 cb1 cc0 cc1
            have ca0 := hp3.c0
            have ca1 := hp3.c1
            have cb0 := hx3.c0
            have cb1 := hx3.c1
            have cc0 := hy3.c0
            have cc1 := hy3.c1
            go_wp2_with fail
            refine (H5.out _).mono ?_; rintro r w5 ⟨rfl, hb5⟩
            replace hp3 := hp3.below hb5 (by omega)
            replace hb3 := hb3.trans (hb5.mono (by omega))
            replace hz3 := Nat.lt_of_lt_of_le hz3 hb5.size
            clear hb5 hx3 hy3 ca0 ca1 cb0 cb1 cc0 cc1
            go_wp2_with fail
            refine (H6.out _).mono ?_; rintro r w6 ⟨rfl, hb6⟩
            replace hp3 := (hp3.below hb6 (by omega)).alloc (.cells #[.int .i64 p1, .int .i64 p2] 48)
            replace hb3 := (hb3.trans (hb6.mono (by omega))).alloc (by have := hb6.size; omega) (.cells #[.int .i64 p1, .int .i64 p2] 48)
            clear hb6
            have ca0 := hp3.c0
            have ca1 := hp3.c1
            go_wp2_with fail
            refine (utf_awake _).mono ?_; rintro r w7 ⟨rfl, hb7⟩
            go_wp2_with fail
            go_ret
            exact ⟨rfl, below_then hb3 hb7⟩
          · have dg : (g == 0) = false := beq_eq_false_iff_ne.2 hg
            clear hg H6
            go_enter Try.func11, Try.ntmps11
            go_wp2_with fail
            refine (H1.out _).mono ?_; rintro r w1 ⟨rfl, hb1⟩
            have hp1 := (Whole.new w 48 #[.int .i64 p1, .int .i64 p2]).below hb1 (by simp)
            have hbb : Below w.heap.size w w1 := ((Below.refl _ _).alloc (Nat.le_refl _) _).trans (hb1.mono (by simp))
            have hz1 := hp1.lt
            clear hb1
            go_wp2_with fail
            refine (H2.out _).mono ?_; rintro r w2 ⟨rfl, hb2⟩
            have hp2 := (hp1.alloc (.cells #[.int .i64 x1, .int .i64 x2] 48)).below hb2 (by simp; omega)
            have hx2 := (Whole.new w1 48 #[.int .i64 x1, .int .i64 x2]).below hb2 (by simp)
            replace hbb := (hbb.alloc (by omega) (.cells #[.int .i64 x1, .int .i64 x2] 48)).trans (hb2.mono (by simp; omega))
            have hz2 := hx2.lt
            clear hb2 hp1
            have hp3 := hp2.alloc (.cells #[.int .i64 y1, .int .i64 y2] 48)
            have hx3 := hx2.alloc (.cells #[.int .i64 y1, .int .i64 y2] 48)
            have hy3 := Whole.new w2 48 #[.int .i64 y1, .int .i64 y2]
            have hb3 := hbb.alloc (by omega) (.cells #[.int .i64 y1, .int .i64 y2] 48)
            have hz3 : w2.heap.size < (w2.alloc (.cells #[.int .i64 y1, .int .i64 y2] 48)).heap.size := by simp
            clear hp2 hx2 hbb
            have ca0 := hp3.c0
            have ca1 := hp3.c1
            have cb0 := hx3.c0
            have cb1 := hx3.c1
            have cc0 := hy3.c0
            have cc1 := hy3.c1
            go_wp2_with fail
            refine (H3.out _).mono ?_; rintro r w4 ⟨rfl, hb4⟩
            replace hp3 := hp3.below hb4 (by omega)
            replace hx3 := hx3.below hb4 (by omega)
            replace hy3 := hy3.below hb4 (by omega)
            replace hb3 := hb3.trans (hb4.mono (by omega))
            replace hz3 := Nat.lt_of_lt_of_le hz3 hb4.size
            clear hb4 ca0 ca1 cb0 cb1 cc0 cc1
            have ca0 := hp3.c0
            have ca1 := hp3.c1
            have cb0 := hx3.c0
            have cb1 := hx3.c1
            have cc0 := hy3.c0
            have cc1 := hy3.c1
            go_wp2_with fail
            refine (H5.out _).mono ?_; rintro r w5 ⟨rfl, hb5⟩
            replace hp3 := hp3.below hb5 (by omega)
            replace hb3 := hb3.trans (hb5.mono (by omega))
            replace hz3 := Nat.lt_of_lt_of_le hz3 hb5.size
            clear hb5 hx3 hy3 ca0 ca1 cb0 cb1 cc0 cc1
            go_wp2_with fail
            refine (utf_awake _).mono ?_; rintro r w7 ⟨rfl, hb7⟩
            go_wp2_with fail
            go_ret
            exact ⟨rfl, below_then hb3 hb7⟩
        · dsimp only at hlt hlt2
          have e1 : decide (y1 < x1) = false := decide_eq_false (by omega)
          have e2 : (y1 == x1) = true := beq_iff_eq.2 hlt.symm
          have e3 : decide (y2 ≤ x2) = false := decide_eq_false (by omega)
          clear hlt hlt2
          rcases Decidable.em (g = 0) with hg | hg
          · subst hg
            replace H6 := Lib.hid (H6.out rfl)
            go_enter Try.func11, Try.ntmps11
            go_wp2_with fail
            refine (H1.out _).mono ?_; rintro r w1 ⟨rfl, hb1⟩
            have hp1 := (Whole.new w 48 #[.int .i64 p1, .int .i64 p2]).below hb1 (by simp)
            have hbb : Below w.heap.size w w1 := ((Below.refl _ _).alloc (Nat.le_refl _) _).trans (hb1.mono (by simp))
            have hz1 := hp1.lt
            clear hb1
            go_wp2_with fail
            refine (H2.out _).mono ?_; rintro r w2 ⟨rfl, hb2⟩
            have hp2 := (hp1.alloc (.cells #[.int .i64 x1, .int .i64 x2] 48)).below hb2 (by simp; omega)
            have hx2 := (Whole.new w1 48 #[.int .i64 x1, .int .i64 x2]).below hb2 (by simp)
            replace hbb := (hbb.alloc (by omega) (.cells #[.int .i64 x1, .int .i64 x2] 48)).trans (hb2.mono (by simp; omega))
            have hz2 := hx2.lt
            clear hb2 hp1
            have hp3 := hp2.alloc (.cells #[.int .i64 y1, .int .i64 y2] 48)
            have hx3 := hx2.alloc (.cells #[.int .i64 y1, .int .i64 y2] 48)
            have hy3 := Whole.new w2 48 #[.int .i64 y1, .int .i64 y2]
            have hb3 := hbb.alloc (by omega) (.cells #[.int .i64 y1, .int .i64 y2] 48)
            have hz3 : w2.heap.size < (w2.alloc (.cells #[.int .i64 y1, .int .i64 y2] 48)).heap.size := by simp
            clear hp2 hx2 hbb
            have ca0 := hp3.c0
            have ca1 := hp3.c1
            have cb0 := hx3.c0
            have cb1 := hx3.c1
            have cc0 := hy3.c0
            have cc1 := hy3.c1
            go_wp2_with fail
            refine (H3.out _).mono ?_; rintro r w4 ⟨rfl, hb4⟩
            replace hp3 := hp3.below hb4 (by omega)
            replace hx3 := hx3.below hb4 (by omega)
            replace hy3 := hy3.below hb4 (by omega)
            replace hb3 := hb3.trans (hb4.mono (by omega))
            replace hz3 := Nat.lt_of_lt_of_le hz3 hb4.size
            clear hb4 ca0 ca1 cb0 cb1 cc0 cc1
            have ca0 := hp3.c0
            have ca1 := hp3.c1
            have cb0 := hx3.c0
            have cb1 := hx3.c1
            have cc0 := hy3.c0
            have cc1 := hy3.c1
            go_wp2_with fail
            refine (H5.out _).mono ?_; rintro r w5 ⟨rfl, hb5⟩
            replace hp3 := hp3.below hb5 (by omega)
            replace hb3 := hb3.trans (hb5.mono (by omega))
            replace hz3 := Nat.lt_of_lt_of_le hz3 hb5.size
            clear hb5 hx3 hy3 ca0 ca1 cb0 cb1 cc0 cc1
            go_wp2_with fail
            refine (H6.out _).mono ?_; rintro r w6 ⟨rfl, hb6⟩
            replace hp3 := (hp3.below hb6 (by omega)).alloc (.cells #[.int .i64 p1, .int .i64 p2] 48)
            replace hb3 := (hb3.trans (hb6.mono (by omega))).alloc (by have := hb6.size; omega) (.cells #[.int .i64 p1, .int .i64 p2] 48)
            clear hb6
            have ca0 := hp3.c0
            have ca1 := hp3.c1
            go_wp2_with fail
            refine (utf_awake _).mono ?_; rintro r w7 ⟨rfl, hb7⟩
            go_wp2_with fail
            go_ret
            exact ⟨rfl, below_then hb3 hb7⟩
          · have dg : (g == 0) = false := beq_eq_false_iff_ne.2 hg
            clear hg H6
            go_enter Try.func11, Try.ntmps11
            go_wp2_with fail
            refine (H1.out _).mono ?_; rintro r w1 ⟨rfl, hb1⟩
            have hp1 := (Whole.new w 48 #[.int .i64 p1, .int .i64 p2]).below hb1 (by simp)
            have hbb : Below w.heap.size w w1 := ((Below.refl _ _).alloc (Nat.le_refl _) _).trans (hb1.mono (by simp))
            have hz1 := hp1.lt
            clear hb1
            go_wp2_with fail
            refine (H2.out _).mono ?_; rintro r w2 ⟨rfl, hb2⟩
            have hp2 := (hp1.alloc (.cells #[.int .i64 x1, .int .i64 x2] 48)).below hb2 (by simp; omega)
            have hx2 := (Whole.new w1 48 #[.int .i64 x1, .int .i64 x2]).below hb2 (by simp)
            replace hbb := (hbb.alloc (by omega) (.cells #[.int .i64 x1, .int .i64 x2] 48)).trans (hb2.mono (by simp; omega))
            have hz2 := hx2.lt
            clear hb2 hp1
            have hp3 := hp2.alloc (.cells #[.int .i64 y1, .int .i64 y2] 48)
            have hx3 := hx2.alloc (.cells #[.int .i64 y1, .int .i64 y2] 48)
            have hy3 := Whole.new w2 48 #[.int .i64 y1, .int .i64 y2]
            have hb3 := hbb.alloc (by omega) (.cells #[.int .i64 y1, .int .i64 y2] 48)
            have hz3 : w2.heap.size < (w2.alloc (.cells #[.int .i64 y1, .int .i64 y2] 48)).heap.size := by simp
            clear hp2 hx2 hbb
            have ca0 := hp3.c0
            have ca1 := hp3.c1
            have cb0 := hx3.c0
            have cb1 := hx3.c1
            have cc0 := hy3.c0
            have cc1 := hy3.c1
            go_wp2_with fail
            refine (H3.out _).mono ?_; rintro r w4 ⟨rfl, hb4⟩
            replace hp3 := hp3.below hb4 (by omega)
            replace hx3 := hx3.below hb4 (by omega)
            replace hy3 := hy3.below hb4 (by omega)
            replace hb3 := hb3.trans (hb4.mono (by omega))
            replace hz3 := Nat.lt_of_lt_of_le hz3 hb4.size
            clear hb4 ca0 ca1 cb0 cb1 cc0 cc1
            have ca0 := hp3.c0
            have ca1 := hp3.c1
            have cb0 := hx3.c0
            have cb1 := hx3.c1
            have cc0 := hy3.c0
            have cc1 := hy3.c1
            go_wp2_with fail
            refine (H5.out _).mono ?_; rintro r w5 ⟨rfl, hb5⟩
            replace hp3 := hp3.below hb5 (by omega)
            replace hb3 := hb3.trans (hb5.mono (by omega))
            replace hz3 := Nat.lt_of_lt_of_le hz3 hb5.size
            clear hb5 hx3 hy3 ca0 ca1 cb0 cb1 cc0 cc1
            go_wp2_with fail
            refine (utf_awake _).mono ?_; rintro r w7 ⟨rfl, hb7⟩
            go_wp2_with fail
            go_ret
            exact ⟨rfl, below_then hb3 hb7⟩
      · have dab : decide (a < b) = false := decide_eq_false hab
        clear hab h4
        rcases Decidable.em (g = 0) with hg | hg
        · subst hg
          replace H6 := Lib.hid (H6.out rfl)
          go_enter Try.func11, Try.ntmps11
          go_wp2_with fail
          refine (H1.out _).mono ?_; rintro r w1 ⟨rfl, hb1⟩
          have hp1 := (Whole.new w 48 #[.int .i64 p1, .int .i64 p2]).below hb1 (by simp)
          have hbb : Below w.heap.size w w1 := ((Below.refl _ _).alloc (Nat.le_refl _) _).trans (hb1.mono (by simp))
          have hz1 := hp1.lt
          clear hb1
          go_wp2_with fail
          refine (H2.out _).mono ?_; rintro r w2 ⟨rfl, hb2⟩
          have hp2 := (hp1.alloc (.cells #[.int .i64 x1, .int .i64 x2] 48)).below hb2 (by simp; omega)
          have hx2 := (Whole.new w1 48 #[.int .i64 x1, .int .i64 x2]).below hb2 (by simp)
          replace hbb := (hbb.alloc (by omega) (.cells #[.int .i64 x1, .int .i64 x2] 48)).trans (hb2.mono (by simp; omega))
          have hz2 := hx2.lt
          clear hb2 hp1
          have hp3 := hp2.alloc (.cells #[.int .i64 y1, .int .i64 y2] 48)
          have hx3 := hx2.alloc (.cells #[.int .i64 y1, .int .i64 y2] 48)
          have hy3 := Whole.new w2 48 #[.int .i64 y1, .int .i64 y2]
          have hb3 := hbb.alloc (by omega) (.cells #[.int .i64 y1, .int .i64 y2] 48)
          have hz3 : w2.heap.size < (w2.alloc (.cells #[.int .i64 y1, .int .i64 y2] 48)).heap.size := by simp
          clear hp2 hx2 hbb
          have ca0 := hp3.c0
          have ca1 := hp3.c1
          have cb0 := hx3.c0
          have cb1 := hx3.c1
          have cc0 := hy3.c0
          have cc1 := hy3.c1
          go_wp2_with fail
          refine (H3.out _).mono ?_; rintro r w4 ⟨rfl, hb4⟩
          replace hp3 := hp3.below hb4 (by omega)
          replace hx3 := hx3.below hb4 (by omega)
          replace hy3 := hy3.below hb4 (by omega)
          replace hb3 := hb3.trans (hb4.mono (by omega))
          replace hz3 := Nat.lt_of_lt_of_le hz3 hb4.size
          clear hb4 ca0 ca1 cb0 cb1 cc0 cc1
          have ca0 := hp3.c0
          have ca1 := hp3.c1
          have cb0 := hx3.c0
          have cb1 := hx3.c1
          have cc0 := hy3.c0
          have cc1 := hy3.c1
          go_wp2_with fail
          refine (H5.out _).mono ?_; rintro r w5 ⟨rfl, hb5⟩
          replace hp3 := hp3.below hb5 (by omega)
          replace hb3 := hb3.trans (hb5.mono (by omega))
          replace hz3 := Nat.lt_of_lt_of_le hz3 hb5.size
          clear hb5 hx3 hy3 ca0 ca1 cb0 cb1 cc0 cc1
          go_wp2_with fail
          refine (H6.out _).mono ?_; rintro r w6 ⟨rfl, hb6⟩
          replace hp3 := (hp3.below hb6 (by omega)).alloc (.cells #[.int .i64 p1, .int .i64 p2] 48)
          replace hb3 := (hb3.trans (hb6.mono (by omega))).alloc (by have := hb6.size; omega) (.cells #[.int .i64 p1, .int .i64 p2] 48)
          clear hb6
          have ca0 := hp3.c0
          have ca1 := hp3.c1
          go_wp2_with fail
          refine (utf_awake _).mono ?_; rintro r w7 ⟨rfl, hb7⟩
          go_wp2_with fail
          go_ret
          exact ⟨rfl, below_then hb3 hb7⟩
        · have dg : (g == 0) = false := beq_eq_false_iff_ne.2 hg
          clear hg H6
          go_enter Try.func11, Try.ntmps11
          go_wp2_with fail
          refine (H1.out _).mono ?_; rintro r w1 ⟨rfl, hb1⟩
          have hp1 := (Whole.new w 48 #[.int .i64 p1, .int .i64 p2]).below hb1 (by simp)
          have hbb : Below w.heap.size w w1 := ((Below.refl _ _).alloc (Nat.le_refl _) _).trans (hb1.mono (by simp))
          have hz1 := hp1.lt
          clear hb1
          go_wp2_with fail
          refine (H2.out _).mono ?_; rintro r w2 ⟨rfl, hb2⟩
          have hp2 := (hp1.alloc (.cells #[.int .i64 x1, .int .i64 x2] 48)).below hb2 (by simp; omega)
          have hx2 := (Whole.new w1 48 #[.int .i64 x1, .int .i64 x2]).below hb2 (by simp)
          replace hbb := (hbb.alloc (by omega) (.cells #[.int .i64 x1, .int .i64 x2] 48)).trans (hb2.mono (by simp; omega))
          have hz2 := hx2.lt
          clear hb2 hp1
          have hp3 := hp2.alloc (.cells #[.int .i64 y1, .int .i64 y2] 48)
          have hx3 := hx2.alloc (.cells #[.int .i64 y1, .int .i64 y2] 48)
          have hy3 := Whole.new w2 48 #[.int .i64 y1, .int .i64 y2]
          have hb3 := hbb.alloc (by omega) (.cells #[.int .i64 y1, .int .i64 y2] 48)
          have hz3 : w2.heap.size < (w2.alloc (.cells #[.int .i64 y1, .int .i64 y2] 48)).heap.size := by simp
          clear hp2 hx2 hbb
          have ca0 := hp3.c0
          have ca1 := hp3.c1
          have cb0 := hx3.c0
          have cb1 := hx3.c1
          have cc0 := hy3.c0
          have cc1 := hy3.c1
          go_wp2_with fail
          refine (H3.out _).mono ?_; rintro r w4 ⟨rfl, hb4⟩
          replace hp3 := hp3.below hb4 (by omega)
          replace hx3 := hx3.below hb4 (by omega)
          replace hy3 := hy3.below hb4 (by omega)
          replace hb3 := hb3.trans (hb4.mono (by omega))
          replace hz3 := Nat.lt_of_lt_of_le hz3 hb4.size
          clear hb4 ca0 ca1 cb0 cb1 cc0 cc1
          have ca0 := hp3.c0
          have ca1 := hp3.c1
          have cb0 := hx3.c0
          have cb1 := hx3.c1
          have cc0 := hy3.c0
          have cc1 := hy3.c1
          go_wp2_with fail
          refine (H5.out _).mono ?_; rintro r w5 ⟨rfl, hb5⟩
          replace hp3 := hp3.below hb5 (by omega)
          replace hb3 := hb3.trans (hb5.mono (by omega))
          replace hz3 := Nat.lt_of_lt_of_le hz3 hb5.size
          clear hb5 hx3 hy3 ca0 ca1 cb0 cb1 cc0 cc1
          go_wp2_with fail
          refine (utf_awake _).mono ?_; rintro r w7 ⟨rfl, hb7⟩
          go_wp2_with fail
          go_ret
          exact ⟨rfl, below_then hb3 hb7⟩
    · have df : (f == 0) = false := beq_eq_false_iff_ne.2 hf
      clear hf h4
      rcases Decidable.em (g = 0) with hg | hg
      · subst hg
        replace H6 := Lib.hid (H6.out rfl)
        go_enter Try.func11, Try.ntmps11
        go_wp2_with fail
        refine (H1.out _).mono ?_; rintro r w1 ⟨rfl, hb1⟩
        have hp1 := (Whole.new w 48 #[.int .i64 p1, .int .i64 p2]).below hb1 (by simp)
        have hbb : Below w.heap.size w w1 := ((Below.refl _ _).alloc (Nat.le_refl _) _).trans (hb1.mono (by simp))
        have hz1 := hp1.lt
        clear hb1
        go_wp2_with fail
        refine (H2.out _).mono ?_; rintro r w2 ⟨rfl, hb2⟩
        have hp2 := (hp1.alloc (.cells #[.int .i64 x1, .int .i64 x2] 48)).below hb2 (by simp; omega)
        have hx2 := (Whole.new w1 48 #[.int .i64 x1, .int .i64 x2]).below hb2 (by simp)
        replace hbb := (hbb.alloc (by omega) (.cells #[.int .i64 x1, .int .i64 x2] 48)).trans (hb2.mono (by simp; omega))
        have hz2 := hx2.lt
        clear hb2 hp1
        have hp3 := hp2.alloc (.cells #[.int .i64 y1, .int .i64 y2] 48)
        have hx3 := hx2.alloc (.cells #[.int .i64 y1, .int .i64 y2] 48)
        have hy3 := Whole.new w2 48 #[.int .i64 y1, .int .i64 y2]
        have hb3 := hbb.alloc (by omega) (.cells #[.int .i64 y1, .int .i64 y2] 48)
        have hz3 : w2.heap.size < (w2.alloc (.cells #[.int .i64 y1, .int .i64 y2] 48)).heap.size := by simp
        clear hp2 hx2 hbb
        have ca0 := hp3.c0
        have ca1 := hp3.c1
        have cb0 := hx3.c0
        have cb1 := hx3.c1
        have cc0 := hy3.c0
        have cc1 := hy3.c1
        go_wp2_with fail
        refine (H3.out _).mono ?_; rintro r w4 ⟨rfl, hb4⟩
        replace hp3 := hp3.below hb4 (by omega)
        replace hx3 := hx3.below hb4 (by omega)
        replace hy3 := hy3.below hb4 (by omega)
        replace hb3 := hb3.trans (hb4.mono (by omega))
        replace hz3 := Nat.lt_of_lt_of_le hz3 hb4.size
        clear hb4 ca0 ca1 cb0 cb1 cc0 cc1
        have ca0 := hp3.c0
        have ca1 := hp3.c1
        have cb0 := hx3.c0
        have cb1 := hx3.c1
        have cc0 := hy3.c0
        have cc1 := hy3.c1
        go_wp2_with fail
        refine (H5.out _).mono ?_; rintro r w5 ⟨rfl, hb5⟩
        replace hp3 := hp3.below hb5 (by omega)
        replace hb3 := hb3.trans (hb5.mono (by omega))
        replace hz3 := Nat.lt_of_lt_of_le hz3 hb5.size
        clear hb5 hx3 hy3 ca0 ca1 cb0 cb1 cc0 cc1
        go_wp2_with fail
        refine (H6.out _).mono ?_; rintro r w6 ⟨rfl, hb6⟩
        replace hp3 := (hp3.below hb6 (by omega)).alloc (.cells #[.int .i64 p1, .int .i64 p2] 48)
        replace hb3 := (hb3.trans (hb6.mono (by omega))).alloc (by have := hb6.size; omega) (.cells #[.int .i64 p1, .int .i64 p2] 48)
        clear hb6
        have ca0 := hp3.c0
        have ca1 := hp3.c1
        go_wp2_with fail
        refine (utf_awake _).mono ?_; rintro r w7 ⟨rfl, hb7⟩
        go_wp2_with fail
        go_ret
        exact ⟨rfl, below_then hb3 hb7⟩
      · have dg : (g == 0) = false := beq_eq_false_iff_ne.2 hg
        clear hg H6
        go_enter Try.func11, Try.ntmps11
        go_wp2_with fail
        refine (H1.out _).mono ?_; rintro r w1 ⟨rfl, hb1⟩
        have hp1 := (Whole.new w 48 #[.int .i64 p1, .int .i64 p2]).below hb1 (by simp)
        have hbb : Below w.heap.size w w1 := ((Below.refl _ _).alloc (Nat.le_refl _) _).trans (hb1.mono (by simp))
        have hz1 := hp1.lt
        clear hb1
        go_wp2_with fail
        refine (H2.out _).mono ?_; rintro r w2 ⟨rfl, hb2⟩
        have hp2 := (hp1.alloc (.cells #[.int .i64 x1, .int .i64 x2] 48)).below hb2 (by simp; omega)
        have hx2 := (Whole.new w1 48 #[.int .i64 x1, .int .i64 x2]).below hb2 (by simp)
        replace hbb := (hbb.alloc (by omega) (.cells #[.int .i64 x1, .int .i64 x2] 48)).trans (hb2.mono (by simp; omega))
        have hz2 := hx2.lt
        clear hb2 hp1
        have hp3 := hp2.alloc (.cells #[.int .i64 y1, .int .i64 y2] 48)
        have hx3 := hx2.alloc (.cells #[.int .i64 y1, .int .i64 y2] 48)
        have hy3 := Whole.new w2 48 #[.int .i64 y1, .int .i64 y2]
        have hb3 := hbb.alloc (by omega) (.cells #[.int .i64 y1, .int .i64 y2] 48)
        have hz3 : w2.heap.size < (w2.alloc (.cells #[.int .i64 y1, .int .i64 y2] 48)).heap.size := by simp
        clear hp2 hx2 hbb
        have ca0 := hp3.c0
        have ca1 := hp3.c1
        have cb0 := hx3.c0
        have cb1 := hx3.c1
        have cc0 := hy3.c0
        have cc1 := hy3.c1
        go_wp2_with fail
        refine (H3.out _).mono ?_; rintro r w4 ⟨rfl, hb4⟩
        replace hp3 := hp3.below hb4 (by omega)
        replace hx3 := hx3.below hb4 (by omega)
        replace hy3 := hy3.below hb4 (by omega)
        replace hb3 := hb3.trans (hb4.mono (by omega))
        replace hz3 := Nat.lt_of_lt_of_le hz3 hb4.size
        clear hb4 ca0 ca1 cb0 cb1 cc0 cc1
        have ca0 := hp3.c0
        have ca1 := hp3.c1
        have cb0 := hx3.c0
        have cb1 := hx3.c1
        have cc0 := hy3.c0
        have cc1 := hy3.c1
        go_wp2_with fail
        refine (H5.out _).mono ?_; rintro r w5 ⟨rfl, hb5⟩
        replace hp3 := hp3.below hb5 (by omega)
        replace hb3 := hb3.trans (hb5.mono (by omega))
        replace hz3 := Nat.lt_of_lt_of_le hz3 hb5.size
        clear hb5 hx3 hy3 ca0 ca1 cb0 cb1 cc0 cc1
        go_wp2_with fail
        refine (utf_awake _).mono ?_; rintro r w7 ⟨rfl, hb7⟩
        go_wp2_with fail
        go_ret
        exact ⟨rfl, below_then hb3 hb7⟩
  · have de : (e == 0) = false := beq_eq_false_iff_ne.2 he
    clear he h3 h4
    rcases Decidable.em (g = 0) with hg | hg
    · subst hg
      replace H6 := Lib.hid (H6.out rfl)
      go_enter Try.func11, Try.ntmps11
      go_wp2_with fail
      refine (H1.out _).mono ?_; rintro r w1 ⟨rfl, hb1⟩
      have hp1 := (Whole.new w 48 #[.int .i64 p1, .int .i64 p2]).below hb1 (by simp)
      have hbb : Below w.heap.size w w1 := ((Below.refl _ _).alloc (Nat.le_refl _) _).trans (hb1.mono (by simp))
      have hz1 := hp1.lt
      clear hb1
      go_wp2_with fail
      refine (H2.out _).mono ?_; rintro r w2 ⟨rfl, hb2⟩
      have hp2 := (hp1.alloc (.cells #[.int .i64 x1, .int .i64 x2] 48)).below hb2 (by simp; omega)
      have hx2 := (Whole.new w1 48 #[.int .i64 x1, .int .i64 x2]).below hb2 (by simp)
      replace hbb := (hbb.alloc (by omega) (.cells #[.int .i64 x1, .int .i64 x2] 48)).trans (hb2.mono (by simp; omega))
      have hz2 := hx2.lt
      clear hb2 hp1
      have hp3 := hp2.alloc (.cells #[.int .i64 y1, .int .i64 y2] 48)
      have hx3 := hx2.alloc (.cells #[.int .i64 y1, .int .i64 y2] 48)
      have hy3 := Whole.new w2 48 #[.int .i64 y1, .int .i64 y2]
      have hb3 := hbb.alloc (by omega) (.cells #[.int .i64 y1, .int .i64 y2] 48)
      have hz3 : w2.heap.size < (w2.alloc (.cells #[.int .i64 y1, .int .i64 y2] 48)).heap.size := by simp
      clear hp2 hx2 hbb
      have ca0 := hp3.c0
      have ca1 := hp3.c1
      have cb0 := hx3.c0
      have cb1 := hx3.c1
      have cc0 := hy3.c0
      have cc1 := hy3.c1
      go_wp2_with fail
      refine (H5.out _).mono ?_; rintro r w5 ⟨rfl, hb5⟩
      replace hp3 := hp3.below hb5 (by omega)
      replace hb3 := hb3.trans (hb5.mono (by omega))
      replace hz3 := Nat.lt_of_lt_of_le hz3 hb5.size
      clear hb5 hx3 hy3 ca0 ca1 cb0 cb1 cc0 cc1
      go_wp2_with fail
      refine (H6.out _).mono ?_; rintro r w6 ⟨rfl, hb6⟩
      replace hp3 := (hp3.below hb6 (by omega)).alloc (.cells #[.int .i64 p1, .int .i64 p2] 48)
      replace hb3 := (hb3.trans (hb6.mono (by omega))).alloc (by have := hb6.size; omega) (.cells #[.int .i64 p1, .int .i64 p2] 48)
      clear hb6
      have ca0 := hp3.c0
      have ca1 := hp3.c1
      go_wp2_with fail
      refine (utf_awake _).mono ?_; rintro r w7 ⟨rfl, hb7⟩
      go_wp2_with fail
      go_ret
      exact ⟨rfl, below_then hb3 hb7⟩
    · have dg : (g == 0) = false := beq_eq_false_iff_ne.2 hg
      clear hg H6
      go_enter Try.func11, Try.ntmps11
      go_wp2_with fail
      refine (H1.out _).mono ?_; rintro r w1 ⟨rfl, hb1⟩
      have hp1 := (Whole.new w 48 #[.int .i64 p1, .int .i64 p2]).below hb1 (by simp)
      have hbb : Below w.heap.size w w1 := ((Below.refl _ _).alloc (Nat.le_refl _) _).trans (hb1.mono (by simp))
      have hz1 := hp1.lt
      clear hb1
      go_wp2_with fail
      refine (H2.out _).mono ?_; rintro r w2 ⟨rfl, hb2⟩
      have hp2 := (hp1.alloc (.cells #[.int .i64 x1, .int .i64 x2] 48)).below hb2 (by simp; omega)
      have hx2 := (Whole.new w1 48 #[.int .i64 x1, .int .i64 x2]).below hb2 (by simp)
      replace hbb := (hbb.alloc (by omega) (.cells #[.int .i64 x1, .int .i64 x2] 48)).trans (hb2.mono (by simp; omega))
      have hz2 := hx2.lt
      clear hb2 hp1
      have hp3 := hp2.alloc (.cells #[.int .i64 y1, .int .i64 y2] 48)
      have hx3 := hx2.alloc (.cells #[.int .i64 y1, .int .i64 y2] 48)
      have hy3 := Whole.new w2 48 #[.int .i64 y1, .int .i64 y2]
      have hb3 := hbb.alloc (by omega) (.cells #[.int .i64 y1, .int .i64 y2] 48)
      have hz3 : w2.heap.size < (w2.alloc (.cells #[.int .i64 y1, .int .i64 y2] 48)).heap.size := by simp
      clear hp2 hx2 hbb
      have ca0 := hp3.c0
      have ca1 := hp3.c1
      have cb0 := hx3.c0
      have cb1 := hx3.c1
      have cc0 := hy3.c0
      have cc1 := hy3.c1
      go_wp2_with fail
      refine (H5.out _).mono ?_; rintro r w5 ⟨rfl, hb5⟩
      replace hp3 := hp3.below hb5 (by omega)
      replace hb3 := hb3.trans (hb5.mono (by omega))
      replace hz3 := Nat.lt_of_lt_of_le hz3 hb5.size
      clear hb5 hx3 hy3 ca0 ca1 cb0 cb1 cc0 cc1
      go_wp2_with fail
      refine (utf_awake _).mono ?_; rintro r w7 ⟨rfl, hb7⟩
      go_wp2_with fail
      go_ret
      exact ⟨rfl, below_then hb3 hb7⟩

theorem walk_UtfPositions (s : ByteArray) (a : Int) (p1 p2 : Int) (hs : s.size ≤ maxLen) (_ : (Lit.int .i64 a).wf = true) (_ : (Lit.int .i64 p1).wf = true) (_ : (Lit.int .i64 p2).wf = true) (w : World) :
    Calls Try.prog 10 #[.string s, .int .i64 a, .agg #[.int .i64 p1, .int .i64 p2]] w fun e w' => e = .returned (.bool true) ∧ Below w.heap.size w w' := by
  by_cases h1 : 4096 < s.size
  · unfold maxLen at hs
    have d1 : decide (4096 < (s.size : Int)) = true := decide_eq_true (by omega)
    go_enter Try.func10, Try.ntmps10
    go_wp2_with fail
    refine (utf_awake _).mono ?_; rintro e w5 ⟨rfl, hb5⟩
    go_wp2_with fail
    go_ret
    exact ⟨rfl, ((Below.refl _ _).alloc (Nat.le_refl _) _).trans (hb5.mono (by simp))⟩
  · obtain ⟨rs, rest, h⟩ := Utf.split_ex s.data.toList
    obtain ⟨x1, x2, r, hp⟩ := posIs_ex rs rest a
    obtain ⟨n, g, ho⟩ := offIs_ex rs rest p1 p2
    have hl : s.size ≤ 4096 := by omega
    exact positions_law s a p1 p2 x1 x2 r n g hl (position_is h hl hp) (rposition_is h hl hp) (offset_is h hl ho) (roffset_is h hl ho) w
theorem walk_UtfInverse (s : ByteArray) (a b : Int) (p1 p2 : Int) (hs : s.size ≤ maxLen) (_ : (Lit.int .i64 a).wf = true) (_ : (Lit.int .i64 b).wf = true) (_ : (Lit.int .i64 p1).wf = true) (_ : (Lit.int .i64 p2).wf = true) (w : World) :
    Calls Try.prog 11 #[.string s, .int .i64 a, .int .i64 b, .agg #[.int .i64 p1, .int .i64 p2]] w fun e w' => e = .returned (.bool true) ∧ Below w.heap.size w w' := by
  by_cases h1 : 4096 < s.size
  · unfold maxLen at hs
    have d1 : decide (4096 < (s.size : Int)) = true := decide_eq_true (by omega)
    go_enter Try.func11, Try.ntmps11
    go_wp2_with fail
    refine (utf_awake _).mono ?_; rintro e w5 ⟨rfl, hb5⟩
    go_wp2_with fail
    go_ret
    exact ⟨rfl, ((Below.refl _ _).alloc (Nat.le_refl _) _).trans (hb5.mono (by simp))⟩
  · obtain ⟨rs, rest, h⟩ := Utf.split_ex s.data.toList
    obtain ⟨x1, x2, e, hp⟩ := posIs_ex rs rest a
    obtain ⟨y1, y2, f, hq⟩ := posIs_ex rs rest b
    obtain ⟨n, g, ho⟩ := offIs_ex rs rest p1 p2
    have hl : s.size ≤ 4096 := by omega
    refine inverse_law s a b p1 p2 x1 x2 e y1 y2 f n g hl (position_is h hl hp) (position_is h hl hq) ?_ ?_ (offset_is h hl ho) ?_ w
    · rintro rfl; exact offset_is h hl (pos_back hp)
    · rintro rfl rfl hab; exact pos_mono hp hq hab
    · rintro rfl; exact position_is h hl (off_back ho)
end Go.Proofs.Ytjokidcjjfdkpaa
