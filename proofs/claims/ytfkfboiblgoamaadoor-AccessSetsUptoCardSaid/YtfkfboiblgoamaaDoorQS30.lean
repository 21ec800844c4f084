/- Laid together for one claim: VtRefW, VtLast3, VkChecked, VtFresh. -/
import Derived.Test.YtfkfboiblgoamaaDoorQS25
import Derived.Test.YtfkfboiblgoamaaDoorQS26
import Derived.Test.YtfkfboiblgoamaaDoorQS27
import Derived.Test.YtfkfboiblgoamaaDoorQS28
import Derived.Test.YtfkfboiblgoamaaDoorQS29
import Derived.Test.YtfkfboiblgoamaaDoorQS18
/- The reference's Replace and Without, whatever the value. -/
namespace Go.Proofs.YtfkfboiblgoamaaDoor
open Go.RowKit

theorem without_any {T : Vt} {s : Stp} {top : Nat} {w : World} (hT : T.In w top) (ht : top ≤ w.heap.size) (ho : T.h.own = true) (h0 : (T.find s).2 = 0) :
    Calls Tryd.prog 57 #[.agg T.h.cells, .int .i64 (T.find s).1] w (FnOut (T.wo s) top w) := by
  cases hx : s.ix with
  | true =>
    obtain ⟨_, k6, hi, hei⟩ := Vt.part_ix h0 hx
    have hwo : T.wo s = T.dropL (T.find s).1.toNat := by unfold Vt.wo; rw [if_pos hx]
    rw [hwo, hei]
    generalize (T.find s).1.toNat = i at *
    cases T with
    | nil => exact hT.elim
    | mk h Y L K F => exact withoutL hT ht ho k6 hi
  | false =>
    obtain ⟨_, k7, hi, hei, _⟩ := Vt.part_key h0 hx
    have hwo : T.wo s = T.dropF (T.find s).1.toNat := by unfold Vt.wo; rw [if_neg (by simp [hx])]
    rw [hwo, hei]
    generalize (T.find s).1.toNat = i at *
    cases T with
    | nil => exact hT.elim
    | mk h Y L K F => exact withoutF hT ht ho k7 hi
theorem replace_any {T X : Vt} {s : Stp} {top : Nat} {w : World} (hT : T.In w top) (hX : X.In w w.heap.size) {SS : Nat → Prop} (hXo : X.Off SS) (hSt : ∀ b, b < top → SS b) (hSl : ∀ b, SS b → b < w.heap.size) (ht : top ≤ w.heap.size) (ho : T.h.own = true) (h0 : (T.find s).2 = 0) :
    Calls Tryd.prog 49 #[.agg T.h.cells, .int .i64 (T.find s).1, .agg X.h.cells] w (FnS (T.setP (T.find s).1.toNat X) SS w) := by
  rw [Vt.setP_ix h0]
  cases hx : s.ix with
  | true =>
    obtain ⟨_, k6, hi, hei⟩ := Vt.part_ix h0 hx
    rw [if_pos rfl, hei]
    generalize (T.find s).1.toNat = i at *
    cases T with
    | nil => exact hT.elim
    | mk h Y L K F => exact replaceL hT hX hXo hSt hSl ht ho k6 hi
  | false =>
    obtain ⟨_, k7, hi, hei, _⟩ := Vt.part_key h0 hx
    rw [if_neg (by simp), hei]
    generalize (T.find s).1.toNat = i at *
    cases T with
    | nil => exact hT.elim
    | mk h Y L K F => exact replaceF hT hX hXo hSt hSl ht ho k7 hi
end Go.Proofs.YtfkfboiblgoamaaDoor
/- What the reference makes at the last step: datakitref09.last, how = 3. -/
namespace Go.Proofs.YtfkfboiblgoamaaDoor
open Go.RowKit
set_option linter.unusedSimpArgs false
set_option linter.unusedVariables false

theorem find_rng (T : Vt) (s : Stp) : (T.find s).2 = 0 ∨ (T.find s).2 = 6 ∨ (T.find s).2 = 7 := by
  unfold Vt.find
  split <;> split <;> first | exact .inr (.inl rfl) | (split <;> first | exact .inl rfl | exact .inr (.inr rfl))

/-- A result that a walk has put together. -/
theorem res_of {R : Vt × Int} {X : Vt} {E : Int} {w w' : World} (hE : R.2 = E) {top : Nat} (hX : X.In w' w'.heap.size) (hXo : X.Off (fun b => b < top ∨ w.heap.size ≤ b)) (h0 : R.2 = 0 → X.Same R.1) (h1 : R.2 ≠ 0 → X = .z) (hb : Below w.heap.size w w') :
    ResOut R top w (.returned (.tuple #[.agg #[.int .i64 X.h.k, .bool X.h.b, .bool X.h.n, .string X.h.d, .int .i64 X.h.e, .int .i64 X.h.tk, .int .i64 X.h.td, .int .i64 X.h.tn, .int .i64 X.h.tz, .string X.h.x, .slice X.h.ba X.h.bn X.h.bc, .slice X.h.la X.h.ln X.h.lc, .slice X.h.fa X.h.fn X.h.fc], .int .i64 E])) w' := by
  subst hE
  exact ⟨X, rfl, hX, hXo, h0, h1, hb⟩

/-- What 'last' makes. -/
noncomputable def Vt.last3 (X T : Vt) (s : Stp) : Vt × Int := if (T.find s).2 = 0 then (T.wo s, 0) else (.z, (T.find s).2)

set_option maxHeartbeats 8000000 in
set_option maxRecDepth 100000 in
theorem last3_6 {T X : Vt} {s : Stp} {top : Nat} {w : World} (hT : T.In w top) (hX : X.In w top) (ht : top ≤ w.heap.size) (ho : T.h.own = true) (hs : w64 s.n) (h0 : (T.find s).2 = 6) :
    Calls Tryd.prog 48 #[.agg T.h.cells, .agg s.cells, .agg X.h.cells, .int .i64 3] w (ResOut (.z, 6) top w) := by
  obtain ⟨f1, hf1⟩ : ∃ f, T.find s = (f, 6) := ⟨_, Prod.ext rfl h0⟩
  have HE : Hid (∀ w', Below w.heap.size w w' → ResOut ((.z, 6) : Vt × Int) top w (.returned (.tuple #[.agg Vh.zero.cells, .int .i64 6])) w') := Lib.hid fun w' hb => res_of (X := .z) rfl (Vt.z_in _ _) (Vt.z_off _) (fun h => absurd h (by decide)) (fun _ => rfl) hb
  have hb0 := ((((Below.refl w.heap.size w).alloc (Nat.le_refl _) (.cells T.h.cells 30)).alloc (by simp) (.cells s.cells 50)).alloc (by simp; omega) (.cells X.h.cells 30)).alloc (by simp; omega) (.cells Vh.zero.cells 30)
  have P := (((Whole.new w 30 T.h.cells).alloc (.cells s.cells 50)).alloc (.cells X.h.cells 30)).alloc (.cells Vh.zero.cells 30)
  have S3 := ((Whole.new (w.alloc (.cells T.h.cells 30)) 50 s.cells).alloc (.cells X.h.cells 30)).alloc (.cells Vh.zero.cells 30)
  rw [World.size_alloc] at S3
  have XB := (Whole.new ((w.alloc (.cells T.h.cells 30)).alloc (.cells s.cells 50)) 30 X.h.cells).alloc (.cells Vh.zero.cells 30)
  rw [World.size_alloc, World.size_alloc] at XB
  have Q := Whole.new (((w.alloc (.cells T.h.cells 30)).alloc (.cells s.cells 50)).alloc (.cells X.h.cells 30)) 30 Vh.zero.cells
  rw [World.size_alloc, World.size_alloc, World.size_alloc] at Q
  have HF := Lib.hid (fun (w1 : World) (hb : Below w.heap.size w w1) => rfind_any (T := T) (s := s) (Vt.In.below (hb.mono ht) hT) (Nat.le_trans ht hb.size) hs)
  rw [hf1] at HF
  clear hT hX ho h0 hf1
  simp only [Vh.cells, Vh.zero, Stp.cells] at hb0 P S3 XB Q HF ⊢
  go_enter Tryd.func48, Tryd.ntmps48
  go_wp2_with fail
  refine (HF.out _ hb0).mono ?_; rintro _ w1 ⟨rfl, hb1⟩
  have g1 := below_then hb0 hb1
  have P1 := Whole.below P hb1 (Whole.lt P)
  have S31 := Whole.below S3 hb1 (Whole.lt S3)
  have XB1 := Whole.below XB hb1 (Whole.lt XB)
  have Q1 := Whole.below Q hb1 (Whole.lt Q)
  clear HF hb0 hb1 P S3 XB Q
  have b0 := Whole.b3 (s := s) S31
  obtain ⟨s0, s1, s2⟩ := b0
  have hone := Lib.hid (vh_all Vh.zero)
  go_wp2_with (refine wpList_store_row rfl 30 _ _ rfl (w.heap.size + 3) Vh.zero.cells rfl rfl 30 _ Q1 vh_row rfl hone.out ?_)
  exact bodyPost_ret (v := .tuple #[.agg Vh.zero.cells, .int .i64 6]) (ret_val2 (p := 8) (q := 9) rfl rfl (Whole.setRow Q1 Vh.zero.cells)) rfl (HE.out _ (below_setRow g1 (by omega) _))

set_option maxHeartbeats 8000000 in
set_option maxRecDepth 100000 in
theorem last3_7 {T X : Vt} {s : Stp} {top : Nat} {w : World} (hT : T.In w top) (hX : X.In w top) (ht : top ≤ w.heap.size) (ho : T.h.own = true) (hs : w64 s.n) (h0 : (T.find s).2 = 7) :
    Calls Tryd.prog 48 #[.agg T.h.cells, .agg s.cells, .agg X.h.cells, .int .i64 3] w (ResOut (.z, 7) top w) := by
  obtain ⟨f1, hf1⟩ : ∃ f, T.find s = (f, 7) := ⟨_, Prod.ext rfl h0⟩
  have HE : Hid (∀ w', Below w.heap.size w w' → ResOut ((.z, 7) : Vt × Int) top w (.returned (.tuple #[.agg Vh.zero.cells, .int .i64 7])) w') := Lib.hid fun w' hb => res_of (X := .z) rfl (Vt.z_in _ _) (Vt.z_off _) (fun h => absurd h (by decide)) (fun _ => rfl) hb
  have hb0 := ((((Below.refl w.heap.size w).alloc (Nat.le_refl _) (.cells T.h.cells 30)).alloc (by simp) (.cells s.cells 50)).alloc (by simp; omega) (.cells X.h.cells 30)).alloc (by simp; omega) (.cells Vh.zero.cells 30)
  have P := (((Whole.new w 30 T.h.cells).alloc (.cells s.cells 50)).alloc (.cells X.h.cells 30)).alloc (.cells Vh.zero.cells 30)
  have S3 := ((Whole.new (w.alloc (.cells T.h.cells 30)) 50 s.cells).alloc (.cells X.h.cells 30)).alloc (.cells Vh.zero.cells 30)
  rw [World.size_alloc] at S3
  have XB := (Whole.new ((w.alloc (.cells T.h.cells 30)).alloc (.cells s.cells 50)) 30 X.h.cells).alloc (.cells Vh.zero.cells 30)
  rw [World.size_alloc, World.size_alloc] at XB
  have Q := Whole.new (((w.alloc (.cells T.h.cells 30)).alloc (.cells s.cells 50)).alloc (.cells X.h.cells 30)) 30 Vh.zero.cells
  rw [World.size_alloc, World.size_alloc, World.size_alloc] at Q
  have HF := Lib.hid (fun (w1 : World) (hb : Below w.heap.size w w1) => rfind_any (T := T) (s := s) (Vt.In.below (hb.mono ht) hT) (Nat.le_trans ht hb.size) hs)
  rw [hf1] at HF
  clear hT hX ho h0 hf1
  simp only [Vh.cells, Vh.zero, Stp.cells] at hb0 P S3 XB Q HF ⊢
  go_enter Tryd.func48, Tryd.ntmps48
  go_wp2_with fail
  refine (HF.out _ hb0).mono ?_; rintro _ w1 ⟨rfl, hb1⟩
  have g1 := below_then hb0 hb1
  have P1 := Whole.below P hb1 (Whole.lt P)
  have S31 := Whole.below S3 hb1 (Whole.lt S3)
  have XB1 := Whole.below XB hb1 (Whole.lt XB)
  have Q1 := Whole.below Q hb1 (Whole.lt Q)
  clear HF hb0 hb1 P S3 XB Q
  have b0 := Whole.b3 (s := s) S31
  obtain ⟨s0, s1, s2⟩ := b0
  have hone := Lib.hid (vh_all Vh.zero)
  go_wp2_with (refine wpList_store_row rfl 30 _ _ rfl (w.heap.size + 3) Vh.zero.cells rfl rfl 30 _ Q1 vh_row rfl hone.out ?_)
  exact bodyPost_ret (v := .tuple #[.agg Vh.zero.cells, .int .i64 7]) (ret_val2 (p := 8) (q := 9) rfl rfl (Whole.setRow Q1 Vh.zero.cells)) rfl (HE.out _ (below_setRow g1 (by omega) _))

set_option maxHeartbeats 8000000 in
set_option maxRecDepth 100000 in
theorem last3_0 {T X : Vt} {s : Stp} {top : Nat} {w : World} (hT : T.In w top) (hX : X.In w top) (ht : top ≤ w.heap.size) (ho : T.h.own = true) (hs : w64 s.n) (h0 : (T.find s).2 = 0) :
    Calls Tryd.prog 48 #[.agg T.h.cells, .agg s.cells, .agg X.h.cells, .int .i64 3] w (ResOut (T.wo s, 0) top w) := by
  obtain ⟨f1, hf1⟩ : ∃ f, T.find s = (f, 0) := ⟨_, Prod.ext rfl h0⟩
  have HC := Lib.hid (fun (w1 : World) (hb : Below w.heap.size w w1) => without_any (s := s) (Vt.In.below (hb.mono ht) hT) (Nat.le_trans ht hb.size) ho h0)
  rw [hf1] at HC
  obtain ⟨V, hV⟩ : ∃ V, T.wo s = V := ⟨_, rfl⟩
  rw [hV] at HC ⊢
  clear hV
  have HE : Hid (∀ (Z : Vt) w', Z.In w' w'.heap.size → Z.Off (fun b => b < top ∨ w.heap.size ≤ b) → Z.Same V → Below w.heap.size w w' → ResOut (V, 0) top w (.returned (.tuple #[.agg Z.h.cells, .int .i64 0])) w') := Lib.hid fun Z w' h1 h3 h2 hb => res_of (X := Z) rfl h1 h3 (fun _ => h2) (fun h => absurd rfl h) hb
  have hb0 := ((((Below.refl w.heap.size w).alloc (Nat.le_refl _) (.cells T.h.cells 30)).alloc (by simp) (.cells s.cells 50)).alloc (by simp; omega) (.cells X.h.cells 30)).alloc (by simp; omega) (.cells Vh.zero.cells 30)
  have P := (((Whole.new w 30 T.h.cells).alloc (.cells s.cells 50)).alloc (.cells X.h.cells 30)).alloc (.cells Vh.zero.cells 30)
  have S3 := ((Whole.new (w.alloc (.cells T.h.cells 30)) 50 s.cells).alloc (.cells X.h.cells 30)).alloc (.cells Vh.zero.cells 30)
  rw [World.size_alloc] at S3
  have XB := (Whole.new ((w.alloc (.cells T.h.cells 30)).alloc (.cells s.cells 50)) 30 X.h.cells).alloc (.cells Vh.zero.cells 30)
  rw [World.size_alloc, World.size_alloc] at XB
  have Q := Whole.new (((w.alloc (.cells T.h.cells 30)).alloc (.cells s.cells 50)).alloc (.cells X.h.cells 30)) 30 Vh.zero.cells
  rw [World.size_alloc, World.size_alloc, World.size_alloc] at Q
  have HF := Lib.hid (fun (w1 : World) (hb : Below w.heap.size w w1) => rfind_any (T := T) (s := s) (Vt.In.below (hb.mono ht) hT) (Nat.le_trans ht hb.size) hs)
  rw [hf1] at HF
  clear hT hX ho h0 hf1
  simp only [Vh.cells, Vh.zero, Stp.cells] at hb0 P S3 XB Q HF ⊢
  go_enter Tryd.func48, Tryd.ntmps48
  go_wp2_with fail
  refine (HF.out _ hb0).mono ?_; rintro _ w1 ⟨rfl, hb1⟩
  have g1 := below_then hb0 hb1
  have P1 := Whole.below P hb1 (Whole.lt P)
  have S31 := Whole.below S3 hb1 (Whole.lt S3)
  have XB1 := Whole.below XB hb1 (Whole.lt XB)
  have Q1 := Whole.below Q hb1 (Whole.lt Q)
  clear HF hb0 hb1 P S3 XB Q
  obtain ⟨c0, c1, c2, c3, c4, c5, c6, c7, c8, c9, c10, c11, c12⟩ := Whole.c13 (h := T.h) P1
  obtain ⟨s0, s1, s2⟩ := Whole.b3 (s := s) S31
  simp only [Vh.cells, Stp.cells] at HC
  go_wp2_with fail
  refine (HC.out _ g1).mono ?_; rintro _ w2 ⟨Z, rfl, hZ, hZo, hZs, hb2⟩
  have g2 := below_then g1 hb2
  have hw1 := g1.size
  have hQ1 := Q1.lt
  have Q2 := Q1.below hb2 Q1.lt
  have hone := Lib.hid (vh_all Z.h)
  have hZ2 := Lib.hid (hZ.stays hZo (W' := w2.setRow (w.heap.size + 3) Z.h.cells) (fun b hb => setRow_other _ _ _ _ (by omega)) (by rw [size_setRow]; exact Nat.le_refl _))
  have hZs2 := Lib.hid hZs
  have hZo2 : Hid (Z.Off (fun b => b < top ∨ w.heap.size ≤ b)) := Lib.hid (hZo.mono fun b hb => by omega)
  clear c0 c1 c2 c3 c4 c5 c6 c7 c8 c9 c10 c11 c12 s0 s1 s2  HC hZ hZo hZs hb2 g1 P1 S31 XB1 Q1 hQ1
  go_wp2_with (refine wpList_store_row rfl 30 _ _ rfl (w.heap.size + 3) Z.h.cells rfl rfl 30 _ Q2 vh_row rfl hone.out ?_)
  exact bodyPost_ret (v := .tuple #[.agg Z.h.cells, .int .i64 0]) (ret_val2 (p := 8) (q := 9) rfl rfl (Q2.setRow Z.h.cells)) rfl (HE.out Z _ hZ2.out hZo2.out hZs2.out (below_setRow g2 (by omega) _))

theorem last3_any {T X : Vt} {s : Stp} {top : Nat} {w : World} (hT : T.In w top) (hX : X.In w top) (ht : top ≤ w.heap.size) (ho : T.h.own = true) (hs : w64 s.n) :
    Calls Tryd.prog 48 #[.agg T.h.cells, .agg s.cells, .agg X.h.cells, .int .i64 3] w (ResOut (Vt.last3 X T s) top w) := by
  unfold Vt.last3
  rcases find_rng T s with h | h | h
  · rw [if_pos h]; exact last3_0 hT hX ht ho hs h
  · rw [if_neg (by omega), h]; exact last3_6 hT hX ht ho hs h
  · rw [if_neg (by omega), h]; exact last3_7 hT hX ht ho hs h
end Go.Proofs.YtfkfboiblgoamaaDoor
/- The program's value.Check; access.checked: the value, or what is wrong with it. -/
namespace Go.Proofs.YtfkfboiblgoamaaDoor
open Go.RowKit
set_option linter.unusedSimpArgs false
set_option linter.unusedVariables false

/-- The value, or what is wrong with it. -/
noncomputable def Vt.chkV (T : Vt) : Vt × Int := if (T.look 1 0).2 ≠ 0 then (.z, (T.look 1 0).2) else (T, 0)
set_option maxHeartbeats 1000000 in
set_option maxRecDepth 100000 in
theorem vcheck_any {T : Vt} {top : Nat} {w : World} (hT : T.In w top) (ht : top ≤ w.heap.size) :
    Calls Tryd.prog 46 #[.agg T.h.cells] w fun r w' => r = .returned (.int .i64 (T.look 1 0).2) ∧ Below w.heap.size w w' := by
  have hb0 := ((Below.refl w.heap.size w).alloc (Nat.le_refl _) (.cells T.h.cells 30)).alloc (by simp) (.cells #[.int .i64 0] 3)
  have P := (Whole.new w 30 T.h.cells).alloc (.cells #[.int .i64 0] 3)
  have B := Whole.new (w.alloc (.cells T.h.cells 30)) 3 #[.int .i64 0]
  rw [World.size_alloc] at B
  have HC := Lib.hid (chk_any T 1 0 top (w.heap.size + 1) _ (Vt.In.below (hb0.mono ht) hT) (by omega) B (by decide) (by decide) (by decide) (by decide))
  obtain ⟨R, hR⟩ : ∃ R, T.look 1 0 = R := ⟨_, rfl⟩
  rw [hR] at HC ⊢
  obtain ⟨c0, c1, c2, c3, c4, c5, c6, c7, c8, c9, c10, c11, c12⟩ := Whole.c13 (h := T.h) P
  clear hT hR B P
  simp only [Vh.cells] at hb0 HC c0 c1 c2 c3 c4 c5 c6 c7 c8 c9 c10 c11 c12 ⊢
  go_enter Tryd.func46, Tryd.ntmps46
  go_wp2_with fail
  refine HC.out.mono ?_; rintro _ w1 ⟨s', rfl, -, -, hk⟩
  have g1 := hb0.trans (hk.below (n := w.heap.size) (by have := hb0.size; omega) (fun b q e => by omega))
  clear c0 c1 c2 c3 c4 c5 c6 c7 c8 c9 c10 c11 c12 HC hk hb0
  go_wp2
  go_ret
  exact ⟨rfl, g1⟩
set_option maxHeartbeats 2000000 in
set_option maxRecDepth 100000 in
theorem chkd_any {T : Vt} {top : Nat} {w : World} (hT : T.In w top) (ht : top ≤ w.heap.size) :
    Calls Tryd.prog 25 #[.agg T.h.cells] w (ResOut T.chkV 0 w) := by
  have hb0 := ((Below.refl w.heap.size w).alloc (Nat.le_refl _) (.cells T.h.cells 30)).alloc (by simp) (.cells Vh.zero.cells 30)
  have P := (Whole.new w 30 T.h.cells).alloc (.cells Vh.zero.cells 30)
  have Q := Whole.new (w.alloc (.cells T.h.cells 30)) 30 Vh.zero.cells
  rw [World.size_alloc] at Q
  have HC := Lib.hid (vcheck_any (Vt.In.below (hb0.mono ht) hT) (Nat.le_trans ht hb0.size))
  have HT := Lib.hid (fun (w1 : World) (h : Below w.heap.size w w1) => Vt.In.below (h.mono ht) hT)
  have hwh := hT.whole
  obtain ⟨c0, c1, c2, c3, c4, c5, c6, c7, c8, c9, c10, c11, c12⟩ := Whole.c13 (h := T.h) P
  by_cases z : (T.look 1 0).2 = 0
  · have e : T.chkV = (T, 0) := if_neg (fun q => q z)
    have hu := (Vt.look_ok (d := 1) (s := 0) hwh z).2.1
    rw [e]
    have HCo := Lib.hid (fun (w1 : World) (h : Below w.heap.size w w1) => copy_any (HT.out w1 h) (Nat.le_trans ht h.size) (Vt.upto_le hu (by decide)))
    have HE : Hid (∀ (Z : Vt) w', Z.In w' w'.heap.size → Z.Off (w.heap.size ≤ ·) → Z.Same T → Below w.heap.size w w' → ResOut (T, 0) 0 w (.returned (.tuple #[.agg Z.h.cells, .int .i64 0])) w') := Lib.hid fun Z w' h1 h3 h4 hb => res_of (X := Z) rfl h1 (h3.mono fun _ q => .inr q) (fun _ => h4) (fun q => absurd rfl q) hb
    rw [z] at HC
    clear e z hT hwh hu HT
    simp only [Vh.cells, Vh.zero] at hb0 P Q HC HCo c0 c1 c2 c3 c4 c5 c6 c7 c8 c9 c10 c11 c12 ⊢
    go_enter Tryd.func25, Tryd.ntmps25
    go_wp2_with fail
    refine HC.out.mono ?_; rintro _ w1 ⟨rfl, hb1⟩
    have g1 := below_then hb0 hb1
    have P1 := P.below hb1 P.lt
    have Q1 := Q.below hb1 Q.lt
    clear c0 c1 c2 c3 c4 c5 c6 c7 c8 c9 c10 c11 c12 HC P Q hb0 hb1
    obtain ⟨c0, c1, c2, c3, c4, c5, c6, c7, c8, c9, c10, c11, c12⟩ := Whole.c13 (h := T.h) P1
    go_wp2_with fail
    refine (HCo.out _ g1).mono ?_; rintro _ w2 ⟨X, rfl, hX, hXo, hXs, hb2⟩
    have g2 := below_then g1 hb2
    have Q2 := Q1.below hb2 Q1.lt
    have hz1 := g1.size
    have hone := Lib.hid (vh_all X.h)
    have hX2 := Lib.hid (hX.stays hXo (W' := w2.setRow (w.heap.size + 1) X.h.cells) (fun b hb => setRow_other _ _ _ _ (by have h1 : _ ≤ b := hb; have := Q1.lt; omega)) (by rw [size_setRow]; exact Nat.le_refl _))
    have hXo2 := Lib.hid (hXo.mono (S' := (w.heap.size ≤ ·)) fun b hb => Nat.le_trans hz1 hb)
    have hXs2 := Lib.hid hXs
    clear hX hXo hXs c0 c1 c2 c3 c4 c5 c6 c7 c8 c9 c10 c11 c12 hb2 HCo P1 Q1 g1
    go_wp2_with (refine wpList_store_row rfl 30 _ _ rfl (w.heap.size + 1) X.h.cells rfl rfl 30 _ Q2 vh_row rfl hone.out ?_)
    exact bodyPost_ret (v := .tuple #[.agg X.h.cells, .int .i64 0]) (ret_val2 (p := 2) (q := 3) rfl rfl (Whole.setRow Q2 X.h.cells)) rfl (HE.out X _ hX2.out hXo2.out hXs2.out (below_setRow g2 (by omega) _))
  · have e : T.chkV = (.z, (T.look 1 0).2) := if_pos z
    rw [e]
    clear e
    obtain ⟨E, hE⟩ : ∃ E, (T.look 1 0).2 = E := ⟨_, rfl⟩
    rw [hE] at HC z ⊢
    have z1 : (E == 0) = false := beq_eq_false_iff_ne.2 z
    have z2 : (E != 0) = true := bne_iff_ne.2 z
    have HE : Hid (∀ w', Below w.heap.size w w' → ResOut ((.z, E) : Vt × Int) 0 w (.returned (.tuple #[.agg Vh.zero.cells, .int .i64 E])) w') := Lib.hid fun w' hb => res_of (X := .z) rfl (Vt.z_in _ _) (Vt.z_off _) (fun q => absurd q z) (fun _ => rfl) hb
    clear hE z hT hwh HT
    simp only [Vh.cells, Vh.zero] at hb0 P Q HC c0 c1 c2 c3 c4 c5 c6 c7 c8 c9 c10 c11 c12 ⊢
    go_enter Tryd.func25, Tryd.ntmps25
    go_wp2_with fail
    refine HC.out.mono ?_; rintro _ w1 ⟨rfl, hb1⟩
    have g1 := below_then hb0 hb1
    have Q1 := Q.below hb1 Q.lt
    clear c0 c1 c2 c3 c4 c5 c6 c7 c8 c9 c10 c11 c12 HC P Q hb0 hb1
    have hone := Lib.hid (vh_all Vh.zero)
    go_wp2_with (refine wpList_store_row rfl 30 _ _ rfl (w.heap.size + 1) Vh.zero.cells rfl rfl 30 _ Q1 vh_row rfl hone.out ?_)
    exact bodyPost_ret (v := .tuple #[.agg Vh.zero.cells, .int .i64 E]) (ret_val2 (p := 2) (q := 3) rfl rfl (Whole.setRow Q1 Vh.zero.cells)) rfl (HE.out _ (below_setRow g1 (by omega) _))
end Go.Proofs.YtfkfboiblgoamaaDoor
/- An append of a whole slice to nil; sizes of parts. -/
namespace Go.Proofs.YtfkfboiblgoamaaDoor
open Go.ChangeShapes Go.WideShapes Go.Joins Go.Deep Go.RowKit

theorem run_append_fresh {P : Program} (w : World) (base : Nat) (t ty e : TypeId) (i : TypeInfo) (z : Value) (size bytes : Nat) (ht : P.underlying t = some (.slice e)) (hi : P.info? e = some i) (hz : i.zero = some z)
    (hsize : i.size = size) (hby : i.bytes = bytes) (hzs : z.cells.size = size) (hsz : 0 < size) (xa : Option Addr) (m c : Nat) (news : List Value) (hl : news.length = m * size)
    (hnews : 0 < m → ∃ ad, xa = some ad ∧ ∀ j u, news[j]? = some u → w.cell? (ad.add j) = some u) (h1 : ∀ u ∈ news, u.oneCell' = true) (h63 : m ≤ maxLen) (hbytes : m * bytes ≤ 140737488355328) (hbase : base ≤ w.heap.size) :
    ∃ v' w', (Builtin.append_ #[t, t] ty #[.slice none 0 0, .slice xa m c]).run P w = .ok v' w' ∧ w'.ownsRow base e size v' m news ∧ w.grownBy w' none ∧ (v'.ownBlock = none ∨ v'.ownBlock = some w.heap.size) := by
  by_cases hm : m = 0
  · subst hm
    have hn : news = [] := List.eq_nil_of_length_eq_zero (by simpa using hl)
    subst hn
    refine ⟨.slice none 0 0, w, ?_, World.ownsRow_nil w base e size, ⟨rfl, rfl, rfl, Nat.le_refl _, fun _ _ _ => rfl⟩, .inl rfl⟩
    cases xa <;> simp [Builtin.append_, run_underlying ht, sizeOf, typeInfo, hi, Builtin.lenOf, Builtin.firstCells, loadCells, loadCellsFrom]
  · obtain ⟨ad, rfl, hn⟩ := hnews (by omega)
    have h := run_append_told (P := P) w base t ty e i z size bytes ht hi hz hsize hby hzs hsz (.slice none 0 0) 0 [] (World.ownsRow_nil w base e size) ad m c news hl hn h1 (by omega) (by rw [Nat.zero_add]; exact hbytes) hbase (by omega)
    obtain ⟨v', w', hr, h2, h3, h4⟩ := h
    rw [Nat.zero_add, List.nil_append] at h2
    exact ⟨v', w', hr, h2, h3, h4⟩
theorem wpList_append_fresh {P : Program} (w : World) {ops : Array Oper} {rest : List Oper} {o : Oper} {a : Act} {Q : Exit → Act → World → Prop} (hgd : o.guard = none) (s x : Operand) (t : TypeId)
    (ho : o.op = .call { callee := .builtin .append, args := #[s, x], argTypes := #[t, t] })
    (base : Nat) (e : TypeId) (i : TypeInfo) (z : Value) (size bytes : Nat) (ht : P.underlying t = some (.slice e)) (hi : P.info? e = some i) (hz : i.zero = some z)
    (hsize : i.size = size) (hby : i.bytes = bytes) (hzs : z.cells.size = size) (hsz : 0 < size) (hs : a.eval s = .slice none 0 0)
    (xa : Option Addr) (m c : Nat) (news : List Value) (hx : a.eval x = .slice xa m c) (hl : news.length = m * size) (hnews : 0 < m → ∃ ad, xa = some ad ∧ ∀ j u, news[j]? = some u → w.cell? (ad.add j) = some u) (h1 : ∀ u ∈ news, u.oneCell' = true)
    (h63 : m ≤ maxLen) (hbytes : m * bytes ≤ 140737488355328) (hbase : base ≤ w.heap.size)
    (h : ∀ v' w', w'.ownsRow base e size v' m news → w.grownBy w' none → (v'.ownBlock = none ∨ v'.ownBlock = some w.heap.size) → wpList P ops Q rest (a.put o.dst v') w') : wpList P ops Q (o :: rest) a w := by
  refine wpList_plain hgd fun K hK => ?_
  obtain ⟨v', w', hr, h2, h3, h4⟩ := run_append_fresh (P := P) w base t o.type e i z size bytes ht hi hz hsize hby hzs hsz xa m c news hl hnews h1 h63 hbytes hbase
  unfold Oper.wp execOp
  simp only [ho, resolve, invoke, builtin, Sem.run_bind, Sem.run_pure, Result.andThen_ok, List.map_toArray, List.map_cons, List.map_nil, hs, hx, hr]
  exact hK _ _ (h v' w' h2 h3 h4)
/-- A map with one more field; a list with one more element. -/
def Vt.moreF : Vt → ByteArray → Vt → Vt
  | .nil, _, _ => .nil
  | .mk h Y L K F, key, X => .mk { h with fn := h.fn + 1 } Y L (fun j => if j < h.fn then K j else key) (fun j => if j < h.fn then F j else X)
def Vt.insL : Vt → Nat → Vt → Vt
  | .nil, _, _ => .nil
  | .mk h Y L K F, i, X => .mk { h with ln := h.ln + 1 } Y (fun j => if j < i then L j else if j = i then X else L (j - 1)) K F
theorem Vt.size_one (T : Vt) : 1 ≤ T.size := by
  cases T with
  | nil => exact Nat.le_refl _
  | mk h Y L K F => unfold Vt.size; omega
theorem sumN_ge {f : Nat → Nat} (hf : ∀ i, 1 ≤ f i) : ∀ n, n ≤ sumN f n := by
  intro n
  induction n with
  | zero => exact Nat.le_refl _
  | succ n ih => have := hf n; rw [sumN]; omega
theorem Vt.fn_le_size {T : Vt} (hk : T.h.k = 7) : T.h.fn ≤ T.size := by
  cases T with
  | nil => exact Nat.zero_le _
  | mk h Y L K F =>
    have e : (Vt.mk h Y L K F).size = 1 + sumN (fun i => (F i).size) h.fn := by
      have hk' : h.k = 7 := hk
      rw [Vt.size, if_pos hk']
    have := sumN_ge (f := fun i => (F i).size) (fun i => Vt.size_one _) h.fn
    show h.fn ≤ _
    omega
theorem Vt.ln_le_size {T : Vt} (hk : T.h.k ≠ 7) : T.h.ln ≤ T.size := by
  cases T with
  | nil => exact Nat.zero_le _
  | mk h Y L K F =>
    have e : (Vt.mk h Y L K F).size = 1 + sumN (fun i => (L i).size) h.ln := by
      have hk' : h.k ≠ 7 := hk
      rw [Vt.size, if_neg hk']
    have := sumN_ge (f := fun i => (L i).size) (fun i => Vt.size_one _) h.ln
    show h.ln ≤ _
    omega
theorem Vt.size_part {T : Vt} {s : Stp} (hT : T ≠ .nil) (h0 : (T.find s).2 = 0) : (T.part (T.find s).1.toNat).size ≤ T.size := by
  cases hx : s.ix with
  | true =>
    obtain ⟨e, k6, hi, _⟩ := Vt.part_ix h0 hx
    have hn : T.kn = T.h.ln := if_neg (by rw [k6]; decide)
    have := Vt.size_kid hT (i := (T.find s).1.toNat) (by rw [hn]; exact hi)
    rw [Vt.kid, if_neg (by rw [k6]; decide)] at this
    rw [e]
    omega
  | false =>
    obtain ⟨e, k7, hi, _⟩ := Vt.part_key h0 hx
    have hn : T.kn = T.h.fn := if_pos k7
    have := Vt.size_kid hT (i := (T.find s).1.toNat) (by rw [hn]; exact hi)
    rw [Vt.kid, if_pos k7] at this
    rw [e]
    omega
end Go.Proofs.YtfkfboiblgoamaaDoor
