/- UTF-8: the reference's positions. -/
import Derived.Test.YtjokidcjjfdkpaaUtfOff
import Derived.Test.YtjokidcjjfdkpaaMemBox
namespace Go.Proofs.Ytjokidcjjfdkpaa
open Go.RowKit Go.Shelf

/-! ### plain: a character's first byte is a line feed exactly where the character is one -/
theorem enc_head (r : Int) (h : Utf.scal r) : ∃ b t, Utf.enc r = b :: t ∧ (b = 10 ↔ r = 10) := by
  obtain ⟨h0, h1, _⟩ := h
  have key : ∀ n : Int, 0 ≤ n → n < 256 → (Utf.byte n = 10 ↔ n = 10) := fun n a b => by
    constructor
    · intro e
      have := Utf.byte_toNat a b
      rw [e] at this
      exact this.symm
    · rintro rfl; rfl
  unfold Utf.enc
  split
  · exact ⟨_, _, rfl, key r h0 (by omega)⟩
  split
  · exact ⟨_, _, rfl, (key _ (by omega) (by omega)).trans ⟨fun e => by omega, fun e => by omega⟩⟩
  split
  · exact ⟨_, _, rfl, (key _ (by omega) (by omega)).trans ⟨fun e => by omega, fun e => by omega⟩⟩
  · exact ⟨_, _, rfl, (key _ (by omega) (by omega)).trans ⟨fun e => by omega, fun e => by omega⟩⟩
theorem byte_feed {s : ByteArray} {rs : List Int} {rest : List UInt8} (h : Utf.Split s.data.toList rs rest) (k : Nat) (hk : k < rs.length) (ho : Utf.off rs k < s.size) :
    s[Utf.off rs k] = 10 ↔ rs[k] = 10 := by
  have e := Utf.drop_off h k
  rw [List.drop_eq_getElem_cons hk, Utf.encs_cons] at e
  obtain ⟨b, t, hb, hi⟩ := enc_head rs[k] (h.all _ (List.getElem_mem hk))
  rw [hb] at e
  have hl : Utf.off rs k < s.data.toList.length := by simpa using ho
  rw [List.drop_eq_getElem_cons hl] at e
  have : s[Utf.off rs k] = b := by
    have := (List.cons.inj e).1
    rw [← this]
    simp [ByteArray.getElem_eq_getElem_data]
  rw [this]
  exact hi
def poses (rs : List Int) (n : Nat) : List Value := (List.range n).flatMap fun i => [Value.int .i64 (posOf (rs.take i)).1, Value.int .i64 (posOf (rs.take i)).2]
theorem poses_succ (rs : List Int) (n : Nat) : poses rs (n + 1) = poses rs n ++ [.int .i64 (posOf (rs.take n)).1, .int .i64 (posOf (rs.take n)).2] := by unfold poses; rw [List.range_succ, List.flatMap_append]; simp
theorem poses_len (rs : List Int) (n : Nat) : (poses rs n).length = n * 2 := by
  induction n with
  | zero => rfl
  | succ n ih => rw [poses_succ, List.length_append, ih]; simp; omega
theorem poses_get (rs : List Int) (n i : Nat) (h : i < n) : (poses rs n)[i * 2]? = some (.int .i64 (posOf (rs.take i)).1) ∧ (poses rs n)[i * 2 + 1]? = some (.int .i64 (posOf (rs.take i)).2) := by
  induction n with
  | zero => omega
  | succ n ih =>
    rw [poses_succ]
    have hl := poses_len rs n
    rcases Nat.lt_or_ge i n with h1 | h1
    · rw [List.getElem?_append_left (by omega), List.getElem?_append_left (by omega)]
      exact ih h1
    · obtain rfl : i = n := by omega
      rw [List.getElem?_append_right (by omega), List.getElem?_append_right (by omega), hl, show i * 2 - i * 2 = 0 by omega, show i * 2 + 1 - i * 2 = 1 by omega]
      exact ⟨rfl, rfl⟩

/-! ### positions -/
theorem Try.infoPos : (Try.prog.info? 48).map (fun i => (i.zero, i.size, i.bytes)) = some (some (.agg #[.int .i64 0, .int .i64 0]), 2, 16) := by kernel_rfl
theorem grown_set (W : World) (B i : Nat) (u : Value) : W.grownBy (W.setCell ⟨B, i, none⟩ u) (some B) :=
  ⟨rfl, rfl, rfl, by simp [World.setCell], fun k _ hk => Below.heap_setCell _ _ _ _ (by simp at hk ⊢; omega)⟩
theorem cell_two_new (w : World) (t : TypeId) (a b : Value) : ∀ j u, [a, b][j]? = some u → (w.alloc (.cells #[a, b] t)).cell? ((⟨w.heap.size, 0, none⟩ : Addr).add j) = some u := by
  intro j u h
  have hw := Whole.new w t #[a, b]
  match j, h with
  | 0, h => exact (hw.cell 0).trans h
  | 1, h => exact (hw.cell 1).trans h

set_option maxHeartbeats 2000000 in
theorem positions_any {s : ByteArray} {rs : List Int} {rest : List UInt8} (h : Utf.Split s.data.toList rs rest) (hs : s.size ≤ 4096) (hr : rest.length = 0) (g cap : Nat) (w : World) (hg : g < w.heap.size)
    (hc : ∀ i, i ≤ rs.length → w.cell? ⟨g, i, none⟩ = some (.int .i64 (Utf.off rs i))) :
    Calls Try.prog 41 #[.string s, .slice (some ⟨g, 0, none⟩) (rs.length + 1) cap] w fun e w' =>
      ∃ v : Value, e = .returned v ∧ w'.ownsRow w.heap.size 48 2 v (rs.length + 1) (poses rs (rs.length + 1)) ∧ Below w.heap.size w w' := by
  obtain ⟨i0, hi, hz0, hz1, hz2⟩ := info_parts Try.infoPos
  have HE := Lib.hid (at_end h).1
  have hcl : rs.length ≤ s.size := by simpa using Utf.count_le h
  have HC := Lib.hid hc; clear hc
  have HR := Lib.hid hr; clear hr
  have HSP := Lib.hid h; clear h
  go_enter Try.func41, Try.ntmps41
  go_wp2
  go_loopw [5, 7] (fun v i wr => ∃ (k : Nat) (q1 q2 : Int), k ≤ rs.length + 1 ∧ i = .int .i64 k ∧ Hid (k ≤ rs.length → (q1, q2) = posOf (rs.take k)) ∧ (1 ≤ q1 ∧ q1 ≤ (k : Int) + 1 ∧ 1 ≤ q2 ∧ q2 ≤ (k : Int) + 1) ∧ wr.ownsRow (w.heap.size + 1) 48 2 v k (poses rs k) ∧ Whole wr w.heap.size 48 #[.int .i64 q1, .int .i64 q2] ∧ Below w.heap.size w wr) (fun _ i _ => rs.length + 1 - (intOf i).toNat)
  case atStart =>
    exact ⟨0, 1, 1, by omega, rfl, Lib.hid fun _ => rfl, by omega, World.ownsRow_nil _ _ _ _, Whole.new _ _ _, (Below.refl _ _).alloc (Nat.le_refl _) _⟩
  case round =>
    obtain ⟨k, q1, q2, hk, rfl, hq, hqb, hown, hw, hbr⟩ := hrel
    by_cases hlt : k < rs.length + 1
    · have cell : wr.cell? ⟨g, k, none⟩ = some (.int .i64 (Utf.off rs k)) := (hbr.cell (p := ⟨g, k, none⟩) hg).trans (HC.out k (by omega))
      have cq0 := hw.c0
      have cq1 := hw.c1
      have hsz := hw.lt
      have hob : Utf.off rs k ≤ s.size := by simpa using Utf.off_le HSP.out k
      by_cases hlt2 : k < rs.length
      · have ho : Utf.off rs k < s.size := (at_char HSP.out k hlt2).1
        have HBF := Lib.hid (byte_feed HSP.out k hlt2 ho)
        have HPS : Hid (posOf (rs.take (k + 1)) = aft (posOf (rs.take k)) rs[k]) := Lib.hid (by rw [List.take_succ_eq_append_getElem hlt2, posOf_snoc])
        by_cases hf : rs[k] = 10
        · have t1 : ((s[Utf.off rs k].toNat : Int) == 10) = true := by rw [HBF.out.2 hf]; rfl
          have HF := Lib.hid hf; clear hf
          go_wp2_with (at_builtin; refine wpList_append_own _ rfl _ _ 67 rfl (w.heap.size + 1) 48 i0 (.agg #[.int .i64 0, .int .i64 0]) 2 16 Try.underlying67 hi hz0 hz1 hz2 rfl (by decide) _ _ _ rfl (hown.alloc _) ⟨wr.heap.size, 0, none⟩ 1 1 [.int .i64 q1, .int .i64 q2] rfl rfl ?c1 ?c2 ?c3 ?c4 ?c5 ?_)
          case c1 => exact cell_two_new _ _ _ _
          case c2 => simp [Value.oneCell']
          case c3 => unfold maxLen; omega
          case c4 => omega
          case c5 => simp; omega
          intro v' w3 hown3 hgrow _
          have hw3 := (hw.alloc _).kept hgrow (own_far hown (by omega))
          have hb3 := below_grown hbr (by omega) hown (by omega) hgrow
          have cl3 : w3.cell? ⟨g, k, none⟩ = some (.int .i64 (Utf.off rs k)) := (hb3.cell (p := ⟨g, k, none⟩) hg).trans (HC.out k (by omega))
          have cw0 := hw3.c0
          have cw1 := hw3.c1
          have fw := hw3.frozen
          clear hown hw hbr hgrow cell
          go_wp2
          go_roundw
          case rel =>
            refine ⟨k + 1, q1 + 1, 1, by omega, by go_num, Lib.hid fun _ => ?_, by omega, ?_, hw3.s2 _ _, (hb3.setCell (Nat.le_refl _) _).setCell (Nat.le_refl _) _⟩
            · rw [HPS.out, HF.out, ← hq.out (by omega)]; rfl
            · rw [poses_succ, ← hq.out (by omega)]
              exact (hown3.kept (grown_set _ _ 0 _) (.inr (own_far hown3 (by omega)).symm)).kept (grown_set _ _ 1 _) (.inr (own_far hown3 (by omega)).symm)
          case measure => simp [intOf]; omega
        · have t1 : ((s[Utf.off rs k].toNat : Int) == 10) = false := by
            refine beq_eq_false_iff_ne.2 (fun e => hf (HBF.out.1 (UInt8.toNat_inj.1 ?_)))
            show s[Utf.off rs k].toNat = 10
            omega
          have HF := Lib.hid hf; clear hf
          go_wp2_with (at_builtin; refine wpList_append_own _ rfl _ _ 67 rfl (w.heap.size + 1) 48 i0 (.agg #[.int .i64 0, .int .i64 0]) 2 16 Try.underlying67 hi hz0 hz1 hz2 rfl (by decide) _ _ _ rfl (hown.alloc _) ⟨wr.heap.size, 0, none⟩ 1 1 [.int .i64 q1, .int .i64 q2] rfl rfl ?c1 ?c2 ?c3 ?c4 ?c5 ?_)
          case c1 => exact cell_two_new _ _ _ _
          case c2 => simp [Value.oneCell']
          case c3 => unfold maxLen; omega
          case c4 => omega
          case c5 => simp; omega
          intro v' w3 hown3 hgrow _
          have hw3 := (hw.alloc _).kept hgrow (own_far hown (by omega))
          have hb3 := below_grown hbr (by omega) hown (by omega) hgrow
          have cl3 : w3.cell? ⟨g, k, none⟩ = some (.int .i64 (Utf.off rs k)) := (hb3.cell (p := ⟨g, k, none⟩) hg).trans (HC.out k (by omega))
          have cw0 := hw3.c0
          have cw1 := hw3.c1
          have fw := hw3.frozen
          clear hown hw hbr hgrow cell
          go_wp2
          go_roundw
          case rel =>
            refine ⟨k + 1, q1, q2 + 1, by omega, by go_num, Lib.hid fun _ => ?_, by omega, ?_, hw3.set 1 _, hb3.setCell (Nat.le_refl _) _⟩
            · rw [HPS.out, ← hq.out (by omega)]; unfold aft; rw [if_neg HF.out]
            · rw [poses_succ, ← hq.out (by omega)]
              exact hown3.kept (grown_set _ _ 1 _) (.inr (own_far hown3 (by omega)).symm)
          case measure => simp [intOf]; omega
      · obtain rfl : k = rs.length := by omega
        have ho : ¬ Utf.off rs rs.length < s.size := by have := HE.out; have := HR.out; omega
        go_wp2_with (at_builtin; refine wpList_append_own _ rfl _ _ 67 rfl (w.heap.size + 1) 48 i0 (.agg #[.int .i64 0, .int .i64 0]) 2 16 Try.underlying67 hi hz0 hz1 hz2 rfl (by decide) _ _ _ rfl (hown.alloc _) ⟨wr.heap.size, 0, none⟩ 1 1 [.int .i64 q1, .int .i64 q2] rfl rfl ?c1 ?c2 ?c3 ?c4 ?c5 ?_)
        case c1 => exact cell_two_new _ _ _ _
        case c2 => simp [Value.oneCell']
        case c3 => unfold maxLen; omega
        case c4 => omega
        case c5 => simp; omega
        intro v' w3 hown3 hgrow _
        have hw3 := (hw.alloc _).kept hgrow (own_far hown (by omega))
        have hb3 := below_grown hbr (by omega) hown (by omega) hgrow
        have cl3 : w3.cell? ⟨g, rs.length, none⟩ = some (.int .i64 (Utf.off rs rs.length)) := (hb3.cell (p := ⟨g, rs.length, none⟩) hg).trans (HC.out rs.length (by omega))
        have cw0 := hw3.c0
        have cw1 := hw3.c1
        have fw := hw3.frozen
        clear hown hw hbr hgrow cell
        go_wp2
        go_roundw
        case rel =>
          refine ⟨rs.length + 1, q1, q2 + 1, by omega, by go_num, Lib.hid fun h => by omega, by omega, ?_, hw3.set 1 _, hb3.setCell (Nat.le_refl _) _⟩
          rw [poses_succ, ← hq.out (by omega)]
          exact hown3.kept (grown_set _ _ 1 _) (.inr (own_far hown3 (by omega)).symm)
        case measure => simp [intOf]
    · obtain rfl : k = rs.length + 1 := by omega
      go_wp2
      go_ret
      exact ⟨_, rfl, own_base hown (by omega), hbr⟩

/-! ### Position, Offset -/
def PosIs (rs : List Int) (rest : List UInt8) (a x1 x2 e : Int) : Prop :=
  (rest.length ≠ 0 ∧ x1 = 0 ∧ x2 = 0 ∧ e = 5) ∨ (rest.length = 0 ∧ ((∃ k, k ≤ rs.length ∧ (Utf.off rs k : Int) = a ∧ x1 = (posOf (rs.take k)).1 ∧ x2 = (posOf (rs.take k)).2 ∧ e = 0) ∨
    ((∀ k, k ≤ rs.length → (Utf.off rs k : Int) ≠ a) ∧ x1 = 0 ∧ x2 = 0 ∧ e = 2)))

set_option maxHeartbeats 2000000 in
theorem rposition_any {s : ByteArray} {rs : List Int} {rest : List UInt8} (h : Utf.Split s.data.toList rs rest) (hs : s.size ≤ 4096) (a : Int) (w : World) :
    Calls Try.prog 30 #[.string s, .int .i64 a] w fun e w' =>
      ∃ x1 x2 r, PosIs rs rest a x1 x2 r ∧ e = .returned (.tuple #[.agg #[.int .i64 x1, .int .i64 x2], .int .i64 r]) ∧ Below w.heap.size w w' := by
  have HB := Lib.hid (boundaries_any h hs)
  have hcl : rs.length ≤ s.size := by simpa using Utf.count_le h
  by_cases hr : rest.length = 0
  · rw [decide_eq_true hr] at HB
    have HP := Lib.hid (positions_any h hs hr)
    have HR := Lib.hid hr; clear hr h
    go_enter Try.func30, Try.ntmps30
    go_wp2_with fail
    refine (HB.out _).mono ?_; rintro e w1 ⟨v, rfl, hown0, hb1⟩
    obtain ⟨g, cap, rfl, _, hg⟩ := own_form hown0 (by omega)
    have HC1 : Hid (∀ i, i ≤ rs.length → w1.cell? ⟨g, i, none⟩ = some (.int .i64 (Utf.off rs i))) := Lib.hid (fun i hi => by rw [hown0.cellAt i (by omega), bounds_get _ _ _ (by omega)])
    clear hown0
    go_wp2_with fail
    refine (HP.out g cap _ hg HC1.out).mono ?_; rintro e w2 ⟨v2, rfl, hown2, hb2⟩
    obtain ⟨g2, cap2, rfl, _, hg2⟩ := own_form hown2 (by omega)
    have HC : Hid (∀ i, i ≤ rs.length → w2.cell? ⟨g, i, none⟩ = some (.int .i64 (Utf.off rs i))) := Lib.hid (fun i hi => (hb2.cell (p := ⟨g, i, none⟩) hg).trans (HC1.out i hi))
    have HD : Hid (∀ i, i ≤ rs.length → w2.cell? ⟨g2, i * 2, none⟩ = some (.int .i64 (posOf (rs.take i)).1) ∧ w2.cell? ⟨g2, i * 2 + 1, none⟩ = some (.int .i64 (posOf (rs.take i)).2)) :=
      Lib.hid (fun i hi => ⟨by rw [hown2.cellAt _ (by omega), (poses_get _ _ _ (by omega)).1], by rw [hown2.cellAt _ (by omega), (poses_get _ _ _ (by omega)).2]⟩)
    clear hown2 HC1
    have hw2 := ((Whole.new w 48 #[.int .i64 0, .int .i64 0]).below hb1 (by simp)).below hb2 (by have := hb1.size; simp at this; omega)
    have hbb : Below w.heap.size w w2 := ((Below.refl _ _).alloc (Nat.le_refl _) _).trans ((below_then hb1 hb2).mono (by simp))
    clear hb1 hb2
    go_wp2_with fail
    go_loopw [9] (fun i wr => ∃ k : Nat, k ≤ rs.length + 1 ∧ i = .int .i64 k ∧ wr = w2 ∧ Hid (∀ j, j < k → (Utf.off rs j : Int) ≠ a)) (fun i _ => rs.length + 1 - (intOf i).toNat)
    case atStart => exact ⟨0, by omega, rfl, rfl, Lib.hid fun j h => by omega⟩
    case round =>
      obtain ⟨k, hk, rfl, rfl, hno⟩ := hrel
      have cw0 := hw2.c0
      have cw1 := hw2.c1
      have fw := hw2.frozen
      by_cases hlt : k < rs.length + 1
      · have c1 := HC.out k (by omega)
        obtain ⟨c2, c3⟩ := HD.out k (by omega)
        by_cases hf : (Utf.off rs k : Int) = a
        · have t1 : ((Utf.off rs k : Int) == a) = true := by simpa using hf
          have HF := Lib.hid hf; clear hf
          go_wp2
          refine bodyPost_ret (v := .tuple #[.agg #[.int .i64 (posOf (rs.take k)).1, .int .i64 (posOf (rs.take k)).2], .int .i64 0]) (by simp [results, Try.results30, go_sem, (hw2.s2 (.int .i64 (posOf (rs.take k)).1) (.int .i64 (posOf (rs.take k)).2)).c0, (hw2.s2 (.int .i64 (posOf (rs.take k)).1) (.int .i64 (posOf (rs.take k)).2)).c1]) rfl ?_
          exact ⟨_, _, 0, .inr ⟨HR.out, .inl ⟨k, by omega, HF.out, rfl, rfl, rfl⟩⟩, rfl, (hbb.setCell (Nat.le_refl _) _).setCell (Nat.le_refl _) _⟩
        · have t1 : ((Utf.off rs k : Int) == a) = false := by simpa using hf
          have HF := Lib.hid hf; clear hf
          go_wp2
          go_roundw
          case rel => exact ⟨k + 1, by omega, by go_num, by trivial, Lib.hid fun j hj => by
            rcases Nat.lt_or_ge j k with h | h
            · exact hno.out j h
            · obtain rfl : j = k := by omega
              exact HF.out⟩
          case measure => simp [intOf]; omega
      · obtain rfl : k = rs.length + 1 := by omega
        go_wp2
        refine bodyPost_ret (v := .tuple #[.agg #[.int .i64 0, .int .i64 0], .int .i64 2]) (by simp [results, Try.results30, go_sem, (hw2.s2 (.int .i64 0) (.int .i64 0)).c0, (hw2.s2 (.int .i64 0) (.int .i64 0)).c1]) rfl ?_
        exact ⟨0, 0, 2, .inr ⟨HR.out, .inr ⟨fun k hk => hno.out k (by omega), rfl, rfl, rfl⟩⟩, rfl, (hbb.setCell (Nat.le_refl _) _).setCell (Nat.le_refl _) _⟩
  · rw [decide_eq_false hr] at HB
    have HR := Lib.hid hr; clear hr h
    go_enter Try.func30, Try.ntmps30
    go_wp2_with fail
    refine (HB.out _).mono ?_; rintro e w1 ⟨v, rfl, hown0, hb1⟩
    clear hown0
    have hw1 := (Whole.new w 48 #[.int .i64 0, .int .i64 0]).below hb1 (by simp)
    have hbb : Below w.heap.size w w1 := ((Below.refl _ _).alloc (Nat.le_refl _) _).trans (hb1.mono (by simp))
    have cw0 := hw1.c0
    have cw1 := hw1.c1
    have fw := hw1.frozen
    go_wp2_with fail
    refine bodyPost_ret (v := .tuple #[.agg #[.int .i64 0, .int .i64 0], .int .i64 5]) (by simp [results, Try.results30, go_sem, (hw1.s2 (.int .i64 0) (.int .i64 0)).c0, (hw1.s2 (.int .i64 0) (.int .i64 0)).c1]) rfl ?_
    exact ⟨0, 0, 5, .inl ⟨HR.out, rfl, rfl, rfl⟩, rfl, (hbb.setCell (Nat.le_refl _) _).setCell (Nat.le_refl _) _⟩
end Go.Proofs.Ytjokidcjjfdkpaa
