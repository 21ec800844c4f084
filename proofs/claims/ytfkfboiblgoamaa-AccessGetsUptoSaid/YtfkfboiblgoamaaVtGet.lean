/- Paths: access.Get, access.Has; the law's alike. -/
import Derived.Test.YtfkfboiblgoamaaVtAt
import Derived.Test.YtfkfboiblgoamaaVtSize
import Derived.Test.YtfkfboiblgoamaaVtSameW
namespace Go.Proofs.Ytfkfboiblgoamaa
open Go.RowKit

/-- The value of which everything is zero. -/
def Vt.z : Vt := .mk Vh.zero (fun _ => 0) (fun _ => .nil) (fun _ => ByteArray.empty) (fun _ => .nil)
theorem Vt.z_in (W : World) (top : Nat) : Vt.z.In W top := by
  refine ⟨⟨?_, ?_, ?_, ?_, ?_, ?_, ?_, ?_, ?_, ?_, ?_⟩, fun h => absurd h (Nat.lt_irrefl _), fun i h => absurd h (Nat.not_lt_zero _), fun h => absurd h (Nat.lt_irrefl _), fun i h => absurd h (Nat.not_lt_zero _), fun h => absurd h (Nat.lt_irrefl _), fun i h => absurd h (Nat.not_lt_zero _)⟩ <;> simp [Vh.zero, w64, ByteArray.size]
theorem Vt.z_same : Vt.z.Same Vt.z := Vt.Same.rfl' (Vt.In.whole (Vt.z_in default 0))
theorem Vt.upto_part {T : Vt} {d : Nat} {s : Stp} (h : T.upto d) (h0 : (T.find s).2 = 0) : (T.part (T.find s).1.toNat).upto d := by
  obtain ⟨i, e, hc⟩ := Vt.find_ok h0
  rw [e, Int.toNat_natCast]
  cases T with
  | nil => unfold Vt.part; split <;> trivial
  | mk g Y L K F =>
    unfold Vt.part
    rcases hc with ⟨_, k6, hi, _⟩ | ⟨_, k7, hi, _⟩
    · rw [if_pos k6]; exact Vt.upto_le (h.2.1 i hi) (Nat.sub_le _ _)
    · rw [if_neg (by rw [k7]; decide)]; exact Vt.upto_le (h.2.2 i hi) (Nat.sub_le _ _)
theorem Vt.upto_at {T : Vt} {d : Nat} (h : T.upto d) (S : Nat → Stp) : ∀ n, (T.atN S n).1.upto d := by
  intro n
  induction n with
  | zero => exact h
  | succ n ih =>
    unfold Vt.atN
    split
    · exact ih
    split
    · exact ih
    · rename_i _ hq
      exact Vt.upto_part ih (Classical.byContradiction hq)
/-- What access.Get answers. -/
def GetOut (T : Vt) (S : Nat → Stp) (n : Nat) (w : World) (e : Ending) (w' : World) : Prop :=
  ∃ X : Vt, e = .returned (.tuple #[.agg #[.int .i64 X.h.k, .bool X.h.b, .bool X.h.n, .string X.h.d, .int .i64 X.h.e, .int .i64 X.h.tk, .int .i64 X.h.td, .int .i64 X.h.tn, .int .i64 X.h.tz, .string X.h.x, .slice X.h.ba X.h.bn X.h.bc, .slice X.h.la X.h.ln X.h.lc, .slice X.h.fa X.h.fn X.h.fc], .int .i64 (T.getV S n).2]) ∧
    X.In w' w'.heap.size ∧ ((T.getV S n).2 = 0 → X.Same (T.getV S n).1) ∧ ((T.getV S n).2 ≠ 0 → X = .z) ∧ Below w.heap.size w w'
theorem get_arg {T : Vt} {S : Nat → Stp} {n : Nat} (h : pathB S n = false) : T.getV S n = (.nil, 1) := by unfold Vt.getV; rw [if_neg (by simp [h])]
theorem get_val {T : Vt} {S : Nat → Stp} {n : Nat} (h : pathB S n = true) : T.getV S n = T.get S n := by unfold Vt.getV; rw [if_pos h]
set_option maxHeartbeats 8000000 in
set_option maxRecDepth 100000 in
theorem aget_any {T : Vt} {p : Pth} {top : Nat} {w : World} (hT : T.In w top) (hp : p.In w top) (ht : top ≤ w.heap.size) (hu : T.upto 48) :
    Calls Try.prog 18 #[.agg T.h.cells, .slice p.a p.n p.c] w (GetOut T p.S p.n w) := by
  have hb0 := ((Below.refl w.heap.size w).alloc (Nat.le_refl _) (.cells T.h.cells 30)).alloc (by simp) (.cells Vh.zero.cells 30)
  have P := (Whole.new w 30 T.h.cells).alloc (.cells Vh.zero.cells 30)
  have Q := Whole.new (w.alloc (.cells T.h.cells 30)) 30 Vh.zero.cells
  rw [World.size_alloc] at Q
  have HV := Lib.hid (fun (w1 : World) (hb : Below w.heap.size w w1) => pvalid_any (Pth.In.below hp (hb.mono ht)) (Nat.le_trans ht hb.size))
  have HAt := Lib.hid (fun (w1 : World) (hb : Below w.heap.size w w1) => at_any (Vt.In.below (hb.mono ht) hT) (Pth.In.below hp (hb.mono ht)) (Nat.le_trans ht hb.size))
  have HCo := Lib.hid (fun (h0 : (T.atN p.S p.n).2 = 0) (w1 : World) (hb : Below w.heap.size w w1) => copy_any (Vt.In.below (hb.mono ht) (Vt.In.atN hT p.S p.n)) (Nat.le_trans ht hb.size) (Vt.upto_le (Vt.upto_at hu p.S p.n) (by decide)))
  obtain ⟨B, hB⟩ : ∃ B, pathB p.S p.n = B := ⟨_, rfl⟩
  rw [hB] at HV
  have HB := Lib.hid hB
  clear hB hT hp hu
  simp only [Vh.cells, Vh.zero] at hb0 Q HAt ⊢
  cases B
  · have hone := Lib.hid (vh_all Vh.zero)
    have HE : Hid (∀ w', Below w.heap.size w w' → GetOut T p.S p.n w (.returned (.tuple #[.agg Vh.zero.cells, .int .i64 1])) w') := Lib.hid fun w' hb => by
      refine ⟨.z, by rw [get_arg HB.out]; rfl, Vt.z_in _ _, fun h => ?_, fun _ => rfl, hb⟩
      rw [get_arg HB.out] at h
      cases h
    clear HAt HCo HB
    go_enter Try.func18, Try.ntmps18
    go_wp2_with fail
    refine (HV.out _ hb0).mono ?_; rintro _ w1 ⟨rfl, hb1⟩
    have Q1 := Q.below hb1 Q.lt
    go_wp2_with (refine wpList_store_row rfl 30 _ _ rfl (w.heap.size + 1) Vh.zero.cells rfl rfl 30 _ Q1 vh_row rfl hone.out ?_)
    exact bodyPost_ret (v := .tuple #[.agg Vh.zero.cells, .int .i64 1]) (ret_val2 (p := 4) (q := 5) rfl rfl (Q1.setRow Vh.zero.cells)) rfl (HE.out _ (below_setRow (below_then hb0 hb1) (Nat.le_succ _) _))
  have HG := Lib.hid (get_val (T := T) HB.out)
  clear HB
  by_cases h0 : (T.atN p.S p.n).2 = 0
  · have HC2 := Lib.hid (HCo.out h0)
    have e2 : T.get p.S p.n = ((T.atN p.S p.n).1, 0) := by unfold Vt.get; rw [if_pos h0, ← h0]
    rw [e2] at HAt HG
    clear HCo h0 e2
    generalize (T.atN p.S p.n).1 = U at *
    have HE : Hid (∀ (X : Vt) (w' : World), X.In w' w'.heap.size → X.Same U → Below w.heap.size w w' → GetOut T p.S p.n w (.returned (.tuple #[.agg X.h.cells, .int .i64 0])) w') := Lib.hid fun X w' h1 h2 hb => by
      refine ⟨X, by rw [HG.out]; rfl, h1, fun _ => ?_, fun h => ?_, hb⟩
      · rw [HG.out]; exact h2
      · rw [HG.out] at h; exact absurd rfl h
    clear HG
    go_enter Try.func18, Try.ntmps18
    go_wp2_with fail
    refine (HV.out _ hb0).mono ?_; rintro _ w1 ⟨rfl, hb1⟩
    have g1 := below_then hb0 hb1
    have P1 := P.below hb1 P.lt
    have Q1 := Q.below hb1 Q.lt
    obtain ⟨c0, c1, c2, c3, c4, c5, c6, c7, c8, c9, c10, c11, c12⟩ := Whole.c13 (h := T.h) P1
    go_wp2_with fail
    refine (HAt.out _ g1).mono ?_; rintro _ w2 ⟨rfl, hb2⟩
    have g2 := below_then g1 hb2
    have Q2 := Q1.below hb2 Q1.lt
    have gA := g2.alloc (by have := Q2.lt; omega) (.cells U.h.cells 30)
    have QA := Q2.alloc (.cells U.h.cells 30)
    clear c0 c1 c2 c3 c4 c5 c6 c7 c8 c9 c10 c11 c12 P P1 Q Q1 hb0 hb1 hb2 g1 Q2
    simp only [Vh.cells] at gA QA HC2
    go_wp2_with fail
    refine (HC2.out _ gA).mono ?_; rintro _ w3 ⟨X, rfl, hX, hXo, hXs, hb3⟩
    have Q3 := QA.below hb3 QA.lt
    have g3 := below_then gA hb3
    have hone := Lib.hid (vh_all X.h)
    have hX2 := Lib.hid (hX.stays hXo (W' := w3.setRow (w.heap.size + 1) X.h.cells) (fun b hb => setRow_other _ _ _ _ (by have h1 : _ ≤ b := hb; have := QA.lt; simp at h1 this; omega)) (by rw [size_setRow]; omega))
    have hXs2 := Lib.hid hXs
    clear hX hXo hXs QA gA g2
    go_wp2_with (refine wpList_store_row rfl 30 _ _ rfl (w.heap.size + 1) X.h.cells rfl rfl 30 _ Q3 vh_row rfl hone.out ?_)
    exact bodyPost_ret (v := .tuple #[.agg X.h.cells, .int .i64 0]) (ret_val2 (p := 4) (q := 5) rfl rfl (Q3.setRow X.h.cells)) rfl (HE.out X _ hX2.out hXs2.out (below_setRow g3 (Nat.le_succ _) _))
  · have e2 : T.get p.S p.n = (.nil, (T.atN p.S p.n).2) := by unfold Vt.get; rw [if_neg h0]
    rw [e2] at HAt HG
    have H0 := Lib.hid h0
    have z1 : ((T.atN p.S p.n).2 == 0) = false := beq_eq_false_iff_ne.2 h0
    have z2 : ((T.atN p.S p.n).2 != 0) = true := by simpa using h0
    clear HCo h0 e2
    generalize (T.atN p.S p.n).2 = E at *
    have HE : Hid (∀ (w' : World), Below w.heap.size w w' → GetOut T p.S p.n w (.returned (.tuple #[.agg Vh.zero.cells, .int .i64 E])) w') := Lib.hid fun w' hb => by
      refine ⟨.z, by rw [HG.out]; rfl, Vt.z_in _ _, fun h => ?_, fun _ => rfl, hb⟩
      rw [HG.out] at h
      exact absurd h H0.out
    have hone := Lib.hid (vh_all Vh.zero)
    clear HG H0
    have en : (Vt.nil.h) = Vh.zero := rfl
    simp only [en, Vh.zero] at HAt
    go_enter Try.func18, Try.ntmps18
    go_wp2_with fail
    refine (HV.out _ hb0).mono ?_; rintro _ w1 ⟨rfl, hb1⟩
    have g1 := below_then hb0 hb1
    have P1 := P.below hb1 P.lt
    have Q1 := Q.below hb1 Q.lt
    obtain ⟨c0, c1, c2, c3, c4, c5, c6, c7, c8, c9, c10, c11, c12⟩ := Whole.c13 (h := T.h) P1
    clear en
    go_wp2_with fail
    refine (HAt.out _ g1).mono ?_; rintro _ w2 ⟨rfl, hb2⟩
    have g2 := below_then g1 hb2
    have Q2 := Q1.below hb2 Q1.lt
    have gA := g2.alloc (by have := Q2.lt; omega) (.cells Vh.zero.cells 30)
    have QA := Q2.alloc (.cells Vh.zero.cells 30)
    clear c0 c1 c2 c3 c4 c5 c6 c7 c8 c9 c10 c11 c12 P P1 Q Q1 hb0 hb1 hb2 g1 Q2
    simp only [Vh.cells, Vh.zero] at gA QA
    go_wp2_with (refine wpList_store_row rfl 30 _ _ rfl (w.heap.size + 1) Vh.zero.cells rfl rfl 30 _ QA vh_row rfl hone.out ?_)
    exact bodyPost_ret (v := .tuple #[.agg Vh.zero.cells, .int .i64 E]) (ret_val2 (p := 4) (q := 5) rfl rfl (Whole.setRow QA Vh.zero.cells)) rfl (HE.out _ (below_setRow gA (Nat.le_succ _) _))
set_option maxHeartbeats 8000000 in
set_option maxRecDepth 100000 in
theorem has_any {T : Vt} {p : Pth} {top : Nat} {w : World} (hT : T.In w top) (hp : p.In w top) (ht : top ≤ w.heap.size) :
    Calls Try.prog 20 #[.agg T.h.cells, .slice p.a p.n p.c] w fun r w' => r = .returned (.bool ((T.getV p.S p.n).2 == 0)) ∧ Below w.heap.size w w' := by
  have hb0 := (Below.refl w.heap.size w).alloc (Nat.le_refl _) (.cells T.h.cells 30)
  have P := Whole.new w 30 T.h.cells
  have HV := Lib.hid (fun (w1 : World) (hb : Below w.heap.size w w1) => pvalid_any (Pth.In.below hp (hb.mono ht)) (Nat.le_trans ht hb.size))
  have HAt := Lib.hid (fun (w1 : World) (hb : Below w.heap.size w w1) => at_any (Vt.In.below (hb.mono ht) hT) (Pth.In.below hp (hb.mono ht)) (Nat.le_trans ht hb.size))
  obtain ⟨B, hB⟩ : ∃ B, pathB p.S p.n = B := ⟨_, rfl⟩
  rw [hB] at HV
  have HB := Lib.hid hB
  clear hB hT hp
  simp only [Vh.cells] at hb0 HAt ⊢
  cases B
  · rw [get_arg HB.out]
    clear HAt HB
    go_enter Try.func20, Try.ntmps20
    go_wp2_with fail
    refine (HV.out _ hb0).mono ?_; rintro _ w1 ⟨rfl, hb1⟩
    go_wp2
    go_ret
    exact ⟨rfl, below_then hb0 hb1⟩
  rw [get_val HB.out]
  clear HB
  generalize hR : T.get p.S p.n = R at *
  clear hR
  obtain ⟨U, E⟩ := R
  dsimp only at HAt ⊢
  go_enter Try.func20, Try.ntmps20
  go_wp2_with fail
  refine (HV.out _ hb0).mono ?_; rintro _ w1 ⟨rfl, hb1⟩
  have g1 := below_then hb0 hb1
  have P1 := P.below hb1 P.lt
  obtain ⟨c0, c1, c2, c3, c4, c5, c6, c7, c8, c9, c10, c11, c12⟩ := Whole.c13 (h := T.h) P1
  go_wp2_with fail
  refine (HAt.out _ g1).mono ?_; rintro _ w2 ⟨rfl, hb2⟩
  have g2 := below_then g1 hb2
  have gA := g2.alloc (by have := P1.lt; have := hb2.size; omega) (.cells U.h.cells 30)
  clear c0 c1 c2 c3 c4 c5 c6 c7 c8 c9 c10 c11 c12
  simp only [Vh.cells] at gA
  go_wp2_with fail
  go_ret
  exact ⟨rfl, gA⟩
set_option maxHeartbeats 8000000 in
set_option maxRecDepth 100000 in
theorem alike_any {A B : Vt} {e f : Int} {top : Nat} {w : World} (hA : A.In w top) (hB : B.In w top) (ht : top ≤ w.heap.size) :
    Calls Try.prog 19 #[.agg A.h.cells, .int .i64 e, .agg B.h.cells, .int .i64 f] w fun r w' => r = .returned (.bool (e == f && sameB A B)) ∧ Below w.heap.size w w' := by
  have hb0 := ((Below.refl w.heap.size w).alloc (Nat.le_refl _) (.cells A.h.cells 30)).alloc (by simp) (.cells B.h.cells 30)
  have HS := Lib.hid (same_any A B top _ (Vt.In.below (hb0.mono ht) hA) (Vt.In.below (hb0.mono ht) hB) (Nat.le_trans ht hb0.size))
  clear hA hB
  generalize sameB A B = S at *
  simp only [Vh.cells] at hb0 HS ⊢
  by_cases c : e = f
  · subst c
    have e1 : (e == e && S) = S := by simp
    rw [e1]
    clear e1
    go_enter Try.func19, Try.ntmps19
    go_wp2_with fail
    refine HS.out.mono ?_; rintro _ w1 ⟨rfl, hb1⟩
    go_wp2
    go_ret
    exact ⟨rfl, below_then hb0 hb1⟩
  · have d1 : (e == f) = false := beq_eq_false_iff_ne.2 c
    rw [show (e == f && S) = false by rw [d1]; rfl]
    clear HS c
    go_enter Try.func19, Try.ntmps19
    go_wp2_with fail
    go_ret
    exact ⟨rfl, hb0⟩
end Go.Proofs.Ytfkfboiblgoamaa
