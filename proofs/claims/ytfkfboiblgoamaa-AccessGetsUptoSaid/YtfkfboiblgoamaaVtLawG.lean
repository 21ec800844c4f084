/- The law of Get, walked. -/
import Derived.Test.YtfkfboiblgoamaaVtGet
namespace Go.Proofs.Ytfkfboiblgoamaa
open Go.RowKit

theorem getV_tree {W : World} {top : Nat} {T : Vt} (hT : T.In W top) (S : Nat → Stp) (n : Nat) : ∃ U : Vt, U.In W top ∧ U.h = (T.getV S n).1.h ∧ ∀ X : Vt, ((T.getV S n).2 = 0 → X.Same (T.getV S n).1) → ((T.getV S n).2 ≠ 0 → X = .z) → X.Same U := by
  by_cases h : (T.getV S n).2 = 0
  · cases hB : pathB S n with
    | false => rw [get_arg hB] at h; cases h
    | true =>
      rw [get_val hB] at h ⊢
      obtain ⟨h1, h2⟩ := Vt.get_ok h
      refine ⟨(T.atN S n).1, Vt.In.atN hT S n, by rw [h2], fun X h3 _ => ?_⟩
      have := h3 h
      rw [h2] at this
      exact this
  · refine ⟨.z, Vt.z_in _ _, ?_, fun X _ h4 => by rw [h4 h]; exact Vt.z_same⟩
    cases hB : pathB S n with
    | false => rw [get_arg hB]; rfl
    | true =>
      rw [get_val hB] at h ⊢
      unfold Vt.get at h ⊢
      split at h
      · rename_i q; exact absurd q h
      · rename_i q; rw [if_neg q]; rfl
set_option maxHeartbeats 8000000 in
set_option maxRecDepth 100000 in
theorem walk_AccessGets (W : World) (T : Vt) (hT : T.In W W.heap.size) (p : Pth) (hp : p.In W W.heap.size) :
    Calls Try.prog 5 #[.agg T.h.cells, .slice p.a p.n p.c] W fun e W' => e = .returned (.bool true) ∧ Below W.heap.size W W' := by
  have hb0 := (Below.refl W.heap.size W).alloc (Nat.le_refl _) (.cells T.h.cells 30)
  have P := Whole.new W 30 T.h.cells
  have HV := Lib.hid (fun (w1 : World) (hb : Below W.heap.size W w1) => lvalid_any (Vt.In.below hb hT) hb.size)
  obtain ⟨B, hB⟩ : ∃ B, vldB T = B := ⟨_, rfl⟩
  rw [hB] at HV
  cases B
  · clear hT hp hB
    simp only [Vh.cells] at hb0 HV ⊢
    go_enter Try.func5, Try.ntmps5
    go_wp2_with fail
    refine (HV.out _ hb0).mono ?_; rintro _ w1 ⟨rfl, hb1⟩
    go_wp2
    go_ret
    exact ⟨rfl, below_then hb0 hb1⟩
  obtain ⟨_, hu, _⟩ := valid_parts hT.whole hB
  have HG := Lib.hid (fun (w1 : World) (hb : Below W.heap.size W w1) => aget_any (Vt.In.below hb hT) (Pth.In.below hp hb) hb.size hu)
  have HR := Lib.hid (fun (w1 : World) (hb : Below W.heap.size W w1) => rget_any (Vt.In.below hb hT) (Pth.In.below hp hb) hb.size)
  have HH := Lib.hid (fun (w1 : World) (hb : Below W.heap.size W w1) => has_any (Vt.In.below hb hT) (Pth.In.below hp hb) hb.size)
  obtain ⟨U, hU, hUh, hUs⟩ := getV_tree hT p.S p.n
  have HU := Lib.hid hU
  have HUs := Lib.hid hUs
  unfold GetOut at HG
  rw [← hUh] at HR
  clear hT hp hB hu hU hUh hUs
  generalize (T.getV p.S p.n).2 = E at *
  simp only [Vh.cells] at hb0 HV HR HH HG ⊢
  go_enter Try.func5, Try.ntmps5
  go_wp2_with fail
  refine (HV.out _ hb0).mono ?_; rintro _ w1 ⟨rfl, hb1⟩
  have g1 := below_then hb0 hb1
  have P1 := P.below hb1 P.lt
  obtain ⟨c0, c1, c2, c3, c4, c5, c6, c7, c8, c9, c10, c11, c12⟩ := Whole.c13 (h := T.h) P1
  go_wp2_with fail
  refine (HG.out _ g1).mono ?_; rintro _ w2 ⟨X, rfl, hX, hX1, hX2, hb2⟩
  have g2 := below_then g1 hb2
  have hXU := Lib.hid (HUs.out X hX1 hX2)
  have P2 := (P1.below hb2 P1.lt).alloc (.cells X.h.cells 30)
  have gA := g2.alloc g2.size (.cells X.h.cells 30)
  have XA := Whole.new w2 30 X.h.cells
  have hXA := Lib.hid (hX.later ((Below.refl _ w2).alloc (Nat.le_refl _) (.cells X.h.cells 30)))
  clear c0 c1 c2 c3 c4 c5 c6 c7 c8 c9 c10 c11 c12 HUs hX1 hX2 hX hb0 hb1 P P1 HV HG g1 g2
  have q1 := P2.lt
  have q2 := XA.lt
  obtain ⟨c0, c1, c2, c3, c4, c5, c6, c7, c8, c9, c10, c11, c12⟩ := Whole.c13 (h := T.h) P2
  simp only [Vh.cells] at gA c0 c1 c2 c3 c4 c5 c6 c7 c8 c9 c10 c11 c12 XA hXA P2 q1 q2
  go_wp2_with fail
  refine (HR.out _ gA).mono ?_; rintro _ w3 ⟨rfl, hb3⟩
  clear c0 c1 c2 c3 c4 c5 c6 c7 c8 c9 c10 c11 c12
  have g3 := below_then gA hb3
  have P3 := (P2.below hb3 q1).alloc (.cells U.h.cells 30)
  have X3 := (XA.below hb3 q2).alloc (.cells U.h.cells 30)
  have gB := g3.alloc g3.size (.cells U.h.cells 30)
  have hXB := hXA.out.later (hb3.alloc hb3.size (.cells U.h.cells 30))
  have HAl := Lib.hid (alike_any (e := E) (f := E) hXB ((Vt.In.below gB HU.out).up gB.size) (Nat.le_refl _))
  have hS : sameB X U = true := sameB_iff.2 hXU.out
  rw [hS] at HAl
  have hE : (E == E && true) = true := by simp
  rw [hE] at HAl
  clear hS hE hXB hXA hXU HU g3 gA hb3 hb2 XA P2 q1 q2
  obtain ⟨c0, c1, c2, c3, c4, c5, c6, c7, c8, c9, c10, c11, c12⟩ := Whole.c13 (h := X.h) X3
  have q3 := P3.lt
  simp only [Vh.cells] at gB HAl P3 c0 c1 c2 c3 c4 c5 c6 c7 c8 c9 c10 c11 c12 q3
  go_wp2_with fail
  refine HAl.out.mono ?_; rintro _ w4 ⟨rfl, hb4⟩
  have g4 := below_then gB hb4
  have P4 := P3.below hb4 q3
  clear c0 c1 c2 c3 c4 c5 c6 c7 c8 c9 c10 c11 c12 HAl P3 X3 gB
  obtain ⟨c0, c1, c2, c3, c4, c5, c6, c7, c8, c9, c10, c11, c12⟩ := Whole.c13 (h := T.h) P4
  go_wp2_with fail
  refine (HH.out _ g4).mono ?_; rintro _ w5 ⟨rfl, hb5⟩
  clear c0 c1 c2 c3 c4 c5 c6 c7 c8 c9 c10 c11 c12
  go_wp2
  go_ret
  exact ⟨by simp, below_then g4 hb5⟩
end Go.Proofs.Ytfkfboiblgoamaa
