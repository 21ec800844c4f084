/- Laid together for a claim: VtLawI. -/
import Derived.Test.YtfkfboiblgoamaaDoorQI07
import Derived.Test.YtfkfboiblgoamaaDoorQB18
import Derived.Test.YtfkfboiblgoamaaDoorQB17
/- The law of Inserts, walked. -/
namespace Go.Proofs.YtfkfboiblgoamaaDoor
open Go.RowKit
set_option linter.unusedSimpArgs false
set_option linter.unusedVariables false

theorem res_alikeInserts {R : Vt × Int} {X U : Vt} (h0 : R.2 = 0 → X.Same R.1) (h1 : R.2 ≠ 0 → X = .z) (k0 : R.2 = 0 → U.Same R.1) (k1 : R.2 ≠ 0 → U = .z) : X.Same U := by
  by_cases e : R.2 = 0
  · exact (h0 e).trans (k0 e).symm
  · rw [h1 e, k1 e]; exact Vt.z_same

set_option maxHeartbeats 8000000 in
set_option maxRecDepth 100000 in
theorem walk_AccessInserts (W : World) (T : Vt) (hT : T.In W W.heap.size) (p : Pth) (hp : p.In W W.heap.size) (X0 : Vt) (hXT : X0.In W W.heap.size) :
    Calls Tryd.prog 4 #[.agg T.h.cells, .slice p.a p.n p.c, .agg X0.h.cells] W fun e W' => e = .returned (.bool true) ∧ Below W.heap.size W W' := by
  have hb0 := ((Below.refl W.heap.size W).alloc (Nat.le_refl _) (.cells T.h.cells 30)).alloc (by simp) (.cells X0.h.cells 30)
  have P := (Whole.new W 30 T.h.cells).alloc (.cells X0.h.cells 30)
  have XX := Whole.new (W.alloc (.cells T.h.cells 30)) 30 X0.h.cells
  rw [World.size_alloc] at XX
  have HV := Lib.hid (fun (w1 : World) (hb : Below W.heap.size W w1) => lvalid_any (Vt.In.below hb hT) hb.size)
  obtain ⟨B, hB⟩ : ∃ B, vldB T = B := ⟨_, rfl⟩
  rw [hB] at HV
  have HVx := Lib.hid (fun (w1 : World) (hb : Below W.heap.size W w1) => lvalid_any (Vt.In.below hb hXT) hb.size)
  obtain ⟨Bx, hBx⟩ : ∃ B, vldB X0 = B := ⟨_, rfl⟩
  rw [hBx] at HVx
  cases B
  · clear hT hp hB HVx hXT hBx
    simp only [Vh.cells] at hb0 HV ⊢
    go_enter Tryd.func4, Tryd.ntmps4
    go_wp2_with fail
    refine (HV.out _ hb0).mono ?_; rintro _ w1 ⟨rfl, hb1⟩
    go_wp2
    go_ret
    exact ⟨rfl, below_then hb0 hb1⟩
  cases Bx
  · clear hT hp hB hXT hBx
    simp only [Vh.cells] at hb0 HV HVx XX ⊢
    go_enter Tryd.func4, Tryd.ntmps4
    go_wp2_with fail
    refine (HV.out _ hb0).mono ?_; rintro _ w1 ⟨rfl, hb1⟩
    have g1 := below_then hb0 hb1
    have X1 := Whole.below XX hb1 (Whole.lt XX)
    obtain ⟨x0, x1, x2, x3, x4, x5, x6, x7, x8, x9, x10, x11, x12⟩ := Whole.c13 (h := X0.h) X1
    go_wp2_with fail
    refine (HVx.out _ g1).mono ?_; rintro _ w2 ⟨rfl, hb2⟩
    clear x0 x1 x2 x3 x4 x5 x6 x7 x8 x9 x10 x11 x12
    go_wp2
    go_ret
    exact ⟨rfl, below_then g1 hb2⟩
  obtain ⟨hgx, hux, hszx⟩ := valid_parts hXT.whole hBx
  have hszx : X0.size ≤ 65536 := by omega
  obtain ⟨hg, hu, hsz⟩ := valid_parts hT.whole hB
  have hsz : T.size ≤ 65536 := by omega
  have HG := Lib.hid (fun (w1 : World) (hb : Below W.heap.size W w1) => ains_any (Vt.In.below hb hT) (Vt.In.below hb hXT) (Pth.In.below hp hb) hb.size hg hu hsz)
  have HR := Lib.hid (fun (w1 : World) (hb : Below W.heap.size W w1) => rins_any (Vt.In.below hb hT) (Vt.In.below hb hXT) (Pth.In.below hp hb) hb.size hg hsz)
  obtain ⟨R, hR⟩ : ∃ R, T.insV p.S p.n X0 = R := ⟨_, rfl⟩
  rw [hR] at HG HR
  clear hR hT hp hB hu hg hsz hXT hBx hgx hux hszx
  simp only [Vh.cells] at hb0 HV HVx XX HR HG ⊢
  go_enter Tryd.func4, Tryd.ntmps4
  go_wp2_with fail
  refine (HV.out _ hb0).mono ?_; rintro _ w0 ⟨rfl, hb1⟩
  have g0 := below_then hb0 hb1
  have P0 := Whole.below P hb1 (Whole.lt P)
  have Xq := Whole.below XX hb1 (Whole.lt XX)
  clear P XX hb0 hb1
  obtain ⟨x0, x1, x2, x3, x4, x5, x6, x7, x8, x9, x10, x11, x12⟩ := Whole.c13 (h := X0.h) Xq
  go_wp2_with fail
  refine (HVx.out _ g0).mono ?_; rintro _ w1 ⟨rfl, hb1⟩
  have g1 := below_then g0 hb1
  have P1 := Whole.below P0 hb1 (Whole.lt P0)
  have X1 := Whole.below Xq hb1 (Whole.lt Xq)
  clear g0 P0 Xq hb1 x0 x1 x2 x3 x4 x5 x6 x7 x8 x9 x10 x11 x12
  obtain ⟨x0, x1, x2, x3, x4, x5, x6, x7, x8, x9, x10, x11, x12⟩ := Whole.c13 (h := X0.h) X1
  obtain ⟨c0, c1, c2, c3, c4, c5, c6, c7, c8, c9, c10, c11, c12⟩ := Whole.c13 (h := T.h) P1
  go_wp2_with fail
  refine (HG.out _ g1).mono ?_; rintro _ w2 ⟨X, rfl, hX, -, hX0, hX1, hb2⟩
  have g2 := below_then g1 hb2
  have P2 := (P1.below hb2 P1.lt).alloc (.cells X.h.cells 30)
  have X2 := (X1.below hb2 X1.lt).alloc (.cells X.h.cells 30)
  have gA := g2.alloc g2.size (.cells X.h.cells 30)
  have XA := Whole.new w2 30 X.h.cells
  have hXA := Lib.hid (hX.later ((Below.refl _ w2).alloc (Nat.le_refl _) (.cells X.h.cells 30)))
  have HX0 := Lib.hid hX0
  have HX1 := Lib.hid hX1
  clear c0 c1 c2 c3 c4 c5 c6 c7 c8 c9 c10 c11 c12 hX0 hX1 hX P1 HV HG g1 g2 X1 HVx x0 x1 x2 x3 x4 x5 x6 x7 x8 x9 x10 x11 x12
  have q1 := P2.lt
  have q2 := XA.lt
  obtain ⟨c0, c1, c2, c3, c4, c5, c6, c7, c8, c9, c10, c11, c12⟩ := Whole.c13 (h := T.h) P2
  obtain ⟨x0, x1, x2, x3, x4, x5, x6, x7, x8, x9, x10, x11, x12⟩ := Whole.c13 (h := X0.h) X2
  simp only [Vh.cells] at gA XA hXA P2 q1 q2 c0 c1 c2 c3 c4 c5 c6 c7 c8 c9 c10 c11 c12 X2 x0 x1 x2 x3 x4 x5 x6 x7 x8 x9 x10 x11 x12
  go_wp2_with fail
  refine (HR.out _ gA).mono ?_; rintro _ w3 ⟨U, rfl, hU, -, hU0, hU1, hb3⟩
  clear c0 c1 c2 c3 c4 c5 c6 c7 c8 c9 c10 c11 c12 x0 x1 x2 x3 x4 x5 x6 x7 x8 x9 x10 x11 x12
  have g3 := below_then gA hb3
  have X3 := (XA.below hb3 q2).alloc (.cells U.h.cells 30)
  have U3 := Whole.new w3 30 U.h.cells
  have gB := g3.alloc g3.size (.cells U.h.cells 30)
  have hXB := hXA.out.later (hb3.alloc hb3.size (.cells U.h.cells 30))
  have hUB := hU.later ((Below.refl _ w3).alloc (Nat.le_refl _) (.cells U.h.cells 30))
  have HAl := Lib.hid (alike_any (e := R.2) (f := R.2) hXB hUB (Nat.le_refl _))
  have hS : sameB X U = true := sameB_iff.2 (res_alikeInserts HX0.out HX1.out hU0 hU1)
  rw [hS] at HAl
  have hE : (R.2 == R.2 && true) = true := by simp
  rw [hE] at HAl
  clear hS hE hXB hXA hUB hU hU0 hU1 HX0 HX1 HR g3 gA hb3 hb2 XA P2 q1 q2 X2
  obtain ⟨c0, c1, c2, c3, c4, c5, c6, c7, c8, c9, c10, c11, c12⟩ := Whole.c13 (h := X.h) X3
  obtain ⟨u0, u1, u2, u3, u4, u5, u6, u7, u8, u9, u10, u11, u12⟩ := Whole.c13 (h := U.h) U3
  simp only [Vh.cells] at gB HAl c0 c1 c2 c3 c4 c5 c6 c7 c8 c9 c10 c11 c12 u0 u1 u2 u3 u4 u5 u6 u7 u8 u9 u10 u11 u12
  go_wp2_with fail
  refine HAl.out.mono ?_; rintro _ w4 ⟨rfl, hb4⟩
  have g4 := below_then gB hb4
  clear c0 c1 c2 c3 c4 c5 c6 c7 c8 c9 c10 c11 c12 u0 u1 u2 u3 u4 u5 u6 u7 u8 u9 u10 u11 u12 HAl X3 U3 gB
  go_wp2
  go_ret
  exact ⟨rfl, g4⟩
end Go.Proofs.YtfkfboiblgoamaaDoor
