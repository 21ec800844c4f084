/- Laid together for a claim: VtLawT. -/
import Derived.Test.YtfkfboiblgoamaaDoorQY02
import Derived.Test.YtfkfboiblgoamaaDoorQY07
import Derived.Test.YtfkfboiblgoamaaDoorQY08
import Derived.Test.YtfkfboiblgoamaaDoorQB18
import Derived.Test.YtfkfboiblgoamaaDoorQB17
/- The law of Set and Get, walked. -/
namespace Go.Proofs.YtfkfboiblgoamaaDoor
open Go.RowKit
set_option linter.unusedSimpArgs false
set_option linter.unusedVariables false

set_option maxHeartbeats 8000000 in
set_option maxRecDepth 100000 in
theorem sg_v (W : World) (T : Vt) (hT : T.In W W.heap.size) (p : Pth) (hp : p.In W W.heap.size) (X0 : Vt) (hXT : X0.In W W.heap.size) (hB : vldB T = false) :
    Calls Tryd.prog 5 #[.agg T.h.cells, .slice p.a p.n p.c, .agg X0.h.cells] W fun e W' => e = .returned (.bool true) ∧ Below W.heap.size W W' := by
  have hb0 := ((Below.refl W.heap.size W).alloc (Nat.le_refl _) (.cells T.h.cells 30)).alloc (by simp) (.cells X0.h.cells 30)
  have P := (Whole.new W 30 T.h.cells).alloc (.cells X0.h.cells 30)
  have XX := Whole.new (W.alloc (.cells T.h.cells 30)) 30 X0.h.cells
  rw [World.size_alloc] at XX
  have HV := Lib.hid (fun (w1 : World) (hb : Below W.heap.size W w1) => lvalid_any (Vt.In.below hb hT) hb.size)
  have HVx := Lib.hid (fun (w1 : World) (hb : Below W.heap.size W w1) => lvalid_any (Vt.In.below hb hXT) hb.size)
  rw [hB] at HV
  clear hT hp hXT hB HVx
  simp only [Vh.cells] at hb0 HV ⊢
  go_enter Tryd.func5, Tryd.ntmps5
  go_wp2_with fail
  refine (HV.out _ hb0).mono ?_; rintro _ w1 ⟨rfl, hb1⟩
  go_wp2
  go_ret
  exact ⟨rfl, below_then hb0 hb1⟩

set_option maxHeartbeats 8000000 in
set_option maxRecDepth 100000 in
theorem sg_x (W : World) (T : Vt) (hT : T.In W W.heap.size) (p : Pth) (hp : p.In W W.heap.size) (X0 : Vt) (hXT : X0.In W W.heap.size) (hB : vldB T = true) (hBx : vldB X0 = false) :
    Calls Tryd.prog 5 #[.agg T.h.cells, .slice p.a p.n p.c, .agg X0.h.cells] W fun e W' => e = .returned (.bool true) ∧ Below W.heap.size W W' := by
  have hb0 := ((Below.refl W.heap.size W).alloc (Nat.le_refl _) (.cells T.h.cells 30)).alloc (by simp) (.cells X0.h.cells 30)
  have P := (Whole.new W 30 T.h.cells).alloc (.cells X0.h.cells 30)
  have XX := Whole.new (W.alloc (.cells T.h.cells 30)) 30 X0.h.cells
  rw [World.size_alloc] at XX
  have HV := Lib.hid (fun (w1 : World) (hb : Below W.heap.size W w1) => lvalid_any (Vt.In.below hb hT) hb.size)
  have HVx := Lib.hid (fun (w1 : World) (hb : Below W.heap.size W w1) => lvalid_any (Vt.In.below hb hXT) hb.size)
  rw [hB] at HV
  rw [hBx] at HVx
  clear hT hp hXT hB hBx
  simp only [Vh.cells] at hb0 HV HVx XX ⊢
  go_enter Tryd.func5, Tryd.ntmps5
  go_wp2_with fail
  refine (HV.out _ hb0).mono ?_; rintro _ w0 ⟨rfl, hb1⟩
  have g0 := below_then hb0 hb1
  have P0 := Whole.below P hb1 (Whole.lt P)
  have Xq := Whole.below XX hb1 (Whole.lt XX)
  clear P XX hb0 hb1
  obtain ⟨x0, x1, x2, x3, x4, x5, x6, x7, x8, x9, x10, x11, x12⟩ := Whole.c13 (h := X0.h) Xq
  go_wp2_with fail
  refine (HVx.out _ g0).mono ?_; rintro _ w2 ⟨rfl, hb2⟩
  clear x0 x1 x2 x3 x4 x5 x6 x7 x8 x9 x10 x11 x12
  go_wp2
  go_ret
  exact ⟨rfl, below_then g0 hb2⟩

set_option maxHeartbeats 8000000 in
set_option maxRecDepth 100000 in
theorem sg_e (W : World) (T : Vt) (hT : T.In W W.heap.size) (p : Pth) (hp : p.In W W.heap.size) (X0 : Vt) (hXT : X0.In W W.heap.size) (hB : vldB T = true) (hBx : vldB X0 = true) (hE : (T.setV p.S p.n X0).2 ≠ 0) :
    Calls Tryd.prog 5 #[.agg T.h.cells, .slice p.a p.n p.c, .agg X0.h.cells] W fun e W' => e = .returned (.bool true) ∧ Below W.heap.size W W' := by
  have hb0 := ((Below.refl W.heap.size W).alloc (Nat.le_refl _) (.cells T.h.cells 30)).alloc (by simp) (.cells X0.h.cells 30)
  have P := (Whole.new W 30 T.h.cells).alloc (.cells X0.h.cells 30)
  have XX := Whole.new (W.alloc (.cells T.h.cells 30)) 30 X0.h.cells
  rw [World.size_alloc] at XX
  have HV := Lib.hid (fun (w1 : World) (hb : Below W.heap.size W w1) => lvalid_any (Vt.In.below hb hT) hb.size)
  have HVx := Lib.hid (fun (w1 : World) (hb : Below W.heap.size W w1) => lvalid_any (Vt.In.below hb hXT) hb.size)
  rw [hB] at HV
  rw [hBx] at HVx
  obtain ⟨hg, hu, hsz⟩ := valid_parts hT.whole hB
  have hsz : T.size ≤ 65536 := by omega
  obtain ⟨-, hux, -⟩ := valid_parts hXT.whole hBx
  have HG := Lib.hid (fun (w1 : World) (hb : Below W.heap.size W w1) => aset_any (Vt.In.below hb hT) (Vt.In.below hb hXT) (Pth.In.below hp hb) hb.size hg hu hsz hux)
  have HR := Lib.hid (fun (w1 : World) (hb : Below W.heap.size W w1) => rset_any (Vt.In.below hb hT) (Vt.In.below hb hXT) (Pth.In.below hp hb) hb.size hg hsz)
  obtain ⟨R, hR⟩ : ∃ R, T.setV p.S p.n X0 = R := ⟨_, rfl⟩
  rw [hR] at HG HR hE
  have e1 : (R.2 == 0) = false := beq_eq_false_iff_ne.2 hE
  have e2 : (R.2 != 0) = true := bne_iff_ne.2 hE
  clear hR hT hp hB hBx hu hg hsz hXT hE hux
  simp only [Vh.cells] at hb0 HV HVx XX HR HG ⊢
  go_enter Tryd.func5, Tryd.ntmps5
  go_wp2_with fail
  refine (HV.out _ hb0).mono ?_; rintro _ w0 ⟨rfl, hb1⟩
  have g0 := below_then hb0 hb1
  have P0 := Whole.below P hb1 (Whole.lt P)
  have Xq := Whole.below XX hb1 (Whole.lt XX)
  clear P XX hb0 hb1
  obtain ⟨x0, x1, x2, x3, x4, x5, x6, x7, x8, x9, x10, x11, x12⟩ := Whole.c13 (h := X0.h) Xq
  go_wp2_with fail
  refine (HVx.out _ g0).mono ?_; rintro _ w1 ⟨rfl, hb1⟩
  have g1 := below_then g0 hb1
  have P1 := Whole.below P0 hb1 (Whole.lt P0)
  have X1 := Whole.below Xq hb1 (Whole.lt Xq)
  clear g0 P0 Xq hb1 x0 x1 x2 x3 x4 x5 x6 x7 x8 x9 x10 x11 x12
  obtain ⟨c0, c1, c2, c3, c4, c5, c6, c7, c8, c9, c10, c11, c12⟩ := Whole.c13 (h := T.h) P1
  obtain ⟨x0, x1, x2, x3, x4, x5, x6, x7, x8, x9, x10, x11, x12⟩ := Whole.c13 (h := X0.h) X1
  go_wp2_with fail
  refine (HG.out _ g1).mono ?_; rintro _ w2 ⟨A, rfl, hA, -, hA0, -, hb2⟩
  have g2 := below_then g1 hb2
  have P2 := (P1.below hb2 P1.lt).alloc (.cells A.h.cells 30)
  have X2 := (X1.below hb2 X1.lt).alloc (.cells A.h.cells 30)
  have gA := g2.alloc g2.size (.cells A.h.cells 30)
  have AB := Whole.new w2 30 A.h.cells
  have HA := Lib.hid (hA.later ((Below.refl _ w2).alloc (Nat.le_refl _) (.cells A.h.cells 30)))
  have HA0 := Lib.hid hA0
  clear c0 c1 c2 c3 c4 c5 c6 c7 c8 c9 c10 c11 c12 x0 x1 x2 x3 x4 x5 x6 x7 x8 x9 x10 x11 x12 hA0 hA P1 X1 HV HVx HG g1 g2 hb2
  have q1 := P2.lt
  have q2 := AB.lt
  have q3 := X2.lt
  obtain ⟨c0, c1, c2, c3, c4, c5, c6, c7, c8, c9, c10, c11, c12⟩ := Whole.c13 (h := T.h) P2
  obtain ⟨x0, x1, x2, x3, x4, x5, x6, x7, x8, x9, x10, x11, x12⟩ := Whole.c13 (h := X0.h) X2
  simp only [Vh.cells] at gA AB HA P2 X2 q1 q2 q3 c0 c1 c2 c3 c4 c5 c6 c7 c8 c9 c10 c11 c12 x0 x1 x2 x3 x4 x5 x6 x7 x8 x9 x10 x11 x12
  go_wp2_with fail
  refine (HR.out _ gA).mono ?_; rintro _ w3 ⟨U, rfl, hU, -, -, -, hb3⟩
  clear c0 c1 c2 c3 c4 c5 c6 c7 c8 c9 c10 c11 c12 x0 x1 x2 x3 x4 x5 x6 x7 x8 x9 x10 x11 x12
  have g3 := below_then gA hb3
  have P3 := (P2.below hb3 q1).alloc (.cells U.h.cells 30)
  have A3 := (AB.below hb3 q2).alloc (.cells U.h.cells 30)
  have X3 := (X2.below hb3 q3).alloc (.cells U.h.cells 30)
  have gB := g3.alloc g3.size (.cells U.h.cells 30)
  have HA3 := Lib.hid (HA.out.later (hb3.alloc hb3.size (.cells U.h.cells 30)))
  clear HR HA g3 gA hb3 P2 X2 AB hU q1 q2 q3
  simp only [Vh.cells] at gB HA3
  go_wp2
  go_ret
  exact ⟨rfl, gB⟩

set_option maxHeartbeats 8000000 in
set_option maxRecDepth 100000 in
theorem sg_ok (W : World) (T : Vt) (hT : T.In W W.heap.size) (p : Pth) (hp : p.In W W.heap.size) (X0 : Vt) (hXT : X0.In W W.heap.size) (hB : vldB T = true) (hBx : vldB X0 = true) (hE : (T.setV p.S p.n X0).2 = 0) :
    Calls Tryd.prog 5 #[.agg T.h.cells, .slice p.a p.n p.c, .agg X0.h.cells] W fun e W' => e = .returned (.bool true) ∧ Below W.heap.size W W' := by
  have hb0 := ((Below.refl W.heap.size W).alloc (Nat.le_refl _) (.cells T.h.cells 30)).alloc (by simp) (.cells X0.h.cells 30)
  have P := (Whole.new W 30 T.h.cells).alloc (.cells X0.h.cells 30)
  have XX := Whole.new (W.alloc (.cells T.h.cells 30)) 30 X0.h.cells
  rw [World.size_alloc] at XX
  have HV := Lib.hid (fun (w1 : World) (hb : Below W.heap.size W w1) => lvalid_any (Vt.In.below hb hT) hb.size)
  have HVx := Lib.hid (fun (w1 : World) (hb : Below W.heap.size W w1) => lvalid_any (Vt.In.below hb hXT) hb.size)
  rw [hB] at HV
  rw [hBx] at HVx
  obtain ⟨hg, hu, hsz⟩ := valid_parts hT.whole hB
  have hsz : T.size ≤ 65536 := by omega
  obtain ⟨-, hux, -⟩ := valid_parts hXT.whole hBx
  have HG := Lib.hid (fun (w1 : World) (hb : Below W.heap.size W w1) => aset_any (Vt.In.below hb hT) (Vt.In.below hb hXT) (Pth.In.below hp hb) hb.size hg hu hsz hux)
  have HR := Lib.hid (fun (w1 : World) (hb : Below W.heap.size W w1) => rset_any (Vt.In.below hb hT) (Vt.In.below hb hXT) (Pth.In.below hp hb) hb.size hg hsz)
  have HU := Lib.hid (fun (A : Vt) (hA : A.Same (T.setV p.S p.n X0).1) => setGet_all hT.whole hg hu hsz hux hE hA)
  have HGt := Lib.hid (fun (A : Vt) (q : Pth) (w1 : World) (hq : q.In w1 w1.heap.size) (hA : A.In w1 w1.heap.size) (hu : A.upto 48) => aget_any hA hq (Nat.le_refl _) hu)
  have HRg := Lib.hid (fun (q : Pth) (w1 : World) (hb : Below W.heap.size W w1) (hq : q.In w1 w1.heap.size) => rget_any ((Vt.In.below hb hT).up hb.size) hq (Nat.le_refl _))
  have HSx := Lib.hid (fun (Y : Vt) (w1 : World) (hb : Below W.heap.size W w1) (hY : Y.In w1 w1.heap.size) => same_any X0 Y w1.heap.size w1 ((Vt.In.below hb hXT).up hb.size) hY (Nat.le_refl _))
  have HPs := Lib.hid (fun (w1 : World) (hb : Below W.heap.size W w1) => paths_ref ((Vt.In.below hb hT).up hb.size) hu (by rw [Vt.walk_len hg hT.whole]; exact hsz))
  have HWk := Lib.hid (fun (q : Pth) (U : Vt) (hm : (q.steps, U) ∈ T.walk []) => (by
    obtain ⟨h1, h2⟩ := walk_path hg hu hsz hm
    exact ⟨by rw [get_of h2 (by rw [h1]), h1], fun w1 hb => by
      have := Vt.In.atN (Vt.In.below hb hT) q.S q.n
      rw [h1] at this
      exact this.up hb.size⟩ : T.getV q.S q.n = (U, 0) ∧ ∀ w1, Below W.heap.size W w1 → U.In w1 w1.heap.size))
  have HPp := Lib.hid (fun (w1 : World) (hb : Below W.heap.size W w1) => (Pth.In.below hp hb).up hb.size)
  have hlen : ((T.walk []).map Prod.fst).length ≤ 65536 := by rw [List.length_map, Vt.walk_len hg hT.whole]; exact hsz
  have HMem : Hid (∀ (i : Nat) (hi : i < ((T.walk []).map Prod.fst).length), ∃ U, (((T.walk []).map Prod.fst)[i], U) ∈ T.walk []) := Lib.hid fun i hi => by
    have := List.getElem_mem hi
    obtain ⟨x, hx, e⟩ := List.mem_map.1 this
    exact ⟨x.2, by rw [← e]; exact hx⟩
  obtain ⟨WK, hWK⟩ : ∃ WK, T.walk [] = WK := ⟨_, rfl⟩
  rw [hWK] at HPs HMem hlen
  simp only [hWK] at HU HWk
  obtain ⟨R, hR⟩ : ∃ R, T.setV p.S p.n X0 = R := ⟨_, rfl⟩
  rw [hR] at HG HR hE HU
  obtain ⟨R1, R2⟩ := R
  dsimp only at hE HG HR HU
  subst hE
  clear hR hT hp hB hBx hu hg hsz hXT hux hWK
  simp only [Vh.cells] at hb0 HV HVx XX HR HG HSx HRg HPs ⊢
  go_enter Tryd.func5, Tryd.ntmps5
  go_wp2_with fail
  refine (HV.out _ hb0).mono ?_; rintro _ w0 ⟨rfl, hb1⟩
  have g0 := below_then hb0 hb1
  have P0 := Whole.below P hb1 (Whole.lt P)
  have Xq := Whole.below XX hb1 (Whole.lt XX)
  clear P XX hb0 hb1
  obtain ⟨x0, x1, x2, x3, x4, x5, x6, x7, x8, x9, x10, x11, x12⟩ := Whole.c13 (h := X0.h) Xq
  go_wp2_with fail
  refine (HVx.out _ g0).mono ?_; rintro _ w1 ⟨rfl, hb1⟩
  have g1 := below_then g0 hb1
  have P1 := Whole.below P0 hb1 (Whole.lt P0)
  have X1 := Whole.below Xq hb1 (Whole.lt Xq)
  clear g0 P0 Xq hb1 x0 x1 x2 x3 x4 x5 x6 x7 x8 x9 x10 x11 x12
  obtain ⟨c0, c1, c2, c3, c4, c5, c6, c7, c8, c9, c10, c11, c12⟩ := Whole.c13 (h := T.h) P1
  obtain ⟨x0, x1, x2, x3, x4, x5, x6, x7, x8, x9, x10, x11, x12⟩ := Whole.c13 (h := X0.h) X1
  go_wp2_with fail
  refine (HG.out _ g1).mono ?_; rintro _ w2 ⟨A, rfl, hA, -, hA0, -, hb2⟩
  have g2 := below_then g1 hb2
  have P2 := (P1.below hb2 P1.lt).alloc (.cells A.h.cells 30)
  have X2 := (X1.below hb2 X1.lt).alloc (.cells A.h.cells 30)
  have gA := g2.alloc g2.size (.cells A.h.cells 30)
  have AB := Whole.new w2 30 A.h.cells
  have HA := Lib.hid (hA.later ((Below.refl _ w2).alloc (Nat.le_refl _) (.cells A.h.cells 30)))
  have HA0 := Lib.hid hA0
  clear c0 c1 c2 c3 c4 c5 c6 c7 c8 c9 c10 c11 c12 x0 x1 x2 x3 x4 x5 x6 x7 x8 x9 x10 x11 x12 hA0 hA P1 X1 HV HVx HG g1 g2 hb2
  have q1 := P2.lt
  have q2 := AB.lt
  have q3 := X2.lt
  obtain ⟨c0, c1, c2, c3, c4, c5, c6, c7, c8, c9, c10, c11, c12⟩ := Whole.c13 (h := T.h) P2
  obtain ⟨x0, x1, x2, x3, x4, x5, x6, x7, x8, x9, x10, x11, x12⟩ := Whole.c13 (h := X0.h) X2
  simp only [Vh.cells] at gA AB HA P2 X2 q1 q2 q3 c0 c1 c2 c3 c4 c5 c6 c7 c8 c9 c10 c11 c12 x0 x1 x2 x3 x4 x5 x6 x7 x8 x9 x10 x11 x12
  go_wp2_with fail
  refine (HR.out _ gA).mono ?_; rintro _ w3 ⟨U, rfl, hU, -, -, -, hb3⟩
  clear c0 c1 c2 c3 c4 c5 c6 c7 c8 c9 c10 c11 c12 x0 x1 x2 x3 x4 x5 x6 x7 x8 x9 x10 x11 x12
  have g3 := below_then gA hb3
  have P3 := (P2.below hb3 q1).alloc (.cells U.h.cells 30)
  have A3 := (AB.below hb3 q2).alloc (.cells U.h.cells 30)
  have X3 := (X2.below hb3 q3).alloc (.cells U.h.cells 30)
  have gB := g3.alloc g3.size (.cells U.h.cells 30)
  have HA3 := Lib.hid (HA.out.later (hb3.alloc hb3.size (.cells U.h.cells 30)))
  clear HR HA g3 gA hb3 P2 X2 AB hU q1 q2 q3
  simp only [Vh.cells] at gB HA3
  obtain ⟨hAu, ha1, ha2, ha3⟩ := HU.out A (HA0.out (by trivial))
  have hG := Lib.hid (HGt.out A p _ (HPp.out _ gB) HA3.out hAu)
  unfold GetOut at hG
  rw [ha1] at hG
  have hAu' := Lib.hid hAu
  have HX2 := Lib.hid ha2
  have HO2 := Lib.hid ha3
  clear hAu ha1 ha2 ha3 HU HA0
  have q1 := P3.lt
  have q2 := A3.lt
  have q3 := X3.lt
  obtain ⟨c0, c1, c2, c3, c4, c5, c6, c7, c8, c9, c10, c11, c12⟩ := Whole.c13 (h := A.h) A3
  simp only [Vh.cells] at gB A3 P3 X3 q1 q2 q3 hG c0 c1 c2 c3 c4 c5 c6 c7 c8 c9 c10 c11 c12
  go_wp2_with fail
  refine hG.out.mono ?_; rintro _ w4 ⟨Y, rfl, hY, hY0, -, hb4⟩
  clear c0 c1 c2 c3 c4 c5 c6 c7 c8 c9 c10 c11 c12
  have g4 := below_then gB hb4
  have P4 := (P3.below hb4 q1).alloc (.cells Y.h.cells 30)
  have A4 := (A3.below hb4 q2).alloc (.cells Y.h.cells 30)
  have X4 := (X3.below hb4 q3).alloc (.cells Y.h.cells 30)
  have YB := Whole.new w4 30 Y.h.cells
  have gC := g4.alloc g4.size (.cells Y.h.cells 30)
  have HA4 := Lib.hid (HA3.out.later (hb4.alloc hb4.size (.cells Y.h.cells 30)))
  have HY := Lib.hid (hY.later ((Below.refl _ w4).alloc (Nat.le_refl _) (.cells Y.h.cells 30)))
  have HYs := Lib.hid ((hY0 (by trivial)).trans HX2.out)
  clear hY hY0 hb4 g4 gB P3 A3 X3 HA3 q1 q2 q3 hG HX2
  have q1 := P4.lt
  have q2 := A4.lt
  simp only [Vh.cells] at gC A4 P4 X4 YB q1 q2 HA4 HY
  have HS1 := Lib.hid (HSx.out Y _ gC HY.out)
  rw [sameB_iff.2 HYs.out.symm] at HS1
  clear HSx HYs HY
  obtain ⟨x0, x1, x2, x3, x4, x5, x6, x7, x8, x9, x10, x11, x12⟩ := Whole.c13 (h := X0.h) X4
  obtain ⟨y0, y1, y2, y3, y4, y5, y6, y7, y8, y9, y10, y11, y12⟩ := Whole.c13 (h := Y.h) YB
  try simp only [Vh.cells] at HS1 x0 x1 x2 x3 x4 x5 x6 x7 x8 x9 x10 x11 x12 y0 y1 y2 y3 y4 y5 y6 y7 y8 y9 y10 y11 y12
  go_wp2_with fail
  refine HS1.out.mono ?_; rintro _ w5 ⟨rfl, hb5⟩
  have g5 := below_then gC hb5
  have P5 := Whole.below P4 hb5 q1
  have A5 := Whole.below A4 hb5 q2
  have HA5 := Lib.hid (HA4.out.later hb5)
  clear x0 x1 x2 x3 x4 x5 x6 x7 x8 x9 x10 x11 x12 y0 y1 y2 y3 y4 y5 y6 y7 y8 y9 y10 y11 y12 X4 YB P4 A4 HA4 hb5 gC HS1 q1 q2
  obtain ⟨c0, c1, c2, c3, c4, c5, c6, c7, c8, c9, c10, c11, c12⟩ := Whole.c13 (h := T.h) P5
  have q1 := P5.lt
  have q2 := A5.lt
  go_wp2_with fail
  refine (HPs.out _ g5).mono ?_; rintro _ w6 ⟨v, rfl, hrow, hb6⟩
  have g6 := below_then g5 hb6
  have P6 := Whole.below P5 hb6 q1
  have A6 := Whole.below A5 hb6 q2
  have HA6 := Lib.hid (HA5.out.later hb6)
  clear c0 c1 c2 c3 c4 c5 c6 c7 c8 c9 c10 c11 c12 P5 A5 HA5 hb6 g5 q1 q2 HPs
  obtain ⟨a, c, b, f, rfl, hcc, ha, hf⟩ := hrow.get
  have HA := Lib.hid ha
  have HF := Lib.hid (fun (i : Nat) (hi : i < (WK.map Prod.fst).length) => (hf i hi).1)
  have HFi := Lib.hid (fun (i : Nat) (hi : i < (WK.map Prod.fst).length) => (hf i hi).2.1)
  have HFs : Hid (∀ (i : Nat) (hi : i < (WK.map Prod.fst).length), ∃ U, ((f i).steps, U) ∈ WK) := Lib.hid (fun i hi => by rw [(hf i hi).2.2.1]; exact HMem.out i hi)
  clear hrow ha hf HMem
  obtain ⟨n, hn⟩ : ∃ n, (WK.map Prod.fst).length = n := ⟨_, rfl⟩
  rw [hn] at HA HF HFi HFs hcc hlen ⊢
  clear hn
  have HU1 := Lib.hid (fun (k : Nat) (hk : k < n) (w1 : World) (hb : Below w6.heap.size w6 w1) => under8_any (HPp.out w1 (below_then g6 hb)) ((Pth.In.below (HFi.out k hk) hb).up hb.size) (Nat.le_refl _))
  have HU2 := Lib.hid (fun (k : Nat) (hk : k < n) (w1 : World) (hb : Below w6.heap.size w6 w1) => under8_any ((Pth.In.below (HFi.out k hk) hb).up hb.size) (HPp.out w1 (below_then g6 hb)) (Nat.le_refl _))
  have i0 : (0 : Int) ≤ n := by omega
  have i1 : (n : Int) ≤ 65536 := by omega
  have hp6 := P6.lt
  have ha6 := A6.lt
  go_wp2_with fail
  go_loopw [14] (fun i wr => ∃ k : Nat, k ≤ n ∧ i = .int .i64 k ∧ Below w6.heap.size w6 wr) (fun i _ => n - (intOf i).toNat)
  case atStart => exact ⟨0, by omega, rfl, Below.refl _ _⟩
  case round =>
    obtain ⟨k, hk, rfl, hbr⟩ := hrel
    have hki : (0 : Int) ≤ k := by omega
    by_cases hkn : k < n
    · have hki2 : (k : Int) < n := by omega
      obtain ⟨e1, -, hb1⟩ := HA.out (by omega)
      subst e1
      have c1 := (hbr.cell (p := ⟨b, k, none⟩) hb1).trans (HF.out k (by omega))
      obtain ⟨U, hm⟩ := HFs.out k hkn
      obtain ⟨hg1, hg2⟩ := HWk.out (f k) U hm
      have HOk := Lib.hid (HO2.out (f k) U hm)
      have HV1 := Lib.hid (HU1.out k hkn)
      have HV2 := Lib.hid (HU2.out k hkn)
      have Hg1 := Lib.hid hg1
      have Hg2 := Lib.hid hg2
      clear hm hg1 hg2
      obtain ⟨B1, hB1⟩ : ∃ B1, preB (f k).steps p.steps = B1 := ⟨_, rfl⟩
      obtain ⟨B2, hB2⟩ : ∃ B2, preB p.steps (f k).steps = B2 := ⟨_, rfl⟩
      rw [hB1, hB2] at HOk
      rw [hB1] at HV1
      rw [hB2] at HV2
      clear hB1 hB2
      go_wp2_with fail
      refine (HV1.out _ hbr).mono ?_; rintro _ w7 ⟨rfl, hb7⟩
      have r7 := below_then hbr hb7
      clear c1 hb7 HV1 hbr
      cases B1 with
      | true =>
        clear HV2 HOk Hg1 Hg2
        go_wp2_with fail
        go_roundw
        case rel => exact ⟨k + 1, by omega, by go_num, r7⟩
        case measure => simp [intOf]; omega
      | false =>
        go_wp2_with fail
        refine (HV2.out _ r7).mono ?_; rintro _ w8 ⟨rfl, hb8⟩
        have r8 := below_then r7 hb8
        clear hb8 HV2 r7
        cases B2 with
        | true =>
          clear HOk Hg1 Hg2
          go_wp2_with fail
          go_roundw
          case rel => exact ⟨k + 1, by omega, by go_num, r8⟩
          case measure => simp [intOf]; omega
        | false =>
          obtain ⟨o1, o2⟩ := HOk.out (by trivial) (by trivial)
          have Ho2 := Lib.hid o2
          have P8 := Whole.below P6 r8 hp6
          have HRk := Lib.hid (HRg.out (f k) w8 (below_then g6 r8) ((Pth.In.below (HFi.out k hkn) r8).up r8.size))
          rw [Hg1.out] at HRk
          obtain ⟨c0, c1, c2, c3, c4, c5, c6, c7, c8, c9, c10, c11, c12⟩ := Whole.c13 (h := T.h) P8
          simp only [Vh.cells] at HRk
          go_wp2_with fail
          refine HRk.out.mono ?_; rintro _ w9 ⟨rfl, hb9⟩
          clear c0 c1 c2 c3 c4 c5 c6 c7 c8 c9 c10 c11 c12 P8 HRk
          have r9 := below_then r8 hb9
          have rA := r9.alloc r9.size (.cells U.h.cells 30)
          have UB := Whole.new w9 30 U.h.cells
          have AA := Whole.below A6 rA ha6
          clear hb9 r8 r9
          have HGk := Lib.hid (HGt.out A (f k) _ ((Pth.In.below (HFi.out k hkn) rA).up rA.size) (HA6.out.later rA) hAu'.out)
          unfold GetOut at HGk
          rw [o1] at HGk
          clear o1
          have ub := UB.lt
          obtain ⟨c0, c1, c2, c3, c4, c5, c6, c7, c8, c9, c10, c11, c12⟩ := Whole.c13 (h := A.h) AA
          simp only [Vh.cells] at HGk rA UB ub c0 c1 c2 c3 c4 c5 c6 c7 c8 c9 c10 c11 c12
          go_wp2_with fail
          refine HGk.out.mono ?_; rintro _ wB ⟨Z, rfl, hZ, hZ0, -, hbB⟩
          clear c0 c1 c2 c3 c4 c5 c6 c7 c8 c9 c10 c11 c12 AA HGk
          have rB := below_then rA hbB
          have UBB := (UB.below hbB ub).alloc (.cells Z.h.cells 30)
          have rC := rB.alloc rB.size (.cells Z.h.cells 30)
          have ZB := Whole.new wB 30 Z.h.cells
          have HSk := Lib.hid (same_any U Z _ _ (Hg2.out _ (below_then g6 rC)) (hZ.later ((Below.refl _ wB).alloc (Nat.le_refl _) (.cells Z.h.cells 30))) (Nat.le_refl _))
          rw [sameB_iff.2 ((hZ0 (by trivial)).trans Ho2.out).symm] at HSk
          clear hZ hZ0 hbB rA rB UB ub Ho2
          obtain ⟨x0, x1, x2, x3, x4, x5, x6, x7, x8, x9, x10, x11, x12⟩ := Whole.c13 (h := U.h) UBB
          obtain ⟨z0, z1, z2, z3, z4, z5, z6, z7, z8, z9, z10, z11, z12⟩ := Whole.c13 (h := Z.h) ZB
          simp only [Vh.cells] at HSk rC x0 x1 x2 x3 x4 x5 x6 x7 x8 x9 x10 x11 x12 z0 z1 z2 z3 z4 z5 z6 z7 z8 z9 z10 z11 z12
          go_wp2_with fail
          refine HSk.out.mono ?_; rintro _ wD ⟨rfl, hbD⟩
          have rD := below_then rC hbD
          clear x0 x1 x2 x3 x4 x5 x6 x7 x8 x9 x10 x11 x12 z0 z1 z2 z3 z4 z5 z6 z7 z8 z9 z10 z11 z12 UBB ZB hbD rC HSk
          go_wp2_with fail
          go_roundw
          case rel => exact ⟨k + 1, by omega, by go_num, rD⟩
          case measure => simp [intOf]; omega
    · obtain rfl : k = n := by omega
      clear HU1 HU2 HA HF HFi HFs HWk HO2
      go_wp2
      go_ret
      exact ⟨rfl, below_then g6 hbr⟩

theorem walk_AccessSetGet (W : World) (T : Vt) (hT : T.In W W.heap.size) (p : Pth) (hp : p.In W W.heap.size) (X0 : Vt) (hXT : X0.In W W.heap.size) :
    Calls Tryd.prog 5 #[.agg T.h.cells, .slice p.a p.n p.c, .agg X0.h.cells] W fun e W' => e = .returned (.bool true) ∧ Below W.heap.size W W' := by
  cases hB : vldB T with
  | false => exact sg_v W T hT p hp X0 hXT hB
  | true =>
    cases hBx : vldB X0 with
    | false => exact sg_x W T hT p hp X0 hXT hB hBx
    | true =>
      by_cases hE : (T.setV p.S p.n X0).2 = 0
      · exact sg_ok W T hT p hp X0 hXT hB hBx hE
      · exact sg_e W T hT p hp X0 hXT hB hBx hE
end Go.Proofs.YtfkfboiblgoamaaDoor
