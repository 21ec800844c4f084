/- Laid together for a claim: EvLawB. -/
import Derived.Test.YtpcbhneaaibfiaaDoorQB33
import Derived.Test.YtpcbhneaaibfiaaDoorQB32
import Derived.Test.YtpcbhneaaibfiaaDoorQB31
/- EventBack: the walk. -/
namespace Go.Proofs.YtpcbhneaaibfiaaDoor
open Go.RowKit
set_option linter.unusedSimpArgs false
set_option linter.unusedVariables false

theorem look_size1 {T : Vt} (hw : T.whole) (h : (T.look 1 0).2 = 0) : T.size ≤ 65536 := by
  have h1 := (Vt.look_ok (d := 1) (s := 0) hw h).2.2
  have h2 := Vt.look_bd T 1 0 (by decide)
  have h3 : (T.look 1 0).1 = ((0 : Int) + T.size) := h1
  omega
set_option maxHeartbeats 8000000 in
set_option maxRecDepth 100000 in
theorem walk_EventBack (W : World) (T : Vt) (hT : T.In W W.heap.size) (p : Evs) (hp : p.In W W.heap.size) : Calls Tryd.prog 4 #[.agg T.h.cells, .slice p.a p.n p.c] W fun e W' => e = .returned (.bool true) ∧ Below W.heap.size W W' := by
  have hb0 := (Below.refl W.heap.size W).alloc (Nat.le_refl _) (.cells T.h.cells 30)
  have P := Whole.new W 30 T.h.cells
  have HFit := Lib.hid (fit_any (T := T) (w := W.alloc (.cells T.h.cells 30)) (Vt.In.below hb0 hT) hb0.size)
  have HFew := Lib.hid (fun (w1 : World) (hb : Below W.heap.size W w1) => few_any (Evs.In.below hp hb) hb.size)
  have HLiv := Lib.hid (fun (w1 : World) => lives_any w1)
  have HOf := Lib.hid (fun (w1 : World) (hb : Below W.heap.size W w1) (hl : (T.look 1 0).2 = 0) => ofs_any (T := T) (Vt.In.below hb hT) hb.size (show T.size ≤ 65536 from look_size1 hT.whole hl) (Vt.upto_le (Vt.look_ok (d := 1) (s := 0) hT.whole hl).2.1 (by decide)))
  have HV1 := Lib.hid (fun (q : Evs) (w1 : World) (hq : q.In w1 w1.heap.size) => value_any hq (Nat.le_refl _))
  have HVo := Lib.hid (fun (q : Evs) (hl : (T.look 1 0).2 = 0) (hs : SameL q.list (evs T)) => val_of hT.whole hl hs)
  have HSm := Lib.hid (fun (X : Vt) (w1 : World) (hb : Below W.heap.size W w1) (hX : X.In w1 w1.heap.size) => same_any T X w1.heap.size w1 ((Vt.In.below hb hT).up hb.size) hX (Nat.le_refl _))
  have HV2 := Lib.hid (fun (w1 : World) (hb : Below W.heap.size W w1) => value_any (Evs.In.below hp hb) hb.size)
  have HVe := Lib.hid (fun (h : valE p = 0) => val_evs hp h)
  have HPn := Lib.hid (Evs.list_len p)
  have HRs := Lib.hid (fun (q : Evs) (w1 : World) (hb : Below W.heap.size W w1) (hq : q.In w1 w1.heap.size) => rsame_any hq ((Evs.In.below hp hb).up hb.size) (Nat.le_refl _))
  obtain ⟨c0, c1, c2, c3, c4, c5, c6, c7, c8, c9, c10, c11, c12⟩ := Whole.c13 (h := T.h) P
  clear hT hp
  obtain ⟨h, hh⟩ : ∃ h, T.h = h := ⟨_, rfl⟩
  rw [hh] at hb0 P HFit HOf HSm c0 c1 c2 c3 c4 c5 c6 c7 c8 c9 c10 c11 c12 ⊢
  clear hh
  simp only [Vh.cells] at hb0 P HFit HOf HSm c0 c1 c2 c3 c4 c5 c6 c7 c8 c9 c10 c11 c12 ⊢
  go_enter Tryd.func4, Tryd.ntmps4
  go_wp2_with fail
  refine HFit.out.mono ?_; rintro _ w1 ⟨c, rfl, hc, hb1⟩
  have g1 := below_then hb0 hb1
  have P1 := P.below hb1 P.lt
  have Hc := Lib.hid hc
  clear HFit hb0 hb1 P hc c0 c1 c2 c3 c4 c5 c6 c7 c8 c9 c10 c11 c12
  cases c
  · clear HFew HOf HV1 HVo HSm HV2 HVe HRs Hc P1
    go_wp2_with fail
    refine (HLiv.out w1).mono ?_; rintro _ w2 ⟨rfl, hb2⟩
    have g2 := below_then g1 hb2
    clear g1 hb2 HLiv
    go_wp2
    (first | exact ⟨rfl, g2⟩ | (go_ret; exact ⟨rfl, g2⟩))
  have HL := Lib.hid (Hc.out (by trivial))
  clear Hc
  go_wp2_with fail
  refine (HFew.out w1 g1).mono ?_; rintro _ w2 ⟨c, rfl, hc, hb2⟩
  have g2 := below_then g1 hb2
  have P2 := P1.below hb2 P1.lt
  have Hc := Lib.hid hc
  clear HFew g1 hb2 P1 hc
  cases c
  · clear HOf HV1 HVo HSm HV2 HVe HRs Hc P2
    go_wp2_with fail
    refine (HLiv.out w2).mono ?_; rintro _ w3 ⟨rfl, hb3⟩
    have g3 := below_then g2 hb3
    clear g2 hb3 HLiv
    go_wp2
    (first | exact ⟨rfl, g3⟩ | (go_ret; exact ⟨rfl, g3⟩))
  have HN := Lib.hid (Hc.out (by trivial))
  clear Hc
  have HO2 := Lib.hid (HOf.out w2 g2 HL.out)
  unfold OfsOut at HO2
  obtain ⟨c0, c1, c2, c3, c4, c5, c6, c7, c8, c9, c10, c11, c12⟩ := Whole.c13 (h := h) P2
  go_wp2_with fail
  refine HO2.out.mono ?_; rintro _ w3 ⟨q, rfl, hq, hqs, -, -, hb3⟩
  have g3 := below_then g2 hb3
  have P3 := P2.below hb3 P2.lt
  obtain ⟨vE, vS⟩ := HVo.out q HL.out hqs
  have HV3 := Lib.hid (HV1.out q w3 hq)
  unfold ValOut at HV3
  rw [vE] at HV3
  have HvS := Lib.hid vS
  clear HO2 HOf HVo HV1 hq hqs hb3 g2 P2 vE vS c0 c1 c2 c3 c4 c5 c6 c7 c8 c9 c10 c11 c12
  go_wp2_with fail
  refine HV3.out.mono ?_; rintro _ w4 ⟨X, rfl, hX, -, hXs, hb4⟩
  have gb := (Below.refl w4.heap.size w4).alloc (Nat.le_refl _) (.cells X.h.cells 30)
  have g4 := (below_then g3 hb4).alloc (Nat.le_trans g3.size hb4.size) (.cells X.h.cells 30)
  have P4 := (P3.below hb4 P3.lt).alloc (.cells X.h.cells 30)
  have N4 := Whole.new w4 30 X.h.cells
  have HX4 := Lib.hid (hX.later gb)
  have hst : sameB T X = true := sameB_iff.2 (hXs.trans HvS.out).symm
  have HS4 := Lib.hid (HSm.out X _ g4 HX4.out)
  rw [hst] at HS4
  have hw4 : Hid (w4.heap.size < (w4.alloc (.cells X.h.cells 30)).heap.size) := Lib.hid (by rw [World.size_alloc]; omega)
  obtain ⟨c0, c1, c2, c3, c4, c5, c6, c7, c8, c9, c10, c11, c12⟩ := Whole.c13 (h := h) P4
  obtain ⟨d0, d1, d2, d3, d4, d5, d6, d7, d8, d9, d10, d11, d12⟩ := Whole.c13 (h := X.h) N4
  clear HV3 hX hXs hb4 gb g3 P3 hst HSm HvS P4 N4 HX4
  simp only [Vh.cells] at HS4 g4 c0 c1 c2 c3 c4 c5 c6 c7 c8 c9 c10 c11 c12 d0 d1 d2 d3 d4 d5 d6 d7 d8 d9 d10 d11 d12
  go_wp2_with fail
  refine HS4.out.mono ?_; rintro _ w5 ⟨rfl, hb5⟩
  have g5 := below_then g4 hb5
  have HV5 := Lib.hid (HV2.out w5 g5)
  unfold ValOut at HV5
  clear HS4 g4 hb5 HV2 c0 c1 c2 c3 c4 c5 c6 c7 c8 c9 c10 c11 c12 d0 d1 d2 d3 d4 d5 d6 d7 d8 d9 d10 d11 d12 hw4
  go_wp2_with fail
  refine HV5.out.mono ?_; rintro _ w6 ⟨Z, rfl, hZ, -, hZs, hb6⟩
  have gb := (Below.refl w6.heap.size w6).alloc (Nat.le_refl _) (.cells Z.h.cells 30)
  have g6 := (below_then g5 hb6).alloc (Nat.le_trans g5.size hb6.size) (.cells Z.h.cells 30)
  have N6 := Whole.new w6 30 Z.h.cells
  have HZ6 := Lib.hid (hZ.later gb)
  have HZs := Lib.hid hZs
  obtain ⟨E, hE⟩ : ∃ E, valE p = E := ⟨_, rfl⟩
  rw [hE] at HVe ⊢
  clear HV5 hZ hZs hb6 gb g5 hE
  by_cases hE0 : E = 0
  · subst hE0
    obtain ⟨v1, v2, v3⟩ := HVe.out (by trivial)
    have hze := evs_same HZs.out
    have HO6 := Lib.hid (ofs_len HZ6.out (Nat.le_refl _) (by rw [hze.length, v1.length, HPn.out]; have := HN.out; omega) (Vt.upto_le (Vt.upto_sameE HZs.out v3) (by decide)))
    have HSL := Lib.hid (hze.trans v1)
    unfold OfsOut at HO6
    obtain ⟨d0, d1, d2, d3, d4, d5, d6, d7, d8, d9, d10, d11, d12⟩ := Whole.c13 (h := Z.h) N6
    clear HVe v1 v2 v3 hze N6 HZ6 HZs
    simp only [Vh.cells] at HO6 g6 d0 d1 d2 d3 d4 d5 d6 d7 d8 d9 d10 d11 d12
    go_wp2_with fail
    refine HO6.out.mono ?_; rintro _ w7 ⟨q, rfl, hq, hqs, -, -, hb7⟩
    have g7 := below_then g6 hb7
    have HR7 := Lib.hid (HRs.out q w7 g7 hq)
    rw [sameL_iff.2 (hqs.trans HSL.out)] at HR7
    clear HO6 HRs hq hqs hb7 g6 HSL d0 d1 d2 d3 d4 d5 d6 d7 d8 d9 d10 d11 d12
    go_wp2_with fail
    refine HR7.out.mono ?_; rintro _ w8 ⟨rfl, hb8⟩
    have g8 := below_then g7 hb8
    clear HR7 g7 hb8
    go_wp2_with fail
    refine (HLiv.out w8).mono ?_; rintro _ w9 ⟨rfl, hb9⟩
    have g9 := below_then g8 hb9
    clear g8 hb9 HLiv
    go_wp2
    (first | exact ⟨rfl, g9⟩ | (go_ret; exact ⟨rfl, g9⟩))
  · have dE : (E != 0) = true := bne_iff_ne.2 hE0
    clear HVe N6 HZ6 HZs HRs hE0
    simp only [Vh.cells] at g6
    go_wp2_with fail
    refine (HLiv.out _).mono ?_; rintro _ w9 ⟨rfl, hb9⟩
    have g9 := below_then g6 hb9
    clear g6 hb9 HLiv
    go_wp2
    (first | exact ⟨rfl, g9⟩ | (go_ret; exact ⟨rfl, g9⟩))
end Go.Proofs.YtpcbhneaaibfiaaDoor
