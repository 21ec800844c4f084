/- Laid together for a claim: EvLawU. -/
import Derived.Test.YtpcbhneaaibfiaaDoorQB28
import Derived.Test.YtpcbhneaaibfiaaDoorQX01
import Derived.Test.YtpcbhneaaibfiaaDoorQX03
set_option linter.unusedVariables false
set_option linter.unusedSimpArgs false
namespace Go.Proofs.YtpcbhneaaibfiaaDoor
open Go.RowKit
set_option maxHeartbeats 8000000 in
set_option maxRecDepth 100000 in
theorem walk_EventBuilds (W : World) (p : Evs) (hp : p.In W W.heap.size) : Calls Tryd.prog 6 #[.slice p.a p.n p.c] W fun e W' => e = .returned (.bool true) ∧ Below W.heap.size W W' := by
  have HFew := Lib.hid (few_any hp (Nat.le_refl _))
  have HLiv := Lib.hid (fun (w1 : World) => lives_any w1)
  have HNew := Lib.hid (fun (w1 : World) (hb : Below W.heap.size W w1) => live_new (B0 := W.heap.size) (W := w1) hb.size)
  have hn1 := hp.2.1.1
  have hnj : ((p.n : Nat) : Int) ≤ 1048576 := by omega
  have hni : (0 : Int) ≤ ((p.n : Nat) : Int) := by omega
  have HLa := Lib.hid hp.1
  have HLi := Lib.hid (fun (j : Nat) (hj : j < p.n) (w1 : World) (hb : Below W.heap.size W w1) => ((hp.2.2 j hj).1.below hb (hp.1 (by omega)).2))
  have HX := Lib.hid (fun (j : Nat) (hj : j < p.n) (w1 : World) (hb : Below W.heap.size W w1) => (And.intro (hp.2.2 j hj).2.1 (Vt.In.below hb (hp.2.2 j hj).2.2) : (p.S j).ok ∧ (p.S j).V.In w1 W.heap.size))
  have HEq := Lib.hid (fun (q r : Pth) (w1 : World) (hq : q.In w1 w1.heap.size) (hr : r.In w1 w1.heap.size) => equal_any hq hr (Nat.le_refl _))
  have HSm := Lib.hid (fun (X Y : Vt) (w1 : World) (hX : X.In w1 w1.heap.size) (hY : Y.In w1 w1.heap.size) => same_any X Y w1.heap.size w1 hX hY (Nat.le_refl _))
  have HLb : Hid (0 < p.n → p.b < W.heap.size) := Lib.hid fun q => (hp.1 q).2
  clear hp
  go_enter Tryd.func6, Tryd.ntmps6
  go_wp2_with fail
  refine HFew.out.mono ?_; rintro _ w1 ⟨c, rfl, -, g1⟩
  clear HFew
  cases c
  · clear HNew HLa HLi HX HEq HSm HLb
    go_wp2_with fail
    refine (HLiv.out w1).mono ?_; rintro _ w2 ⟨rfl, hb2⟩
    have g2 := below_then g1 hb2
    clear g1 hb2 HLiv
    go_wp2
    (first | exact ⟨rfl, g2⟩ | (go_ret; exact ⟨rfl, g2⟩))
  go_wp2_with fail
  refine (HNew.out w1 g1).mono ?_; rintro _ w2 ⟨bb, rfl, hL, hb2⟩
  have hg1 := g1.size
  have hs2 := hb2.size
  have HL0 := Lib.hid (hL.shrink.later ((Below.refl w2.heap.size w2).alloc (Nat.le_refl _) (.cells #[.slice none 0 0, .slice none 0 0, .int .i64 0, .bool false] 53)))
  have g2 := (below_then g1 hb2).alloc (below_then g1 hb2).size (.cells #[.slice none 0 0, .slice none 0 0, .int .i64 0, .bool false] 53)
  have N2 := Whole.new w2 53 #[.slice none 0 0, .slice none 0 0, .int .i64 0, .bool false]
  have HA0 : Hid (∀ b, (w1.heap.size ≤ b ∧ b < w2.heap.size) → W.heap.size ≤ b ∧ b < (w2.alloc (.cells #[.slice none 0 0, .slice none 0 0, .int .i64 0, .bool false] 53)).heap.size ∧ b ≠ w2.heap.size) := Lib.hid fun b hb => by rw [World.size_alloc]; omega
  have HR0 : Hid (Rst.In (w2.alloc (.cells #[.slice none 0 0, .slice none 0 0, .int .i64 0, .bool false] 53)) (w2.alloc (.cells #[.slice none 0 0, .slice none 0 0, .int .i64 0, .bool false] 53)).heap.size ⟨⟨none, 0, 0, 0, 0, fun _ => Opn.zero⟩, ⟨none, 0, 0, 0, 0, fun _ => default⟩, 0, false⟩) := Lib.hid ⟨⟨fun q => absurd q (Nat.lt_irrefl _), ⟨Nat.zero_le _, Nat.le_refl _, by decide⟩, fun i q => absurd q (Nat.not_lt_zero _)⟩, ⟨fun q => absurd q (Nat.lt_irrefl _), ⟨by decide, Nat.le_refl _, by decide⟩, fun i q => absurd q (Nat.not_lt_zero _)⟩⟩
  have HO0 : Hid (Rst.Off (fun b => ¬ (w1.heap.size ≤ b ∧ b < w2.heap.size)) ⟨⟨none, 0, 0, 0, 0, fun _ => Opn.zero⟩, ⟨none, 0, 0, 0, 0, fun _ => default⟩, 0, false⟩) := Lib.hid ⟨fun q => absurd q (Nat.lt_irrefl _), fun i q => absurd q (Nat.not_lt_zero _), fun q => absurd q (Nat.lt_irrefl _), fun i q => absurd q (Nat.not_lt_zero _)⟩
  have HI0 : Hid (Rst.is ⟨⟨none, 0, 0, 0, 0, fun _ => Opn.zero⟩, ⟨none, 0, 0, 0, 0, fun _ => default⟩, 0, false⟩ Bst.zero []) := Lib.hid (Rst.is.zero rfl rfl rfl rfl)
  have hbb := hL.at.2.1
  clear HNew hL hb2
  go_wp2_with fail
  go_loopw [5] (fun i wr => ∃ (j : Nat) (s : Bst) (l : List Ev) (r : Rst) (A : Nat → Prop), j ≤ p.n ∧ i = .int .i64 j ∧ Hid (BI s l) ∧ Hid (l.length ≤ j) ∧ Hid (Live W.heap.size bb A wr s) ∧ Hid (∀ b, A b → W.heap.size ≤ b ∧ b < wr.heap.size ∧ b ≠ w2.heap.size) ∧ Hid (r.is s l) ∧ Hid (r.In wr wr.heap.size) ∧ Hid (r.Off (fun b => ¬ A b)) ∧ Whole wr w2.heap.size 53 #[.slice r.O.a r.O.n r.O.c, .slice r.T.a r.T.n r.T.c, .int .i64 r.nd, .bool r.wrong] ∧ Below W.heap.size W wr) (fun i _ => p.n - (intOf i).toNat)
  case atStart => exact ⟨0, Bst.zero, [], ⟨⟨none, 0, 0, 0, 0, fun _ => Opn.zero⟩, ⟨none, 0, 0, 0, 0, fun _ => default⟩, 0, false⟩, _, by omega, rfl, Lib.hid BI.zero, Lib.hid (Nat.le_refl _), HL0, HA0, HI0, HR0, HO0, N2, g2⟩
  case round =>
    clear N2 g2 HL0 HA0 HI0 HR0 HO0
    obtain ⟨j, s, l, r, A, hj, rfl, HBI, HLn, HLv, HA, HI, HR, HO, N1, g1⟩ := hrel
    have hji : (0 : Int) ≤ j := by omega
    have hB4 := Whole.lt N1
    by_cases hjn : j < p.n
    · have hjl : (j : Int) < p.n := by omega
      obtain ⟨ea, -⟩ := HLa.out (by omega)
      have hpb := HLb.out (by omega)
      have L1 := HLi.out j hjn wr g1
      have HAdd := Lib.hid (fun (w1 : World) (hb : Below wr.heap.size wr w1) => sadd_off (r := r) (x := p.S j) (top := w1.heap.size) (w := w1) ((HR.out.below hb).up hb.size) (HX.out j hjn w1 (below_then g1 hb)).1 ((HX.out j hjn w1 (below_then g1 hb)).2.up (below_then g1 hb).size) (Nat.le_refl _) HI.out HBI.out.inv (by have := HLn.out; omega))
      have HBd := Lib.hid (fun (w1 : World) (hb : Below W.heap.size W w1) (hL : Live W.heap.size bb A w1 s) => live_add (x := p.S j) hL (HX.out j hjn w1 hb).1 (HX.out j hjn w1 hb).2 hb.size)
      have HB2 := Lib.hid (HBI.out.step (HX.out j hjn wr g1).1 (HX.out j hjn wr g1).2.whole)
      have HXo := Lib.hid ((HX.out j hjn wr g1).2.off.mono (S' := fun b => ¬ A b) (fun b hb q => by have := (HA.out b q).1; omega))
      have HLn2 : Hid ((if addE s (p.S j) = 0 then l ++ [p.S j] else l).length ≤ j + 1) := Lib.hid (by have := HLn.out; split <;> first | (rw [List.length_append, List.length_singleton]; omega) | omega)
      unfold SAddOff at HAdd
      have HLj := Lib.hid (fun (w1 : World) (hb : Below W.heap.size W w1) => HLi.out j hjn w1 hb)
      obtain ⟨x, hx⟩ : ∃ x, p.S j = x := ⟨_, rfl⟩
      rw [hx] at HAdd HBd HB2 HXo HLn2 L1 HLj
      generalize (if addE s x = 0 then l ++ [x] else l) = l2 at *
      obtain ⟨E, hE⟩ : ∃ E, addE s x = E := ⟨_, rfl⟩
      rw [hE] at HAdd HBd
      generalize addS s x = s2 at *
      clear hE hx HBI HR HLn
      obtain ⟨k, key, V⟩ := x
      simp only [Rst.cells, Ev.cells, evc] at HAdd HBd L1 HLj
      dsimp only at HXo HAdd
      rw [ea]
      clear ea
      go_upto_region 11 with (fail)
      have h1 := Below.refl wr.heap.size wr
      refine wp_region_T (fun Wz => LiesAt Wz p.b (p.o + j * 15) #[.int .i64 k, .string key, .int .i64 V.h.k, .bool V.h.b, .bool V.h.n, .string V.h.d, .int .i64 V.h.e, .int .i64 V.h.tk, .int .i64 V.h.td, .int .i64 V.h.tn, .int .i64 V.h.tz, .string V.h.x, .slice V.h.ba V.h.bn V.h.bc, .slice V.h.la V.h.ln V.h.lc, .slice V.h.fa V.h.fn V.h.fc]) [] (by kernel_rfl) ?_
      have qd : Below wr.heap.size wr wr.drew := (Below.refl _ wr).drew
      have L2 := L1.below (top := W.heap.size) (W' := wr.drew) (qd.mono g1.size) hpb
      clear L1
      generalize wr.drew = w3 at *
      have N2 := Whole.below N1 qd (Whole.lt N1)
      have g2 := below_then g1 qd
      have h2 := below_then h1 qd
      clear N1 g1 h1
      clear qd
      refine tk (i := 1) rfl (by kernel_rfl) (by rfl) (fun _ _ _ h => h) L2 (by intro wS hSw; go_simp; try with_reducible rfl) ?_
      simp only [Act.put, actS]
      refine tk (i := 2) rfl (by kernel_rfl) (by rfl) (fun _ _ _ h => h) L2 (by intro wS hSw; go_simp; try with_reducible rfl) ?_
      simp only [Act.put, actS]
      refine tk (i := 3) rfl (by kernel_rfl) (by rfl) (fun _ _ _ h => h) L2 (by intro wS hSw; go_simp; try with_reducible rfl) ?_
      simp only [Act.put, actS]
      refine tk (i := 4) rfl (by kernel_rfl) (by rfl) (fun _ _ _ h => h) L2 (by intro wS hSw; obtain ⟨x0, x1, x2, x3, x4, x5, x6, x7, x8, x9, x10, x11, x12, x13, x14⟩ := hSw.e15; go_simp; try with_reducible rfl) ?_
      simp only [Act.put, actS]
      refine wpAnyT_ready (rs := [0]) (by kernel_rfl) (by simp) ?_
      refine (AllT.cons rfl (fun KK hK => ?_) AllT.nil)
      obtain ⟨c0, c1, c2, c3⟩ := Whole.o4s N2
      go_simp
      clear c0 c1 c2 c3
      refine hK.out _ _ (.inr L2) ?_
      clear hK KK
      try simp only [Act.put, actS]
      refine wpAnyT_ready (rs := [5]) (by kernel_rfl) (by simp) ?_
      refine (AllT.cons rfl (fun KK hK => ?_) AllT.nil)
      go_simp
      go_at_call 22
      refine (HAdd.out _ h2).mono ?_
      rintro _ w4 ⟨r', rfl, q1, q2, hb4, q3⟩
      have hh := h2.size
      have HR2 := Lib.hid q1
      have HI2 := Lib.hid q2
      have HO2 := Lib.hid (q3 (fun b => ¬ A b) HO.out HXo.out (fun b hb q => by have := (HA.out b q).2.1; omega))
      have L3 := L2.below (top := W.heap.size) (hb4.mono g2.size) hpb
      clear q1 q2 q3 HAdd L2 HO HXo
      have N3 := Whole.below N2 hb4 (Whole.lt N2)
      have g3 := below_then g2 hb4
      have h3 := below_then h2 hb4
      clear N2 g2 h2
      clear hb4
      refine hK.out _ _ (.inr L3) ?_
      clear hK KK
      try simp only [Act.put, actS]
      refine tk (i := 6) rfl (by kernel_rfl) (by rfl) (fun _ _ _ h => h) L3 (by intro wS hSw; go_simp; try with_reducible rfl) ?_
      simp only [Act.put, actS]
      refine tk (i := 7) rfl (by kernel_rfl) (by rfl) (fun _ _ _ h => h) L3 (by intro wS hSw; go_simp; try with_reducible rfl) ?_
      simp only [Act.put, actS]
      refine tk (i := 8) rfl (by kernel_rfl) (by rfl) (fun _ _ _ h => h) L3 (by intro wS hSw; go_simp; try with_reducible rfl) ?_
      simp only [Act.put, actS]
      refine wpAnyT_ready (rs := [9]) (by kernel_rfl) (by simp) ?_
      refine (AllT.cons rfl (fun KK hK => ?_) AllT.nil)
      rw [if_pos (by rfl)]
      refine wp_store_row 53 _ _ rfl (w2.heap.size) #[.slice r'.O.a r'.O.n r'.O.c, .slice r'.T.a r'.T.n r'.T.c, .int .i64 r'.nd, .bool r'.wrong] rfl rfl 53 _ N3 st_row rfl (st_one _ _ _ _ _ _ _ _) ?_
      have HR4 : Hid (r'.In (w4.setRow (w2.heap.size) #[.slice r'.O.a r'.O.n r'.O.c, .slice r'.T.a r'.T.n r'.T.c, .int .i64 r'.nd, .bool r'.wrong]) (w4.setRow (w2.heap.size) #[.slice r'.O.a r'.O.n r'.O.c, .slice r'.T.a r'.T.n r'.T.c, .int .i64 r'.nd, .bool r'.wrong]).heap.size) := Lib.hid (by
        rw [size_setRow]
        exact HR2.out.setRow ⟨_, _, _, _, _, _, _, _, _, N3⟩)
      have L4 : LiesAt (w4.setRow (w2.heap.size) #[.slice r'.O.a r'.O.n r'.O.c, .slice r'.T.a r'.T.n r'.T.c, .int .i64 r'.nd, .bool r'.wrong]) p.b (p.o + j * 15) #[.int .i64 k, .string key, .int .i64 V.h.k, .bool V.h.b, .bool V.h.n, .string V.h.d, .int .i64 V.h.e, .int .i64 V.h.tk, .int .i64 V.h.td, .int .i64 V.h.tn, .int .i64 V.h.tz, .string V.h.x, .slice V.h.ba V.h.bn V.h.bc, .slice V.h.la V.h.ln V.h.lc, .slice V.h.fa V.h.fn V.h.fc] := lies_block L3 (setRow_other _ _ _ _ (by omega))
      have HLv4 := Lib.hid ((HLv.out.later h3).keep (kept_setRow (fun b => b = w2.heap.size) w4 (w2.heap.size) #[.slice r'.O.a r'.O.n r'.O.c, .slice r'.T.a r'.T.n r'.T.c, .int .i64 r'.nd, .bool r'.wrong] rfl) (fun b hb => (HA.out b hb).2.2))
      clear HR2 L3 HLv
      have hp4 := h3.size
      have hz4 : (w4.setRow (w2.heap.size) #[.slice r'.O.a r'.O.n r'.O.c, .slice r'.T.a r'.T.n r'.T.c, .int .i64 r'.nd, .bool r'.wrong]).heap.size = w4.heap.size := size_setRow _ _ _
      clear h3
      have N4 := Whole.setRow N3 #[.slice r'.O.a r'.O.n r'.O.c, .slice r'.T.a r'.T.n r'.T.c, .int .i64 r'.nd, .bool r'.wrong]
      have g4 := below_setRow (g := w2.heap.size) g3 (by omega) #[.slice r'.O.a r'.O.n r'.O.c, .slice r'.T.a r'.T.n r'.T.c, .int .i64 r'.nd, .bool r'.wrong]
      clear N3 g3
      generalize w4.setRow (w2.heap.size) #[.slice r'.O.a r'.O.n r'.O.c, .slice r'.T.a r'.T.n r'.T.c, .int .i64 r'.nd, .bool r'.wrong] = w4 at *
      refine hK.out _ _ (.inr L4) ?_
      clear hK KK
      try simp only [Act.put, actS]
      refine wpAnyT_ready (rs := [10]) (by kernel_rfl) (by simp) ?_
      refine (AllT.cons rfl (fun KK hK => ?_) AllT.nil)
      go_simp
      refine hK.out _ _ (.inr L4) ?_
      clear hK KK
      try simp only [Act.put, actS]
      refine wpAnyT_done (by kernel_rfl) ?_ _
      obtain ⟨x0, x1, x2, x3, x4, x5, x6, x7, x8, x9, x10, x11, x12, x13, x14⟩ := L4.e15
      have g4b := g4
      go_wp2_with fail
      refine (HBd.out _ g4 HLv4.out).mono ?_
      rintro _ w6 ⟨rfl, A', hL', hA', hk6⟩
      clear x0 x1 x2 x3 x4 x5 x6 x7 x8 x9 x10 x11 x12 x13 x14 L4 g4b HLv4 HBd
      have hs5 := g4.size
      have hs6 := hk6.size
      have g6 : Below W.heap.size W w6 := g4.trans (hk6.below g4.size (fun b hb q => by have := (HA.out b q).1; omega))
      have N6 : Whole w6 (w2.heap.size) 53 #[.slice r'.O.a r'.O.n r'.O.c, .slice r'.T.a r'.T.n r'.T.c, .int .i64 r'.nd, .bool r'.wrong] := (hk6.block _ (Whole.lt N4) (fun q => (HA.out _ q).2.2 rfl)).trans N4
      have HR6 := Lib.hid (HR4.out.kept HO2.out hk6)
      have HL6 := Lib.hid hL'.shrink
      have hn5 := Whole.lt N4
      have HA6 : Hid (∀ b, (A' b ∧ b < w6.heap.size) → W.heap.size ≤ b ∧ b < w6.heap.size ∧ b ≠ w2.heap.size) := Lib.hid fun b hb => by
        rcases hA' b hb.1 with q | q
        · have := HA.out b q; exact ⟨this.1, hb.2, this.2.2⟩
        · exact ⟨by omega, hb.2, by omega⟩
      have HO6 : Hid (r'.Off (fun b => ¬ (A' b ∧ b < w6.heap.size))) := Lib.hid ((HO2.out.and HR4.out.off).mono fun b hb q => by
        rcases hA' b q.1 with z | z
        · exact hb.1 z
        · omega)
      clear hL' hA' hk6 HR4 HO2 HA N4 g4
      have dE : (E != E) = false := by simp
      have HDB := Lib.hid (fun (w1 : World) (hb : Below w6.heap.size w6 w1) => live_done (HL6.out.later hb))
      have HDeB := Lib.hid (fun (w1 : World) (hb : Below w6.heap.size w6 w1) => live_depth (HL6.out.later hb))
      have HPaB := Lib.hid (fun (w1 : World) (hb : Below w6.heap.size w6 w1) => live_path (HL6.out.later hb))
      have HDR := Lib.hid (fun (w1 : World) (hb : Below w6.heap.size w6 w1) => rdone_any (r := r') (top := w1.heap.size) (w := w1) ((HR6.out.below hb).up hb.size) (Nat.le_refl _) HI2.out HB2.out.cln (fun q => HB2.out.dn q))
      have HPaR := Lib.hid (fun (w1 : World) (hb : Below w6.heap.size w6 w1) => rpath_any (r := r') (top := w1.heap.size) (w := w1) ((HR6.out.below hb).up hb.size) (Nat.le_refl _) (HI2.out.pok HB2.out.inv))
      rw [HI2.out.path HB2.out.inv] at HPaR
      have hOd := HI2.out.d
      unfold DoneOut at HDB
      unfold RDnOut at HDR
      unfold PthOut at HPaB HPaR
      generalize s2.res = T at *
      generalize pathS s2 = U at *
      obtain ⟨dn, hdn⟩ : ∃ d, s2.dn = d := ⟨_, rfl⟩
      rw [hdn] at HDB HDR
      clear hdn
      obtain ⟨D, hD⟩ : ∃ D, s2.d = D := ⟨_, rfl⟩
      rw [hD] at HDeB hOd
      clear hD
      have HOd := Lib.hid hOd
      clear hOd
      simp only [Rst.cells] at HDR HPaR
      have h6 := Below.refl w6.heap.size w6
      go_wp2_with fail
      refine (HDB.out _ h6).mono ?_; rintro _ w7 ⟨X, rfl, hX, -, hXs, hb7⟩
      clear HDB
      have N7 := Whole.below N6 hb7 (Whole.lt N6)
      have g7 := below_then g6 hb7
      have h7 := below_then h6 hb7
      clear N6 g6 h6
      have q := (Below.refl w7.heap.size w7).alloc (Nat.le_refl _) (.cells #[.int .i64 X.h.k, .bool X.h.b, .bool X.h.n, .string X.h.d, .int .i64 X.h.e, .int .i64 X.h.tk, .int .i64 X.h.td, .int .i64 X.h.tn, .int .i64 X.h.tz, .string X.h.x, .slice X.h.ba X.h.bn X.h.bc, .slice X.h.la X.h.ln X.h.lc, .slice X.h.fa X.h.fn X.h.fc] 30)
      have A8 := Whole.new w7 30 #[.int .i64 X.h.k, .bool X.h.b, .bool X.h.n, .string X.h.d, .int .i64 X.h.e, .int .i64 X.h.tk, .int .i64 X.h.td, .int .i64 X.h.tn, .int .i64 X.h.tz, .string X.h.x, .slice X.h.ba X.h.bn X.h.bc, .slice X.h.la X.h.ln X.h.lc, .slice X.h.fa X.h.fn X.h.fc]
      have N8 := Whole.below N7 q (Whole.lt N7)
      have g8 := below_then g7 q
      have h8 := below_then h7 q
      clear N7 g7 h7
      have HX8 := Lib.hid (hX.later q)
      have HXs := Lib.hid hXs
      clear hX hXs q hb7
      obtain ⟨c0, c1, c2, c3⟩ := Whole.o4s N8
      go_upto_region 16 with (fail)
      generalize w7.alloc (.cells #[.int .i64 X.h.k, .bool X.h.b, .bool X.h.n, .string X.h.d, .int .i64 X.h.e, .int .i64 X.h.tk, .int .i64 X.h.td, .int .i64 X.h.tn, .int .i64 X.h.tz, .string X.h.x, .slice X.h.ba X.h.bn X.h.bc, .slice X.h.la X.h.ln X.h.lc, .slice X.h.fa X.h.fn X.h.fc] 30) = w8 at *
      go_wp2_with fail
      refine (HDR.out _ h8).mono ?_; rintro _ w9 ⟨Y, rfl, hY, hYs, hb9⟩
      clear HDR c0 c1 c2 c3
      have HX9 := Lib.hid (HX8.out.later hb9)
      clear HX8
      have N9 := Whole.below N8 hb9 (Whole.lt N8)
      have A9 := Whole.below A8 hb9 (Whole.lt A8)
      have g9 := below_then g8 hb9
      have h9 := below_then h8 hb9
      clear N8 A8 g8 h8
      have q := (Below.refl w9.heap.size w9).alloc (Nat.le_refl _) (.cells #[.int .i64 Y.h.k, .bool Y.h.b, .bool Y.h.n, .string Y.h.d, .int .i64 Y.h.e, .int .i64 Y.h.tk, .int .i64 Y.h.td, .int .i64 Y.h.tn, .int .i64 Y.h.tz, .string Y.h.x, .slice Y.h.ba Y.h.bn Y.h.bc, .slice Y.h.la Y.h.ln Y.h.lc, .slice Y.h.fa Y.h.fn Y.h.fc] 30)
      have B10 := Whole.new w9 30 #[.int .i64 Y.h.k, .bool Y.h.b, .bool Y.h.n, .string Y.h.d, .int .i64 Y.h.e, .int .i64 Y.h.tk, .int .i64 Y.h.td, .int .i64 Y.h.tn, .int .i64 Y.h.tz, .string Y.h.x, .slice Y.h.ba Y.h.bn Y.h.bc, .slice Y.h.la Y.h.ln Y.h.lc, .slice Y.h.fa Y.h.fn Y.h.fc]
      have N10 := Whole.below N9 q (Whole.lt N9)
      have A10 := Whole.below A9 q (Whole.lt A9)
      have g10 := below_then g9 q
      have h10 := below_then h9 q
      clear N9 A9 g9 h9
      have HX10 := Lib.hid (HX9.out.later q)
      have HY10 := Lib.hid (hY.later q)
      have hst : sameB X Y = true := sameB_iff.2 (HXs.out.trans hYs.symm)
      clear hY hYs q hb9 HX9 HXs
      go_upto_region 17 with (fail)
      generalize w9.alloc (.cells #[.int .i64 Y.h.k, .bool Y.h.b, .bool Y.h.n, .string Y.h.d, .int .i64 Y.h.e, .int .i64 Y.h.tk, .int .i64 Y.h.td, .int .i64 Y.h.tn, .int .i64 Y.h.tz, .string Y.h.x, .slice Y.h.ba Y.h.bn Y.h.bc, .slice Y.h.la Y.h.ln Y.h.lc, .slice Y.h.fa Y.h.fn Y.h.fc] 30) = w10 at *
      have hDD : (((D : Nat) : Int) != ((D : Nat) : Int)) = false := by simp
      cases dn
      · refine wp_region_T (fun Wz => Whole Wz (w2.heap.size) 53 #[.slice r'.O.a r'.O.n r'.O.c, .slice r'.T.a r'.T.n r'.T.c, .int .i64 r'.nd, .bool r'.wrong] ∧ Whole Wz (w7.heap.size) 30 #[.int .i64 X.h.k, .bool X.h.b, .bool X.h.n, .string X.h.d, .int .i64 X.h.e, .int .i64 X.h.tk, .int .i64 X.h.td, .int .i64 X.h.tn, .int .i64 X.h.tz, .string X.h.x, .slice X.h.ba X.h.bn X.h.bc, .slice X.h.la X.h.ln X.h.lc, .slice X.h.fa X.h.fn X.h.fc] ∧ Whole Wz (w9.heap.size) 30 #[.int .i64 Y.h.k, .bool Y.h.b, .bool Y.h.n, .string Y.h.d, .int .i64 Y.h.e, .int .i64 Y.h.tk, .int .i64 Y.h.td, .int .i64 Y.h.tn, .int .i64 Y.h.tz, .string Y.h.x, .slice Y.h.ba Y.h.bn Y.h.bc, .slice Y.h.la Y.h.ln Y.h.lc, .slice Y.h.fa Y.h.fn Y.h.fc]) [] (by kernel_rfl) ?_
        have qd : Below w10.heap.size w10 w10.drew := (Below.refl _ w10).drew
        have HX11 := Lib.hid (HX10.out.later qd)
        have HY11 := Lib.hid (HY10.out.later qd)
        generalize w10.drew = w11 at *
        have N11 := Whole.below N10 qd (Whole.lt N10)
        have A11 := Whole.below A10 qd (Whole.lt A10)
        have B11 := Whole.below B10 qd (Whole.lt B10)
        have g11 := below_then g10 qd
        have h11 := below_then h10 qd
        clear N10 A10 B10 g10 h10
        clear qd HX10 HY10
        refine tk (i := 0) rfl (by kernel_rfl) (by rfl) (fun _ _ _ h => h) ⟨N11, A11, B11⟩ (by intro wS hSw; go_simp; try with_reducible rfl) ?_
        simp only [Act.put, actS]
        refine tk (i := 1) rfl (by kernel_rfl) (by rfl) (fun _ _ _ h => h) ⟨N11, A11, B11⟩ (by intro wS hSw; go_simp; try with_reducible rfl) ?_
        simp only [Act.put, actS]
        refine tk (i := 2) rfl (by kernel_rfl) (by rfl) (fun _ _ _ h => h) ⟨N11, A11, B11⟩ (by intro wS hSw; go_simp; try with_reducible rfl) ?_
        simp only [Act.put, actS]
        refine tk (i := 3) rfl (by kernel_rfl) (by rfl) (fun _ _ _ h => h) ⟨N11, A11, B11⟩ (by intro wS hSw; go_simp; try with_reducible rfl) ?_
        simp only [Act.put, actS]
        refine tk (i := 4) rfl (by kernel_rfl) (by rfl) (fun _ _ _ h => h) ⟨N11, A11, B11⟩ (by intro wS hSw; obtain ⟨Nz, Az, Bz⟩ := hSw; obtain ⟨a0, a1, a2, a3, a4, a5, a6, a7, a8, a9, a10, a11, a12⟩ := Whole.c13 (h := X.h) Az; go_simp; try with_reducible rfl) ?_
        simp only [Act.put, actS]
        refine tk (i := 5) rfl (by kernel_rfl) (by rfl) (fun _ _ _ h => h) ⟨N11, A11, B11⟩ (by intro wS hSw; obtain ⟨Nz, Az, Bz⟩ := hSw; obtain ⟨a0, a1, a2, a3, a4, a5, a6, a7, a8, a9, a10, a11, a12⟩ := Whole.c13 (h := Y.h) Bz; go_simp; try with_reducible rfl) ?_
        simp only [Act.put, actS]
        refine wpAnyT_ready (rs := [6]) (by kernel_rfl) (by simp) ?_
        refine (AllT.cons rfl (fun KK hK => ?_) AllT.nil)
        go_simp
        go_at_call 17
        refine ((show Calls _ _ _ _ _ from by have q := HSm.out X Y w11 HX11.out HY11.out; rw [hst] at q; exact q)).mono ?_
        rintro _ w12 ⟨rfl, hb⟩
        clear HX11 HY11 hst
        have N12 := Whole.below N11 hb (Whole.lt N11)
        have A12 := Whole.below A11 hb (Whole.lt A11)
        have B12 := Whole.below B11 hb (Whole.lt B11)
        have g12 := below_then g11 hb
        have h12 := below_then h11 hb
        clear N11 A11 B11 g11 h11
        clear hb
        refine hK.out _ _ (.inr ⟨N12, A12, B12⟩) ?_
        clear hK KK
        try simp only [Act.put, actS]
        refine tk (i := 7) rfl (by kernel_rfl) (by rfl) (fun _ _ _ h => h) ⟨N12, A12, B12⟩ (by intro wS hSw; go_simp; try with_reducible rfl) ?_
        simp only [Act.put, actS]
        refine tk (i := 8) rfl (by kernel_rfl) (by rfl) (fun _ _ _ h => h) ⟨N12, A12, B12⟩ (by intro wS hSw; go_simp; try with_reducible rfl) ?_
        simp only [Act.put, actS]
        refine tk (i := 9) rfl (by kernel_rfl) (by rfl) (fun _ _ _ h => h) ⟨N12, A12, B12⟩ (by intro wS hSw; go_simp; try with_reducible rfl) ?_
        simp only [Act.put, actS]
        refine tk (i := 10) rfl (by kernel_rfl) (by rfl) (fun _ _ _ h => h) ⟨N12, A12, B12⟩ (by intro wS hSw; go_simp; try with_reducible rfl) ?_
        simp only [Act.put, actS]
        refine tk (i := 12) rfl (by kernel_rfl) (by rfl) (fun _ _ _ h => h) ⟨N12, A12, B12⟩ (by intro wS hSw; go_simp; try with_reducible rfl) ?_
        simp only [Act.put, actS]
        refine tk (i := 13) rfl (by kernel_rfl) (by rfl) (fun _ _ _ h => h) ⟨N12, A12, B12⟩ (by intro wS hSw; obtain ⟨Nz, Az, Bz⟩ := hSw; obtain ⟨c0, c1, c2, c3⟩ := Whole.o4s Nz; go_simp; try with_reducible rfl) ?_
        simp only [Act.put, actS]
        refine tk (i := 14) rfl (by kernel_rfl) (by rfl) (fun _ _ _ h => h) ⟨N12, A12, B12⟩ (by intro wS hSw; have e := HOd.out; go_simp; try with_reducible rfl) ?_
        simp only [Act.put, actS]
        refine wpAnyT_ready (rs := [11]) (by kernel_rfl) (by simp) ?_
        refine (AllT.cons rfl (fun KK hK => ?_) AllT.nil)
        go_simp
        go_at_call 26
        refine (HDeB.out _ h12).mono ?_
        rintro _ w13 ⟨rfl, hb⟩
        have N13 := Whole.below N12 hb (Whole.lt N12)
        have A13 := Whole.below A12 hb (Whole.lt A12)
        have B13 := Whole.below B12 hb (Whole.lt B12)
        have g13 := below_then g12 hb
        have h13 := below_then h12 hb
        clear N12 A12 B12 g12 h12
        clear hb
        refine hK.out _ _ (.inr ⟨N13, A13, B13⟩) ?_
        clear hK KK
        try simp only [Act.put, actS]
        refine tk (i := 15) rfl (by kernel_rfl) (by rfl) (fun _ _ _ h => h) ⟨N13, A13, B13⟩ (by intro wS hSw; go_simp; try with_reducible rfl) ?_
        simp only [Act.put, actS]
        refine tk (i := 16) rfl (by kernel_rfl) (by rfl) (fun _ _ _ h => h) ⟨N13, A13, B13⟩ (by intro wS hSw; go_simp; try with_reducible rfl) ?_
        simp only [Act.put, actS]
        refine tk (i := 17) rfl (by kernel_rfl) (by rfl) (fun _ _ _ h => h) ⟨N13, A13, B13⟩ (by intro wS hSw; go_simp; try with_reducible rfl) ?_
        simp only [Act.put, actS]
        refine tk (i := 18) rfl (by kernel_rfl) (by rfl) (fun _ _ _ h => h) ⟨N13, A13, B13⟩ (by intro wS hSw; go_simp; try with_reducible rfl) ?_
        simp only [Act.put, actS]
        refine tk (i := 20) rfl (by kernel_rfl) (by rfl) (fun _ _ _ h => h) ⟨N13, A13, B13⟩ (by intro wS hSw; obtain ⟨Nz, Az, Bz⟩ := hSw; obtain ⟨c0, c1, c2, c3⟩ := Whole.o4s Nz; go_simp; try with_reducible rfl) ?_
        simp only [Act.put, actS]
        refine wpAnyT_ready (rs := [19]) (by kernel_rfl) (by simp) ?_
        refine (AllT.cons rfl (fun KK hK => ?_) AllT.nil)
        go_simp
        go_at_call 27
        refine (HPaB.out _ h13).mono ?_
        rintro _ w14 ⟨y1, rfl, e1, e2, -, hb⟩
        have HY1 := Lib.hid e1
        have HY2 := Lib.hid e2
        clear e1 e2
        have N14 := Whole.below N13 hb (Whole.lt N13)
        have A14 := Whole.below A13 hb (Whole.lt A13)
        have B14 := Whole.below B13 hb (Whole.lt B13)
        have g14 := below_then g13 hb
        have h14 := below_then h13 hb
        clear N13 A13 B13 g13 h13
        clear hb
        refine hK.out _ _ (.inr ⟨N14, A14, B14⟩) ?_
        clear hK KK
        try simp only [Act.put, actS]
        refine wpAnyT_ready (rs := [21]) (by kernel_rfl) (by simp) ?_
        refine (AllT.cons rfl (fun KK hK => ?_) AllT.nil)
        go_simp
        go_at_call 28
        refine (HPaR.out _ h14).mono ?_
        rintro _ w15 ⟨y2, rfl, e1, e2, -, hb⟩
        have HY3 := Lib.hid ((HY1.out.below hb).up hb.size)
        have HEE := Lib.hid (HEq.out y1 y2 _ HY3.out e1)
        rw [HY2.out, e2, eqS_yes rfl] at HEE
        clear e1 e2 HY1 HY2 HY3
        have N15 := Whole.below N14 hb (Whole.lt N14)
        have A15 := Whole.below A14 hb (Whole.lt A14)
        have B15 := Whole.below B14 hb (Whole.lt B14)
        have g15 := below_then g14 hb
        have h15 := below_then h14 hb
        clear N14 A14 B14 g14 h14
        clear hb
        refine hK.out _ _ (.inr ⟨N15, A15, B15⟩) ?_
        clear hK KK
        try simp only [Act.put, actS]
        refine wpAnyT_ready (rs := [22]) (by kernel_rfl) (by simp) ?_
        refine (AllT.cons rfl (fun KK hK => ?_) AllT.nil)
        go_simp
        go_at_call 20
        refine (HEE.out).mono ?_
        rintro _ w16 ⟨rfl, hb⟩
        clear HEE
        have N16 := Whole.below N15 hb (Whole.lt N15)
        have A16 := Whole.below A15 hb (Whole.lt A15)
        have B16 := Whole.below B15 hb (Whole.lt B15)
        have g16 := below_then g15 hb
        have h16 := below_then h15 hb
        clear N15 A15 B15 g15 h15
        clear hb
        refine hK.out _ _ (.inr ⟨N16, A16, B16⟩) ?_
        clear hK KK
        try simp only [Act.put, actS]
        refine tk (i := 23) rfl (by kernel_rfl) (by rfl) (fun _ _ _ h => h) ⟨N16, A16, B16⟩ (by intro wS hSw; go_simp; try with_reducible rfl) ?_
        simp only [Act.put, actS]
        refine tk (i := 24) rfl (by kernel_rfl) (by rfl) (fun _ _ _ h => h) ⟨N16, A16, B16⟩ (by intro wS hSw; go_simp; try with_reducible rfl) ?_
        simp only [Act.put, actS]
        refine wpAnyT_done (by kernel_rfl) ?_ _
        have hsf := h16.size
        go_wp2_with fail
        go_roundw
        case rel => exact ⟨j + 1, s2, l2, r', _, by omega, by go_num, HB2, HLn2, Lib.hid (HL6.out.later h16), Lib.hid (fun b hb => by have := HA6.out b hb; omega), HI2, Lib.hid ((HR6.out.below h16).up h16.size), HO6, N16, g16⟩
        case measure => simp [intOf]; omega
      · refine wp_region_T (fun Wz => Whole Wz (w2.heap.size) 53 #[.slice r'.O.a r'.O.n r'.O.c, .slice r'.T.a r'.T.n r'.T.c, .int .i64 r'.nd, .bool r'.wrong] ∧ Whole Wz (w7.heap.size) 30 #[.int .i64 X.h.k, .bool X.h.b, .bool X.h.n, .string X.h.d, .int .i64 X.h.e, .int .i64 X.h.tk, .int .i64 X.h.td, .int .i64 X.h.tn, .int .i64 X.h.tz, .string X.h.x, .slice X.h.ba X.h.bn X.h.bc, .slice X.h.la X.h.ln X.h.lc, .slice X.h.fa X.h.fn X.h.fc] ∧ Whole Wz (w9.heap.size) 30 #[.int .i64 Y.h.k, .bool Y.h.b, .bool Y.h.n, .string Y.h.d, .int .i64 Y.h.e, .int .i64 Y.h.tk, .int .i64 Y.h.td, .int .i64 Y.h.tn, .int .i64 Y.h.tz, .string Y.h.x, .slice Y.h.ba Y.h.bn Y.h.bc, .slice Y.h.la Y.h.ln Y.h.lc, .slice Y.h.fa Y.h.fn Y.h.fc]) [] (by kernel_rfl) ?_
        have qd : Below w10.heap.size w10 w10.drew := (Below.refl _ w10).drew
        have HX11 := Lib.hid (HX10.out.later qd)
        have HY11 := Lib.hid (HY10.out.later qd)
        generalize w10.drew = w11 at *
        have N11 := Whole.below N10 qd (Whole.lt N10)
        have A11 := Whole.below A10 qd (Whole.lt A10)
        have B11 := Whole.below B10 qd (Whole.lt B10)
        have g11 := below_then g10 qd
        have h11 := below_then h10 qd
        clear N10 A10 B10 g10 h10
        clear qd HX10 HY10
        refine tk (i := 0) rfl (by kernel_rfl) (by rfl) (fun _ _ _ h => h) ⟨N11, A11, B11⟩ (by intro wS hSw; go_simp; try with_reducible rfl) ?_
        simp only [Act.put, actS]
        refine tk (i := 1) rfl (by kernel_rfl) (by rfl) (fun _ _ _ h => h) ⟨N11, A11, B11⟩ (by intro wS hSw; go_simp; try with_reducible rfl) ?_
        simp only [Act.put, actS]
        refine tk (i := 2) rfl (by kernel_rfl) (by rfl) (fun _ _ _ h => h) ⟨N11, A11, B11⟩ (by intro wS hSw; go_simp; try with_reducible rfl) ?_
        simp only [Act.put, actS]
        refine tk (i := 3) rfl (by kernel_rfl) (by rfl) (fun _ _ _ h => h) ⟨N11, A11, B11⟩ (by intro wS hSw; go_simp; try with_reducible rfl) ?_
        simp only [Act.put, actS]
        refine tk (i := 4) rfl (by kernel_rfl) (by rfl) (fun _ _ _ h => h) ⟨N11, A11, B11⟩ (by intro wS hSw; obtain ⟨Nz, Az, Bz⟩ := hSw; obtain ⟨a0, a1, a2, a3, a4, a5, a6, a7, a8, a9, a10, a11, a12⟩ := Whole.c13 (h := X.h) Az; go_simp; try with_reducible rfl) ?_
        simp only [Act.put, actS]
        refine tk (i := 5) rfl (by kernel_rfl) (by rfl) (fun _ _ _ h => h) ⟨N11, A11, B11⟩ (by intro wS hSw; obtain ⟨Nz, Az, Bz⟩ := hSw; obtain ⟨a0, a1, a2, a3, a4, a5, a6, a7, a8, a9, a10, a11, a12⟩ := Whole.c13 (h := Y.h) Bz; go_simp; try with_reducible rfl) ?_
        simp only [Act.put, actS]
        refine wpAnyT_ready (rs := [6]) (by kernel_rfl) (by simp) ?_
        refine (AllT.cons rfl (fun KK hK => ?_) AllT.nil)
        go_simp
        go_at_call 17
        refine ((show Calls _ _ _ _ _ from by have q := HSm.out X Y w11 HX11.out HY11.out; rw [hst] at q; exact q)).mono ?_
        rintro _ w12 ⟨rfl, hb⟩
        clear HX11 HY11 hst
        have N12 := Whole.below N11 hb (Whole.lt N11)
        have A12 := Whole.below A11 hb (Whole.lt A11)
        have B12 := Whole.below B11 hb (Whole.lt B11)
        have g12 := below_then g11 hb
        have h12 := below_then h11 hb
        clear N11 A11 B11 g11 h11
        clear hb
        refine hK.out _ _ (.inr ⟨N12, A12, B12⟩) ?_
        clear hK KK
        try simp only [Act.put, actS]
        refine tk (i := 7) rfl (by kernel_rfl) (by rfl) (fun _ _ _ h => h) ⟨N12, A12, B12⟩ (by intro wS hSw; go_simp; try with_reducible rfl) ?_
        simp only [Act.put, actS]
        refine tk (i := 8) rfl (by kernel_rfl) (by rfl) (fun _ _ _ h => h) ⟨N12, A12, B12⟩ (by intro wS hSw; go_simp; try with_reducible rfl) ?_
        simp only [Act.put, actS]
        refine tk (i := 9) rfl (by kernel_rfl) (by rfl) (fun _ _ _ h => h) ⟨N12, A12, B12⟩ (by intro wS hSw; go_simp; try with_reducible rfl) ?_
        simp only [Act.put, actS]
        refine tk (i := 10) rfl (by kernel_rfl) (by rfl) (fun _ _ _ h => h) ⟨N12, A12, B12⟩ (by intro wS hSw; go_simp; try with_reducible rfl) ?_
        simp only [Act.put, actS]
        refine tk (i := 12) rfl (by kernel_rfl) (by rfl) (fun _ _ _ h => h) ⟨N12, A12, B12⟩ (by intro wS hSw; go_simp; try with_reducible rfl) ?_
        simp only [Act.put, actS]
        refine tk (i := 13) rfl (by kernel_rfl) (by rfl) (fun _ _ _ h => h) ⟨N12, A12, B12⟩ (by intro wS hSw; obtain ⟨Nz, Az, Bz⟩ := hSw; obtain ⟨c0, c1, c2, c3⟩ := Whole.o4s Nz; go_simp; try with_reducible rfl) ?_
        simp only [Act.put, actS]
        refine tk (i := 14) rfl (by kernel_rfl) (by rfl) (fun _ _ _ h => h) ⟨N12, A12, B12⟩ (by intro wS hSw; have e := HOd.out; go_simp; try with_reducible rfl) ?_
        simp only [Act.put, actS]
        refine wpAnyT_ready (rs := [11]) (by kernel_rfl) (by simp) ?_
        refine (AllT.cons rfl (fun KK hK => ?_) AllT.nil)
        go_simp
        go_at_call 26
        refine (HDeB.out _ h12).mono ?_
        rintro _ w13 ⟨rfl, hb⟩
        have N13 := Whole.below N12 hb (Whole.lt N12)
        have A13 := Whole.below A12 hb (Whole.lt A12)
        have B13 := Whole.below B12 hb (Whole.lt B12)
        have g13 := below_then g12 hb
        have h13 := below_then h12 hb
        clear N12 A12 B12 g12 h12
        clear hb
        refine hK.out _ _ (.inr ⟨N13, A13, B13⟩) ?_
        clear hK KK
        try simp only [Act.put, actS]
        refine tk (i := 15) rfl (by kernel_rfl) (by rfl) (fun _ _ _ h => h) ⟨N13, A13, B13⟩ (by intro wS hSw; go_simp; try with_reducible rfl) ?_
        simp only [Act.put, actS]
        refine tk (i := 16) rfl (by kernel_rfl) (by rfl) (fun _ _ _ h => h) ⟨N13, A13, B13⟩ (by intro wS hSw; go_simp; try with_reducible rfl) ?_
        simp only [Act.put, actS]
        refine tk (i := 17) rfl (by kernel_rfl) (by rfl) (fun _ _ _ h => h) ⟨N13, A13, B13⟩ (by intro wS hSw; go_simp; try with_reducible rfl) ?_
        simp only [Act.put, actS]
        refine tk (i := 18) rfl (by kernel_rfl) (by rfl) (fun _ _ _ h => h) ⟨N13, A13, B13⟩ (by intro wS hSw; go_simp; try with_reducible rfl) ?_
        simp only [Act.put, actS]
        refine tk (i := 20) rfl (by kernel_rfl) (by rfl) (fun _ _ _ h => h) ⟨N13, A13, B13⟩ (by intro wS hSw; obtain ⟨Nz, Az, Bz⟩ := hSw; obtain ⟨c0, c1, c2, c3⟩ := Whole.o4s Nz; go_simp; try with_reducible rfl) ?_
        simp only [Act.put, actS]
        refine wpAnyT_ready (rs := [19]) (by kernel_rfl) (by simp) ?_
        refine (AllT.cons rfl (fun KK hK => ?_) AllT.nil)
        go_simp
        go_at_call 27
        refine (HPaB.out _ h13).mono ?_
        rintro _ w14 ⟨y1, rfl, e1, e2, -, hb⟩
        have HY1 := Lib.hid e1
        have HY2 := Lib.hid e2
        clear e1 e2
        have N14 := Whole.below N13 hb (Whole.lt N13)
        have A14 := Whole.below A13 hb (Whole.lt A13)
        have B14 := Whole.below B13 hb (Whole.lt B13)
        have g14 := below_then g13 hb
        have h14 := below_then h13 hb
        clear N13 A13 B13 g13 h13
        clear hb
        refine hK.out _ _ (.inr ⟨N14, A14, B14⟩) ?_
        clear hK KK
        try simp only [Act.put, actS]
        refine wpAnyT_ready (rs := [21]) (by kernel_rfl) (by simp) ?_
        refine (AllT.cons rfl (fun KK hK => ?_) AllT.nil)
        go_simp
        go_at_call 28
        refine (HPaR.out _ h14).mono ?_
        rintro _ w15 ⟨y2, rfl, e1, e2, -, hb⟩
        have HY3 := Lib.hid ((HY1.out.below hb).up hb.size)
        have HEE := Lib.hid (HEq.out y1 y2 _ HY3.out e1)
        rw [HY2.out, e2, eqS_yes rfl] at HEE
        clear e1 e2 HY1 HY2 HY3
        have N15 := Whole.below N14 hb (Whole.lt N14)
        have A15 := Whole.below A14 hb (Whole.lt A14)
        have B15 := Whole.below B14 hb (Whole.lt B14)
        have g15 := below_then g14 hb
        have h15 := below_then h14 hb
        clear N14 A14 B14 g14 h14
        clear hb
        refine hK.out _ _ (.inr ⟨N15, A15, B15⟩) ?_
        clear hK KK
        try simp only [Act.put, actS]
        refine wpAnyT_ready (rs := [22]) (by kernel_rfl) (by simp) ?_
        refine (AllT.cons rfl (fun KK hK => ?_) AllT.nil)
        go_simp
        go_at_call 20
        refine (HEE.out).mono ?_
        rintro _ w16 ⟨rfl, hb⟩
        clear HEE
        have N16 := Whole.below N15 hb (Whole.lt N15)
        have A16 := Whole.below A15 hb (Whole.lt A15)
        have B16 := Whole.below B15 hb (Whole.lt B15)
        have g16 := below_then g15 hb
        have h16 := below_then h15 hb
        clear N15 A15 B15 g15 h15
        clear hb
        refine hK.out _ _ (.inr ⟨N16, A16, B16⟩) ?_
        clear hK KK
        try simp only [Act.put, actS]
        refine tk (i := 23) rfl (by kernel_rfl) (by rfl) (fun _ _ _ h => h) ⟨N16, A16, B16⟩ (by intro wS hSw; go_simp; try with_reducible rfl) ?_
        simp only [Act.put, actS]
        refine tk (i := 24) rfl (by kernel_rfl) (by rfl) (fun _ _ _ h => h) ⟨N16, A16, B16⟩ (by intro wS hSw; go_simp; try with_reducible rfl) ?_
        simp only [Act.put, actS]
        refine wpAnyT_done (by kernel_rfl) ?_ _
        have hsf := h16.size
        go_wp2_with fail
        go_roundw
        case rel => exact ⟨j + 1, s2, l2, r', _, by omega, by go_num, HB2, HLn2, Lib.hid (HL6.out.later h16), Lib.hid (fun b hb => by have := HA6.out b hb; omega), HI2, Lib.hid ((HR6.out.below h16).up h16.size), HO6, N16, g16⟩
        case measure => simp [intOf]; omega
    · clear HBI HLn HLv HA HI HR HO HX HEq HSm HLi HLa HLb
      go_wp2_with fail
      refine (HLiv.out _).mono ?_; rintro _ w9 ⟨rfl, hb9⟩
      have g9 := below_then g1 hb9
      clear g1 hb9 HLiv
      go_wp2
      (first | exact ⟨rfl, g9⟩ | (go_ret; exact ⟨rfl, g9⟩))
end Go.Proofs.YtpcbhneaaibfiaaDoor
