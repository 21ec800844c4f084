/- Laid together for a claim: EvRWhe, EvLawW. -/
import Derived.Test.YtpcbhneaaibfiaaDoorQR09
import Derived.Test.YtpcbhneaaibfiaaDoorQX01
import Derived.Test.YtpcbhneaaibfiaaDoorQB25
import Derived.Test.YtpcbhneaaibfiaaDoorQB28
set_option linter.unusedVariables false
set_option linter.unusedSimpArgs false
namespace Go.Proofs.YtpcbhneaaibfiaaDoor
open Go.RowKit
def ParOut (q : Pth) (top : Nat) (w : World) (e : Ending) (w' : World) : Prop := ∃ (q' : Pth) (b : Bool), e = .returned (.tuple #[.slice q'.a q'.n q'.c, .bool b]) ∧ q'.In w top ∧ q'.steps = q.steps.dropLast ∧ (0 < q'.n → q'.b = q.b ∧ 0 < q.n) ∧ w' = w
set_option maxHeartbeats 1000000 in
set_option maxRecDepth 100000 in
theorem rparent_any {q : Pth} {top : Nat} {w : World} (hq : q.In w top) : Calls Tryd.prog 41 #[.slice q.a q.n q.c] w (ParOut q top w) := by
  have hn1 := hq.2.1.1
  have hcap := hq.2.1.2.1
  by_cases h0 : q.n = 0
  · have HE : Hid (ParOut q top w (.returned (.tuple #[.slice none 0 0, .bool false])) w) := Lib.hid ⟨⟨none, 0, 0, 0, 0, fun _ => default⟩, false, rfl, nil_in _ _ _ _ _ _ _ (Nat.zero_le _), by
      have : q.steps = [] := List.eq_nil_of_length_eq_zero (by rw [Pth.steps_len]; exact h0)
      rw [this]; rfl, fun z => absurd z (Nat.lt_irrefl _), rfl⟩
    obtain ⟨a, n, c, b, o, S⟩ := q
    dsimp only at h0
    subst h0
    clear hq
    go_enter Tryd.func41, Tryd.ntmps41
    go_wp2
    go_ret2
    exact HE.out
  · obtain ⟨a, n, c, b, o, S⟩ := q
    obtain ⟨ea, -⟩ := hq.1 (by show 0 < n; dsimp only at h0; omega)
    dsimp only at ea h0 hn1 hcap
    subst ea
    obtain ⟨m, rfl⟩ : ∃ m, n = m + 1 := ⟨n - 1, by omega⟩
    have HE := Lib.hid (drop_in hq)
    clear hq h0
    have ei : ((m + 1 : Nat) : Int) - 1 = m := by omega
    have ei2 : ((m : Int) + 1 - 1) = m := by omega
    have b0 : (0 : Int) ≤ m := by omega
    have b1 : (m : Int) ≤ c := by omega
    have b2 : (m : Int) + 1 ≤ 1048576 := by omega
    have b3 : m ≤ c := by omega
    have b4 : IntKind.i64.wrap (m : Int) = m := by rw [IntKind.wrap_i64]; omega
    have b5 : (((m : Int) + 1) == 0) = false := beq_eq_false_iff_ne.2 (by omega)
    have b6 : (((m + 1 : Nat) : Int) == 0) = false := beq_eq_false_iff_ne.2 (by omega)
    go_enter Tryd.func41, Tryd.ntmps41
    go_wp2
    go_ret2
    exact ⟨⟨some ⟨b, o, none⟩, m, c, b, o, S⟩, true, rfl, HE.out, drop_steps, fun z => ⟨rfl, Nat.succ_pos _⟩, rfl⟩
theorem Evs.In.take {W : World} {top m : Nat} {p : Evs} (h : p.In W top) (hm : m ≤ p.n) : Evs.In W top ⟨p.a, m, p.c, p.b, p.o, p.S⟩ :=
  ⟨fun q => h.1 (by have q' : 0 < m := q; omega), ⟨(by have := h.2.1.1; show m ≤ 1048576; omega), (by have := h.2.1.2.1; show m ≤ p.c; omega), h.2.1.2.2⟩, fun i hi => h.2.2 i (by have hi' : i < m := hi; omega)⟩
theorem Evs.take_list {p : Evs} {m : Nat} (hm : m ≤ p.n) : Evs.list ⟨p.a, m, p.c, p.b, p.o, p.S⟩ = p.list.take m := by
  simp only [Evs.list, ← List.map_take, List.take_range, Nat.min_eq_left hm]
theorem runN_take {p : Evs} {m : Nat} (hm : m ≤ p.n) : runN ⟨p.a, m, p.c, p.b, p.o, p.S⟩ m = runN p m := by
  unfold runN
  rw [Evs.take_list hm, List.take_take, Nat.min_self]
set_option maxHeartbeats 8000000 in
set_option maxRecDepth 100000 in
theorem rwhere_any {p : Evs} {i : Int} {top : Nat} {w : World} (hp : p.In w top) (ht : top ≤ w.heap.size) (hi : w64 i) : Calls Tryd.prog 19 #[.slice p.a p.n p.c, .int .i64 i] w (WhOut p i w) := by
  have hn1 := hp.2.1.1
  have hnj : ((p.n : Nat) : Int) ≤ 1048576 := by omega
  have hni : (0 : Int) ≤ ((p.n : Nat) : Int) := by omega
  have hw1 := hi.1
  have hw2 := hi.2
  by_cases c1 : i < 0
  · have HE := Lib.hid (wh_nil (W := w) (show whE p i = (2, []) from if_pos (.inl c1)) (Below.refl _ _))
    clear hp ht hi
    go_enter Tryd.func19, Tryd.ntmps19
    go_wp2
    go_ret2
    exact HE.out
  by_cases c2 : (p.n : Int) ≤ i
  · have HE := Lib.hid (wh_nil (W := w) (show whE p i = (2, []) from if_pos (.inr c2)) (Below.refl _ _))
    clear hp ht hi
    go_enter Tryd.func19, Tryd.ntmps19
    go_wp2
    go_ret2
    exact HE.out
  obtain ⟨m, rfl⟩ : ∃ m : Nat, i = m := ⟨i.toNat, by omega⟩
  have hmn : m < p.n := by omega
  have hmi : (m : Int) < p.n := by omega
  have hmj : (0 : Int) ≤ (m : Int) := by omega
  have hic : m ≤ p.c := by have := hp.2.1.2.1; omega
  have hic2 : (m : Int) ≤ p.c := by omega
  have hmc : ¬ ((p.n : Nat) : Int) ≤ (m : Int) := by omega
  have HAll := Lib.hid (rall_any (p := ⟨p.a, m, p.c, p.b, p.o, p.S⟩) (top := top) (w := w) (hp.take (Nat.le_of_lt hmn)) ht)
  unfold AllOut at HAll
  rw [show (Evs.mk p.a m p.c p.b p.o p.S).n = m from rfl, runN_take (Nat.le_of_lt hmn), Evs.take_list (Nat.le_of_lt hmn)] at HAll
  have HInv := Lib.hid (runN_inv hp m (Nat.le_of_lt hmn))
  have HLi := Lib.hid (fun (W : World) (hb : Below w.heap.size w W) => ((hp.2.2 m hmn).1.below (hb.mono ht) (hp.1 (by omega)).2))
  have HX := Lib.hid (fun (W : World) (hb : Below w.heap.size w W) => (And.intro (hp.2.2 m hmn).2.1 ((Vt.In.below (hb.mono ht) (hp.2.2 m hmn).2.2).up (Nat.le_trans ht hb.size)) : (p.S m).ok ∧ (p.S m).V.In W W.heap.size))
  have hpb : p.b < w.heap.size := Nat.lt_of_lt_of_le (hp.1 (by omega)).2 ht
  have ea := (hp.1 (by omega)).1
  have hwe : whE p m = if (runN p m).2 ≠ 0 then ((runN p m).2, []) else (addE (runN p m).1 (p.S m), if addE (runN p m).1 (p.S m) = 0 then whereS (runN p m).1 (p.S m) else []) := by
    unfold whE
    rw [if_neg (by omega), Int.toNat_natCast]
  have HWE := Lib.hid hwe
  have hll : (p.list.take m).length + 1 ≤ 1048576 := by rw [List.length_take, Evs.list_len]; omega
  have HLL := Lib.hid hll
  clear hp ht hi hwe hll c1 c2 hw1 hw2
  obtain ⟨x, hx⟩ : ∃ x, p.S m = x := ⟨_, rfl⟩
  rw [hx] at HX HLi HWE
  generalize (runN p m).1 = s at *
  generalize (runN p m).2 = E1 at *
  generalize p.list.take m = l at *
  clear hx
  have hEn := Lib.hid (fun (W' : World) (h0 : E1 ≠ 0) (hb : Below w.heap.size w W') => wh_nil (p := p) (i := m) (show whE p m = (E1, []) from by rw [HWE.out, if_pos h0]) hb)
  have hEa := Lib.hid (fun (W' : World) (h0 : E1 = 0) (h1 : addE s x ≠ 0) (hb : Below w.heap.size w W') => wh_nil (p := p) (i := m) (show whE p m = (addE s x, []) from by rw [HWE.out, if_neg (fun q => q h0), if_neg h1]) hb)
  have hEo := Lib.hid (fun (W' : World) (q : Pth) (h0 : E1 = 0) (h1 : addE s x = 0) (hb : Below w.heap.size w W') (hq : q.In W' W'.heap.size) (hs : q.steps = whereS s x) (hqb : 0 < q.n → w.heap.size ≤ q.b) => (⟨q, by rw [HWE.out, if_neg (fun q => q h0), h1], hq, by rw [HWE.out, if_neg (fun q => q h0), if_pos h1]; exact hs, hqb, hb⟩ : WhOut p m w (.returned (.tuple #[.slice q.a q.n q.c, .int .i64 0])) W'))
  clear HWE
  have HW6 : Hid (x.k = 6 → whereS s x = pathS (addS s x)) := Lib.hid fun q => by unfold whereS; rw [if_pos q]
  have HW3 : Hid (x.k = 3 → whereS s x = (pathS s).dropLast) := Lib.hid fun q => by unfold whereS; rw [if_neg (by omega), if_pos q]
  have HW0 : Hid (x.k ≠ 6 → x.k ≠ 3 → whereS s x = pathS s) := Lib.hid fun q1 q2 => by unfold whereS; rw [if_neg q1, if_neg q2]
  generalize whereS s x = U at *
  go_enter Tryd.func19, Tryd.ntmps19
  rw [ea] at HAll ⊢
  clear ea
  go_wp2_with fail
  refine HAll.out.mono ?_; rintro _ w1 ⟨r, rfl, q1, q2, hb1⟩
  have HR := Lib.hid q1
  have HI := Lib.hid q2
  clear q1 q2 HAll
  have hs1 := hb1.size
  have g1 := hb1
  have h1 := Below.refl w1.heap.size w1
  clear hb1
  have q2 := (Below.refl w1.heap.size w1).alloc (Nat.le_refl _) (.cells #[.slice none 0 0, .slice none 0 0, .int .i64 0, .bool false] 53)
  have N2 := Whole.new w1 53 #[.slice none 0 0, .slice none 0 0, .int .i64 0, .bool false]
  have Nb := N2
  have g2 := below_then g1 q2
  have h2 := below_then h1 q2
  clear g1 h1
  clear q2
  have hone : Hid ((#[.slice r.O.a r.O.n r.O.c, .slice r.T.a r.T.n r.T.c, .int .i64 r.nd, .bool r.wrong] : Array Value).all (·.oneCell') = true) := Lib.hid (st_one _ _ _ _ _ _ _ _)
  have N3 := Whole.setRow N2 #[.slice r.O.a r.O.n r.O.c, .slice r.T.a r.T.n r.T.c, .int .i64 r.nd, .bool r.wrong]
  have g3 := below_setRow (g := w1.heap.size) g2 (by omega) #[.slice r.O.a r.O.n r.O.c, .slice r.T.a r.T.n r.T.c, .int .i64 r.nd, .bool r.wrong]
  have h3 := below_setRow (g := w1.heap.size) h2 (by omega) #[.slice r.O.a r.O.n r.O.c, .slice r.T.a r.T.n r.T.c, .int .i64 r.nd, .bool r.wrong]
  clear N2 g2 h2
  simp only [Rst.cells] at *
  go_upto_region 4 with (refine wpList_store_row rfl 53 _ _ rfl w1.heap.size #[.slice r.O.a r.O.n r.O.c, .slice r.T.a r.T.n r.T.c, .int .i64 r.nd, .bool r.wrong] rfl rfl 53 _ Nb st_row rfl hone.out ?_)
  clear hone Nb
  generalize (w1.alloc (.cells #[.slice none 0 0, .slice none 0 0, .int .i64 0, .bool false] 53)).setRow (w1.heap.size) #[.slice r.O.a r.O.n r.O.c, .slice r.T.a r.T.n r.T.c, .int .i64 r.nd, .bool r.wrong] = w3 at *
  by_cases h0 : E1 = 0
  rotate_left
  · have dE : (E1 != 0) = true := bne_iff_ne.2 h0
    have HF := Lib.hid (hEn.out _ h0 g3)
    clear h0 hEn hEa hEo HR HI HInv HLi HX
    go_wp2
    (first | exact HF.out | (go_ret2; exact HF.out))
  subst h0
  have HI2 := Lib.hid (HI.out rfl)
  clear HI hEn
  have HAdd := Lib.hid (fun (w4 : World) (hb : Below w1.heap.size w1 w4) (hg : Below w.heap.size w w4) => sadd_any (r := r) (x := x) (top := w4.heap.size) (w := w4) ((HR.out.below hb).up hb.size) (HX.out w4 hg).1 (HX.out w4 hg).2 (Nat.le_refl _) HI2.out HInv.out HLL.out)
  unfold SAddOut at HAdd
  have HPa := Lib.hid (fun (w4 : World) (hb : Below w1.heap.size w1 w4) => rpath_any (r := r) (top := w4.heap.size) (w := w4) ((HR.out.below hb).up hb.size) (Nat.le_refl _) (HI2.out.pok HInv.out))
  rw [HI2.out.path HInv.out] at HPa
  have HPb := Lib.hid (fun (r' : Rst) (w4 : World) (hr' : r'.In w4 w4.heap.size) (his : r'.is (addS s x) (l ++ [x])) (hinv : (addS s x).inv) => (his.path hinv) ▸ rpath_any (r := r') (top := w4.heap.size) (w := w4) hr' (Nat.le_refl _) (his.pok hinv))
  have HIn2 : Hid ((addS s x).inv) := Lib.hid (add_inv HInv.out (HX.out w (Below.refl _ _)).1 (HX.out w (Below.refl _ _)).2.whole)
  have HPar := Lib.hid (fun (q : Pth) (w4 : World) (hq : q.In w4 w4.heap.size) => rparent_any hq)
  unfold ParOut at HPar
  unfold PthOut at HPa HPb
  obtain ⟨E, hE⟩ : ∃ E, addE s x = E := ⟨_, rfl⟩
  rw [hE] at HAdd hEa hEo
  clear hE
  obtain ⟨k, key, V⟩ := x
  have L3 := HLi.out w3 g3
  clear HX HInv HLi
  simp only [Rst.cells, Ev.cells, evc] at HAdd L3 HPa HPb
  dsimp only at HW6 HW3 HW0
  go_upto_region 6 with (fail)
  refine wp_region_T (fun Wz => Whole Wz w1.heap.size 53 #[.slice r.O.a r.O.n r.O.c, .slice r.T.a r.T.n r.T.c, .int .i64 r.nd, .bool r.wrong] ∧ LiesAt Wz p.b (p.o + m * 15) #[.int .i64 k, .string key, .int .i64 V.h.k, .bool V.h.b, .bool V.h.n, .string V.h.d, .int .i64 V.h.e, .int .i64 V.h.tk, .int .i64 V.h.td, .int .i64 V.h.tn, .int .i64 V.h.tz, .string V.h.x, .slice V.h.ba V.h.bn V.h.bc, .slice V.h.la V.h.ln V.h.lc, .slice V.h.fa V.h.fn V.h.fc]) [] (by kernel_rfl) ?_
  have qd : Below w3.heap.size w3 w3.drew := (Below.refl _ w3).drew
  have L4 := L3.below (top := w.heap.size) (W' := w3.drew) (qd.mono g3.size) hpb
  clear L3
  generalize w3.drew = w4 at *
  have N4 := Whole.below N3 qd (Whole.lt N3)
  have g4 := below_then g3 qd
  have h4 := below_then h3 qd
  clear N3 g3 h3
  clear qd
  refine tk (i := 0) rfl (by kernel_rfl) (by rfl) (fun _ _ _ h => h) ⟨N4, L4⟩ (by intro wS hSw; obtain ⟨Nz, Lz⟩ := hSw; obtain ⟨n0, n1, n2, n3⟩ := Whole.o4s Nz; go_simp; try with_reducible rfl) ?_
  simp only [Act.put, actS]
  refine tk (i := 1) rfl (by kernel_rfl) (by rfl) (fun _ _ _ h => h) ⟨N4, L4⟩ (by intro wS hSw; go_simp; try with_reducible rfl) ?_
  simp only [Act.put, actS]
  refine tk (i := 2) rfl (by kernel_rfl) (by rfl) (fun _ _ _ h => h) ⟨N4, L4⟩ (by intro wS hSw; go_simp; try with_reducible rfl) ?_
  simp only [Act.put, actS]
  refine tk (i := 3) rfl (by kernel_rfl) (by rfl) (fun _ _ _ h => h) ⟨N4, L4⟩ (by intro wS hSw; go_simp; try with_reducible rfl) ?_
  simp only [Act.put, actS]
  refine tk (i := 4) rfl (by kernel_rfl) (by rfl) (fun _ _ _ h => h) ⟨N4, L4⟩ (by intro wS hSw; obtain ⟨Nz, Lz⟩ := hSw; obtain ⟨x0, x1, x2, x3, x4, x5, x6, x7, x8, x9, x10, x11, x12, x13, x14⟩ := Lz.e15; go_simp; try with_reducible rfl) ?_
  simp only [Act.put, actS]
  refine wpAnyT_ready (rs := [5, 9]) (by kernel_rfl) (by simp) ?_
  refine (AllT.cons rfl (fun KK hK => ?_) (AllT.cons rfl (fun KK hK => ?_) AllT.nil))
  · go_simp
    go_at_call 22
    refine (HAdd.out _ h4 g4).mono ?_
    rintro _ w5 ⟨r', rfl, q1, q2, -, hb⟩
    have HR2 := Lib.hid q1
    have HI3 := Lib.hid q2
    have L5 := L4.below (top := w.heap.size) (hb.mono g4.size) hpb
    clear q1 q2 HAdd L4
    have N5 := Whole.below N4 hb (Whole.lt N4)
    have g5 := below_then g4 hb
    have h5 := below_then h4 hb
    clear N4 g4 h4
    clear hb
    refine hK.out _ _ (.inr ⟨N5, L5⟩) ?_
    clear hK KK
    try simp only [Act.put, actS]
    refine tk (i := 6) rfl (by kernel_rfl) (by rfl) (fun _ _ _ h => h) ⟨N5, L5⟩ (by intro wS hSw; go_simp; try with_reducible rfl) ?_
    simp only [Act.put, actS]
    refine tk (i := 7) rfl (by kernel_rfl) (by rfl) (fun _ _ _ h => h) ⟨N5, L5⟩ (by intro wS hSw; go_simp; try with_reducible rfl) ?_
    simp only [Act.put, actS]
    refine tk (i := 8) rfl (by kernel_rfl) (by rfl) (fun _ _ _ h => h) ⟨N5, L5⟩ (by intro wS hSw; go_simp; try with_reducible rfl) ?_
    simp only [Act.put, actS]
    refine wpAnyT_ready (rs := [9]) (by kernel_rfl) (by simp) ?_
    refine (AllT.cons rfl (fun KK hK => ?_) AllT.nil)
    go_simp
    have q := (Below.refl w5.heap.size w5).alloc (Nat.le_refl _) (.cells #[.slice none 0 0, .slice none 0 0, .int .i64 0, .bool false] 53)
    have B6 := Whole.new w5 53 #[.slice none 0 0, .slice none 0 0, .int .i64 0, .bool false]
    have hB8 : w1.heap.size < w5.heap.size := Whole.lt N5
    generalize w5.alloc (.cells #[.slice none 0 0, .slice none 0 0, .int .i64 0, .bool false] 53) = w6 at q B6 ⊢
    have L6 := L5.below (top := w.heap.size) (q.mono g5.size) hpb
    clear L5
    replace HR2 := Lib.hid ((HR2.out.below q).up q.size)
    have N6 := Whole.below N5 q (Whole.lt N5)
    have g6 := below_then g5 q
    have h6 := below_then h5 q
    clear N5 g5 h5
    clear q
    refine hK.out _ _ (.inr ⟨N6, L6⟩) ?_
    clear hK KK
    try simp only [Act.put, actS]
    refine wpAnyT_ready (rs := [10]) (by kernel_rfl) (by simp) ?_
    refine (AllT.cons rfl (fun KK hK => ?_) AllT.nil)
    rw [if_pos (by rfl)]
    refine wp_store_row 53 _ _ rfl (w5.heap.size) #[.slice r'.O.a r'.O.n r'.O.c, .slice r'.T.a r'.T.n r'.T.c, .int .i64 r'.nd, .bool r'.wrong] rfl rfl 53 _ B6 st_row rfl (st_one _ _ _ _ _ _ _ _) ?_
    have HR4 : Hid (r'.In (w6.setRow (w5.heap.size) #[.slice r'.O.a r'.O.n r'.O.c, .slice r'.T.a r'.T.n r'.T.c, .int .i64 r'.nd, .bool r'.wrong]) (w6.setRow (w5.heap.size) #[.slice r'.O.a r'.O.n r'.O.c, .slice r'.T.a r'.T.n r'.T.c, .int .i64 r'.nd, .bool r'.wrong]).heap.size) := Lib.hid (by
      rw [size_setRow]
      exact HR2.out.setRow ⟨_, _, _, _, _, _, _, _, _, B6⟩)
    have L7 : LiesAt (w6.setRow (w5.heap.size) #[.slice r'.O.a r'.O.n r'.O.c, .slice r'.T.a r'.T.n r'.T.c, .int .i64 r'.nd, .bool r'.wrong]) p.b (p.o + m * 15) #[.int .i64 k, .string key, .int .i64 V.h.k, .bool V.h.b, .bool V.h.n, .string V.h.d, .int .i64 V.h.e, .int .i64 V.h.tk, .int .i64 V.h.td, .int .i64 V.h.tn, .int .i64 V.h.tz, .string V.h.x, .slice V.h.ba V.h.bn V.h.bc, .slice V.h.la V.h.ln V.h.lc, .slice V.h.fa V.h.fn V.h.fc] := lies_block L6 (setRow_other _ _ _ _ (by have := g6.size; omega))
    clear HR2 L6
    have hsg := g6.size
    have N7 := Whole.farRow (B' := w5.heap.size) N6 (by omega) #[.slice r'.O.a r'.O.n r'.O.c, .slice r'.T.a r'.T.n r'.T.c, .int .i64 r'.nd, .bool r'.wrong]
    have B7 := Whole.setRow B6 #[.slice r'.O.a r'.O.n r'.O.c, .slice r'.T.a r'.T.n r'.T.c, .int .i64 r'.nd, .bool r'.wrong]
    have g7 := below_setRow (g := w5.heap.size) g6 (by omega) #[.slice r'.O.a r'.O.n r'.O.c, .slice r'.T.a r'.T.n r'.T.c, .int .i64 r'.nd, .bool r'.wrong]
    have h7 := below_setRow (g := w5.heap.size) h6 (by omega) #[.slice r'.O.a r'.O.n r'.O.c, .slice r'.T.a r'.T.n r'.T.c, .int .i64 r'.nd, .bool r'.wrong]
    clear N6 B6 g6 h6
    generalize w6.setRow (w5.heap.size) #[.slice r'.O.a r'.O.n r'.O.c, .slice r'.T.a r'.T.n r'.T.c, .int .i64 r'.nd, .bool r'.wrong] = w7 at *
    refine hK.out _ _ (.inr ⟨N7, L7⟩) ?_
    clear hK KK
    try simp only [Act.put, actS]
    refine wpAnyT_ready (rs := [11]) (by kernel_rfl) (by simp) ?_
    refine (AllT.cons rfl (fun KK hK => ?_) AllT.nil)
    go_simp
    refine hK.out _ _ (.inr ⟨N7, L7⟩) ?_
    clear hK KK
    try simp only [Act.put, actS]
    refine wpAnyT_done (by kernel_rfl) ?_ _
    by_cases h1 : E = 0
    rotate_left
    · have dE : (E != 0) = true := bne_iff_ne.2 h1
      have HF := Lib.hid (hEa.out _ (by trivial) h1 g7)
      clear h1 hEa hEo
      go_wp2
      (first | exact HF.out | (go_ret2; exact HF.out))
    subst h1
    have HI4 := Lib.hid (HI3.out (by trivial))
    clear HI3 hEa
    obtain ⟨x0, x1, x2, x3, x4, x5, x6, x7, x8, x9, x10, x11, x12, x13, x14⟩ := L7.e15
    obtain ⟨n0, n1, n2, n3⟩ := Whole.o4s N7
    obtain ⟨b0, b1, b2, b3⟩ := Whole.o4s B7
    by_cases k6 : k = 6
    · subst k6
      have HW := HW6.out rfl
      subst HW
      clear HW3 HW0
      go_wp2_with fail
      refine (HPb.out r' _ HR4.out HI4.out HIn2.out).mono ?_; rintro _ w9 ⟨q', rfl, e1, e2, e3, hb9⟩
      have HF := Lib.hid (hEo.out _ q' (by trivial) (by trivial) (below_then g7 hb9) e1 e2 (fun z => Nat.le_trans g7.size (e3 z)))
      clear e1 e2 e3 hb9 hEo
      go_wp2
      (first | exact HF.out | (go_ret2; exact HF.out))
    by_cases k3 : k = 3
    · subst k3
      have HW := HW3.out rfl
      subst HW
      clear HW0
      go_wp2_with fail
      refine (HPa.out _ h7).mono ?_; rintro _ w9 ⟨q', rfl, e1, e2, e3, hb9⟩
      have H9 := Lib.hid (And.intro e1 (And.intro e2 e3))
      have g9 := below_then g7 hb9
      have hs9 := g7.size
      clear e1 e2 e3 hb9
      go_wp2_with fail
      refine (HPar.out q' _ H9.out.1).mono ?_; rintro _ w10 ⟨q8, bb, rfl, e1, e2, e3, rfl⟩
      have HF := Lib.hid (hEo.out _ q8 (by trivial) (by trivial) g9 e1 (by rw [e2, H9.out.2.1]) (fun z => by have h8 := e3 z; have h9 := H9.out.2.2 h8.2; rw [h8.1]; omega))
      clear e1 e2 e3 hEo
      go_wp2
      (first | exact HF.out | (go_ret2; exact HF.out))
    have d6 : (k == 6) = false := beq_eq_false_iff_ne.2 k6
    have d3 : (k == 3) = false := beq_eq_false_iff_ne.2 k3
    have HW := HW0.out k6 k3
    subst HW
    clear HW6 HW3 HW0 k6 k3
    go_wp2_with fail
    refine (HPa.out _ h7).mono ?_; rintro _ w9 ⟨q', rfl, e1, e2, e3, hb9⟩
    have HF := Lib.hid (hEo.out _ q' (by trivial) (by trivial) (below_then g7 hb9) e1 e2 (fun z => Nat.le_trans g7.size (e3 z)))
    clear e1 e2 e3 hb9 hEo
    go_wp2
    (first | exact HF.out | (go_ret2; exact HF.out))
  · go_simp
    have q := (Below.refl w4.heap.size w4).alloc (Nat.le_refl _) (.cells #[.slice none 0 0, .slice none 0 0, .int .i64 0, .bool false] 53)
    have B5 := Whole.new w4 53 #[.slice none 0 0, .slice none 0 0, .int .i64 0, .bool false]
    have hB8 : w1.heap.size < w4.heap.size := Whole.lt N4
    generalize w4.alloc (.cells #[.slice none 0 0, .slice none 0 0, .int .i64 0, .bool false] 53) = w5 at q B5 ⊢
    have L5 := L4.below (top := w.heap.size) (q.mono g4.size) hpb
    clear L4
    have N5 := Whole.below N4 q (Whole.lt N4)
    have g5 := below_then g4 q
    have h5 := below_then h4 q
    clear N4 g4 h4
    clear q
    refine hK.out _ _ (.inr ⟨N5, L5⟩) ?_
    clear hK KK
    try simp only [Act.put, actS]
    refine wpAnyT_ready (rs := [5]) (by kernel_rfl) (by simp) ?_
    refine (AllT.cons rfl (fun KK hK => ?_) AllT.nil)
    go_simp
    go_at_call 22
    refine (HAdd.out _ h5 g5).mono ?_
    rintro _ w6 ⟨r', rfl, q1, q2, -, hb⟩
    have HR2 := Lib.hid q1
    have HI3 := Lib.hid q2
    have L6 := L5.below (top := w.heap.size) (hb.mono g5.size) hpb
    clear q1 q2 HAdd L5
    have N6 := Whole.below N5 hb (Whole.lt N5)
    have B6 := Whole.below B5 hb (Whole.lt B5)
    have g6 := below_then g5 hb
    have h6 := below_then h5 hb
    clear N5 B5 g5 h5
    clear hb
    refine hK.out _ _ (.inr ⟨N6, L6⟩) ?_
    clear hK KK
    try simp only [Act.put, actS]
    refine tk (i := 6) rfl (by kernel_rfl) (by rfl) (fun _ _ _ h => h) ⟨N6, L6⟩ (by intro wS hSw; go_simp; try with_reducible rfl) ?_
    simp only [Act.put, actS]
    refine tk (i := 7) rfl (by kernel_rfl) (by rfl) (fun _ _ _ h => h) ⟨N6, L6⟩ (by intro wS hSw; go_simp; try with_reducible rfl) ?_
    simp only [Act.put, actS]
    refine tk (i := 8) rfl (by kernel_rfl) (by rfl) (fun _ _ _ h => h) ⟨N6, L6⟩ (by intro wS hSw; go_simp; try with_reducible rfl) ?_
    simp only [Act.put, actS]
    refine wpAnyT_ready (rs := [10]) (by kernel_rfl) (by simp) ?_
    refine (AllT.cons rfl (fun KK hK => ?_) AllT.nil)
    rw [if_pos (by rfl)]
    refine wp_store_row 53 _ _ rfl (w4.heap.size) #[.slice r'.O.a r'.O.n r'.O.c, .slice r'.T.a r'.T.n r'.T.c, .int .i64 r'.nd, .bool r'.wrong] rfl rfl 53 _ B6 st_row rfl (st_one _ _ _ _ _ _ _ _) ?_
    have HR4 : Hid (r'.In (w6.setRow (w4.heap.size) #[.slice r'.O.a r'.O.n r'.O.c, .slice r'.T.a r'.T.n r'.T.c, .int .i64 r'.nd, .bool r'.wrong]) (w6.setRow (w4.heap.size) #[.slice r'.O.a r'.O.n r'.O.c, .slice r'.T.a r'.T.n r'.T.c, .int .i64 r'.nd, .bool r'.wrong]).heap.size) := Lib.hid (by
      rw [size_setRow]
      exact HR2.out.setRow ⟨_, _, _, _, _, _, _, _, _, B6⟩)
    have L7 : LiesAt (w6.setRow (w4.heap.size) #[.slice r'.O.a r'.O.n r'.O.c, .slice r'.T.a r'.T.n r'.T.c, .int .i64 r'.nd, .bool r'.wrong]) p.b (p.o + m * 15) #[.int .i64 k, .string key, .int .i64 V.h.k, .bool V.h.b, .bool V.h.n, .string V.h.d, .int .i64 V.h.e, .int .i64 V.h.tk, .int .i64 V.h.td, .int .i64 V.h.tn, .int .i64 V.h.tz, .string V.h.x, .slice V.h.ba V.h.bn V.h.bc, .slice V.h.la V.h.ln V.h.lc, .slice V.h.fa V.h.fn V.h.fc] := lies_block L6 (setRow_other _ _ _ _ (by have := g6.size; omega))
    clear HR2 L6
    have hsg := g6.size
    have N7 := Whole.farRow (B' := w4.heap.size) N6 (by omega) #[.slice r'.O.a r'.O.n r'.O.c, .slice r'.T.a r'.T.n r'.T.c, .int .i64 r'.nd, .bool r'.wrong]
    have B7 := Whole.setRow B6 #[.slice r'.O.a r'.O.n r'.O.c, .slice r'.T.a r'.T.n r'.T.c, .int .i64 r'.nd, .bool r'.wrong]
    have g7 := below_setRow (g := w4.heap.size) g6 (by omega) #[.slice r'.O.a r'.O.n r'.O.c, .slice r'.T.a r'.T.n r'.T.c, .int .i64 r'.nd, .bool r'.wrong]
    have h7 := below_setRow (g := w4.heap.size) h6 (by omega) #[.slice r'.O.a r'.O.n r'.O.c, .slice r'.T.a r'.T.n r'.T.c, .int .i64 r'.nd, .bool r'.wrong]
    clear N6 B6 g6 h6
    generalize w6.setRow (w4.heap.size) #[.slice r'.O.a r'.O.n r'.O.c, .slice r'.T.a r'.T.n r'.T.c, .int .i64 r'.nd, .bool r'.wrong] = w7 at *
    refine hK.out _ _ (.inr ⟨N7, L7⟩) ?_
    clear hK KK
    try simp only [Act.put, actS]
    refine wpAnyT_ready (rs := [11]) (by kernel_rfl) (by simp) ?_
    refine (AllT.cons rfl (fun KK hK => ?_) AllT.nil)
    go_simp
    refine hK.out _ _ (.inr ⟨N7, L7⟩) ?_
    clear hK KK
    try simp only [Act.put, actS]
    refine wpAnyT_done (by kernel_rfl) ?_ _
    by_cases h1 : E = 0
    rotate_left
    · have dE : (E != 0) = true := bne_iff_ne.2 h1
      have HF := Lib.hid (hEa.out _ (by trivial) h1 g7)
      clear h1 hEa hEo
      go_wp2
      (first | exact HF.out | (go_ret2; exact HF.out))
    subst h1
    have HI4 := Lib.hid (HI3.out (by trivial))
    clear HI3 hEa
    obtain ⟨x0, x1, x2, x3, x4, x5, x6, x7, x8, x9, x10, x11, x12, x13, x14⟩ := L7.e15
    obtain ⟨n0, n1, n2, n3⟩ := Whole.o4s N7
    obtain ⟨b0, b1, b2, b3⟩ := Whole.o4s B7
    by_cases k6 : k = 6
    · subst k6
      have HW := HW6.out rfl
      subst HW
      clear HW3 HW0
      go_wp2_with fail
      refine (HPb.out r' _ HR4.out HI4.out HIn2.out).mono ?_; rintro _ w9 ⟨q', rfl, e1, e2, e3, hb9⟩
      have HF := Lib.hid (hEo.out _ q' (by trivial) (by trivial) (below_then g7 hb9) e1 e2 (fun z => Nat.le_trans g7.size (e3 z)))
      clear e1 e2 e3 hb9 hEo
      go_wp2
      (first | exact HF.out | (go_ret2; exact HF.out))
    by_cases k3 : k = 3
    · subst k3
      have HW := HW3.out rfl
      subst HW
      clear HW0
      go_wp2_with fail
      refine (HPa.out _ h7).mono ?_; rintro _ w9 ⟨q', rfl, e1, e2, e3, hb9⟩
      have H9 := Lib.hid (And.intro e1 (And.intro e2 e3))
      have g9 := below_then g7 hb9
      have hs9 := g7.size
      clear e1 e2 e3 hb9
      go_wp2_with fail
      refine (HPar.out q' _ H9.out.1).mono ?_; rintro _ w10 ⟨q8, bb, rfl, e1, e2, e3, rfl⟩
      have HF := Lib.hid (hEo.out _ q8 (by trivial) (by trivial) g9 e1 (by rw [e2, H9.out.2.1]) (fun z => by have h8 := e3 z; have h9 := H9.out.2.2 h8.2; rw [h8.1]; omega))
      clear e1 e2 e3 hEo
      go_wp2
      (first | exact HF.out | (go_ret2; exact HF.out))
    have d6 : (k == 6) = false := beq_eq_false_iff_ne.2 k6
    have d3 : (k == 3) = false := beq_eq_false_iff_ne.2 k3
    have HW := HW0.out k6 k3
    subst HW
    clear HW6 HW3 HW0 k6 k3
    go_wp2_with fail
    refine (HPa.out _ h7).mono ?_; rintro _ w9 ⟨q', rfl, e1, e2, e3, hb9⟩
    have HF := Lib.hid (hEo.out _ q' (by trivial) (by trivial) (below_then g7 hb9) e1 e2 (fun z => Nat.le_trans g7.size (e3 z)))
    clear e1 e2 e3 hb9 hEo
    go_wp2
    (first | exact HF.out | (go_ret2; exact HF.out))
theorem w64_wf {a : Int} (h : (Lit.int .i64 a).wf = true) : w64 a := by
  have e1 : IntKind.i64.min = -9223372036854775808 := rfl
  have e2 : IntKind.i64.max = 9223372036854775807 := rfl
  simp only [Lit.wf, e1, e2, Bool.and_eq_true, decide_eq_true_eq] at h
  exact h
set_option maxHeartbeats 8000000 in
set_option maxRecDepth 100000 in
theorem walk_EventWhere (W : World) (p : Evs) (hp : p.In W W.heap.size) (i : Int) (hwf : (Lit.int .i64 i).wf = true) : Calls Tryd.prog 5 #[.slice p.a p.n p.c, .int .i64 i] W fun e W' => e = .returned (.bool true) ∧ Below W.heap.size W W' := by
  have hi := w64_wf hwf
  clear hwf
  have HFew := Lib.hid (few_any hp (Nat.le_refl _))
  have HLiv := Lib.hid (fun (w1 : World) => lives_any w1)
  have HW1 := Lib.hid (fun (w1 : World) (hb : Below W.heap.size W w1) => where_any (i := i) (Evs.In.below hp hb) hb.size hi)
  have HW2 := Lib.hid (fun (w1 : World) (hb : Below W.heap.size W w1) => rwhere_any (i := i) (Evs.In.below hp hb) hb.size hi)
  have HEq := Lib.hid (fun (q r : Pth) (w1 : World) (hq : q.In w1 w1.heap.size) (hr : r.In w1 w1.heap.size) => equal_any hq hr (Nat.le_refl _))
  unfold WhOut at HW1 HW2
  have hi1 := hi.1
  have hi2 := hi.2
  generalize (whE p i).1 = E at *
  generalize (whE p i).2 = U at *
  clear hp hi
  go_enter Tryd.func5, Tryd.ntmps5
  go_wp2_with fail
  refine HFew.out.mono ?_; rintro _ w1 ⟨c, rfl, -, g1⟩
  clear HFew
  cases c
  · clear HW1 HW2 HEq
    go_wp2_with fail
    refine (HLiv.out w1).mono ?_; rintro _ w2 ⟨rfl, hb2⟩
    have g2 := below_then g1 hb2
    clear g1 hb2 HLiv
    go_wp2
    (first | exact ⟨rfl, g2⟩ | (go_ret; exact ⟨rfl, g2⟩))
  go_wp2_with fail
  refine (HW1.out w1 g1).mono ?_; rintro _ w2 ⟨q, rfl, hq, hqs, -, hb2⟩
  have g2 := below_then g1 hb2
  have HQ := Lib.hid hq
  have HQs := Lib.hid hqs
  clear HW1 g1 hb2 hq hqs
  go_wp2_with fail
  refine (HW2.out w2 g2).mono ?_; rintro _ w3 ⟨r, rfl, hr, hrs, -, hb3⟩
  have g3 := below_then g2 hb3
  have HE3 := Lib.hid (HEq.out q r w3 ((HQ.out.below hb3).up hb3.size) hr)
  rw [HQs.out, hrs, eqS_yes rfl] at HE3
  have dE : (E == E) = true := beq_self_eq_true _
  clear HW2 g2 hb3 hr hrs HQ HQs HEq
  go_wp2_with fail
  refine HE3.out.mono ?_; rintro _ w4 ⟨rfl, hb4⟩
  have g4 := below_then g3 hb4
  clear HE3 g3 hb4
  go_wp2_with fail
  refine (HLiv.out w4).mono ?_; rintro _ w5 ⟨rfl, hb5⟩
  have g5 := below_then g4 hb5
  clear g4 hb5 HLiv
  go_wp2
  (first | exact ⟨rfl, g5⟩ | (go_ret; exact ⟨rfl, g5⟩))
end Go.Proofs.YtpcbhneaaibfiaaDoor
