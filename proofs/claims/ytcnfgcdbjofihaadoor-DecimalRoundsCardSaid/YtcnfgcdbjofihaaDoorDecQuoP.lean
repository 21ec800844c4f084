/- Decimals: rounded quotients, the program's. -/
import Derived.Test.YtcnfgcdbjofihaaDoorDecQuo
namespace Go.Proofs.YtcnfgcdbjofihaaDoor
open Go.RowKit

set_option maxHeartbeats 1000000 in
set_option maxRecDepth 100000 in
theorem dquo_e1 (a b : Dec.Dc) (pl mode : Int) (h : mode < 0) (w : World) :
    Calls Tryd.prog 42 #[Dec.ag a, Dec.ag b, .int .i64 pl, .int .i64 mode] w fun r w' => r = .returned (.tuple #[.agg #[.bool false, .string ⟨#[]⟩, .int .i64 0], .int .i64 1]) ∧ Below w.heap.size w w' := by
  have d1 : decide (mode < 0) = true := decide_eq_true (by omega)
  clear h
  obtain ⟨n, m, e⟩ := a
  obtain ⟨n', m', e'⟩ := b
  unfold Dec.ag
  dsimp only at *
  generalize Dig.st m = x at *
  generalize Dig.st m' = y at *
  have K := B3.new w n x e n' y e'
  obtain ⟨⟨x0, x1, x2⟩, ⟨y0, y1, y2⟩, z0, z1, z2⟩ := K.cells
  have zf := K.res.frozen
  go_enter Tryd.func42, Tryd.ntmps42
  go_wp2
  exact bodyPost_ret (v := .tuple #[.agg #[.bool false, .string ⟨#[]⟩, .int .i64 0], .int .i64 1]) (by simp [results, Tryd.results42, go_sem]) rfl ⟨rfl, by first | exact (K.put (.bool false) (.string ⟨#[]⟩) (.int .i64 0)).2 | exact K.below⟩
set_option maxHeartbeats 1000000 in
set_option maxRecDepth 100000 in
theorem dquo_e2 (a b : Dec.Dc) (pl mode : Int) (h0 : ¬ mode < 0) (h : 4 < mode) (w : World) :
    Calls Tryd.prog 42 #[Dec.ag a, Dec.ag b, .int .i64 pl, .int .i64 mode] w fun r w' => r = .returned (.tuple #[.agg #[.bool false, .string ⟨#[]⟩, .int .i64 0], .int .i64 1]) ∧ Below w.heap.size w w' := by
  have d1 : decide (mode < 0) = false := decide_eq_false (by omega)
  have d2 : decide (4 < mode) = true := decide_eq_true (by omega)
  clear h0 h
  obtain ⟨n, m, e⟩ := a
  obtain ⟨n', m', e'⟩ := b
  unfold Dec.ag
  dsimp only at *
  generalize Dig.st m = x at *
  generalize Dig.st m' = y at *
  have K := B3.new w n x e n' y e'
  obtain ⟨⟨x0, x1, x2⟩, ⟨y0, y1, y2⟩, z0, z1, z2⟩ := K.cells
  have zf := K.res.frozen
  go_enter Tryd.func42, Tryd.ntmps42
  go_wp2
  exact bodyPost_ret (v := .tuple #[.agg #[.bool false, .string ⟨#[]⟩, .int .i64 0], .int .i64 1]) (by simp [results, Tryd.results42, go_sem]) rfl ⟨rfl, by first | exact (K.put (.bool false) (.string ⟨#[]⟩) (.int .i64 0)).2 | exact K.below⟩
set_option maxHeartbeats 1000000 in
set_option maxRecDepth 100000 in
theorem dquo_e3 (a b : Dec.Dc) (pl mode : Int) (h0 : ¬ mode < 0) (h1 : ¬ 4 < mode) (h : pl < -400) (w : World) :
    Calls Tryd.prog 42 #[Dec.ag a, Dec.ag b, .int .i64 pl, .int .i64 mode] w fun r w' => r = .returned (.tuple #[.agg #[.bool false, .string ⟨#[]⟩, .int .i64 0], .int .i64 1]) ∧ Below w.heap.size w w' := by
  have d1 : decide (mode < 0) = false := decide_eq_false (by omega)
  have d2 : decide (4 < mode) = false := decide_eq_false (by omega)
  have d3 : decide (pl < -400) = true := decide_eq_true (by omega)
  clear h0 h1 h
  obtain ⟨n, m, e⟩ := a
  obtain ⟨n', m', e'⟩ := b
  unfold Dec.ag
  dsimp only at *
  generalize Dig.st m = x at *
  generalize Dig.st m' = y at *
  have K := B3.new w n x e n' y e'
  obtain ⟨⟨x0, x1, x2⟩, ⟨y0, y1, y2⟩, z0, z1, z2⟩ := K.cells
  have zf := K.res.frozen
  go_enter Tryd.func42, Tryd.ntmps42
  go_wp2
  exact bodyPost_ret (v := .tuple #[.agg #[.bool false, .string ⟨#[]⟩, .int .i64 0], .int .i64 1]) (by simp [results, Tryd.results42, go_sem]) rfl ⟨rfl, by first | exact (K.put (.bool false) (.string ⟨#[]⟩) (.int .i64 0)).2 | exact K.below⟩
set_option maxHeartbeats 1000000 in
set_option maxRecDepth 100000 in
theorem dquo_e4 (a b : Dec.Dc) (pl mode : Int) (h0 : ¬ mode < 0) (h1 : ¬ 4 < mode) (h2 : ¬ pl < -400) (h : 400 < pl) (w : World) :
    Calls Tryd.prog 42 #[Dec.ag a, Dec.ag b, .int .i64 pl, .int .i64 mode] w fun r w' => r = .returned (.tuple #[.agg #[.bool false, .string ⟨#[]⟩, .int .i64 0], .int .i64 1]) ∧ Below w.heap.size w w' := by
  have d1 : decide (mode < 0) = false := decide_eq_false (by omega)
  have d2 : decide (4 < mode) = false := decide_eq_false (by omega)
  have d3 : decide (pl < -400) = false := decide_eq_false (by omega)
  have d4 : decide (400 < pl) = true := decide_eq_true (by omega)
  clear h0 h1 h2 h
  obtain ⟨n, m, e⟩ := a
  obtain ⟨n', m', e'⟩ := b
  unfold Dec.ag
  dsimp only at *
  generalize Dig.st m = x at *
  generalize Dig.st m' = y at *
  have K := B3.new w n x e n' y e'
  obtain ⟨⟨x0, x1, x2⟩, ⟨y0, y1, y2⟩, z0, z1, z2⟩ := K.cells
  have zf := K.res.frozen
  go_enter Tryd.func42, Tryd.ntmps42
  go_wp2
  exact bodyPost_ret (v := .tuple #[.agg #[.bool false, .string ⟨#[]⟩, .int .i64 0], .int .i64 1]) (by simp [results, Tryd.results42, go_sem]) rfl ⟨rfl, by first | exact (K.put (.bool false) (.string ⟨#[]⟩) (.int .i64 0)).2 | exact K.below⟩
set_option maxHeartbeats 1000000 in
set_option maxRecDepth 100000 in
theorem dquo_e5 (a b : Dec.Dc) (pl mode : Int) (h0 : ¬ mode < 0) (h1 : ¬ 4 < mode) (h2 : ¬ pl < -400) (h3 : ¬ 400 < pl) (hb : b.m = 0) (w : World) :
    Calls Tryd.prog 42 #[Dec.ag a, Dec.ag b, .int .i64 pl, .int .i64 mode] w fun r w' => r = .returned (.tuple #[.agg #[.bool false, .string ⟨#[]⟩, .int .i64 0], .int .i64 14]) ∧ Below w.heap.size w w' := by
  have d1 : decide (mode < 0) = false := decide_eq_false (by omega)
  have d2 : decide (4 < mode) = false := decide_eq_false (by omega)
  have d3 : decide (pl < -400) = false := decide_eq_false (by omega)
  have d4 : decide (400 < pl) = false := decide_eq_false (by omega)
  have hs : Dig.st b.m = ⟨#[]⟩ := by rw [hb, Dec.st0]
  unfold Dec.ag
  rw [hs]
  clear h0 h1 h2 h3 hb hs
  obtain ⟨n, m, e⟩ := a
  obtain ⟨n', m', e'⟩ := b
  dsimp only at *
  generalize Dig.st m = x at *
  have K := B3.new w n x e n' ⟨#[]⟩ e'
  obtain ⟨⟨x0, x1, x2⟩, ⟨y0, y1, y2⟩, z0, z1, z2⟩ := K.cells
  have zf := K.res.frozen
  go_enter Tryd.func42, Tryd.ntmps42
  go_wp2
  exact bodyPost_ret (v := .tuple #[.agg #[.bool false, .string ⟨#[]⟩, .int .i64 0], .int .i64 14]) (by simp [results, Tryd.results42, go_sem]) rfl ⟨rfl, by first | exact (K.put (.bool false) (.string ⟨#[]⟩) (.int .i64 0)).2 | exact K.below⟩

set_option maxHeartbeats 2000000 in
set_option maxRecDepth 100000 in
theorem dquo_main {a b : Dec.Dc} (ha : Dec.ok a) (hb : Dec.ok b) {pl mode : Int} (h0 : ¬ mode < 0) (h1 : ¬ 4 < mode) (h2 : ¬ pl < -400) (h3 : ¬ 400 < pl) (hb0 : b.m ≠ 0) {ng : Bool} (hng : (a.neg != b.neg) = ng) {rg : Bool} {rm : Nat} {re rr : Int} (hR : Dec.normR ng (Dec.qup mode ng (Dec.qX a b pl) (Dec.qY a b pl)) (-pl) = (⟨rg, rm, re⟩, rr)) (w : World) :
    Calls Tryd.prog 42 #[Dec.ag a, Dec.ag b, .int .i64 pl, .int .i64 mode] w fun r w' => r = .returned (.tuple #[.agg #[.bool rg, .string (Dig.st rm), .int .i64 re], .int .i64 rr]) ∧ Below w.heap.size w w' := by
  obtain ⟨a1, a2, a3, _⟩ := Dec.ok_all ha
  obtain ⟨b1, b2, b3, _⟩ := Dec.ok_all hb
  have hng2 : (!(a.neg == b.neg)) = ng := hng
  obtain ⟨x1, x2, x3⟩ := Dec.quo_lt ha hb hb0 (pl := pl) (by omega) (by omega)
  have ne := Dig.some_of (Dec.st_pos hb0)
  have d1 : decide (mode < 0) = false := decide_eq_false (by omega)
  have d2 : decide (4 < mode) = false := decide_eq_false (by omega)
  have d3 : decide (pl < -400) = false := decide_eq_false (by omega)
  have d4 : decide (400 < pl) = false := decide_eq_false (by omega)
  have VA := Lib.hid (fun w => dvalid_yes (by unfold maxLen; omega) ha w)
  have VB := Lib.hid (fun w => dvalid_yes (by unfold maxLen; omega) hb w)
  have HN := Lib.hid (fun w => norm_leaf (Nat.le_trans ((Dig.st_size _ 1321).2 (Dec.qup_lt x1)) (by omega)) hR rfl w)
  obtain ⟨f, hf⟩ : ∃ f, a.e - b.e + pl = f := ⟨_, rfl⟩
  have HX : Hid (0 ≤ f → Dec.qX a b pl = a.m * Dig.big f.toNat ∧ Dec.qY a b pl = b.m) := Lib.hid (fun h => by
    unfold Dec.qX Dec.qY
    rw [hf, Dec.neg_toNat (i := -f) (by omega), Nat.mul_one]
    exact ⟨rfl, rfl⟩)
  have HY : Hid (¬ 0 ≤ f → Dec.qX a b pl = a.m ∧ Dec.qY a b pl = b.m * Dig.big (-f).toNat) := Lib.hid (fun h => by
    unfold Dec.qX Dec.qY
    rw [hf, Dec.neg_toNat (i := f) (by omega), Nat.mul_one]
    exact ⟨rfl, rfl⟩)
  generalize Dec.qX a b pl = X at *
  generalize Dec.qY a b pl = Y at *
  have hf1 : -1200 ≤ f := by omega
  have hf2 : f ≤ 1200 := by omega
  have HB0 := Lib.hid hb0
  have X1 := Lib.hid x1
  have X2 := Lib.hid x2
  have X3 := Lib.hid x3
  generalize Dig.st rm = q at *
  clear ha hb hb0 hR x1 x2 x3
  obtain ⟨n, m, e⟩ := a
  obtain ⟨n', m', e'⟩ := b
  unfold Dec.ag
  dsimp only at *
  have HMA := Lib.hid (rfl : Dig.st m = Dig.st m)
  obtain ⟨x, hx⟩ : ∃ x, Dig.st m = x := ⟨_, rfl⟩
  obtain ⟨y, hy⟩ : ∃ y, Dig.st m' = y := ⟨_, rfl⟩
  have EX := Lib.hid hx
  have EY := Lib.hid hy
  rw [hx] at VA a1 ⊢
  rw [hy] at VB b1 ne ⊢
  clear hx hy HMA
  have K := B3.new w n x e n' y e'
  obtain ⟨⟨x0, x1, x2⟩, ⟨y0, y1, y2⟩, z0, z1, z2⟩ := K.cells
  go_enter Tryd.func42, Tryd.ntmps42
  go_wp2_with fail
  refine (VA.out _).mono ?_; rintro _ w1 ⟨rfl, hb1⟩
  replace K := K.call hb1
  clear hb1 x0 x1 x2 y0 y1 y2 z0 z1 z2
  obtain ⟨⟨x0, x1, x2⟩, ⟨y0, y1, y2⟩, z0, z1, z2⟩ := K.cells
  go_wp2_with fail
  refine (VB.out _).mono ?_; rintro _ w2 ⟨rfl, hb2⟩
  replace K := K.call hb2
  clear hb2 x0 x1 x2 y0 y1 y2 z0 z1 z2
  obtain ⟨⟨x0, x1, x2⟩, ⟨y0, y1, y2⟩, z0, z1, z2⟩ := K.cells
  clear VA VB
  go_upto_region 8 with fail
  go_quiet (fail)
  replace K := K.drewN nq
  clear x0 x1 x2 y0 y1 y2 z0 z1 z2
  obtain ⟨⟨x0, x1, x2⟩, ⟨y0, y1, y2⟩, z0, z1, z2⟩ := K.cells
  obtain ⟨cf, hcf⟩ : ∃ c, decide (0 ≤ f) = c := ⟨_, rfl⟩
  go_upto_region 10 with fail
  go_upto_if 62 with fail
  have HCF := Lib.hid hcf
  clear hcf
  go_cut [11, 12] (fun t1 t2 wx => t1 = .string (Dig.st X) ∧ t2 = .string (Dig.st Y) ∧ B3 w wx n x e n' y e')
  case first =>
    cases cf
    case true =>
      have hf0 : 0 ≤ f := of_decide_eq_true HCF.out
      obtain ⟨hX, hY⟩ := HX.out (by omega)
      obtain ⟨j, hj⟩ : ∃ j : Nat, f = j := ⟨f.toNat, by omega⟩
      have hj2 : f.toNat = j := by omega
      have HZ : Hid (∀ w, Calls Tryd.prog 58 #[.string ⟨#[48]⟩, .int .i64 f] w fun r w' => r = .returned (.string (Dig.noughts j)) ∧ Below w.heap.size w w') := Lib.hid (fun w => by rw [hj]; exact repeat_any (n := j) (by omega) w)
      have av := Dec.app_val m j
      rw [EX.out] at av
      have HT := Lib.hid (fun w => by have := triml_any av.1 w; rwa [av.2] at this)
      have k1 : ¬ 9223372036854775807 < x.size + (Dig.noughts j).size := by rw [Dig.noughts_size]; omega
      have EV : Hid (Dig.st X = Dig.st (m * Dig.big j)) := Lib.hid (by rw [hX, hj2])
      have EW : Hid (Dig.st Y = y) := Lib.hid (by rw [hY, EY.out])
      clear av hj hj2 hf0 hf hX hY HX HY
      generalize Dig.noughts j = u at *
      generalize Dig.st (m * Dig.big j) = v at *
      go_wp2_with fail
      refine (HZ.out _).mono ?_; rintro _ w3 ⟨rfl, hb3⟩
      replace K := K.call hb3
      clear hb3 x0 x1 x2 y0 y1 y2 z0 z1 z2
      obtain ⟨⟨x0, x1, x2⟩, ⟨y0, y1, y2⟩, z0, z1, z2⟩ := K.cells
      go_wp2_with fail
      refine (HT.out _).mono ?_; rintro _ w4 ⟨rfl, rfl⟩
      go_wp2_with fail
      go_meet
      exact ⟨by rw [EV.out], by rw [EW.out], K⟩
    case false =>
      have hf0 : ¬ 0 ≤ f := of_decide_eq_false HCF.out
      obtain ⟨hX, hY⟩ := HY.out (by omega)
      obtain ⟨j, hj⟩ : ∃ j : Nat, -f = j := ⟨(-f).toNat, by omega⟩
      have hj2 : (-f).toNat = j := by omega
      have hwf : IntKind.i64.wrap (-f) = j := by rw [IntKind.wrap_i64]; omega
      have HZ := Lib.hid (fun w => repeat_any (n := j) (by omega) w)
      have k1 : ¬ 9223372036854775807 < y.size + (Dig.noughts j).size := by rw [Dig.noughts_size]; omega
      have hst := Dec.st_big HB0.out j
      rw [EY.out] at hst
      have EV : Hid (Dig.st X = x) := Lib.hid (by rw [hX, EX.out])
      have EW : Hid (Dig.st Y = y ++ Dig.noughts j) := Lib.hid (by rw [hY, hj2, hst])
      clear hst hj hj2 hf0 hf hX hY HX HY
      generalize Dig.noughts j = u at *
      go_wp2_with fail
      refine (HZ.out _).mono ?_; rintro _ w3 ⟨rfl, hb3⟩
      replace K := K.call hb3
      clear hb3 x0 x1 x2 y0 y1 y2 z0 z1 z2
      obtain ⟨⟨x0, x1, x2⟩, ⟨y0, y1, y2⟩, z0, z1, z2⟩ := K.cells
      go_wp2_with fail
      go_meet
      exact ⟨by rw [EV.out], by rw [EW.out], K⟩
  case rest =>
  obtain ⟨rfl, rfl, K⟩ := hcut
  clear x0 x1 x2 y0 y1 y2 z0 z1 z2 HX HY hf hf1 hf2 HB0 EX EY
  obtain ⟨⟨x0, x1, x2⟩, ⟨y0, y1, y2⟩, z0, z1, z2⟩ := K.cells
  have HD := Lib.hid (fun w => by have := divide_any (a := Dig.st X) (Dec.str_st (Nat.le_trans ((Dig.st_size X 1320).2 X1.out) (by omega))) (Nat.lt_of_lt_of_le X2.out (Dig.big_le (show 1320 ≤ 900000 by omega))) X3.out w; rwa [Dig.V_st] at this)
  have hQ : X / Y < Dig.big 1320 := Nat.lt_of_le_of_lt (Nat.div_le_self _ _) X1.out
  have hM : X % Y < Dig.big 1320 := Nat.lt_trans (Nat.mod_lt _ X3.out) X2.out
  have QS := Lib.hid ((Dig.st_size _ 1320).2 hQ)
  have MS := Lib.hid ((Dig.st_size _ 1320).2 hM)
  have YS := Lib.hid ((Dig.st_size _ 1320).2 X2.out)
  have QU : Hid (Dec.qup mode ng X Y = if X % Y ≠ 0 ∧ Dec.upR mode ng (Dec.oddR (X / Y)) (Dig.cmp (X % Y + X % Y) Y) = true then X / Y + 1 else X / Y) := Lib.hid rfl
  generalize Dec.qup mode ng X Y = Z at *
  generalize X / Y = Q at *
  generalize X % Y = M at *
  clear hQ hM X1 X2 X3
  go_wp2_with fail
  refine (HD.out _).mono ?_; rintro _ w5 ⟨rfl, hb5⟩
  replace K := K.call hb5
  clear hb5 x0 x1 x2 y0 y1 y2 z0 z1 z2
  obtain ⟨⟨x0, x1, x2⟩, ⟨y0, y1, y2⟩, z0, z1, z2⟩ := K.cells
  clear HD
  obtain ⟨em, hem⟩ : ∃ c, (Dig.st M).toList.isEmpty = c := ⟨_, rfl⟩
  go_upto_region 14 with fail
  go_upto_if 80 with fail
  have HEM := Lib.hid hem
  clear hem
  go_cut [14] (fun t wx => t = .string (Dig.st Z) ∧ B3 w wx n x e n' y e')
  case first =>
    have HP := Lib.hid (fun w => by have := dplus_any (a := Dig.st Q) (b := ⟨#[49]⟩) (Dec.str_st (Nat.le_trans QS.out (by omega))) ⟨by decide, by decide⟩ w; rwa [Dig.V_st, show Dig.V ⟨#[49]⟩ = 1 from by decide] at this)
    cases em
    case true =>
      have hM0 : M = 0 := by
        apply Classical.byContradiction
        intro k
        have := HEM.out
        rw [Dig.some_of (Dec.st_pos k)] at this
        cases this
      have hz := QU.out
      rw [if_neg (fun k => k.1 hM0)] at hz
      have HZ0 := Lib.hid hz
      clear hz hM0 QU QS MS HP HN HEM
      go_wp2_with fail
      go_meet
      exact ⟨by rw [HZ0.out], K⟩
    have hM0 : M ≠ 0 := by
      intro k
      have := HEM.out
      rw [Dig.nil_of (by rw [k, Dec.st0]; rfl)] at this
      cases this
    clear HEM
    have HS := Lib.hid (fun w => by have := dplus_any (a := Dig.st M) (b := Dig.st M) (Dec.str_st (Nat.le_trans MS.out (by omega))) (Dec.str_st (Nat.le_trans MS.out (by omega))) w; rwa [Dig.V_st] at this)
    have HC := Lib.hid (dcmp_any (a := M + M) (b := Y) (Dec.str_st (Nat.le_trans ((Dig.st_size _ 1321).2 (Dig.sum_lt ((Dig.st_size M 1320).1 MS.out) ((Dig.st_size M 1320).1 MS.out))) (by omega))) (Dec.str_st (Nat.le_trans YS.out (by omega))))
    generalize Dig.cmp (M + M) Y = half at *
    have HRO := Lib.hid (fun w => rounds_any mode (by omega) (by omega) ng (Dec.oddR Q) half w)
    have HO := up_odd Q
    have OL := Lib.hid (odd_last Q)
    generalize Dig.st (M + M) = s at *
    have QU2 : Hid (Z = if Dec.upR mode ng (Dec.oddR Q) half = true then Q + 1 else Q) := Lib.hid (by
      rw [QU.out]
      by_cases k : Dec.upR mode ng (Dec.oddR Q) half = true
      · rw [if_pos ⟨hM0, k⟩, if_pos k]
      · rw [if_neg (fun h => k h.2), if_neg k])
    clear QU hM0 MS YS HN
    generalize Dig.st M = t at *
    generalize Dig.st Y = yy at *
    go_upto_region 15 with fail
    go_cut [16] (fun t wx => t = .bool (Dec.oddR Q) ∧ B3 w wx n x e n' y e')
    case first =>
      clear QU2 HRO HS HC HP
      rcases HO.out with ⟨rfl, ho⟩ | ⟨hq0, k, hk, hk1, hk2⟩
      · have e0 : (Dig.st 0).toList.isEmpty = true := Dig.nil_of (by rw [Dec.st0]; rfl)
        clear OL
        have hoh := Lib.hid ho
        clear ho
        go_wp2_with fail
        go_meet
        exact ⟨by rw [hoh.out], K⟩
      · have ne4 := Dig.some_of (Dec.st_pos hq0)
        have hol := OL.out
        have hsz := QS.out
        clear OL HO QS
        generalize Dec.oddR Q = od at *
        have hm := Nat.mod_lt Q (show 0 < 10 by omega)
        generalize Q % 10 = c at *
        clear hq0
        generalize Dig.st Q = xq at *
        have hkn : (k : Int) < xq.size := by omega
        have hk0 : (0 : Int) ≤ k := by omega
        have c0 : (0 : Int) ≤ c := by omega
        have c9 : (c : Int) ≤ 9 := by omega
        have e1 : (xq[k].toNat : Int) - 48 = c := by omega
        have b1 : 48 ≤ xq[k].toNat := by omega
        have b2 : xq[k].toNat ≤ 57 := by omega
        clear hk2 hm
        go_wp2_with fail
        go_meet
        exact ⟨rfl, K⟩
    case rest =>
    obtain ⟨rfl, K⟩ := hcut
    clear x0 x1 x2 y0 y1 y2 z0 z1 z2 HO OL QS
    obtain ⟨⟨x0, x1, x2⟩, ⟨y0, y1, y2⟩, z0, z1, z2⟩ := K.cells
    generalize Dec.oddR Q = od at *
    obtain ⟨u, hu⟩ : ∃ u, Dec.upR mode ng od half = u := ⟨_, rfl⟩
    rw [hu] at HRO QU2
    clear hu
    go_wp2_with fail
    refine (HS.out _).mono ?_; rintro _ w6 ⟨rfl, hb6⟩
    replace K := K.call hb6
    clear hb6 x0 x1 x2 y0 y1 y2 z0 z1 z2
    obtain ⟨⟨x0, x1, x2⟩, ⟨y0, y1, y2⟩, z0, z1, z2⟩ := K.cells
    go_wp2_with fail
    refine (HC.out _).mono ?_; rintro _ w7 ⟨rfl, rfl⟩
    go_wp2_with fail
    refine (HRO.out _).mono ?_; rintro _ w8 ⟨rfl, rfl⟩
    clear HS HC HRO
    cases u
    · have hz := QU2.out
      rw [if_neg (by decide)] at hz
      subst hz
      clear HP QU2
      go_wp2_with fail
      go_meet
      exact ⟨rfl, K⟩
    · have hz := QU2.out
      rw [if_pos rfl] at hz
      subst hz
      clear QU2
      go_wp2_with fail
      refine (HP.out _).mono ?_; rintro _ w9 ⟨rfl, hb9⟩
      replace K := K.call hb9
      clear hb9 x0 x1 x2 y0 y1 y2 z0 z1 z2
      obtain ⟨⟨x0, x1, x2⟩, ⟨y0, y1, y2⟩, z0, z1, z2⟩ := K.cells
      go_wp2_with fail
      go_meet
      exact ⟨rfl, K⟩
  case rest =>
  obtain ⟨rfl, K⟩ := hcut
  clear x0 x1 x2 y0 y1 y2 z0 z1 z2 QU QS MS YS
  obtain ⟨⟨x0, x1, x2⟩, ⟨y0, y1, y2⟩, z0, z1, z2⟩ := K.cells
  have hwp : IntKind.i64.wrap (-pl) = -pl := by rw [IntKind.wrap_i64]; omega
  go_wp2_with fail
  refine (HN.out _).mono ?_; rintro _ w10 ⟨rfl, hb10⟩
  replace K := K.call hb10
  clear hb10 x0 x1 x2 y0 y1 y2 z0 z1 z2
  obtain ⟨⟨x0, x1, x2⟩, ⟨y0, y1, y2⟩, z0, z1, z2⟩ := K.cells
  have zf := K.res.frozen
  obtain ⟨hfin, hbf⟩ := K.put (.bool rg) (.string q) (.int .i64 re)
  go_wp2
  exact bodyPost_ret (v := .tuple #[.agg #[.bool rg, .string q, .int .i64 re], .int .i64 rr]) (by simp [results, Tryd.results42, go_sem, hfin.c3]) rfl ⟨rfl, hbf⟩
theorem dquo_any {a b : Dec.Dc} (ha : Dec.ok a) (hb : Dec.ok b) (pl mode : Int) (w : World) :
    Calls Tryd.prog 42 #[Dec.ag a, Dec.ag b, .int .i64 pl, .int .i64 mode] w fun r w' => r = .returned (.tuple #[Dec.ag (Dec.quoR a b pl mode).1, .int .i64 (Dec.quoR a b pl mode).2]) ∧ Below w.heap.size w w' := by
  unfold Dec.quoR
  by_cases h0 : mode < 0
  · rw [if_pos (Or.inl h0), Dec.ag_z0]; exact dquo_e1 a b pl mode h0 w
  by_cases h1 : 4 < mode
  · rw [if_pos (Or.inr (Or.inl h1)), Dec.ag_z0]; exact dquo_e2 a b pl mode h0 h1 w
  by_cases h2 : pl < -400
  · rw [if_pos (Or.inr (Or.inr (Or.inl h2))), Dec.ag_z0]; exact dquo_e3 a b pl mode h0 h1 h2 w
  by_cases h3 : 400 < pl
  · rw [if_pos (Or.inr (Or.inr (Or.inr h3))), Dec.ag_z0]; exact dquo_e4 a b pl mode h0 h1 h2 h3 w
  rw [if_neg (by omega)]
  by_cases hb0 : b.m = 0
  · rw [if_pos hb0, Dec.ag_z0]; exact dquo_e5 a b pl mode h0 h1 h2 h3 hb0 w
  · rw [if_neg hb0]
    exact dquo_main ha hb h0 h1 h2 h3 hb0 rfl rfl w
end Go.Proofs.YtcnfgcdbjofihaaDoor
