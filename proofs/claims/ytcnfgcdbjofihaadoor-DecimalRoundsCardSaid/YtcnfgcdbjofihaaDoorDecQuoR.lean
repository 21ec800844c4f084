/- Decimals: rounded quotients, the reference's. -/
import Derived.Test.YtcnfgcdbjofihaaDoorDecQuo
namespace Go.Proofs.YtcnfgcdbjofihaaDoor
open Go.RowKit

set_option maxHeartbeats 1000000 in
set_option maxRecDepth 100000 in
theorem rquo2_e1 (a b : Dec.Dc) (pl mode : Int) (h : mode < 0) (w : World) :
    Calls Tryd.prog 44 #[Dec.ag a, Dec.ag b, .int .i64 pl, .int .i64 mode] w fun r w' => r = .returned (.tuple #[.agg #[.bool false, .string ⟨#[]⟩, .int .i64 0], .int .i64 1]) ∧ Below w.heap.size w w' := by
  have d1 : decide (mode < 0) = true := decide_eq_true (by omega)
  clear h
  obtain ⟨n, m, e⟩ := a
  obtain ⟨n', m', e'⟩ := b
  unfold Dec.ag
  dsimp only at *
  generalize Dig.st m = x at *
  generalize Dig.st m' = y at *
  have K := B3.new w n x e n' y e'
  obtain ⟨⟨x0, x1, x2⟩, ⟨y0, y1, y2⟩, z0, z1, z2⟩ := K.cells
  have zf := K.res.frozen
  go_enter Tryd.func44, Tryd.ntmps44
  go_wp2
  exact bodyPost_ret (v := .tuple #[.agg #[.bool false, .string ⟨#[]⟩, .int .i64 0], .int .i64 1]) (by simp [results, Tryd.results44, go_sem]) rfl ⟨rfl, by first | exact (K.put (.bool false) (.string ⟨#[]⟩) (.int .i64 0)).2 | exact K.below⟩
set_option maxHeartbeats 1000000 in
set_option maxRecDepth 100000 in
theorem rquo2_e2 (a b : Dec.Dc) (pl mode : Int) (h0 : ¬ mode < 0) (h : 4 < mode) (w : World) :
    Calls Tryd.prog 44 #[Dec.ag a, Dec.ag b, .int .i64 pl, .int .i64 mode] w fun r w' => r = .returned (.tuple #[.agg #[.bool false, .string ⟨#[]⟩, .int .i64 0], .int .i64 1]) ∧ Below w.heap.size w w' := by
  have d1 : decide (mode < 0) = false := decide_eq_false (by omega)
  have d2 : decide (4 < mode) = true := decide_eq_true (by omega)
  clear h0 h
  obtain ⟨n, m, e⟩ := a
  obtain ⟨n', m', e'⟩ := b
  unfold Dec.ag
  dsimp only at *
  generalize Dig.st m = x at *
  generalize Dig.st m' = y at *
  have K := B3.new w n x e n' y e'
  obtain ⟨⟨x0, x1, x2⟩, ⟨y0, y1, y2⟩, z0, z1, z2⟩ := K.cells
  have zf := K.res.frozen
  go_enter Tryd.func44, Tryd.ntmps44
  go_wp2
  exact bodyPost_ret (v := .tuple #[.agg #[.bool false, .string ⟨#[]⟩, .int .i64 0], .int .i64 1]) (by simp [results, Tryd.results44, go_sem]) rfl ⟨rfl, by first | exact (K.put (.bool false) (.string ⟨#[]⟩) (.int .i64 0)).2 | exact K.below⟩
set_option maxHeartbeats 1000000 in
set_option maxRecDepth 100000 in
theorem rquo2_e3 (a b : Dec.Dc) (pl mode : Int) (h0 : ¬ mode < 0) (h1 : ¬ 4 < mode) (h : pl < -400) (w : World) :
    Calls Tryd.prog 44 #[Dec.ag a, Dec.ag b, .int .i64 pl, .int .i64 mode] w fun r w' => r = .returned (.tuple #[.agg #[.bool false, .string ⟨#[]⟩, .int .i64 0], .int .i64 1]) ∧ Below w.heap.size w w' := by
  have d1 : decide (mode < 0) = false := decide_eq_false (by omega)
  have d2 : decide (4 < mode) = false := decide_eq_false (by omega)
  have d3 : decide (pl < -400) = true := decide_eq_true (by omega)
  clear h0 h1 h
  obtain ⟨n, m, e⟩ := a
  obtain ⟨n', m', e'⟩ := b
  unfold Dec.ag
  dsimp only at *
  generalize Dig.st m = x at *
  generalize Dig.st m' = y at *
  have K := B3.new w n x e n' y e'
  obtain ⟨⟨x0, x1, x2⟩, ⟨y0, y1, y2⟩, z0, z1, z2⟩ := K.cells
  have zf := K.res.frozen
  go_enter Tryd.func44, Tryd.ntmps44
  go_wp2
  exact bodyPost_ret (v := .tuple #[.agg #[.bool false, .string ⟨#[]⟩, .int .i64 0], .int .i64 1]) (by simp [results, Tryd.results44, go_sem]) rfl ⟨rfl, by first | exact (K.put (.bool false) (.string ⟨#[]⟩) (.int .i64 0)).2 | exact K.below⟩
set_option maxHeartbeats 1000000 in
set_option maxRecDepth 100000 in
theorem rquo2_e4 (a b : Dec.Dc) (pl mode : Int) (h0 : ¬ mode < 0) (h1 : ¬ 4 < mode) (h2 : ¬ pl < -400) (h : 400 < pl) (w : World) :
    Calls Tryd.prog 44 #[Dec.ag a, Dec.ag b, .int .i64 pl, .int .i64 mode] w fun r w' => r = .returned (.tuple #[.agg #[.bool false, .string ⟨#[]⟩, .int .i64 0], .int .i64 1]) ∧ Below w.heap.size w w' := by
  have d1 : decide (mode < 0) = false := decide_eq_false (by omega)
  have d2 : decide (4 < mode) = false := decide_eq_false (by omega)
  have d3 : decide (pl < -400) = false := decide_eq_false (by omega)
  have d4 : decide (400 < pl) = true := decide_eq_true (by omega)
  clear h0 h1 h2 h
  obtain ⟨n, m, e⟩ := a
  obtain ⟨n', m', e'⟩ := b
  unfold Dec.ag
  dsimp only at *
  generalize Dig.st m = x at *
  generalize Dig.st m' = y at *
  have K := B3.new w n x e n' y e'
  obtain ⟨⟨x0, x1, x2⟩, ⟨y0, y1, y2⟩, z0, z1, z2⟩ := K.cells
  have zf := K.res.frozen
  go_enter Tryd.func44, Tryd.ntmps44
  go_wp2
  exact bodyPost_ret (v := .tuple #[.agg #[.bool false, .string ⟨#[]⟩, .int .i64 0], .int .i64 1]) (by simp [results, Tryd.results44, go_sem]) rfl ⟨rfl, by first | exact (K.put (.bool false) (.string ⟨#[]⟩) (.int .i64 0)).2 | exact K.below⟩
set_option maxHeartbeats 1000000 in
set_option maxRecDepth 100000 in
theorem rquo2_e5 (a b : Dec.Dc) (pl mode : Int) (h0 : ¬ mode < 0) (h1 : ¬ 4 < mode) (h2 : ¬ pl < -400) (h3 : ¬ 400 < pl) (hb : b.m = 0) (w : World) :
    Calls Tryd.prog 44 #[Dec.ag a, Dec.ag b, .int .i64 pl, .int .i64 mode] w fun r w' => r = .returned (.tuple #[.agg #[.bool false, .string ⟨#[]⟩, .int .i64 0], .int .i64 14]) ∧ Below w.heap.size w w' := by
  have d1 : decide (mode < 0) = false := decide_eq_false (by omega)
  have d2 : decide (4 < mode) = false := decide_eq_false (by omega)
  have d3 : decide (pl < -400) = false := decide_eq_false (by omega)
  have d4 : decide (400 < pl) = false := decide_eq_false (by omega)
  have hs : Dig.st b.m = ⟨#[]⟩ := by rw [hb, Dec.st0]
  unfold Dec.ag
  rw [hs]
  clear h0 h1 h2 h3 hb hs
  obtain ⟨n, m, e⟩ := a
  obtain ⟨n', m', e'⟩ := b
  dsimp only at *
  generalize Dig.st m = x at *
  have K := B3.new w n x e n' ⟨#[]⟩ e'
  obtain ⟨⟨x0, x1, x2⟩, ⟨y0, y1, y2⟩, z0, z1, z2⟩ := K.cells
  have zf := K.res.frozen
  go_enter Tryd.func44, Tryd.ntmps44
  go_wp2
  exact bodyPost_ret (v := .tuple #[.agg #[.bool false, .string ⟨#[]⟩, .int .i64 0], .int .i64 14]) (by simp [results, Tryd.results44, go_sem]) rfl ⟨rfl, by first | exact (K.put (.bool false) (.string ⟨#[]⟩) (.int .i64 0)).2 | exact K.below⟩

set_option maxHeartbeats 2000000 in
set_option maxRecDepth 100000 in
theorem rquo2_main {a b : Dec.Dc} (ha : Dec.ok a) (hb : Dec.ok b) {pl mode : Int} (h0 : ¬ mode < 0) (h1 : ¬ 4 < mode) (h2 : ¬ pl < -400) (h3 : ¬ 400 < pl) (hb0 : b.m ≠ 0) {ng : Bool} (hng : (a.neg != b.neg) = ng) {rg : Bool} {rm : Nat} {re rr : Int} (hR : Dec.normR ng (Dec.qup mode ng (Dec.qX a b pl) (Dec.qY a b pl)) (-pl) = (⟨rg, rm, re⟩, rr)) (w : World) :
    Calls Tryd.prog 44 #[Dec.ag a, Dec.ag b, .int .i64 pl, .int .i64 mode] w fun r w' => r = .returned (.tuple #[.agg #[.bool rg, .string (Dig.st rm), .int .i64 re], .int .i64 rr]) ∧ Below w.heap.size w w' := by
  obtain ⟨a1, a2, a3, _⟩ := Dec.ok_all ha
  obtain ⟨b1, b2, b3, _⟩ := Dec.ok_all hb
  have hng2 : (!(a.neg == b.neg)) = ng := hng
  obtain ⟨x1, x2, x3⟩ := Dec.quo_lt ha hb hb0 (pl := pl) (by omega) (by omega)
  have ne := Dig.some_of (Dec.st_pos hb0)
  have d1 : decide (mode < 0) = false := decide_eq_false (by omega)
  have d2 : decide (4 < mode) = false := decide_eq_false (by omega)
  have d3 : decide (pl < -400) = false := decide_eq_false (by omega)
  have d4 : decide (400 < pl) = false := decide_eq_false (by omega)
  have VA := Lib.hid (fun w => dvalid_yes (by unfold maxLen; omega) ha w)
  have VB := Lib.hid (fun w => dvalid_yes (by unfold maxLen; omega) hb w)
  have HN := Lib.hid (fun w => normal_st (Nat.le_trans ((Dig.st_size _ 1321).2 (Dec.qup_lt x1)) (by omega)) (by omega) (by omega) hR rfl w)
  obtain ⟨f, hf⟩ : ∃ f, a.e - b.e + pl = f := ⟨_, rfl⟩
  have HX : Hid (0 ≤ f → Dec.qX a b pl = a.m * Dig.big f.toNat ∧ Dec.qY a b pl = b.m) := Lib.hid (fun h => by
    unfold Dec.qX Dec.qY
    rw [hf, Dec.neg_toNat (i := -f) (by omega), Nat.mul_one]
    exact ⟨rfl, rfl⟩)
  have HY : Hid (¬ 0 ≤ f → Dec.qX a b pl = a.m ∧ Dec.qY a b pl = b.m * Dig.big (-f).toNat) := Lib.hid (fun h => by
    unfold Dec.qX Dec.qY
    rw [hf, Dec.neg_toNat (i := f) (by omega), Nat.mul_one]
    exact ⟨rfl, rfl⟩)
  generalize Dec.qX a b pl = X at *
  generalize Dec.qY a b pl = Y at *
  have hf1 : -1200 ≤ f := by omega
  have hf2 : f ≤ 1200 := by omega
  have HB0 := Lib.hid hb0
  have X1 := Lib.hid x1
  have X2 := Lib.hid x2
  have X3 := Lib.hid x3
  generalize Dig.st rm = q at *
  clear ha hb hb0 hR x1 x2 x3
  obtain ⟨n, m, e⟩ := a
  obtain ⟨n', m', e'⟩ := b
  unfold Dec.ag
  dsimp only at *
  have HMA := Lib.hid (rfl : Dig.st m = Dig.st m)
  obtain ⟨x, hx⟩ : ∃ x, Dig.st m = x := ⟨_, rfl⟩
  obtain ⟨y, hy⟩ : ∃ y, Dig.st m' = y := ⟨_, rfl⟩
  have EX := Lib.hid hx
  have EY := Lib.hid hy
  rw [hx] at VA a1 ⊢
  rw [hy] at VB b1 ne ⊢
  clear hx hy HMA
  have K := B3.new w n x e n' y e'
  obtain ⟨⟨x0, x1, x2⟩, ⟨y0, y1, y2⟩, z0, z1, z2⟩ := K.cells
  go_enter Tryd.func44, Tryd.ntmps44
  clear VA VB
  go_upto_region 5 with fail
  go_quiet (fail)
  replace K := K.drewN nq
  clear x0 x1 x2 y0 y1 y2 z0 z1 z2
  obtain ⟨⟨x0, x1, x2⟩, ⟨y0, y1, y2⟩, z0, z1, z2⟩ := K.cells
  obtain ⟨cf, hcf⟩ : ∃ c, decide (0 ≤ f) = c := ⟨_, rfl⟩
  go_upto_region 7 with fail
  go_upto_if 48 with fail
  have HCF := Lib.hid hcf
  clear hcf
  go_cut [10, 11] (fun t1 t2 wx => t1 = .string (Dig.st X) ∧ t2 = .string (Dig.st Y) ∧ B3 w wx n x e n' y e')
  case first =>
    cases cf
    case true =>
      have hf0 : 0 ≤ f := of_decide_eq_true HCF.out
      obtain ⟨hX, hY⟩ := HX.out (by omega)
      obtain ⟨j, hj⟩ : ∃ j : Nat, f = j := ⟨f.toNat, by omega⟩
      have hj2 : f.toNat = j := by omega
      have HZ : Hid (∀ w, Calls Tryd.prog 63 #[.int .i64 f] w fun r w' => r = .returned (.string (Dig.noughts j)) ∧ Below w.heap.size w w') := Lib.hid (fun w => by rw [hj]; exact noughts_any (n := j) (by omega) w)
      have av := Dec.app_val m j
      rw [EX.out] at av
      have HT := Lib.hid (fun w => by have := rstrip_any (x := x ++ Dig.noughts j) (by rw [ByteArray.size_append, Dig.noughts_size]; unfold maxLen; omega) w; rwa [Dig.st_strip av.1, av.2] at this)
      have k1 : ¬ 9223372036854775807 < x.size + (Dig.noughts j).size := by rw [Dig.noughts_size]; omega
      have EV : Hid (Dig.st X = Dig.st (m * Dig.big j)) := Lib.hid (by rw [hX, hj2])
      have EW : Hid (Dig.st Y = y) := Lib.hid (by rw [hY, EY.out])
      clear av hj hj2 hf0 hf hX hY HX HY
      generalize Dig.noughts j = u at *
      generalize Dig.st (m * Dig.big j) = v at *
      go_wp2_with fail
      refine (HZ.out _).mono ?_; rintro _ w3 ⟨rfl, hb3⟩
      replace K := K.call hb3
      clear hb3 x0 x1 x2 y0 y1 y2 z0 z1 z2
      obtain ⟨⟨x0, x1, x2⟩, ⟨y0, y1, y2⟩, z0, z1, z2⟩ := K.cells
      go_wp2_with fail
      refine (HT.out _).mono ?_; rintro _ w4 ⟨rfl, rfl⟩
      go_wp2_with fail
      go_meet
      exact ⟨by rw [EV.out], by rw [EW.out], K⟩
    case false =>
      have hf0 : ¬ 0 ≤ f := of_decide_eq_false HCF.out
      obtain ⟨hX, hY⟩ := HY.out (by omega)
      obtain ⟨j, hj⟩ : ∃ j : Nat, -f = j := ⟨(-f).toNat, by omega⟩
      have hj2 : (-f).toNat = j := by omega
      have hwf : IntKind.i64.wrap (-f) = j := by rw [IntKind.wrap_i64]; omega
      have HZ := Lib.hid (fun w => noughts_any (n := j) (by omega) w)
      have k1 : ¬ 9223372036854775807 < y.size + (Dig.noughts j).size := by rw [Dig.noughts_size]; omega
      have hst := Dec.st_big HB0.out j
      rw [EY.out] at hst
      have EV : Hid (Dig.st X = x) := Lib.hid (by rw [hX, EX.out])
      have EW : Hid (Dig.st Y = y ++ Dig.noughts j) := Lib.hid (by rw [hY, hj2, hst])
      clear hst hj hj2 hf0 hf hX hY HX HY
      generalize Dig.noughts j = u at *
      go_wp2_with fail
      refine (HZ.out _).mono ?_; rintro _ w3 ⟨rfl, hb3⟩
      replace K := K.call hb3
      clear hb3 x0 x1 x2 y0 y1 y2 z0 z1 z2
      obtain ⟨⟨x0, x1, x2⟩, ⟨y0, y1, y2⟩, z0, z1, z2⟩ := K.cells
      go_wp2_with fail
      go_meet
      exact ⟨by rw [EV.out], by rw [EW.out], K⟩
  case rest =>
  obtain ⟨rfl, rfl, K⟩ := hcut
  clear x0 x1 x2 y0 y1 y2 z0 z1 z2 HX HY hf hf1 hf2 HB0 EX EY
  obtain ⟨⟨x0, x1, x2⟩, ⟨y0, y1, y2⟩, z0, z1, z2⟩ := K.cells
  have HD := Lib.hid (fun w => by have := rquo_any (a := Dig.st X) (Dec.str_st (Nat.le_trans ((Dig.st_size X 1320).2 X1.out) (by omega))) (Nat.lt_of_lt_of_le X2.out (Dig.big_le (show 1320 ≤ 900000 by omega))) X3.out w; rwa [Dig.V_st] at this)
  have hQ : X / Y < Dig.big 1320 := Nat.lt_of_le_of_lt (Nat.div_le_self _ _) X1.out
  have hM : X % Y < Dig.big 1320 := Nat.lt_trans (Nat.mod_lt _ X3.out) X2.out
  have QS := Lib.hid ((Dig.st_size _ 1320).2 hQ)
  have MS := Lib.hid ((Dig.st_size _ 1320).2 hM)
  have YS := Lib.hid ((Dig.st_size _ 1320).2 X2.out)
  have QU : Hid (Dec.qup mode ng X Y = if X % Y ≠ 0 ∧ Dec.upR mode ng (Dec.oddR (X / Y)) (Dig.cmp (X % Y + X % Y) Y) = true then X / Y + 1 else X / Y) := Lib.hid rfl
  generalize Dec.qup mode ng X Y = Z at *
  generalize X / Y = Q at *
  generalize X % Y = M at *
  clear hQ hM X1 X2 X3
  go_wp2_with fail
  refine (HD.out _).mono ?_; rintro _ w5 ⟨rfl, hb5⟩
  replace K := K.call hb5
  clear hb5 x0 x1 x2 y0 y1 y2 z0 z1 z2
  obtain ⟨⟨x0, x1, x2⟩, ⟨y0, y1, y2⟩, z0, z1, z2⟩ := K.cells
  clear HD
  go_upto_region 12 with fail
  go_cut [76] (fun t wx => (∃ u : Bool, t = .bool u ∧ Z = if u = true then Q + 1 else Q) ∧ B3 w wx n x e n' y e')
  case first =>
    by_cases hM0 : M = 0
    · have hz := QU.out
      rw [if_neg (fun k => k.1 hM0)] at hz
      have hMe : Dig.st M = ⟨#[]⟩ := by rw [hM0, Dec.st0]
      have HU := Lib.hid (fun w => by have := up_none ng (Dig.st Q) (Dig.st Y) mode w; rwa [← hMe] at this)
      clear hMe
      have HZ0 : Hid (Z = if false = true then Q + 1 else Q) := Lib.hid (by rw [hz]; rfl)
      clear hz hM0 QU QS MS YS HN
      go_wp2_with fail
      refine (HU.out _).mono ?_; rintro _ w6 ⟨rfl, hb6⟩
      replace K := K.call hb6
      clear hb6 x0 x1 x2 y0 y1 y2 z0 z1 z2
      obtain ⟨⟨x0, x1, x2⟩, ⟨y0, y1, y2⟩, z0, z1, z2⟩ := K.cells
      go_wp2_with fail
      go_meet
      exact ⟨⟨false, rfl, HZ0.out⟩, K⟩
    · have HU := Lib.hid (fun w => up_some ng (q := Q) (r := M) (Y := Y) (by have := QS.out; omega) (by have := MS.out; omega) (by have := YS.out; omega) hM0 mode (by omega) (by omega) w)
      obtain ⟨u, hu⟩ : ∃ u, Dec.upR mode ng (Dec.oddR Q) (Dig.cmp (M + M) Y) = u := ⟨_, rfl⟩
      have HZ0 : Hid (Z = if u = true then Q + 1 else Q) := Lib.hid (by
        rw [QU.out, hu]
        by_cases k : u = true
        · rw [if_pos ⟨hM0, k⟩, if_pos k]
        · rw [if_neg (fun h => k h.2), if_neg k])
      rw [hu] at HU
      clear hu hM0 QU QS MS YS HN
      go_wp2_with fail
      refine (HU.out _).mono ?_; rintro _ w6 ⟨rfl, hb6⟩
      replace K := K.call hb6
      clear hb6 x0 x1 x2 y0 y1 y2 z0 z1 z2
      obtain ⟨⟨x0, x1, x2⟩, ⟨y0, y1, y2⟩, z0, z1, z2⟩ := K.cells
      go_wp2_with fail
      go_meet
      exact ⟨⟨u, rfl, HZ0.out⟩, K⟩
  case rest =>
  obtain ⟨⟨u, rfl, hz⟩, K⟩ := hcut
  have HZ0 := Lib.hid hz
  clear hz x0 x1 x2 y0 y1 y2 z0 z1 z2 QU MS YS
  obtain ⟨⟨x0, x1, x2⟩, ⟨y0, y1, y2⟩, z0, z1, z2⟩ := K.cells
  go_upto_if 76 with fail
  go_cut [14] (fun t wx => t = .string (Dig.st Z) ∧ B3 w wx n x e n' y e')
  case first =>
    cases u
    · have hz := HZ0.out
      rw [if_neg (by decide)] at hz
      subst hz
      clear HZ0 HN
      go_wp2_with fail
      go_meet
      exact ⟨rfl, K⟩
    · have hz := HZ0.out
      rw [if_pos rfl] at hz
      subst hz
      have HP := Lib.hid (fun w => by have := rsum_any (a := Dig.st Q) (b := ⟨#[49]⟩) (Dec.str_st (Nat.le_trans QS.out (by omega))) ⟨by decide, by decide⟩ w; rwa [Dig.V_st, show Dig.V ⟨#[49]⟩ = 1 from by decide] at this)
      clear HZ0 HN
      go_wp2_with fail
      refine (HP.out _).mono ?_; rintro _ w9 ⟨rfl, hb9⟩
      replace K := K.call hb9
      clear hb9 x0 x1 x2 y0 y1 y2 z0 z1 z2
      obtain ⟨⟨x0, x1, x2⟩, ⟨y0, y1, y2⟩, z0, z1, z2⟩ := K.cells
      go_wp2_with fail
      go_meet
      exact ⟨rfl, K⟩
  case rest =>
  obtain ⟨rfl, K⟩ := hcut
  clear x0 x1 x2 y0 y1 y2 z0 z1 z2 HZ0 QS
  obtain ⟨⟨x0, x1, x2⟩, ⟨y0, y1, y2⟩, z0, z1, z2⟩ := K.cells
  have hwp : IntKind.i64.wrap (-pl) = -pl := by rw [IntKind.wrap_i64]; omega
  go_wp2_with fail
  refine (HN.out _).mono ?_; rintro _ w10 ⟨rfl, hb10⟩
  replace K := K.call hb10
  clear hb10 x0 x1 x2 y0 y1 y2 z0 z1 z2
  obtain ⟨⟨x0, x1, x2⟩, ⟨y0, y1, y2⟩, z0, z1, z2⟩ := K.cells
  have zf := K.res.frozen
  obtain ⟨hfin, hbf⟩ := K.put (.bool rg) (.string q) (.int .i64 re)
  go_wp2
  exact bodyPost_ret (v := .tuple #[.agg #[.bool rg, .string q, .int .i64 re], .int .i64 rr]) (by simp [results, Tryd.results44, go_sem, hfin.c3]) rfl ⟨rfl, hbf⟩
theorem rquo2_any {a b : Dec.Dc} (ha : Dec.ok a) (hb : Dec.ok b) (pl mode : Int) (w : World) :
    Calls Tryd.prog 44 #[Dec.ag a, Dec.ag b, .int .i64 pl, .int .i64 mode] w fun r w' => r = .returned (.tuple #[Dec.ag (Dec.quoR a b pl mode).1, .int .i64 (Dec.quoR a b pl mode).2]) ∧ Below w.heap.size w w' := by
  unfold Dec.quoR
  by_cases h0 : mode < 0
  · rw [if_pos (Or.inl h0), Dec.ag_z0]; exact rquo2_e1 a b pl mode h0 w
  by_cases h1 : 4 < mode
  · rw [if_pos (Or.inr (Or.inl h1)), Dec.ag_z0]; exact rquo2_e2 a b pl mode h0 h1 w
  by_cases h2 : pl < -400
  · rw [if_pos (Or.inr (Or.inr (Or.inl h2))), Dec.ag_z0]; exact rquo2_e3 a b pl mode h0 h1 h2 w
  by_cases h3 : 400 < pl
  · rw [if_pos (Or.inr (Or.inr (Or.inr h3))), Dec.ag_z0]; exact rquo2_e4 a b pl mode h0 h1 h2 h3 w
  rw [if_neg (by omega)]
  by_cases hb0 : b.m = 0
  · rw [if_pos hb0, Dec.ag_z0]; exact rquo2_e5 a b pl mode h0 h1 h2 h3 hb0 w
  · rw [if_neg hb0]
    exact rquo2_main ha hb h0 h1 h2 h3 hb0 rfl rfl w
end Go.Proofs.YtcnfgcdbjofihaaDoor
