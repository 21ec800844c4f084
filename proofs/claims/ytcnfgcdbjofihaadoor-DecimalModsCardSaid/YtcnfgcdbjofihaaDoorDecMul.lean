/- Decimals: products and exact quotients. -/
import Derived.Test.YtcnfgcdbjofihaaDoorDecDiv
import Derived.Test.YtcnfgcdbjofihaaDoorDecT3
import Derived.Test.YtcnfgcdbjofihaaDoorDecRefC
import Derived.Test.YtcnfgcdbjofihaaDoorDigMul
namespace Go.Proofs.YtcnfgcdbjofihaaDoor
open Go.RowKit

theorem Dec.st_big {m : Nat} (h : m ≠ 0) (k : Nat) : Dig.st m ++ Dig.noughts k = Dig.st (m * Dig.big k) := Dec.st_mul h k
theorem Dec.big_add (j k : Nat) : Dig.big j * Dig.big k = Dig.big (j + k) := (Nat.pow_add 10 j k).symm
theorem Dec.lt_mul {a b : Nat} {j k l : Nat} (ha : a < Dig.big j) (hb : b < Dig.big k) (h : j + k = l) : a * b < Dig.big l := by
  have := Nat.mul_lt_mul'' ha hb
  rwa [Dec.big_add, h] at this
theorem Dec.lt_mulb {a : Nat} {j k l : Nat} (ha : a < Dig.big j) (h : j + k = l) : a * Dig.big k < Dig.big l := by
  have := Nat.mul_lt_mul_of_pos_right ha (Dec.big_pos k)
  rwa [Dec.big_add, h] at this
theorem Dec.ok_vld {d : Dec.Dc} (h : Dec.ok d) : Dig.vld (Dig.st d.m) := Dig.st_vld (Nat.lt_of_lt_of_le (Dec.ok_lt h) (Dig.big_le (by omega)))
theorem Dec.lim_yes {n : Nat} (h : n < Dig.big 600) : Dig.lim n = (Dig.st n, 0) := by unfold Dig.lim; rw [if_pos h]

set_option maxHeartbeats 4000000 in
set_option maxRecDepth 100000 in
theorem dmul_any {a b : Dec.Dc} (ha : Dec.ok a) (hb : Dec.ok b) (w : World) :
    Calls Tryd.prog 46 #[Dec.ag a, Dec.ag b] w fun r w' => r = .returned (.tuple #[Dec.ag (Dec.mulR a b).1, .int .i64 (Dec.mulR a b).2]) ∧ Below w.heap.size w w' := by
  obtain ⟨a1, a2, a3, _⟩ := Dec.ok_all ha
  obtain ⟨b1, b2, b3, _⟩ := Dec.ok_all hb
  have VA := Lib.hid (dvalid_yes (by unfold maxLen; omega) ha)
  have VB := Lib.hid (dvalid_yes (by unfold maxLen; omega) hb)
  have hlt : a.m * b.m < Dig.big 240 := Dec.lt_mul (Dec.ok_lt ha) (Dec.ok_lt hb) rfl
  have HM := Lib.hid (fun w => by have := mul_any (Dec.ok_vld ha) (Dec.ok_vld hb) w; rwa [Dig.V_st, Dig.V_st, Dec.lim_yes (Nat.lt_of_lt_of_le hlt (Dig.big_le (by omega)))] at this)
  dsimp only at HM
  obtain ⟨ng, hng⟩ : ∃ ng, (a.neg != b.neg) = ng := ⟨_, rfl⟩
  have hng2 : (!(a.neg == b.neg)) = ng := hng
  unfold Dec.mulR
  rw [hng]
  obtain ⟨R, hR⟩ : ∃ R, Dec.normR ng (a.m * b.m) (a.e + b.e) = R := ⟨_, rfl⟩
  rw [hR]
  obtain ⟨⟨rg, rm, re⟩, rr⟩ := R
  obtain ⟨q, hq⟩ : ∃ q, Dig.st rm = q := ⟨_, rfl⟩
  have HN := Lib.hid (norm_leaf (Nat.le_trans ((Dig.st_size _ 240).2 hlt) (by omega)) hR hq)
  obtain ⟨n, m, e⟩ := a
  obtain ⟨n', m', e'⟩ := b
  unfold Dec.ag at *
  dsimp only at *
  rw [hq]
  clear hR hq ha hb hlt
  generalize Dig.st (m * m') = S at *
  generalize Dig.st m = x at *
  generalize Dig.st m' = y at *
  have K := B3.new w n x e n' y e'
  obtain ⟨⟨x0, x1, x2⟩, ⟨y0, y1, y2⟩, z0, z1, z2⟩ := K.cells
  go_enter Tryd.func46, Tryd.ntmps46
  go_wp2_with fail
  refine (VA.out _).mono ?_; rintro _ w1 ⟨rfl, hb1⟩
  replace K := K.call hb1
  clear hb1 x0 x1 x2 y0 y1 y2 z0 z1 z2
  obtain ⟨⟨x0, x1, x2⟩, ⟨y0, y1, y2⟩, z0, z1, z2⟩ := K.cells
  go_wp2_with fail
  refine (VB.out _).mono ?_; rintro _ w2 ⟨rfl, hb2⟩
  replace K := K.call hb2
  clear hb2 x0 x1 x2 y0 y1 y2 z0 z1 z2
  obtain ⟨⟨x0, x1, x2⟩, ⟨y0, y1, y2⟩, z0, z1, z2⟩ := K.cells
  go_wp2_with fail
  refine (HM.out _).mono ?_; rintro _ w3 ⟨rfl, hb3⟩
  replace K := K.call hb3
  clear hb3 x0 x1 x2 y0 y1 y2 z0 z1 z2
  obtain ⟨⟨x0, x1, x2⟩, ⟨y0, y1, y2⟩, z0, z1, z2⟩ := K.cells
  go_wp2_with fail
  refine (HN.out _).mono ?_; rintro _ w4 ⟨rfl, hb4⟩
  replace K := K.call hb4
  clear hb4 x0 x1 x2 y0 y1 y2 z0 z1 z2
  obtain ⟨⟨x0, x1, x2⟩, ⟨y0, y1, y2⟩, z0, z1, z2⟩ := K.cells
  have zf := K.res.frozen
  obtain ⟨hfin, hbf⟩ := K.put (.bool rg) (.string q) (.int .i64 re)
  go_wp2
  exact bodyPost_ret (v := .tuple #[.agg #[.bool rg, .string q, .int .i64 re], .int .i64 rr]) (by simp [results, Tryd.results46, go_sem, hfin.c3]) rfl ⟨rfl, hbf⟩
theorem Dec.app_val (m k : Nat) : Dig.alld (Dig.l (Dig.st m ++ Dig.noughts k)) ∧ Dig.V (Dig.st m ++ Dig.noughts k) = m * Dig.big k := by
  by_cases h0 : m = 0
  · subst h0
    rw [Dec.st0, Nat.zero_mul]
    have e : (⟨#[]⟩ : ByteArray) ++ Dig.noughts k = Dig.noughts k := by
      apply ByteArray.ext
      simp [ByteArray.data_append]
    rw [e]
    unfold Dig.noughts Dig.V
    rw [Dig.l_bs]
    exact ⟨fun b hb => by rw [List.eq_of_mem_replicate hb]; unfold Dig.isd; decide, Dig.val_rep0 k⟩
  · rw [Dec.st_big h0]
    exact ⟨Dec.st_str _, Dig.V_st _⟩

set_option maxHeartbeats 4000000 in
set_option maxRecDepth 100000 in
theorem ddiv_b0 {a b : Dec.Dc} (h0 : b.m = 0) (w : World) :
    Calls Tryd.prog 47 #[Dec.ag a, Dec.ag b] w fun r w' => r = .returned (.tuple #[Dec.ag (Dec.divR a b).1, .int .i64 (Dec.divR a b).2]) ∧ Below w.heap.size w w' := by
  unfold Dec.divR
  rw [if_pos h0]
  dsimp only
  rw [Dec.ag_z0]
  obtain ⟨n, m, e⟩ := a
  obtain ⟨n', m', e'⟩ := b
  unfold Dec.ag
  dsimp only at *
  subst h0
  rw [Dec.st0]
  generalize Dig.st m = x at *
  have K := B3.new w n x e n' ⟨#[]⟩ e'
  obtain ⟨⟨x0, x1, x2⟩, ⟨y0, y1, y2⟩, z0, z1, z2⟩ := K.cells
  have zf := K.res.frozen
  go_enter Tryd.func47, Tryd.ntmps47
  go_wp2
  exact bodyPost_ret (v := .tuple #[.agg #[.bool false, .string ⟨#[]⟩, .int .i64 0], .int .i64 14]) (by simp [results, Tryd.results47, go_sem]) rfl ⟨rfl, by first | exact (K.put (.bool false) (.string ⟨#[]⟩) (.int .i64 0)).2 | exact K.below⟩
set_option maxHeartbeats 4000000 in
set_option maxRecDepth 100000 in
theorem ddiv_a0 {a b : Dec.Dc} (h0 : b.m ≠ 0) (a0 : a.m = 0) (w : World) :
    Calls Tryd.prog 47 #[Dec.ag a, Dec.ag b] w fun r w' => r = .returned (.tuple #[Dec.ag (Dec.divR a b).1, .int .i64 (Dec.divR a b).2]) ∧ Below w.heap.size w w' := by
  have ne := Dig.some_of (Dec.st_pos h0)
  unfold Dec.divR
  rw [if_neg h0, a0, Nat.zero_mul, Nat.zero_mod, if_neg (by omega), Nat.zero_div, Dec.norm_zero]
  dsimp only
  rw [Dec.ag_z0]
  clear h0
  obtain ⟨n, m, e⟩ := a
  obtain ⟨n', m', e'⟩ := b
  unfold Dec.ag
  dsimp only at *
  subst a0
  rw [Dec.st0]
  generalize Dig.st m' = y at *
  have K := B3.new w n ⟨#[]⟩ e n' y e'
  obtain ⟨⟨x0, x1, x2⟩, ⟨y0, y1, y2⟩, z0, z1, z2⟩ := K.cells
  have zf := K.res.frozen
  go_enter Tryd.func47, Tryd.ntmps47
  go_wp2
  exact bodyPost_ret (v := .tuple #[.agg #[.bool false, .string ⟨#[]⟩, .int .i64 0], .int .i64 0]) (by simp [results, Tryd.results47, go_sem]) rfl ⟨rfl, by first | exact (K.put (.bool false) (.string ⟨#[]⟩) (.int .i64 0)).2 | exact K.below⟩
set_option maxHeartbeats 8000000 in
set_option maxRecDepth 100000 in
theorem ddiv_bad {a b : Dec.Dc} (ha : Dec.ok a) (hb : Dec.ok b) (h0 : b.m ≠ 0) (a0 : a.m ≠ 0) (hr : a.m * Dig.big 400 % b.m ≠ 0) (w : World) :
    Calls Tryd.prog 47 #[Dec.ag a, Dec.ag b] w fun r w' => r = .returned (.tuple #[Dec.ag (Dec.divR a b).1, .int .i64 (Dec.divR a b).2]) ∧ Below w.heap.size w w' := by
  obtain ⟨a1, a2, a3, _⟩ := Dec.ok_all ha
  obtain ⟨b1, b2, b3, _⟩ := Dec.ok_all hb
  have VA := Lib.hid (dvalid_yes (by unfold maxLen; omega) ha)
  have VB := Lib.hid (dvalid_yes (by unfold maxLen; omega) hb)
  have ne1 := Dig.some_of (Dec.st_pos a0)
  have ne2 := Dig.some_of (Dec.st_pos h0)
  have HZ : Hid (∀ w, Calls Tryd.prog 58 #[.string ⟨#[48]⟩, .int .i64 400] w fun r w' => r = .returned (.string (Dig.noughts 400)) ∧ Below w.heap.size w w') := Lib.hid (fun w => repeat_any (n := 400) (by omega) w)
  have k1 : ¬ 9223372036854775807 < (Dig.st a.m).size + (Dig.noughts 400).size := by rw [Dig.noughts_size]; omega
  have hXs : Dig.alld (Dig.l (Dig.st a.m ++ Dig.noughts 400)) ∧ Dig.V (Dig.st a.m ++ Dig.noughts 400) = a.m * Dig.big 400 := Dec.app_val a.m 400
  have HD := Lib.hid (fun w => by have := divide_any (a := Dig.st a.m ++ Dig.noughts 400) ⟨hXs.1, by rw [ByteArray.size_append, Dig.noughts_size]; omega⟩ (Nat.lt_of_lt_of_le (Dec.ok_lt hb) (Dig.big_le (show 120 ≤ 900000 by omega))) (Nat.pos_of_ne_zero h0) w; rwa [hXs.2] at this)
  have hQ : a.m * Dig.big 400 / b.m < Dig.big 520 := Nat.lt_of_le_of_lt (Nat.div_le_self _ _) (Dec.lt_mulb (Dec.ok_lt ha) rfl)
  unfold Dec.divR
  rw [if_neg h0, if_pos hr]
  have ne3 := Dig.some_of (Dec.st_pos hr)
  dsimp only
  rw [Dec.ag_z0]
  obtain ⟨r, hr1⟩ : ∃ r, Dig.st (a.m * Dig.big 400 % b.m) = r := ⟨_, rfl⟩
  rw [hr1] at HD ne3
  obtain ⟨d, hd⟩ : ∃ d, Dig.st (a.m * Dig.big 400 / b.m) = d := ⟨_, rfl⟩
  rw [hd] at HD
  clear hXs hQ hr hr1 hd ha hb h0 a0
  obtain ⟨n, m, e⟩ := a
  obtain ⟨n', m', e'⟩ := b
  unfold Dec.ag at *
  dsimp only at *
  generalize Dig.noughts 400 = u at *
  generalize Dig.st m = x at *
  generalize Dig.st m' = y at *
  have K := B3.new w n x e n' y e'
  obtain ⟨⟨x0, x1, x2⟩, ⟨y0, y1, y2⟩, z0, z1, z2⟩ := K.cells
  go_enter Tryd.func47, Tryd.ntmps47
  go_wp2_with fail
  refine (VA.out _).mono ?_; rintro _ w1 ⟨rfl, hb1⟩
  replace K := K.call hb1
  clear hb1 x0 x1 x2 y0 y1 y2 z0 z1 z2
  obtain ⟨⟨x0, x1, x2⟩, ⟨y0, y1, y2⟩, z0, z1, z2⟩ := K.cells
  go_wp2_with fail
  refine (VB.out _).mono ?_; rintro _ w2 ⟨rfl, hb2⟩
  replace K := K.call hb2
  clear hb2 x0 x1 x2 y0 y1 y2 z0 z1 z2
  obtain ⟨⟨x0, x1, x2⟩, ⟨y0, y1, y2⟩, z0, z1, z2⟩ := K.cells
  go_upto_region 5 with fail
  go_region_held3 (fun W => W.cell? ⟨w.heap.size, 0, none⟩ = some (.bool n) ∧ W.cell? ⟨w.heap.size, 1, none⟩ = some (.string x) ∧ W.cell? ⟨w.heap.size, 2, none⟩ = some (.int .i64 e) ∧ W.cell? ⟨w.heap.size + 1, 0, none⟩ = some (.bool n') ∧ W.cell? ⟨w.heap.size + 1, 1, none⟩ = some (.string y) ∧ W.cell? ⟨w.heap.size + 1, 2, none⟩ = some (.int .i64 e') ∧ B3 w W n x e n' y e') (first | exact K.drew.full | exact keep_b3f (by assumption) (by assumption)) (first | (go_at_call 58; refine (HZ.out _).mono ?_; rintro _ w3 ⟨rfl, hb3⟩) | (go_at_call 78; refine (HD.out _).mono ?_; rintro _ w4 ⟨rfl, hb4⟩))
  clear K x0 x1 x2 y0 y1 y2 z0 z1 z2
  rename_i kept
  have K := seventh kept
  clear kept
  obtain ⟨⟨x0, x1, x2⟩, ⟨y0, y1, y2⟩, z0, z1, z2⟩ := K.cells
  have zf := K.res.frozen
  obtain ⟨hfin, hbf⟩ := K.put (.bool false) (.string ⟨#[]⟩) (.int .i64 0)
  go_wp2
  exact bodyPost_ret (v := .tuple #[.agg #[.bool false, .string ⟨#[]⟩, .int .i64 0], .int .i64 15]) (by simp [results, Tryd.results47, go_sem, hfin.c3]) rfl ⟨rfl, hbf⟩
set_option maxHeartbeats 8000000 in
set_option maxRecDepth 100000 in
theorem ddiv_ok {a b : Dec.Dc} (ha : Dec.ok a) (hb : Dec.ok b) (h0 : b.m ≠ 0) (a0 : a.m ≠ 0) (hr : a.m * Dig.big 400 % b.m = 0) (w : World) :
    Calls Tryd.prog 47 #[Dec.ag a, Dec.ag b] w fun r w' => r = .returned (.tuple #[Dec.ag (Dec.divR a b).1, .int .i64 (Dec.divR a b).2]) ∧ Below w.heap.size w w' := by
  obtain ⟨a1, a2, a3, _⟩ := Dec.ok_all ha
  obtain ⟨b1, b2, b3, _⟩ := Dec.ok_all hb
  have VA := Lib.hid (dvalid_yes (by unfold maxLen; omega) ha)
  have VB := Lib.hid (dvalid_yes (by unfold maxLen; omega) hb)
  have ne1 := Dig.some_of (Dec.st_pos a0)
  have ne2 := Dig.some_of (Dec.st_pos h0)
  have HZ : Hid (∀ w, Calls Tryd.prog 58 #[.string ⟨#[48]⟩, .int .i64 400] w fun r w' => r = .returned (.string (Dig.noughts 400)) ∧ Below w.heap.size w w') := Lib.hid (fun w => repeat_any (n := 400) (by omega) w)
  have k1 : ¬ 9223372036854775807 < (Dig.st a.m).size + (Dig.noughts 400).size := by rw [Dig.noughts_size]; omega
  have hXs : Dig.alld (Dig.l (Dig.st a.m ++ Dig.noughts 400)) ∧ Dig.V (Dig.st a.m ++ Dig.noughts 400) = a.m * Dig.big 400 := Dec.app_val a.m 400
  have HD := Lib.hid (fun w => by have := divide_any (a := Dig.st a.m ++ Dig.noughts 400) ⟨hXs.1, by rw [ByteArray.size_append, Dig.noughts_size]; omega⟩ (Nat.lt_of_lt_of_le (Dec.ok_lt hb) (Dig.big_le (show 120 ≤ 900000 by omega))) (Nat.pos_of_ne_zero h0) w; rwa [hXs.2] at this)
  have hQ : a.m * Dig.big 400 / b.m < Dig.big 520 := Nat.lt_of_le_of_lt (Nat.div_le_self _ _) (Dec.lt_mulb (Dec.ok_lt ha) rfl)
  unfold Dec.divR
  rw [if_neg h0, if_neg (fun k => k hr)]
  rw [hr, Dec.st0] at HD
  obtain ⟨ng, hng⟩ : ∃ ng, (a.neg != b.neg) = ng := ⟨_, rfl⟩
  have hng2 : (!(a.neg == b.neg)) = ng := hng
  rw [hng]
  obtain ⟨z1, hz1⟩ : ∃ z, a.e - b.e = z := ⟨_, rfl⟩
  obtain ⟨z2, hz2⟩ : ∃ z, z1 - 400 = z := ⟨_, rfl⟩
  have hwa : IntKind.i64.wrap z1 = z1 := by rw [IntKind.wrap_i64]; omega
  have hwb : IntKind.i64.wrap z2 = z2 := by rw [IntKind.wrap_i64]; omega
  have hwc : IntKind.i64.wrap (a.e - b.e) = z1 := by rw [hz1]; exact hwa
  have hwd : IntKind.i64.wrap (z1 - 400) = z2 := by rw [hz2]; exact hwb
  rw [hz1, hz2]
  obtain ⟨R, hR⟩ : ∃ R, Dec.normR ng (a.m * Dig.big 400 / b.m) z2 = R := ⟨_, rfl⟩
  rw [hR]
  obtain ⟨⟨rg, rm, re⟩, rr⟩ := R
  obtain ⟨q, hq⟩ : ∃ q, Dig.st rm = q := ⟨_, rfl⟩
  have HN := Lib.hid (norm_leaf (Nat.le_trans ((Dig.st_size _ 520).2 hQ) (by omega)) hR hq)
  obtain ⟨d, hd⟩ : ∃ d, Dig.st (a.m * Dig.big 400 / b.m) = d := ⟨_, rfl⟩
  rw [hd] at HD HN
  clear hXs hQ hr hR hd ha hb h0 a0
  obtain ⟨n, m, e⟩ := a
  obtain ⟨n', m', e'⟩ := b
  unfold Dec.ag at *
  dsimp only at *
  rw [hq]
  clear hq
  generalize Dig.noughts 400 = u at *
  generalize Dig.st m = x at *
  generalize Dig.st m' = y at *
  have K := B3.new w n x e n' y e'
  obtain ⟨⟨x0, x1, x2⟩, ⟨y0, y1, y2⟩, z0, z1, z2⟩ := K.cells
  go_enter Tryd.func47, Tryd.ntmps47
  go_wp2_with fail
  refine (VA.out _).mono ?_; rintro _ w1 ⟨rfl, hb1⟩
  replace K := K.call hb1
  clear hb1 x0 x1 x2 y0 y1 y2 z0 z1 z2
  obtain ⟨⟨x0, x1, x2⟩, ⟨y0, y1, y2⟩, z0, z1, z2⟩ := K.cells
  go_wp2_with fail
  refine (VB.out _).mono ?_; rintro _ w2 ⟨rfl, hb2⟩
  replace K := K.call hb2
  clear hb2 x0 x1 x2 y0 y1 y2 z0 z1 z2
  obtain ⟨⟨x0, x1, x2⟩, ⟨y0, y1, y2⟩, z0, z1, z2⟩ := K.cells
  go_upto_region 5 with fail
  go_region_held3 (fun W => W.cell? ⟨w.heap.size, 0, none⟩ = some (.bool n) ∧ W.cell? ⟨w.heap.size, 1, none⟩ = some (.string x) ∧ W.cell? ⟨w.heap.size, 2, none⟩ = some (.int .i64 e) ∧ W.cell? ⟨w.heap.size + 1, 0, none⟩ = some (.bool n') ∧ W.cell? ⟨w.heap.size + 1, 1, none⟩ = some (.string y) ∧ W.cell? ⟨w.heap.size + 1, 2, none⟩ = some (.int .i64 e') ∧ B3 w W n x e n' y e') (first | exact K.drew.full | exact keep_b3f (by assumption) (by assumption)) (first | (go_at_call 58; refine (HZ.out _).mono ?_; rintro _ w3 ⟨rfl, hb3⟩) | (go_at_call 78; refine (HD.out _).mono ?_; rintro _ w4 ⟨rfl, hb4⟩))
  clear K x0 x1 x2 y0 y1 y2 z0 z1 z2
  rename_i kept
  have K := seventh kept
  clear kept
  obtain ⟨⟨x0, x1, x2⟩, ⟨y0, y1, y2⟩, z0, z1, z2⟩ := K.cells
  have zf := K.res.frozen
  go_wp2_with fail
  refine (HN.out _).mono ?_; rintro _ w5 ⟨rfl, hb5⟩
  replace K := K.call hb5
  clear hb5 x0 x1 x2 y0 y1 y2 z0 z1 z2
  obtain ⟨⟨x0, x1, x2⟩, ⟨y0, y1, y2⟩, z0, z1, z2⟩ := K.cells
  have zf := K.res.frozen
  obtain ⟨hfin, hbf⟩ := K.put (.bool rg) (.string q) (.int .i64 re)
  go_wp2
  exact bodyPost_ret (v := .tuple #[.agg #[.bool rg, .string q, .int .i64 re], .int .i64 rr]) (by simp [results, Tryd.results47, go_sem, hfin.c3]) rfl ⟨rfl, hbf⟩
theorem ddiv_any {a b : Dec.Dc} (ha : Dec.ok a) (hb : Dec.ok b) (w : World) :
    Calls Tryd.prog 47 #[Dec.ag a, Dec.ag b] w fun r w' => r = .returned (.tuple #[Dec.ag (Dec.divR a b).1, .int .i64 (Dec.divR a b).2]) ∧ Below w.heap.size w w' := by
  by_cases h0 : b.m = 0
  · exact ddiv_b0 h0 w
  by_cases a0 : a.m = 0
  · exact ddiv_a0 h0 a0 w
  by_cases hr : a.m * Dig.big 400 % b.m = 0
  · exact ddiv_ok ha hb h0 a0 hr w
  · exact ddiv_bad ha hb h0 a0 hr w
end Go.Proofs.YtcnfgcdbjofihaaDoor
