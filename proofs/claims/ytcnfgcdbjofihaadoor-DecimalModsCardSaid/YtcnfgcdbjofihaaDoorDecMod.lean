/- Decimals: remainders, on both sides. -/
import Derived.Test.YtcnfgcdbjofihaaDoorDecMulR
import Derived.Test.YtcnfgcdbjofihaaDoorDecRefC
namespace Go.Proofs.YtcnfgcdbjofihaaDoor
open Go.RowKit

namespace Dec
def modN (d : Bool) (X Y : Nat) : Nat := if X % Y ≠ 0 ∧ d = true then Y - X % Y else X % Y
/-- The remainder of the division rounded down. -/
def modR (a b : Dc) : Dc × Int := if b.m = 0 then (z0, 14) else normR b.neg (modN (a.neg != b.neg) (al a b).1 (al a b).2.1) (al a b).2.2
theorem al_pos {a b : Dc} (h0 : b.m ≠ 0) : 0 < (al a b).2.1 := by
  unfold al
  split
  · exact Nat.pos_of_ne_zero h0
  · first | rw [if_neg h0] | skip
    exact Nat.mul_pos (Nat.pos_of_ne_zero h0) (Nat.pow_pos (by omega))
theorem al_exp {a b : Dc} (ha : ok a) (hb : ok b) : -400 ≤ (al a b).2.2 ∧ (al a b).2.2 ≤ 400 := by
  obtain ⟨a1, a2, a3, _⟩ := ok_all ha
  obtain ⟨b1, b2, b3, _⟩ := ok_all hb
  unfold al
  split
  · exact ⟨b2, b3⟩
  · split
    · exact ⟨a2, a3⟩
    · dsimp only; omega
theorem modN_le {d : Bool} {X Y : Nat} (h : 0 < Y) : modN d X Y ≤ Y := by
  have := Nat.mod_lt X h
  unfold modN
  split <;> omega
theorem mod_ok {a b : Dc} (ha : ok a) (hb : ok b) : ok (modR a b).1 := by
  unfold modR
  split
  · exact ok_z0
  · exact norm_ok _ _ (by have := al_exp ha hb; omega)
end Dec

set_option maxHeartbeats 2000000 in
set_option maxRecDepth 100000 in
theorem dmod_b0 {a b : Dec.Dc} (h0 : b.m = 0) (w : World) :
    Calls Tryd.prog 28 #[Dec.ag a, Dec.ag b] w fun r w' => r = .returned (.tuple #[Dec.ag (Dec.modR a b).1, .int .i64 (Dec.modR a b).2]) ∧ Below w.heap.size w w' := by
  unfold Dec.modR
  rw [if_pos h0]
  dsimp only
  rw [Dec.ag_z0]
  obtain ⟨n, m, e⟩ := a
  obtain ⟨n', m', e'⟩ := b
  unfold Dec.ag
  dsimp only at *
  subst h0
  rw [Dec.st0]
  generalize Dig.st m = x at *
  have K := B3.new w n x e n' ⟨#[]⟩ e'
  obtain ⟨⟨x0, x1, x2⟩, ⟨y0, y1, y2⟩, z0, z1, z2⟩ := K.cells
  have zf := K.res.frozen
  go_enter Tryd.func28, Tryd.ntmps28
  go_wp2
  exact bodyPost_ret (v := .tuple #[.agg #[.bool false, .string ⟨#[]⟩, .int .i64 0], .int .i64 14]) (by simp [results, Tryd.results28, go_sem]) rfl ⟨rfl, by first | exact (K.put (.bool false) (.string ⟨#[]⟩) (.int .i64 0)).2 | exact K.below⟩
set_option maxHeartbeats 4000000 in
set_option maxRecDepth 100000 in
theorem dmod_z {a b : Dec.Dc} (ha : Dec.ok a) (hb : Dec.ok b) (h0 : b.m ≠ 0) (hr : (Dec.al a b).1 % (Dec.al a b).2.1 = 0) (w : World) :
    Calls Tryd.prog 28 #[Dec.ag a, Dec.ag b] w fun r w' => r = .returned (.tuple #[Dec.ag (Dec.modR a b).1, .int .i64 (Dec.modR a b).2]) ∧ Below w.heap.size w w' := by
  obtain ⟨s1, s2⟩ := Dec.al_size ha hb
  obtain ⟨e1, e2⟩ := Dec.al_exp ha hb
  have hY := Dec.al_pos (a := a) h0
  have ne := Dig.some_of (Dec.st_pos h0)
  unfold Dec.modR
  rw [if_neg h0]
  have HAL := Lib.hid (align_any ha hb)
  generalize Dec.al a b = L at *
  obtain ⟨X, Y, zz⟩ := L
  dsimp only at *
  have HD := Lib.hid (fun w => by have := divide_any (a := Dig.st X) (Dec.str_st (Nat.le_trans s1 (by omega))) (Nat.lt_of_lt_of_le ((Dig.st_size Y 1000).1 s2) (Dig.big_le (show 1000 ≤ 900000 by omega))) hY w; rwa [Dig.V_st] at this)
  have hml := Nat.mod_lt X hY
  have neY := Dig.some_of (Dec.st_pos (Nat.ne_of_gt hY))
  have hsz : (Dig.st (Dec.modN (a.neg != b.neg) X Y)).size ≤ 1000 := (Dig.st_size _ 1000).2 (Nat.lt_of_le_of_lt (Dec.modN_le hY) ((Dig.st_size Y 1000).1 s2))
  obtain ⟨R, hR⟩ : ∃ R, Dec.normR b.neg (Dec.modN (a.neg != b.neg) X Y) zz = R := ⟨_, rfl⟩
  rw [hR]
  obtain ⟨⟨rg, rm, re⟩, rr⟩ := R
  obtain ⟨q, hq⟩ : ∃ q, Dig.st rm = q := ⟨_, rfl⟩
  have HN := Lib.hid (norm_leaf (Nat.le_trans hsz (by omega)) hR hq)
  have hm : Dec.modN (a.neg != b.neg) X Y = 0 := by unfold Dec.modN; rw [if_neg (fun k => k.1 hr)]; exact hr
  rw [hm, Dec.st0] at HN
  rw [hr, Dec.st0] at HD
  clear hm hR hsz hml hY s1 s2 ha hb h0 hr 
  obtain ⟨n, m, e⟩ := a
  obtain ⟨n', m', e'⟩ := b
  unfold Dec.ag at *
  dsimp only at *
  rw [hq]
  clear hq
  skip
  generalize Dig.st (X / Y) = d at *
  generalize Dig.st X = sx at *
  generalize Dig.st Y = sy at *
  generalize Dig.st m = x at *
  generalize Dig.st m' = y at *
  have K := B3.new w n x e n' y e'
  obtain ⟨⟨x0, x1, x2⟩, ⟨y0, y1, y2⟩, z0, z1, z2⟩ := K.cells
  go_enter Tryd.func28, Tryd.ntmps28
  go_wp2_with fail
  refine (HAL.out _).mono ?_; rintro _ w1 ⟨rfl, hb1⟩
  replace K := K.call hb1
  clear hb1 x0 x1 x2 y0 y1 y2 z0 z1 z2
  obtain ⟨⟨x0, x1, x2⟩, ⟨y0, y1, y2⟩, z0, z1, z2⟩ := K.cells
  go_wp2_with fail
  refine (HD.out _).mono ?_; rintro _ w2 ⟨rfl, hb2⟩
  replace K := K.call hb2
  clear hb2 x0 x1 x2 y0 y1 y2 z0 z1 z2
  obtain ⟨⟨x0, x1, x2⟩, ⟨y0, y1, y2⟩, z0, z1, z2⟩ := K.cells
  go_wp2_with fail
  refine (HN.out _).mono ?_; rintro _ w6 ⟨rfl, hb6⟩
  replace K := K.call hb6
  clear hb6 x0 x1 x2 y0 y1 y2 z0 z1 z2
  obtain ⟨⟨x0, x1, x2⟩, ⟨y0, y1, y2⟩, z0, z1, z2⟩ := K.cells
  have zf := K.res.frozen
  obtain ⟨hfin, hbf⟩ := K.put (.bool rg) (.string q) (.int .i64 re)
  go_wp2
  exact bodyPost_ret (v := .tuple #[.agg #[.bool rg, .string q, .int .i64 re], .int .i64 rr]) (by simp [results, Tryd.results28, go_sem, hfin.c3]) rfl ⟨rfl, hbf⟩
set_option maxHeartbeats 4000000 in
set_option maxRecDepth 100000 in
theorem dmod_s {a b : Dec.Dc} (ha : Dec.ok a) (hb : Dec.ok b) (h0 : b.m ≠ 0) (hr : (Dec.al a b).1 % (Dec.al a b).2.1 ≠ 0) (hn : a.neg = b.neg) (w : World) :
    Calls Tryd.prog 28 #[Dec.ag a, Dec.ag b] w fun r w' => r = .returned (.tuple #[Dec.ag (Dec.modR a b).1, .int .i64 (Dec.modR a b).2]) ∧ Below w.heap.size w w' := by
  obtain ⟨s1, s2⟩ := Dec.al_size ha hb
  obtain ⟨e1, e2⟩ := Dec.al_exp ha hb
  have hY := Dec.al_pos (a := a) h0
  have ne := Dig.some_of (Dec.st_pos h0)
  unfold Dec.modR
  rw [if_neg h0]
  have HAL := Lib.hid (align_any ha hb)
  generalize Dec.al a b = L at *
  obtain ⟨X, Y, zz⟩ := L
  dsimp only at *
  have HD := Lib.hid (fun w => by have := divide_any (a := Dig.st X) (Dec.str_st (Nat.le_trans s1 (by omega))) (Nat.lt_of_lt_of_le ((Dig.st_size Y 1000).1 s2) (Dig.big_le (show 1000 ≤ 900000 by omega))) hY w; rwa [Dig.V_st] at this)
  have hml := Nat.mod_lt X hY
  have neY := Dig.some_of (Dec.st_pos (Nat.ne_of_gt hY))
  have hsz : (Dig.st (Dec.modN (a.neg != b.neg) X Y)).size ≤ 1000 := (Dig.st_size _ 1000).2 (Nat.lt_of_le_of_lt (Dec.modN_le hY) ((Dig.st_size Y 1000).1 s2))
  obtain ⟨R, hR⟩ : ∃ R, Dec.normR b.neg (Dec.modN (a.neg != b.neg) X Y) zz = R := ⟨_, rfl⟩
  rw [hR]
  obtain ⟨⟨rg, rm, re⟩, rr⟩ := R
  obtain ⟨q, hq⟩ : ∃ q, Dig.st rm = q := ⟨_, rfl⟩
  have HN := Lib.hid (norm_leaf (Nat.le_trans hsz (by omega)) hR hq)
  have hm : Dec.modN (a.neg != b.neg) X Y = X % Y := by unfold Dec.modN; rw [if_neg (fun k => by have := k.2; rw [hn] at this; simp at this)]
  rw [hm] at HN
  have neR := Dig.some_of (Dec.st_pos hr)
  have n1 : (a.neg == b.neg) = true := by simpa using hn
  have n2 : (a.neg != b.neg) = false := by simpa using hn
  have n3 : (!(a.neg == b.neg)) = false := by simpa using hn
  clear hm hR hsz hml hY s1 s2 ha hb h0 hr hn
  obtain ⟨n, m, e⟩ := a
  obtain ⟨n', m', e'⟩ := b
  unfold Dec.ag at *
  dsimp only at *
  rw [hq]
  clear hq
  generalize Dig.st (X % Y) = r at *
  generalize Dig.st (X / Y) = d at *
  generalize Dig.st X = sx at *
  generalize Dig.st Y = sy at *
  generalize Dig.st m = x at *
  generalize Dig.st m' = y at *
  have K := B3.new w n x e n' y e'
  obtain ⟨⟨x0, x1, x2⟩, ⟨y0, y1, y2⟩, z0, z1, z2⟩ := K.cells
  go_enter Tryd.func28, Tryd.ntmps28
  go_wp2_with fail
  refine (HAL.out _).mono ?_; rintro _ w1 ⟨rfl, hb1⟩
  replace K := K.call hb1
  clear hb1 x0 x1 x2 y0 y1 y2 z0 z1 z2
  obtain ⟨⟨x0, x1, x2⟩, ⟨y0, y1, y2⟩, z0, z1, z2⟩ := K.cells
  go_wp2_with fail
  refine (HD.out _).mono ?_; rintro _ w2 ⟨rfl, hb2⟩
  replace K := K.call hb2
  clear hb2 x0 x1 x2 y0 y1 y2 z0 z1 z2
  obtain ⟨⟨x0, x1, x2⟩, ⟨y0, y1, y2⟩, z0, z1, z2⟩ := K.cells
  go_wp2_with fail
  refine (HN.out _).mono ?_; rintro _ w6 ⟨rfl, hb6⟩
  replace K := K.call hb6
  clear hb6 x0 x1 x2 y0 y1 y2 z0 z1 z2
  obtain ⟨⟨x0, x1, x2⟩, ⟨y0, y1, y2⟩, z0, z1, z2⟩ := K.cells
  have zf := K.res.frozen
  obtain ⟨hfin, hbf⟩ := K.put (.bool rg) (.string q) (.int .i64 re)
  go_wp2
  exact bodyPost_ret (v := .tuple #[.agg #[.bool rg, .string q, .int .i64 re], .int .i64 rr]) (by simp [results, Tryd.results28, go_sem, hfin.c3]) rfl ⟨rfl, hbf⟩
set_option maxHeartbeats 4000000 in
set_option maxRecDepth 100000 in
theorem dmod_d {a b : Dec.Dc} (ha : Dec.ok a) (hb : Dec.ok b) (h0 : b.m ≠ 0) (hr : (Dec.al a b).1 % (Dec.al a b).2.1 ≠ 0) (hn : ¬ a.neg = b.neg) (w : World) :
    Calls Tryd.prog 28 #[Dec.ag a, Dec.ag b] w fun r w' => r = .returned (.tuple #[Dec.ag (Dec.modR a b).1, .int .i64 (Dec.modR a b).2]) ∧ Below w.heap.size w w' := by
  obtain ⟨s1, s2⟩ := Dec.al_size ha hb
  obtain ⟨e1, e2⟩ := Dec.al_exp ha hb
  have hY := Dec.al_pos (a := a) h0
  have ne := Dig.some_of (Dec.st_pos h0)
  unfold Dec.modR
  rw [if_neg h0]
  have HAL := Lib.hid (align_any ha hb)
  generalize Dec.al a b = L at *
  obtain ⟨X, Y, zz⟩ := L
  dsimp only at *
  have HD := Lib.hid (fun w => by have := divide_any (a := Dig.st X) (Dec.str_st (Nat.le_trans s1 (by omega))) (Nat.lt_of_lt_of_le ((Dig.st_size Y 1000).1 s2) (Dig.big_le (show 1000 ≤ 900000 by omega))) hY w; rwa [Dig.V_st] at this)
  have hml := Nat.mod_lt X hY
  have neY := Dig.some_of (Dec.st_pos (Nat.ne_of_gt hY))
  have hsz : (Dig.st (Dec.modN (a.neg != b.neg) X Y)).size ≤ 1000 := (Dig.st_size _ 1000).2 (Nat.lt_of_le_of_lt (Dec.modN_le hY) ((Dig.st_size Y 1000).1 s2))
  obtain ⟨R, hR⟩ : ∃ R, Dec.normR b.neg (Dec.modN (a.neg != b.neg) X Y) zz = R := ⟨_, rfl⟩
  rw [hR]
  obtain ⟨⟨rg, rm, re⟩, rr⟩ := R
  obtain ⟨q, hq⟩ : ∃ q, Dig.st rm = q := ⟨_, rfl⟩
  have HN := Lib.hid (norm_leaf (Nat.le_trans hsz (by omega)) hR hq)
  have hm : Dec.modN (a.neg != b.neg) X Y = Y - X % Y := by unfold Dec.modN; rw [if_pos ⟨hr, by simpa using hn⟩]
  rw [hm] at HN
  have neR := Dig.some_of (Dec.st_pos hr)
  have n1 : (a.neg == b.neg) = false := by simpa using hn
  have n2 : (a.neg != b.neg) = true := by simpa using hn
  have n3 : (!(a.neg == b.neg)) = true := by simpa using hn
  have hrs : (Dig.st (X % Y)).size ≤ 1000 := (Dig.st_size _ 1000).2 (Nat.lt_trans hml ((Dig.st_size Y 1000).1 s2))
  have HM := Lib.hid (fun w => by have := dminus_any (Dec.str_st (m := Y) (Nat.le_trans s2 (by omega))) (Dec.str_st (m := X % Y) (Nat.le_trans hrs (by omega))) (by rw [Dig.V_st, Dig.V_st]; omega) w; rwa [Dig.V_st, Dig.V_st] at this)
  generalize Dig.st (Y - X % Y) = t at *
  clear hrs
  clear hm hR hsz hml hY s1 s2 ha hb h0 hr hn
  obtain ⟨n, m, e⟩ := a
  obtain ⟨n', m', e'⟩ := b
  unfold Dec.ag at *
  dsimp only at *
  rw [hq]
  clear hq
  generalize Dig.st (X % Y) = r at *
  generalize Dig.st (X / Y) = d at *
  generalize Dig.st X = sx at *
  generalize Dig.st Y = sy at *
  generalize Dig.st m = x at *
  generalize Dig.st m' = y at *
  have K := B3.new w n x e n' y e'
  obtain ⟨⟨x0, x1, x2⟩, ⟨y0, y1, y2⟩, z0, z1, z2⟩ := K.cells
  go_enter Tryd.func28, Tryd.ntmps28
  go_wp2_with fail
  refine (HAL.out _).mono ?_; rintro _ w1 ⟨rfl, hb1⟩
  replace K := K.call hb1
  clear hb1 x0 x1 x2 y0 y1 y2 z0 z1 z2
  obtain ⟨⟨x0, x1, x2⟩, ⟨y0, y1, y2⟩, z0, z1, z2⟩ := K.cells
  go_wp2_with fail
  refine (HD.out _).mono ?_; rintro _ w2 ⟨rfl, hb2⟩
  replace K := K.call hb2
  clear hb2 x0 x1 x2 y0 y1 y2 z0 z1 z2
  obtain ⟨⟨x0, x1, x2⟩, ⟨y0, y1, y2⟩, z0, z1, z2⟩ := K.cells
  go_wp2_with fail
  refine (HM.out _).mono ?_; rintro _ w5 ⟨rfl, hb5⟩
  replace K := K.call hb5
  clear hb5 x0 x1 x2 y0 y1 y2 z0 z1 z2
  obtain ⟨⟨x0, x1, x2⟩, ⟨y0, y1, y2⟩, z0, z1, z2⟩ := K.cells
  go_wp2_with fail
  refine (HN.out _).mono ?_; rintro _ w6 ⟨rfl, hb6⟩
  replace K := K.call hb6
  clear hb6 x0 x1 x2 y0 y1 y2 z0 z1 z2
  obtain ⟨⟨x0, x1, x2⟩, ⟨y0, y1, y2⟩, z0, z1, z2⟩ := K.cells
  have zf := K.res.frozen
  obtain ⟨hfin, hbf⟩ := K.put (.bool rg) (.string q) (.int .i64 re)
  go_wp2
  exact bodyPost_ret (v := .tuple #[.agg #[.bool rg, .string q, .int .i64 re], .int .i64 rr]) (by simp [results, Tryd.results28, go_sem, hfin.c3]) rfl ⟨rfl, hbf⟩
theorem dmod_any {a b : Dec.Dc} (ha : Dec.ok a) (hb : Dec.ok b) (w : World) :
    Calls Tryd.prog 28 #[Dec.ag a, Dec.ag b] w fun r w' => r = .returned (.tuple #[Dec.ag (Dec.modR a b).1, .int .i64 (Dec.modR a b).2]) ∧ Below w.heap.size w w' := by
  by_cases h0 : b.m = 0
  · exact dmod_b0 h0 w
  by_cases hr : (Dec.al a b).1 % (Dec.al a b).2.1 = 0
  · exact dmod_z ha hb h0 hr w
  by_cases hn : a.neg = b.neg
  · exact dmod_s ha hb h0 hr hn w
  · exact dmod_d ha hb h0 hr hn w
set_option maxHeartbeats 2000000 in
set_option maxRecDepth 100000 in
theorem rmod_b0 {a b : Dec.Dc} (h0 : b.m = 0) (w : World) :
    Calls Tryd.prog 30 #[Dec.ag a, Dec.ag b] w fun r w' => r = .returned (.tuple #[Dec.ag (Dec.modR a b).1, .int .i64 (Dec.modR a b).2]) ∧ Below w.heap.size w w' := by
  unfold Dec.modR
  rw [if_pos h0]
  dsimp only
  rw [Dec.ag_z0]
  obtain ⟨n, m, e⟩ := a
  obtain ⟨n', m', e'⟩ := b
  unfold Dec.ag
  dsimp only at *
  subst h0
  rw [Dec.st0]
  generalize Dig.st m = x at *
  have K := B3.new w n x e n' ⟨#[]⟩ e'
  obtain ⟨⟨x0, x1, x2⟩, ⟨y0, y1, y2⟩, z0, z1, z2⟩ := K.cells
  have zf := K.res.frozen
  go_enter Tryd.func30, Tryd.ntmps30
  go_wp2
  exact bodyPost_ret (v := .tuple #[.agg #[.bool false, .string ⟨#[]⟩, .int .i64 0], .int .i64 14]) (by simp [results, Tryd.results30, go_sem]) rfl ⟨rfl, by first | exact (K.put (.bool false) (.string ⟨#[]⟩) (.int .i64 0)).2 | exact K.below⟩
set_option maxHeartbeats 2000000 in
set_option maxRecDepth 100000 in
theorem rmod_a0 {a b : Dec.Dc} (ha : Dec.ok a) (h0 : b.m ≠ 0) (a0 : a.m = 0) (w : World) :
    Calls Tryd.prog 30 #[Dec.ag a, Dec.ag b] w fun r w' => r = .returned (.tuple #[Dec.ag (Dec.modR a b).1, .int .i64 (Dec.modR a b).2]) ∧ Below w.heap.size w w' := by
  obtain rfl := Dec.ok_zero ha a0
  have hR : Dec.modR Dec.z0 b = (Dec.z0, 0) := by
    have hal : Dec.al Dec.z0 b = (0, b.m, b.e) := by unfold Dec.al; rw [if_pos (show Dec.z0.m = 0 from rfl)]
    have hmz : ∀ d, Dec.modN d 0 b.m = 0 := fun d => by unfold Dec.modN; rw [Nat.zero_mod, if_neg (fun k => k.1 rfl)]
    unfold Dec.modR
    rw [if_neg h0, hal]
    dsimp only
    rw [hmz, Dec.norm_zero]
  rw [hR]
  dsimp only
  rw [Dec.ag_z0]
  have ne := Dig.some_of (Dec.st_pos h0)
  clear hR h0 ha a0
  obtain ⟨n', m', e'⟩ := b
  unfold Dec.ag
  dsimp only at *
  generalize Dig.st m' = y at *
  have K := B3.new w false ⟨#[]⟩ 0 n' y e'
  obtain ⟨⟨x0, x1, x2⟩, ⟨y0, y1, y2⟩, z0, z1, z2⟩ := K.cells
  have zf := K.res.frozen
  go_enter Tryd.func30, Tryd.ntmps30
  go_wp2
  exact bodyPost_ret (v := .tuple #[.agg #[.bool false, .string ⟨#[]⟩, .int .i64 0], .int .i64 0]) (by simp [results, Tryd.results30, go_sem]) rfl ⟨rfl, by first | exact (K.put (.bool false) (.string ⟨#[]⟩) (.int .i64 0)).2 | exact K.below⟩
set_option maxHeartbeats 4000000 in
set_option maxRecDepth 100000 in
theorem rmod_z {a b : Dec.Dc} (ha : Dec.ok a) (hb : Dec.ok b) (h0 : b.m ≠ 0) (a0 : a.m ≠ 0) (hr : (Dec.al a b).1 % (Dec.al a b).2.1 = 0) (w : World) :
    Calls Tryd.prog 30 #[Dec.ag a, Dec.ag b] w fun r w' => r = .returned (.tuple #[Dec.ag (Dec.modR a b).1, .int .i64 (Dec.modR a b).2]) ∧ Below w.heap.size w w' := by
  obtain ⟨s1, s2⟩ := Dec.al_size ha hb
  obtain ⟨e1, e2⟩ := Dec.al_exp ha hb
  have hY := Dec.al_pos (a := a) h0
  have ne := Dig.some_of (Dec.st_pos h0)
  unfold Dec.modR
  rw [if_neg h0]
  obtain ⟨a1, a2, a3, _⟩ := Dec.ok_all ha
  obtain ⟨b1, b2, b3, _⟩ := Dec.ok_all hb
  have ne1 := Dig.some_of (Dec.st_pos a0)
  have hal := Dec.al_nz a0 h0
  obtain ⟨z, hz, hz1, hz2, hz3⟩ : ∃ z : Int, min a.e b.e = z ∧ z ≤ a.e ∧ z ≤ b.e ∧ -400 ≤ z := ⟨_, rfl, by omega, by omega, by omega⟩
  have HLO := Lib.hid (fun w => rlower_any a.neg (Dig.st a.m) a.e b.neg (Dig.st b.m) b.e hz w)
  have HAA := Lib.hid (fun w => rat2_any a.neg (Dig.st a.m) a.e z (p := (a.e - z).toNat) (by omega) (by omega) (by omega) (q := Dig.st (Dec.al a b).1) (by rw [hal, hz, Dec.st_mul a0]) w)
  have HAB := Lib.hid (fun w => rat2_any b.neg (Dig.st b.m) b.e z (p := (b.e - z).toNat) (by omega) (by omega) (by omega) (q := Dig.st (Dec.al a b).2.1) (by rw [hal, hz, Dec.st_mul h0]) w)
  have hz4 : (Dec.al a b).2.2 = z := by rw [hal, hz]
  clear hal hz hz1 hz2 a2 a3 b2 b3 a0
  generalize Dec.al a b = L at *
  obtain ⟨X, Y, zz⟩ := L
  dsimp only at *
  subst hz4
  have HD := Lib.hid (fun w => by have := rquo_any (a := Dig.st X) (Dec.str_st (Nat.le_trans s1 (by omega))) (Nat.lt_of_lt_of_le ((Dig.st_size Y 1000).1 s2) (Dig.big_le (show 1000 ≤ 900000 by omega))) hY w; rwa [Dig.V_st] at this)
  have hml := Nat.mod_lt X hY
  have neY := Dig.some_of (Dec.st_pos (Nat.ne_of_gt hY))
  have hsz : (Dig.st (Dec.modN (a.neg != b.neg) X Y)).size ≤ 1000 := (Dig.st_size _ 1000).2 (Nat.lt_of_le_of_lt (Dec.modN_le hY) ((Dig.st_size Y 1000).1 s2))
  obtain ⟨R, hR⟩ : ∃ R, Dec.normR b.neg (Dec.modN (a.neg != b.neg) X Y) zz = R := ⟨_, rfl⟩
  rw [hR]
  obtain ⟨⟨rg, rm, re⟩, rr⟩ := R
  obtain ⟨q, hq⟩ : ∃ q, Dig.st rm = q := ⟨_, rfl⟩
  have HN := Lib.hid (normal_st (Nat.le_trans hsz (by omega)) (by omega) (by omega) hR hq)
  have hm : Dec.modN (a.neg != b.neg) X Y = 0 := by unfold Dec.modN; rw [if_neg (fun k => k.1 hr)]; exact hr
  rw [hm, Dec.st0] at HN
  rw [hr, Dec.st0] at HD
  clear hm hR hsz hml hY s1 s2 ha hb h0 hr 
  obtain ⟨n, m, e⟩ := a
  obtain ⟨n', m', e'⟩ := b
  unfold Dec.ag at *
  dsimp only at *
  rw [hq]
  clear hq
  skip
  generalize Dig.st (X / Y) = d at *
  generalize Dig.st X = sx at *
  generalize Dig.st Y = sy at *
  generalize Dig.st m = x at *
  generalize Dig.st m' = y at *
  have K := B3.new w n x e n' y e'
  obtain ⟨⟨x0, x1, x2⟩, ⟨y0, y1, y2⟩, z0, z1, z2⟩ := K.cells
  go_enter Tryd.func30, Tryd.ntmps30
  go_wp2_with fail
  refine (HLO.out _).mono ?_; rintro _ w1 ⟨rfl, hb1⟩
  replace K := K.call hb1
  clear hb1 x0 x1 x2 y0 y1 y2 z0 z1 z2
  obtain ⟨⟨x0, x1, x2⟩, ⟨y0, y1, y2⟩, z0, z1, z2⟩ := K.cells
  go_wp2_with fail
  refine (HAB.out _).mono ?_; rintro _ w2 ⟨rfl, hb2⟩
  replace K := K.call hb2
  clear hb2 x0 x1 x2 y0 y1 y2 z0 z1 z2
  obtain ⟨⟨x0, x1, x2⟩, ⟨y0, y1, y2⟩, z0, z1, z2⟩ := K.cells
  go_wp2_with fail
  refine (HAA.out _).mono ?_; rintro _ w3 ⟨rfl, hb3⟩
  replace K := K.call hb3
  clear hb3 x0 x1 x2 y0 y1 y2 z0 z1 z2
  obtain ⟨⟨x0, x1, x2⟩, ⟨y0, y1, y2⟩, z0, z1, z2⟩ := K.cells
  go_wp2_with fail
  refine (HD.out _).mono ?_; rintro _ w4 ⟨rfl, hb4⟩
  replace K := K.call hb4
  clear hb4 x0 x1 x2 y0 y1 y2 z0 z1 z2
  obtain ⟨⟨x0, x1, x2⟩, ⟨y0, y1, y2⟩, z0, z1, z2⟩ := K.cells
  go_wp2_with fail
  refine (HN.out _).mono ?_; rintro _ w6 ⟨rfl, hb6⟩
  replace K := K.call hb6
  clear hb6 x0 x1 x2 y0 y1 y2 z0 z1 z2
  obtain ⟨⟨x0, x1, x2⟩, ⟨y0, y1, y2⟩, z0, z1, z2⟩ := K.cells
  have zf := K.res.frozen
  obtain ⟨hfin, hbf⟩ := K.put (.bool rg) (.string q) (.int .i64 re)
  go_wp2
  exact bodyPost_ret (v := .tuple #[.agg #[.bool rg, .string q, .int .i64 re], .int .i64 rr]) (by simp [results, Tryd.results30, go_sem, hfin.c3]) rfl ⟨rfl, hbf⟩
set_option maxHeartbeats 4000000 in
set_option maxRecDepth 100000 in
theorem rmod_s {a b : Dec.Dc} (ha : Dec.ok a) (hb : Dec.ok b) (h0 : b.m ≠ 0) (a0 : a.m ≠ 0) (hr : (Dec.al a b).1 % (Dec.al a b).2.1 ≠ 0) (hn : a.neg = b.neg) (w : World) :
    Calls Tryd.prog 30 #[Dec.ag a, Dec.ag b] w fun r w' => r = .returned (.tuple #[Dec.ag (Dec.modR a b).1, .int .i64 (Dec.modR a b).2]) ∧ Below w.heap.size w w' := by
  obtain ⟨s1, s2⟩ := Dec.al_size ha hb
  obtain ⟨e1, e2⟩ := Dec.al_exp ha hb
  have hY := Dec.al_pos (a := a) h0
  have ne := Dig.some_of (Dec.st_pos h0)
  unfold Dec.modR
  rw [if_neg h0]
  obtain ⟨a1, a2, a3, _⟩ := Dec.ok_all ha
  obtain ⟨b1, b2, b3, _⟩ := Dec.ok_all hb
  have ne1 := Dig.some_of (Dec.st_pos a0)
  have hal := Dec.al_nz a0 h0
  obtain ⟨z, hz, hz1, hz2, hz3⟩ : ∃ z : Int, min a.e b.e = z ∧ z ≤ a.e ∧ z ≤ b.e ∧ -400 ≤ z := ⟨_, rfl, by omega, by omega, by omega⟩
  have HLO := Lib.hid (fun w => rlower_any a.neg (Dig.st a.m) a.e b.neg (Dig.st b.m) b.e hz w)
  have HAA := Lib.hid (fun w => rat2_any a.neg (Dig.st a.m) a.e z (p := (a.e - z).toNat) (by omega) (by omega) (by omega) (q := Dig.st (Dec.al a b).1) (by rw [hal, hz, Dec.st_mul a0]) w)
  have HAB := Lib.hid (fun w => rat2_any b.neg (Dig.st b.m) b.e z (p := (b.e - z).toNat) (by omega) (by omega) (by omega) (q := Dig.st (Dec.al a b).2.1) (by rw [hal, hz, Dec.st_mul h0]) w)
  have hz4 : (Dec.al a b).2.2 = z := by rw [hal, hz]
  clear hal hz hz1 hz2 a2 a3 b2 b3 a0
  generalize Dec.al a b = L at *
  obtain ⟨X, Y, zz⟩ := L
  dsimp only at *
  subst hz4
  have HD := Lib.hid (fun w => by have := rquo_any (a := Dig.st X) (Dec.str_st (Nat.le_trans s1 (by omega))) (Nat.lt_of_lt_of_le ((Dig.st_size Y 1000).1 s2) (Dig.big_le (show 1000 ≤ 900000 by omega))) hY w; rwa [Dig.V_st] at this)
  have hml := Nat.mod_lt X hY
  have neY := Dig.some_of (Dec.st_pos (Nat.ne_of_gt hY))
  have hsz : (Dig.st (Dec.modN (a.neg != b.neg) X Y)).size ≤ 1000 := (Dig.st_size _ 1000).2 (Nat.lt_of_le_of_lt (Dec.modN_le hY) ((Dig.st_size Y 1000).1 s2))
  obtain ⟨R, hR⟩ : ∃ R, Dec.normR b.neg (Dec.modN (a.neg != b.neg) X Y) zz = R := ⟨_, rfl⟩
  rw [hR]
  obtain ⟨⟨rg, rm, re⟩, rr⟩ := R
  obtain ⟨q, hq⟩ : ∃ q, Dig.st rm = q := ⟨_, rfl⟩
  have HN := Lib.hid (normal_st (Nat.le_trans hsz (by omega)) (by omega) (by omega) hR hq)
  have hm : Dec.modN (a.neg != b.neg) X Y = X % Y := by unfold Dec.modN; rw [if_neg (fun k => by have := k.2; rw [hn] at this; simp at this)]
  rw [hm] at HN
  have neR := Dig.some_of (Dec.st_pos hr)
  have n1 : (a.neg == b.neg) = true := by simpa using hn
  have n2 : (a.neg != b.neg) = false := by simpa using hn
  have n3 : (!(a.neg == b.neg)) = false := by simpa using hn
  clear hm hR hsz hml hY s1 s2 ha hb h0 hr hn
  obtain ⟨n, m, e⟩ := a
  obtain ⟨n', m', e'⟩ := b
  unfold Dec.ag at *
  dsimp only at *
  rw [hq]
  clear hq
  generalize Dig.st (X % Y) = r at *
  generalize Dig.st (X / Y) = d at *
  generalize Dig.st X = sx at *
  generalize Dig.st Y = sy at *
  generalize Dig.st m = x at *
  generalize Dig.st m' = y at *
  have K := B3.new w n x e n' y e'
  obtain ⟨⟨x0, x1, x2⟩, ⟨y0, y1, y2⟩, z0, z1, z2⟩ := K.cells
  go_enter Tryd.func30, Tryd.ntmps30
  go_wp2_with fail
  refine (HLO.out _).mono ?_; rintro _ w1 ⟨rfl, hb1⟩
  replace K := K.call hb1
  clear hb1 x0 x1 x2 y0 y1 y2 z0 z1 z2
  obtain ⟨⟨x0, x1, x2⟩, ⟨y0, y1, y2⟩, z0, z1, z2⟩ := K.cells
  go_wp2_with fail
  refine (HAB.out _).mono ?_; rintro _ w2 ⟨rfl, hb2⟩
  replace K := K.call hb2
  clear hb2 x0 x1 x2 y0 y1 y2 z0 z1 z2
  obtain ⟨⟨x0, x1, x2⟩, ⟨y0, y1, y2⟩, z0, z1, z2⟩ := K.cells
  go_wp2_with fail
  refine (HAA.out _).mono ?_; rintro _ w3 ⟨rfl, hb3⟩
  replace K := K.call hb3
  clear hb3 x0 x1 x2 y0 y1 y2 z0 z1 z2
  obtain ⟨⟨x0, x1, x2⟩, ⟨y0, y1, y2⟩, z0, z1, z2⟩ := K.cells
  go_wp2_with fail
  refine (HD.out _).mono ?_; rintro _ w4 ⟨rfl, hb4⟩
  replace K := K.call hb4
  clear hb4 x0 x1 x2 y0 y1 y2 z0 z1 z2
  obtain ⟨⟨x0, x1, x2⟩, ⟨y0, y1, y2⟩, z0, z1, z2⟩ := K.cells
  go_wp2_with fail
  refine (HN.out _).mono ?_; rintro _ w6 ⟨rfl, hb6⟩
  replace K := K.call hb6
  clear hb6 x0 x1 x2 y0 y1 y2 z0 z1 z2
  obtain ⟨⟨x0, x1, x2⟩, ⟨y0, y1, y2⟩, z0, z1, z2⟩ := K.cells
  have zf := K.res.frozen
  obtain ⟨hfin, hbf⟩ := K.put (.bool rg) (.string q) (.int .i64 re)
  go_wp2
  exact bodyPost_ret (v := .tuple #[.agg #[.bool rg, .string q, .int .i64 re], .int .i64 rr]) (by simp [results, Tryd.results30, go_sem, hfin.c3]) rfl ⟨rfl, hbf⟩
set_option maxHeartbeats 4000000 in
set_option maxRecDepth 100000 in
theorem rmod_d {a b : Dec.Dc} (ha : Dec.ok a) (hb : Dec.ok b) (h0 : b.m ≠ 0) (a0 : a.m ≠ 0) (hr : (Dec.al a b).1 % (Dec.al a b).2.1 ≠ 0) (hn : ¬ a.neg = b.neg) (w : World) :
    Calls Tryd.prog 30 #[Dec.ag a, Dec.ag b] w fun r w' => r = .returned (.tuple #[Dec.ag (Dec.modR a b).1, .int .i64 (Dec.modR a b).2]) ∧ Below w.heap.size w w' := by
  obtain ⟨s1, s2⟩ := Dec.al_size ha hb
  obtain ⟨e1, e2⟩ := Dec.al_exp ha hb
  have hY := Dec.al_pos (a := a) h0
  have ne := Dig.some_of (Dec.st_pos h0)
  unfold Dec.modR
  rw [if_neg h0]
  obtain ⟨a1, a2, a3, _⟩ := Dec.ok_all ha
  obtain ⟨b1, b2, b3, _⟩ := Dec.ok_all hb
  have ne1 := Dig.some_of (Dec.st_pos a0)
  have hal := Dec.al_nz a0 h0
  obtain ⟨z, hz, hz1, hz2, hz3⟩ : ∃ z : Int, min a.e b.e = z ∧ z ≤ a.e ∧ z ≤ b.e ∧ -400 ≤ z := ⟨_, rfl, by omega, by omega, by omega⟩
  have HLO := Lib.hid (fun w => rlower_any a.neg (Dig.st a.m) a.e b.neg (Dig.st b.m) b.e hz w)
  have HAA := Lib.hid (fun w => rat2_any a.neg (Dig.st a.m) a.e z (p := (a.e - z).toNat) (by omega) (by omega) (by omega) (q := Dig.st (Dec.al a b).1) (by rw [hal, hz, Dec.st_mul a0]) w)
  have HAB := Lib.hid (fun w => rat2_any b.neg (Dig.st b.m) b.e z (p := (b.e - z).toNat) (by omega) (by omega) (by omega) (q := Dig.st (Dec.al a b).2.1) (by rw [hal, hz, Dec.st_mul h0]) w)
  have hz4 : (Dec.al a b).2.2 = z := by rw [hal, hz]
  clear hal hz hz1 hz2 a2 a3 b2 b3 a0
  generalize Dec.al a b = L at *
  obtain ⟨X, Y, zz⟩ := L
  dsimp only at *
  subst hz4
  have HD := Lib.hid (fun w => by have := rquo_any (a := Dig.st X) (Dec.str_st (Nat.le_trans s1 (by omega))) (Nat.lt_of_lt_of_le ((Dig.st_size Y 1000).1 s2) (Dig.big_le (show 1000 ≤ 900000 by omega))) hY w; rwa [Dig.V_st] at this)
  have hml := Nat.mod_lt X hY
  have neY := Dig.some_of (Dec.st_pos (Nat.ne_of_gt hY))
  have hsz : (Dig.st (Dec.modN (a.neg != b.neg) X Y)).size ≤ 1000 := (Dig.st_size _ 1000).2 (Nat.lt_of_le_of_lt (Dec.modN_le hY) ((Dig.st_size Y 1000).1 s2))
  obtain ⟨R, hR⟩ : ∃ R, Dec.normR b.neg (Dec.modN (a.neg != b.neg) X Y) zz = R := ⟨_, rfl⟩
  rw [hR]
  obtain ⟨⟨rg, rm, re⟩, rr⟩ := R
  obtain ⟨q, hq⟩ : ∃ q, Dig.st rm = q := ⟨_, rfl⟩
  have HN := Lib.hid (normal_st (Nat.le_trans hsz (by omega)) (by omega) (by omega) hR hq)
  have hm : Dec.modN (a.neg != b.neg) X Y = Y - X % Y := by unfold Dec.modN; rw [if_pos ⟨hr, by simpa using hn⟩]
  rw [hm] at HN
  have neR := Dig.some_of (Dec.st_pos hr)
  have n1 : (a.neg == b.neg) = false := by simpa using hn
  have n2 : (a.neg != b.neg) = true := by simpa using hn
  have n3 : (!(a.neg == b.neg)) = true := by simpa using hn
  have hrs : (Dig.st (X % Y)).size ≤ 1000 := (Dig.st_size _ 1000).2 (Nat.lt_trans hml ((Dig.st_size Y 1000).1 s2))
  have HM := Lib.hid (fun w => by have := rless_any (Dec.str_st (m := Y) (Nat.le_trans s2 (by omega))) (Dec.str_st (m := X % Y) (Nat.le_trans hrs (by omega))) (by rw [Dig.V_st, Dig.V_st]; omega) w; rwa [Dig.V_st, Dig.V_st] at this)
  generalize Dig.st (Y - X % Y) = t at *
  clear hrs
  clear hm hR hsz hml hY s1 s2 ha hb h0 hr hn
  obtain ⟨n, m, e⟩ := a
  obtain ⟨n', m', e'⟩ := b
  unfold Dec.ag at *
  dsimp only at *
  rw [hq]
  clear hq
  generalize Dig.st (X % Y) = r at *
  generalize Dig.st (X / Y) = d at *
  generalize Dig.st X = sx at *
  generalize Dig.st Y = sy at *
  generalize Dig.st m = x at *
  generalize Dig.st m' = y at *
  have K := B3.new w n x e n' y e'
  obtain ⟨⟨x0, x1, x2⟩, ⟨y0, y1, y2⟩, z0, z1, z2⟩ := K.cells
  go_enter Tryd.func30, Tryd.ntmps30
  go_wp2_with fail
  refine (HLO.out _).mono ?_; rintro _ w1 ⟨rfl, hb1⟩
  replace K := K.call hb1
  clear hb1 x0 x1 x2 y0 y1 y2 z0 z1 z2
  obtain ⟨⟨x0, x1, x2⟩, ⟨y0, y1, y2⟩, z0, z1, z2⟩ := K.cells
  go_wp2_with fail
  refine (HAB.out _).mono ?_; rintro _ w2 ⟨rfl, hb2⟩
  replace K := K.call hb2
  clear hb2 x0 x1 x2 y0 y1 y2 z0 z1 z2
  obtain ⟨⟨x0, x1, x2⟩, ⟨y0, y1, y2⟩, z0, z1, z2⟩ := K.cells
  go_wp2_with fail
  refine (HAA.out _).mono ?_; rintro _ w3 ⟨rfl, hb3⟩
  replace K := K.call hb3
  clear hb3 x0 x1 x2 y0 y1 y2 z0 z1 z2
  obtain ⟨⟨x0, x1, x2⟩, ⟨y0, y1, y2⟩, z0, z1, z2⟩ := K.cells
  go_wp2_with fail
  refine (HD.out _).mono ?_; rintro _ w4 ⟨rfl, hb4⟩
  replace K := K.call hb4
  clear hb4 x0 x1 x2 y0 y1 y2 z0 z1 z2
  obtain ⟨⟨x0, x1, x2⟩, ⟨y0, y1, y2⟩, z0, z1, z2⟩ := K.cells
  go_wp2_with fail
  refine (HM.out _).mono ?_; rintro _ w5 ⟨rfl, hb5⟩
  replace K := K.call hb5
  clear hb5 x0 x1 x2 y0 y1 y2 z0 z1 z2
  obtain ⟨⟨x0, x1, x2⟩, ⟨y0, y1, y2⟩, z0, z1, z2⟩ := K.cells
  go_wp2_with fail
  refine (HN.out _).mono ?_; rintro _ w6 ⟨rfl, hb6⟩
  replace K := K.call hb6
  clear hb6 x0 x1 x2 y0 y1 y2 z0 z1 z2
  obtain ⟨⟨x0, x1, x2⟩, ⟨y0, y1, y2⟩, z0, z1, z2⟩ := K.cells
  have zf := K.res.frozen
  obtain ⟨hfin, hbf⟩ := K.put (.bool rg) (.string q) (.int .i64 re)
  go_wp2
  exact bodyPost_ret (v := .tuple #[.agg #[.bool rg, .string q, .int .i64 re], .int .i64 rr]) (by simp [results, Tryd.results30, go_sem, hfin.c3]) rfl ⟨rfl, hbf⟩
theorem rmod_any {a b : Dec.Dc} (ha : Dec.ok a) (hb : Dec.ok b) (w : World) :
    Calls Tryd.prog 30 #[Dec.ag a, Dec.ag b] w fun r w' => r = .returned (.tuple #[Dec.ag (Dec.modR a b).1, .int .i64 (Dec.modR a b).2]) ∧ Below w.heap.size w w' := by
  by_cases h0 : b.m = 0
  · exact rmod_b0 h0 w
  by_cases a0 : a.m = 0
  · exact rmod_a0 ha h0 a0 w
  by_cases hr : (Dec.al a b).1 % (Dec.al a b).2.1 = 0
  · exact rmod_z ha hb h0 a0 hr w
  by_cases hn : a.neg = b.neg
  · exact rmod_s ha hb h0 a0 hr hn w
  · exact rmod_d ha hb h0 a0 hr hn w
end Go.Proofs.YtcnfgcdbjofihaaDoor
