/- Times: shifting, in the reference (printed by gen_momshift.py). -/
import Derived.Test.YthbjkibclbgjoaaMomShift
namespace Go.Proofs.Ythbjkibclbgjoaa
open Go.RowKit

set_option maxHeartbeats 1000000 in
theorem rshift_out {t : Mom.Tm} (h : ¬ Mom.Ok t.k t.d t.n t.o) (u v : Int) (w : World) :
    Calls Try.prog 26 #[Mom.ag t, .int .i64 u, .int .i64 v] w fun e w' => e = .returned (.tuple #[Mom.ag Mom.tz, .int .i64 1]) ∧ Below w.heap.size w w' := by
  obtain ⟨k, d, n, o⟩ := t
  have HV := Lib.hid (rvalid_any k d n o)
  rw [decide_eq_false h] at HV
  have K := ZK.new w ⟨k, d, n, o⟩
  obtain ⟨x0, x1, x2, x3⟩ := K.cells
  dsimp only at x0 x1 x2 x3
  clear h
  unfold Mom.ag Mom.tz
  dsimp only
  go_enter Try.func26, Try.ntmps26
  go_wp2_with fail
  refine (HV.out _).mono ?_; rintro e w1 ⟨rfl, hb1⟩
  replace K := K.call hb1
  clear hb1 x0 x1 x2 x3
  obtain ⟨x0, x1, x2, x3⟩ := K.cells
  obtain ⟨z0, z1, z2, z3⟩ := K.rcells
  dsimp only at x0 x1 x2 x3
  have zf := K.res.frozen
  obtain ⟨hfin, hbf⟩ := K.put Mom.tz
  unfold putT Mom.tz at hfin hbf
  go_wp2_with fail
  exact bodyPost_ret (v := .tuple #[.agg #[.int .i64 0, .int .i64 0, .int .i64 0, .int .i64 0], .int .i64 1]) (by simp [results, Try.results26, go_sem, hfin.c4]) rfl ⟨rfl, hbf⟩
set_option maxHeartbeats 1000000 in
theorem rshift_kind1 {t : Mom.Tm} (h : Mom.Ok t.k t.d t.n t.o) (u v : Int) (g1 : t.k = 1) (g2 : v ≠ 0) (w : World) :
    Calls Try.prog 26 #[Mom.ag t, .int .i64 u, .int .i64 v] w fun e w' => e = .returned (.tuple #[Mom.ag Mom.tz, .int .i64 6]) ∧ Below w.heap.size w w' := by
  obtain ⟨k, d, n, o⟩ := t
  have HV := Lib.hid (rvalid_any k d n o)
  rw [decide_eq_true h] at HV
  have K := ZK.new w ⟨k, d, n, o⟩
  obtain ⟨x0, x1, x2, x3⟩ := K.cells
  dsimp only at x0 x1 x2 x3
  clear h
  unfold Mom.ag Mom.tz
  dsimp only
  dsimp only at g1
  have d1 : (k == 1) = true := beq_iff_eq.2 g1
  have d3 : (k == 2) = false := beq_eq_false_iff_ne.2 (by omega)
  have d2 : (v != 0) = true := by simpa using g2
  clear g1 g2
  go_enter Try.func26, Try.ntmps26
  go_wp2_with fail
  refine (HV.out _).mono ?_; rintro e w1 ⟨rfl, hb1⟩
  replace K := K.call hb1
  clear hb1 x0 x1 x2 x3
  obtain ⟨x0, x1, x2, x3⟩ := K.cells
  obtain ⟨z0, z1, z2, z3⟩ := K.rcells
  dsimp only at x0 x1 x2 x3
  have zf := K.res.frozen
  obtain ⟨hfin, hbf⟩ := K.put Mom.tz
  unfold putT Mom.tz at hfin hbf
  go_wp2_with fail
  exact bodyPost_ret (v := .tuple #[.agg #[.int .i64 0, .int .i64 0, .int .i64 0, .int .i64 0], .int .i64 6]) (by simp [results, Try.results26, go_sem, hfin.c4]) rfl ⟨rfl, hbf⟩
set_option maxHeartbeats 1000000 in
theorem rshift_kind2 {t : Mom.Tm} (h : Mom.Ok t.k t.d t.n t.o) (u v : Int) (g1 : t.k = 2) (g2 : u ≠ 0) (w : World) :
    Calls Try.prog 26 #[Mom.ag t, .int .i64 u, .int .i64 v] w fun e w' => e = .returned (.tuple #[Mom.ag Mom.tz, .int .i64 6]) ∧ Below w.heap.size w w' := by
  obtain ⟨k, d, n, o⟩ := t
  have HV := Lib.hid (rvalid_any k d n o)
  rw [decide_eq_true h] at HV
  have K := ZK.new w ⟨k, d, n, o⟩
  obtain ⟨x0, x1, x2, x3⟩ := K.cells
  dsimp only at x0 x1 x2 x3
  clear h
  unfold Mom.ag Mom.tz
  dsimp only
  dsimp only at g1
  have d1 : (k == 1) = false := beq_eq_false_iff_ne.2 (by omega)
  have d3 : (k == 2) = true := beq_iff_eq.2 g1
  have d2 : (u != 0) = true := by simpa using g2
  clear g1 g2
  go_enter Try.func26, Try.ntmps26
  go_wp2_with fail
  refine (HV.out _).mono ?_; rintro e w1 ⟨rfl, hb1⟩
  replace K := K.call hb1
  clear hb1 x0 x1 x2 x3
  obtain ⟨x0, x1, x2, x3⟩ := K.cells
  obtain ⟨z0, z1, z2, z3⟩ := K.rcells
  dsimp only at x0 x1 x2 x3
  have zf := K.res.frozen
  obtain ⟨hfin, hbf⟩ := K.put Mom.tz
  unfold putT Mom.tz at hfin hbf
  go_wp2_with fail
  exact bodyPost_ret (v := .tuple #[.agg #[.int .i64 0, .int .i64 0, .int .i64 0, .int .i64 0], .int .i64 6]) (by simp [results, Try.results26, go_sem, hfin.c4]) rfl ⟨rfl, hbf⟩
set_option maxHeartbeats 4000000 in
theorem rshift_a {k d n o u v : Int} (h : Mom.Ok k d n o) (hu : Mom.i64 u) (hv : Mom.i64 v) (hk : k = 1) (h0 : v = 0) (w : World) :
    Calls Try.prog 26 #[.agg #[.int .i64 k, .int .i64 d, .int .i64 n, .int .i64 o], .int .i64 u, .int .i64 v] w fun e w' => e = .returned (.tuple #[Mom.ag (Mom.shE k (Mom.shD ⟨k, d, n, o⟩ u v) (Mom.shN ⟨k, d, n, o⟩ v) o).1, .int .i64 (Mom.shE k (Mom.shD ⟨k, d, n, o⟩ u v) (Mom.shN ⟨k, d, n, o⟩ v) o).2]) ∧ Below w.heap.size w w' := by
  have HV := Lib.hid (rvalid_any k d n o)
  rw [decide_eq_true h] at HV
  have K := ZK.new w ⟨k, d, n, o⟩
  obtain ⟨x0, x1, x2, x3⟩ := K.cells
  dsimp only at x0 x1 x2 x3
  have hb := h.1
  unfold Mom.i64 at hu hv

  obtain ⟨q, r, hq, hr, e1, e2, e3, e4, e5⟩ := Mom.quo v
  have HC := Lib.hid (split_any (v.tdiv 86400000000000) (n + v.tmod 86400000000000) (by rw [hq]; omega) (by rw [hr]; omega))
  have hA : Mom.shD ⟨k, d, n, o⟩ u v = Mom.dD (v.tdiv 86400000000000) (n + v.tmod 86400000000000) + (d + u) := by rw [hq, hr]; unfold Mom.shD Mom.dD; dsimp only; omega
  have hN : Mom.shN ⟨k, d, n, o⟩ v = Mom.dN (n + v.tmod 86400000000000) := by rw [hr]; unfold Mom.shN Mom.dN; dsimp only; omega
  have hR : -200000 ≤ Mom.dD (v.tdiv 86400000000000) (n + v.tmod 86400000000000) ∧ Mom.dD (v.tdiv 86400000000000) (n + v.tmod 86400000000000) ≤ 200000 := by rw [hq, hr]; unfold Mom.dD; omega
  rw [hA, hN]
  have q1 : -106752 ≤ v.tdiv 86400000000000 ∧ v.tdiv 86400000000000 ≤ 106752 := by omega
  have q2 : -86400000000000 < v.tmod 86400000000000 ∧ v.tmod 86400000000000 < 86400000000000 := by omega
  clear hA hN h e1 e2 e3 e4 e5 hq hr
  obtain ⟨_, _, b1, b2, b3, b4, b5, b6⟩ := hb
  obtain ⟨u1, u2⟩ := hu
  obtain ⟨v1, v2⟩ := hv
  obtain ⟨r1, r2⟩ := hR
  obtain ⟨q1a, q1b⟩ := q1
  obtain ⟨q2a, q2b⟩ := q2
  generalize Mom.dD (v.tdiv 86400000000000) (n + v.tmod 86400000000000) = A at *
  generalize Mom.dN (n + v.tmod 86400000000000) = N at *
  have d1 : (k == 1) = true := beq_iff_eq.2 hk
  have d2 : (v != 0) = false := by simpa using h0
  have d3 : (k == 2) = false := beq_eq_false_iff_ne.2 (by omega)
  have HK := Lib.hid hk
  clear hk h0
  by_cases c1 : u < -7304116
  · rw [Mom.shE_bad (by have := HK.out; omega)]
    unfold Mom.ag Mom.tz
    dsimp only
    go_enter Try.func26, Try.ntmps26
    go_wp2_with fail
    refine (HV.out _).mono ?_; rintro e w1 ⟨rfl, hb1⟩
    replace K := K.call hb1
    clear hb1 x0 x1 x2 x3
    obtain ⟨x0, x1, x2, x3⟩ := K.cells
    obtain ⟨z0, z1, z2, z3⟩ := K.rcells
    dsimp only at x0 x1 x2 x3
    have zf := K.res.frozen
    go_wp2_with fail
    refine (HC.out _).mono ?_; rintro e w2 ⟨rfl, rfl⟩
    obtain ⟨hfin, hbf⟩ := K.put Mom.tz
    unfold putT Mom.tz at hfin hbf
    dsimp only at hfin hbf
    go_wp2_with fail
    exact bodyPost_ret (v := .tuple #[.agg #[.int .i64 0, .int .i64 0, .int .i64 0, .int .i64 0], .int .i64 2]) (by simp [results, Try.results26, go_sem, hfin.c4]) rfl ⟨rfl, hbf⟩
  by_cases c2 : 7304116 < u
  · rw [Mom.shE_bad (by have := HK.out; omega)]
    unfold Mom.ag Mom.tz
    dsimp only
    go_enter Try.func26, Try.ntmps26
    go_wp2_with fail
    refine (HV.out _).mono ?_; rintro e w1 ⟨rfl, hb1⟩
    replace K := K.call hb1
    clear hb1 x0 x1 x2 x3
    obtain ⟨x0, x1, x2, x3⟩ := K.cells
    obtain ⟨z0, z1, z2, z3⟩ := K.rcells
    dsimp only at x0 x1 x2 x3
    have zf := K.res.frozen
    go_wp2_with fail
    refine (HC.out _).mono ?_; rintro e w2 ⟨rfl, rfl⟩
    obtain ⟨hfin, hbf⟩ := K.put Mom.tz
    unfold putT Mom.tz at hfin hbf
    dsimp only at hfin hbf
    go_wp2_with fail
    exact bodyPost_ret (v := .tuple #[.agg #[.int .i64 0, .int .i64 0, .int .i64 0, .int .i64 0], .int .i64 2]) (by simp [results, Try.results26, go_sem, hfin.c4]) rfl ⟨rfl, hbf⟩
  by_cases c3 : A + (d + u) < 0
  · rw [Mom.shE_bad (by have := HK.out; omega)]
    unfold Mom.ag Mom.tz
    dsimp only
    go_enter Try.func26, Try.ntmps26
    go_wp2_with fail
    refine (HV.out _).mono ?_; rintro e w1 ⟨rfl, hb1⟩
    replace K := K.call hb1
    clear hb1 x0 x1 x2 x3
    obtain ⟨x0, x1, x2, x3⟩ := K.cells
    obtain ⟨z0, z1, z2, z3⟩ := K.rcells
    dsimp only at x0 x1 x2 x3
    have zf := K.res.frozen
    go_wp2_with fail
    refine (HC.out _).mono ?_; rintro e w2 ⟨rfl, rfl⟩
    obtain ⟨hfin, hbf⟩ := K.put Mom.tz
    unfold putT Mom.tz at hfin hbf
    dsimp only at hfin hbf
    go_wp2_with fail
    exact bodyPost_ret (v := .tuple #[.agg #[.int .i64 0, .int .i64 0, .int .i64 0, .int .i64 0], .int .i64 2]) (by simp [results, Try.results26, go_sem, hfin.c4]) rfl ⟨rfl, hbf⟩
  by_cases c4 : 3652058 < A + (d + u)
  · rw [Mom.shE_bad (by have := HK.out; omega)]
    unfold Mom.ag Mom.tz
    dsimp only
    go_enter Try.func26, Try.ntmps26
    go_wp2_with fail
    refine (HV.out _).mono ?_; rintro e w1 ⟨rfl, hb1⟩
    replace K := K.call hb1
    clear hb1 x0 x1 x2 x3
    obtain ⟨x0, x1, x2, x3⟩ := K.cells
    obtain ⟨z0, z1, z2, z3⟩ := K.rcells
    dsimp only at x0 x1 x2 x3
    have zf := K.res.frozen
    go_wp2_with fail
    refine (HC.out _).mono ?_; rintro e w2 ⟨rfl, rfl⟩
    obtain ⟨hfin, hbf⟩ := K.put Mom.tz
    unfold putT Mom.tz at hfin hbf
    dsimp only at hfin hbf
    go_wp2_with fail
    exact bodyPost_ret (v := .tuple #[.agg #[.int .i64 0, .int .i64 0, .int .i64 0, .int .i64 0], .int .i64 2]) (by simp [results, Try.results26, go_sem, hfin.c4]) rfl ⟨rfl, hbf⟩
  rw [Mom.shE_ok (by have := HK.out; omega)]
  unfold Mom.ag
  dsimp only
  go_enter Try.func26, Try.ntmps26
  go_wp2_with fail
  refine (HV.out _).mono ?_; rintro e w1 ⟨rfl, hb1⟩
  replace K := K.call hb1
  clear hb1 x0 x1 x2 x3
  obtain ⟨x0, x1, x2, x3⟩ := K.cells
  obtain ⟨z0, z1, z2, z3⟩ := K.rcells
  dsimp only at x0 x1 x2 x3
  have zf := K.res.frozen
  go_wp2_with fail
  refine (HC.out _).mono ?_; rintro e w2 ⟨rfl, rfl⟩
  have tf := K.tt.frozen
  go_upto_region 14 with fail
  replace K := K.set12 (A + (d + u)) N
  generalize (w1.setCell ⟨w.heap.size, 1, none⟩ (.int .i64 (A + (d + u)))).setCell ⟨w.heap.size, 2, none⟩ (.int .i64 N) = Wf at *
  clear x0 x1 x2 x3 z0 z1 z2 z3 zf tf
  obtain ⟨y0, y1, y2, y3⟩ := K.cells
  dsimp only at y0 y1 y2 y3
  obtain ⟨u0, u1, u2, u3⟩ := K.rcells
  have uf := K.res.frozen
  obtain ⟨hfin, hbf⟩ := K.put ⟨k, A + (d + u), N, o⟩
  unfold putT at hfin hbf
  dsimp only at hfin hbf
  go_wp2_with fail
  exact bodyPost_ret (v := .tuple #[.agg #[.int .i64 k, .int .i64 (A + (d + u)), .int .i64 N, .int .i64 o], .int .i64 0]) (by simp [results, Try.results26, go_sem, hfin.c4]) rfl ⟨rfl, hbf⟩
set_option maxHeartbeats 4000000 in
theorem rshift_b {k d n o u v : Int} (h : Mom.Ok k d n o) (hu : Mom.i64 u) (hv : Mom.i64 v) (hk : k = 2) (h0 : u = 0) (w : World) :
    Calls Try.prog 26 #[.agg #[.int .i64 k, .int .i64 d, .int .i64 n, .int .i64 o], .int .i64 u, .int .i64 v] w fun e w' => e = .returned (.tuple #[Mom.ag (Mom.shE k (Mom.shD ⟨k, d, n, o⟩ u v) (Mom.shN ⟨k, d, n, o⟩ v) o).1, .int .i64 (Mom.shE k (Mom.shD ⟨k, d, n, o⟩ u v) (Mom.shN ⟨k, d, n, o⟩ v) o).2]) ∧ Below w.heap.size w w' := by
  have HV := Lib.hid (rvalid_any k d n o)
  rw [decide_eq_true h] at HV
  have K := ZK.new w ⟨k, d, n, o⟩
  obtain ⟨x0, x1, x2, x3⟩ := K.cells
  dsimp only at x0 x1 x2 x3
  have hb := h.1
  unfold Mom.i64 at hu hv

  obtain ⟨q, r, hq, hr, e1, e2, e3, e4, e5⟩ := Mom.quo v
  have HC := Lib.hid (split_any (v.tdiv 86400000000000) (n + v.tmod 86400000000000) (by rw [hq]; omega) (by rw [hr]; omega))
  have hA : Mom.shD ⟨k, d, n, o⟩ u v = Mom.dD (v.tdiv 86400000000000) (n + v.tmod 86400000000000) + (d + u) := by rw [hq, hr]; unfold Mom.shD Mom.dD; dsimp only; omega
  have hN : Mom.shN ⟨k, d, n, o⟩ v = Mom.dN (n + v.tmod 86400000000000) := by rw [hr]; unfold Mom.shN Mom.dN; dsimp only; omega
  have hR : -200000 ≤ Mom.dD (v.tdiv 86400000000000) (n + v.tmod 86400000000000) ∧ Mom.dD (v.tdiv 86400000000000) (n + v.tmod 86400000000000) ≤ 200000 := by rw [hq, hr]; unfold Mom.dD; omega
  rw [hA, hN]
  have q1 : -106752 ≤ v.tdiv 86400000000000 ∧ v.tdiv 86400000000000 ≤ 106752 := by omega
  have q2 : -86400000000000 < v.tmod 86400000000000 ∧ v.tmod 86400000000000 < 86400000000000 := by omega
  clear hA hN h e1 e2 e3 e4 e5 hq hr
  obtain ⟨_, _, b1, b2, b3, b4, b5, b6⟩ := hb
  obtain ⟨u1, u2⟩ := hu
  obtain ⟨v1, v2⟩ := hv
  obtain ⟨r1, r2⟩ := hR
  obtain ⟨q1a, q1b⟩ := q1
  obtain ⟨q2a, q2b⟩ := q2
  generalize Mom.dD (v.tdiv 86400000000000) (n + v.tmod 86400000000000) = A at *
  generalize Mom.dN (n + v.tmod 86400000000000) = N at *
  have d1 : (k == 1) = false := beq_eq_false_iff_ne.2 (by omega)
  have d3 : (k == 2) = true := beq_iff_eq.2 hk
  have d2 : (u != 0) = false := by simpa using h0
  have HK := Lib.hid hk
  have u3 : -1 ≤ u := by omega
  have u4 : u ≤ 1 := by omega
  clear hk h0 u1 u2
  by_cases c3 : A + (d + u) < 0
  · rw [Mom.shE_bad (by have := HK.out; omega)]
    unfold Mom.ag Mom.tz
    dsimp only
    go_enter Try.func26, Try.ntmps26
    go_wp2_with fail
    refine (HV.out _).mono ?_; rintro e w1 ⟨rfl, hb1⟩
    replace K := K.call hb1
    clear hb1 x0 x1 x2 x3
    obtain ⟨x0, x1, x2, x3⟩ := K.cells
    obtain ⟨z0, z1, z2, z3⟩ := K.rcells
    dsimp only at x0 x1 x2 x3
    have zf := K.res.frozen
    go_wp2_with fail
    refine (HC.out _).mono ?_; rintro e w2 ⟨rfl, rfl⟩
    obtain ⟨hfin, hbf⟩ := K.put Mom.tz
    unfold putT Mom.tz at hfin hbf
    dsimp only at hfin hbf
    go_wp2_with fail
    exact bodyPost_ret (v := .tuple #[.agg #[.int .i64 0, .int .i64 0, .int .i64 0, .int .i64 0], .int .i64 2]) (by simp [results, Try.results26, go_sem, hfin.c4]) rfl ⟨rfl, hbf⟩
  by_cases c4 : 3652058 < A + (d + u)
  · rw [Mom.shE_bad (by have := HK.out; omega)]
    unfold Mom.ag Mom.tz
    dsimp only
    go_enter Try.func26, Try.ntmps26
    go_wp2_with fail
    refine (HV.out _).mono ?_; rintro e w1 ⟨rfl, hb1⟩
    replace K := K.call hb1
    clear hb1 x0 x1 x2 x3
    obtain ⟨x0, x1, x2, x3⟩ := K.cells
    obtain ⟨z0, z1, z2, z3⟩ := K.rcells
    dsimp only at x0 x1 x2 x3
    have zf := K.res.frozen
    go_wp2_with fail
    refine (HC.out _).mono ?_; rintro e w2 ⟨rfl, rfl⟩
    obtain ⟨hfin, hbf⟩ := K.put Mom.tz
    unfold putT Mom.tz at hfin hbf
    dsimp only at hfin hbf
    go_wp2_with fail
    exact bodyPost_ret (v := .tuple #[.agg #[.int .i64 0, .int .i64 0, .int .i64 0, .int .i64 0], .int .i64 2]) (by simp [results, Try.results26, go_sem, hfin.c4]) rfl ⟨rfl, hbf⟩
  by_cases c5 : A + (d + u) ≠ 0
  · rw [Mom.shE_bad (by have := HK.out; omega)]
    unfold Mom.ag Mom.tz
    dsimp only
    have d4 : (A + (d + u) != 0) = true := by simpa using c5
    go_enter Try.func26, Try.ntmps26
    go_wp2_with fail
    refine (HV.out _).mono ?_; rintro e w1 ⟨rfl, hb1⟩
    replace K := K.call hb1
    clear hb1 x0 x1 x2 x3
    obtain ⟨x0, x1, x2, x3⟩ := K.cells
    obtain ⟨z0, z1, z2, z3⟩ := K.rcells
    dsimp only at x0 x1 x2 x3
    have zf := K.res.frozen
    go_wp2_with fail
    refine (HC.out _).mono ?_; rintro e w2 ⟨rfl, rfl⟩
    obtain ⟨hfin, hbf⟩ := K.put Mom.tz
    unfold putT Mom.tz at hfin hbf
    dsimp only at hfin hbf
    go_wp2_with fail
    exact bodyPost_ret (v := .tuple #[.agg #[.int .i64 0, .int .i64 0, .int .i64 0, .int .i64 0], .int .i64 2]) (by simp [results, Try.results26, go_sem, hfin.c4]) rfl ⟨rfl, hbf⟩
  have d4 : (A + (d + u) != 0) = false := by simpa using c5
  rw [Mom.shE_ok (by have := HK.out; omega)]
  unfold Mom.ag
  dsimp only
  go_enter Try.func26, Try.ntmps26
  go_wp2_with fail
  refine (HV.out _).mono ?_; rintro e w1 ⟨rfl, hb1⟩
  replace K := K.call hb1
  clear hb1 x0 x1 x2 x3
  obtain ⟨x0, x1, x2, x3⟩ := K.cells
  obtain ⟨z0, z1, z2, z3⟩ := K.rcells
  dsimp only at x0 x1 x2 x3
  have zf := K.res.frozen
  go_wp2_with fail
  refine (HC.out _).mono ?_; rintro e w2 ⟨rfl, rfl⟩
  have tf := K.tt.frozen
  go_upto_region 14 with fail
  replace K := K.set12 (A + (d + u)) N
  generalize (w1.setCell ⟨w.heap.size, 1, none⟩ (.int .i64 (A + (d + u)))).setCell ⟨w.heap.size, 2, none⟩ (.int .i64 N) = Wf at *
  clear x0 x1 x2 x3 z0 z1 z2 z3 zf tf
  obtain ⟨y0, y1, y2, y3⟩ := K.cells
  dsimp only at y0 y1 y2 y3
  obtain ⟨u0, u1, u2, u3⟩ := K.rcells
  have uf := K.res.frozen
  obtain ⟨hfin, hbf⟩ := K.put ⟨k, A + (d + u), N, o⟩
  unfold putT at hfin hbf
  dsimp only at hfin hbf
  go_wp2_with fail
  exact bodyPost_ret (v := .tuple #[.agg #[.int .i64 k, .int .i64 (A + (d + u)), .int .i64 N, .int .i64 o], .int .i64 0]) (by simp [results, Try.results26, go_sem, hfin.c4]) rfl ⟨rfl, hbf⟩
set_option maxHeartbeats 4000000 in
theorem rshift_c {k d n o u v : Int} (h : Mom.Ok k d n o) (hu : Mom.i64 u) (hv : Mom.i64 v) (h1 : k ≠ 1) (h2 : k ≠ 2) (w : World) :
    Calls Try.prog 26 #[.agg #[.int .i64 k, .int .i64 d, .int .i64 n, .int .i64 o], .int .i64 u, .int .i64 v] w fun e w' => e = .returned (.tuple #[Mom.ag (Mom.shE k (Mom.shD ⟨k, d, n, o⟩ u v) (Mom.shN ⟨k, d, n, o⟩ v) o).1, .int .i64 (Mom.shE k (Mom.shD ⟨k, d, n, o⟩ u v) (Mom.shN ⟨k, d, n, o⟩ v) o).2]) ∧ Below w.heap.size w w' := by
  have HV := Lib.hid (rvalid_any k d n o)
  rw [decide_eq_true h] at HV
  have K := ZK.new w ⟨k, d, n, o⟩
  obtain ⟨x0, x1, x2, x3⟩ := K.cells
  dsimp only at x0 x1 x2 x3
  have hb := h.1
  unfold Mom.i64 at hu hv

  obtain ⟨q, r, hq, hr, e1, e2, e3, e4, e5⟩ := Mom.quo v
  have HC := Lib.hid (split_any (v.tdiv 86400000000000) (n + v.tmod 86400000000000) (by rw [hq]; omega) (by rw [hr]; omega))
  have hA : Mom.shD ⟨k, d, n, o⟩ u v = Mom.dD (v.tdiv 86400000000000) (n + v.tmod 86400000000000) + (d + u) := by rw [hq, hr]; unfold Mom.shD Mom.dD; dsimp only; omega
  have hN : Mom.shN ⟨k, d, n, o⟩ v = Mom.dN (n + v.tmod 86400000000000) := by rw [hr]; unfold Mom.shN Mom.dN; dsimp only; omega
  have hR : -200000 ≤ Mom.dD (v.tdiv 86400000000000) (n + v.tmod 86400000000000) ∧ Mom.dD (v.tdiv 86400000000000) (n + v.tmod 86400000000000) ≤ 200000 := by rw [hq, hr]; unfold Mom.dD; omega
  rw [hA, hN]
  have q1 : -106752 ≤ v.tdiv 86400000000000 ∧ v.tdiv 86400000000000 ≤ 106752 := by omega
  have q2 : -86400000000000 < v.tmod 86400000000000 ∧ v.tmod 86400000000000 < 86400000000000 := by omega
  clear hA hN h e1 e2 e3 e4 e5 hq hr
  obtain ⟨_, _, b1, b2, b3, b4, b5, b6⟩ := hb
  obtain ⟨u1, u2⟩ := hu
  obtain ⟨v1, v2⟩ := hv
  obtain ⟨r1, r2⟩ := hR
  obtain ⟨q1a, q1b⟩ := q1
  obtain ⟨q2a, q2b⟩ := q2
  generalize Mom.dD (v.tdiv 86400000000000) (n + v.tmod 86400000000000) = A at *
  generalize Mom.dN (n + v.tmod 86400000000000) = N at *
  have d1 : (k == 1) = false := beq_eq_false_iff_ne.2 h1
  have d3 : (k == 2) = false := beq_eq_false_iff_ne.2 h2
  have HK := Lib.hid (And.intro h1 h2)
  clear h1 h2
  by_cases c1 : u < -7304116
  · rw [Mom.shE_bad (by have := HK.out; omega)]
    unfold Mom.ag Mom.tz
    dsimp only
    go_enter Try.func26, Try.ntmps26
    go_wp2_with fail
    refine (HV.out _).mono ?_; rintro e w1 ⟨rfl, hb1⟩
    replace K := K.call hb1
    clear hb1 x0 x1 x2 x3
    obtain ⟨x0, x1, x2, x3⟩ := K.cells
    obtain ⟨z0, z1, z2, z3⟩ := K.rcells
    dsimp only at x0 x1 x2 x3
    have zf := K.res.frozen
    go_wp2_with fail
    refine (HC.out _).mono ?_; rintro e w2 ⟨rfl, rfl⟩
    obtain ⟨hfin, hbf⟩ := K.put Mom.tz
    unfold putT Mom.tz at hfin hbf
    dsimp only at hfin hbf
    go_wp2_with fail
    exact bodyPost_ret (v := .tuple #[.agg #[.int .i64 0, .int .i64 0, .int .i64 0, .int .i64 0], .int .i64 2]) (by simp [results, Try.results26, go_sem, hfin.c4]) rfl ⟨rfl, hbf⟩
  by_cases c2 : 7304116 < u
  · rw [Mom.shE_bad (by have := HK.out; omega)]
    unfold Mom.ag Mom.tz
    dsimp only
    go_enter Try.func26, Try.ntmps26
    go_wp2_with fail
    refine (HV.out _).mono ?_; rintro e w1 ⟨rfl, hb1⟩
    replace K := K.call hb1
    clear hb1 x0 x1 x2 x3
    obtain ⟨x0, x1, x2, x3⟩ := K.cells
    obtain ⟨z0, z1, z2, z3⟩ := K.rcells
    dsimp only at x0 x1 x2 x3
    have zf := K.res.frozen
    go_wp2_with fail
    refine (HC.out _).mono ?_; rintro e w2 ⟨rfl, rfl⟩
    obtain ⟨hfin, hbf⟩ := K.put Mom.tz
    unfold putT Mom.tz at hfin hbf
    dsimp only at hfin hbf
    go_wp2_with fail
    exact bodyPost_ret (v := .tuple #[.agg #[.int .i64 0, .int .i64 0, .int .i64 0, .int .i64 0], .int .i64 2]) (by simp [results, Try.results26, go_sem, hfin.c4]) rfl ⟨rfl, hbf⟩
  by_cases c3 : A + (d + u) < 0
  · rw [Mom.shE_bad (by have := HK.out; omega)]
    unfold Mom.ag Mom.tz
    dsimp only
    go_enter Try.func26, Try.ntmps26
    go_wp2_with fail
    refine (HV.out _).mono ?_; rintro e w1 ⟨rfl, hb1⟩
    replace K := K.call hb1
    clear hb1 x0 x1 x2 x3
    obtain ⟨x0, x1, x2, x3⟩ := K.cells
    obtain ⟨z0, z1, z2, z3⟩ := K.rcells
    dsimp only at x0 x1 x2 x3
    have zf := K.res.frozen
    go_wp2_with fail
    refine (HC.out _).mono ?_; rintro e w2 ⟨rfl, rfl⟩
    obtain ⟨hfin, hbf⟩ := K.put Mom.tz
    unfold putT Mom.tz at hfin hbf
    dsimp only at hfin hbf
    go_wp2_with fail
    exact bodyPost_ret (v := .tuple #[.agg #[.int .i64 0, .int .i64 0, .int .i64 0, .int .i64 0], .int .i64 2]) (by simp [results, Try.results26, go_sem, hfin.c4]) rfl ⟨rfl, hbf⟩
  by_cases c4 : 3652058 < A + (d + u)
  · rw [Mom.shE_bad (by have := HK.out; omega)]
    unfold Mom.ag Mom.tz
    dsimp only
    go_enter Try.func26, Try.ntmps26
    go_wp2_with fail
    refine (HV.out _).mono ?_; rintro e w1 ⟨rfl, hb1⟩
    replace K := K.call hb1
    clear hb1 x0 x1 x2 x3
    obtain ⟨x0, x1, x2, x3⟩ := K.cells
    obtain ⟨z0, z1, z2, z3⟩ := K.rcells
    dsimp only at x0 x1 x2 x3
    have zf := K.res.frozen
    go_wp2_with fail
    refine (HC.out _).mono ?_; rintro e w2 ⟨rfl, rfl⟩
    obtain ⟨hfin, hbf⟩ := K.put Mom.tz
    unfold putT Mom.tz at hfin hbf
    dsimp only at hfin hbf
    go_wp2_with fail
    exact bodyPost_ret (v := .tuple #[.agg #[.int .i64 0, .int .i64 0, .int .i64 0, .int .i64 0], .int .i64 2]) (by simp [results, Try.results26, go_sem, hfin.c4]) rfl ⟨rfl, hbf⟩
  rw [Mom.shE_ok (by have := HK.out; omega)]
  unfold Mom.ag
  dsimp only
  go_enter Try.func26, Try.ntmps26
  go_wp2_with fail
  refine (HV.out _).mono ?_; rintro e w1 ⟨rfl, hb1⟩
  replace K := K.call hb1
  clear hb1 x0 x1 x2 x3
  obtain ⟨x0, x1, x2, x3⟩ := K.cells
  obtain ⟨z0, z1, z2, z3⟩ := K.rcells
  dsimp only at x0 x1 x2 x3
  have zf := K.res.frozen
  go_wp2_with fail
  refine (HC.out _).mono ?_; rintro e w2 ⟨rfl, rfl⟩
  have tf := K.tt.frozen
  go_upto_region 14 with fail
  replace K := K.set12 (A + (d + u)) N
  generalize (w1.setCell ⟨w.heap.size, 1, none⟩ (.int .i64 (A + (d + u)))).setCell ⟨w.heap.size, 2, none⟩ (.int .i64 N) = Wf at *
  clear x0 x1 x2 x3 z0 z1 z2 z3 zf tf
  obtain ⟨y0, y1, y2, y3⟩ := K.cells
  dsimp only at y0 y1 y2 y3
  obtain ⟨u0, u1, u2, u3⟩ := K.rcells
  have uf := K.res.frozen
  obtain ⟨hfin, hbf⟩ := K.put ⟨k, A + (d + u), N, o⟩
  unfold putT at hfin hbf
  dsimp only at hfin hbf
  go_wp2_with fail
  exact bodyPost_ret (v := .tuple #[.agg #[.int .i64 k, .int .i64 (A + (d + u)), .int .i64 N, .int .i64 o], .int .i64 0]) (by simp [results, Try.results26, go_sem, hfin.c4]) rfl ⟨rfl, hbf⟩
theorem rshift_any (t : Mom.Tm) (u v : Int) (hu : Mom.i64 u) (hv : Mom.i64 v) (w : World) :
    Calls Try.prog 26 #[Mom.ag t, .int .i64 u, .int .i64 v] w fun e w' => e = .returned (.tuple #[Mom.ag (Mom.shift t u v).1, .int .i64 (Mom.shift t u v).2]) ∧ Below w.heap.size w w' := by
  unfold Mom.shift
  by_cases h : Mom.Ok t.k t.d t.n t.o
  case neg => rw [if_pos h]; exact rshift_out h u v w
  rw [if_neg (fun g => g h)]
  by_cases g : (t.k = 1 ∧ v ≠ 0) ∨ (t.k = 2 ∧ u ≠ 0)
  · rw [if_pos g]
    rcases g with ⟨g1, g2⟩ | ⟨g1, g2⟩
    · exact rshift_kind1 h u v g1 g2 w
    · exact rshift_kind2 h u v g1 g2 w
  rw [if_neg g]
  by_cases k1 : t.k = 1
  · exact rshift_a h hu hv k1 (by omega) w
  by_cases k2 : t.k = 2
  · exact rshift_b h hu hv k2 (by omega) w
  exact rshift_c h hu hv k1 k2 w
end Go.Proofs.Ythbjkibclbgjoaa
