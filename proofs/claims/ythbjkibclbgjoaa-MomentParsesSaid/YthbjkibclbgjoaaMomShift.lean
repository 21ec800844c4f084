/- Times: shifting, in the program (printed by gen_momshift.py). -/
import Derived.Test.YthbjkibclbgjoaaMomZone
namespace Go.Proofs.Ythbjkibclbgjoaa
open Go.RowKit

namespace Mom
def shD (t : Tm) (days nanos : Int) : Int := t.d + (nanos + t.n) / 86400000000000 + days
def shN (t : Tm) (nanos : Int) : Int := (nanos + t.n) % 86400000000000
def shE (k S N o : Int) : Tm × Int := if S < 0 ∨ 3652058 < S ∨ (k = 2 ∧ S ≠ 0) then (tz, 2) else (⟨k, S, N, o⟩, 0)
theorem shE_bad {k S N o : Int} (h : S < 0 ∨ 3652058 < S ∨ (k = 2 ∧ S ≠ 0)) : shE k S N o = (tz, 2) := if_pos h
theorem shE_ok {k S N o : Int} (h : ¬ (S < 0 ∨ 3652058 < S ∨ (k = 2 ∧ S ≠ 0))) : shE k S N o = (⟨k, S, N, o⟩, 0) := if_neg h
def shift (t : Tm) (days nanos : Int) : Tm × Int :=
  if ¬ Ok t.k t.d t.n t.o then (tz, 1)
  else if (t.k = 1 ∧ nanos ≠ 0) ∨ (t.k = 2 ∧ days ≠ 0) then (tz, 6)
  else shE t.k (shD t days nanos) (shN t nanos) t.o
end Mom
theorem ZK.set12 {w W : World} {k d n o : Int} (h : ZK w ⟨k, d, n, o⟩ W) (S N : Int) : ZK w ⟨k, S, N, o⟩ ((W.setCell ⟨w.heap.size, 1, none⟩ (.int .i64 S)).setCell ⟨w.heap.size, 2, none⟩ (.int .i64 N)) :=
  ⟨(h.tt.set 1 _).set 2 _, (h.res.far (p := ⟨w.heap.size, 1, none⟩) (by simp) _).far (p := ⟨w.heap.size, 2, none⟩) (by simp) _, (h.below.setCell (p := ⟨w.heap.size, 1, none⟩) (by simp) _).setCell (p := ⟨w.heap.size, 2, none⟩) (by simp) _⟩
theorem ZK.set21 {w W : World} {k d n o : Int} (h : ZK w ⟨k, d, n, o⟩ W) (S N : Int) : ZK w ⟨k, S, N, o⟩ ((W.setCell ⟨w.heap.size, 2, none⟩ (.int .i64 N)).setCell ⟨w.heap.size, 1, none⟩ (.int .i64 S)) :=
  ⟨(h.tt.set 2 _).set 1 _, (h.res.far (p := ⟨w.heap.size, 2, none⟩) (by simp) _).far (p := ⟨w.heap.size, 1, none⟩) (by simp) _, (h.below.setCell (p := ⟨w.heap.size, 2, none⟩) (by simp) _).setCell (p := ⟨w.heap.size, 1, none⟩) (by simp) _⟩
theorem ZK.drew {w W : World} {t : Mom.Tm} (h : ZK w t W) : ZK w t W.drew := ⟨h.tt, h.res, h.below.drew⟩
theorem ZK.alloc {w W : World} {t : Mom.Tm} (h : ZK w t W) (o : Obj) : ZK w t (W.alloc o) := ⟨h.tt.alloc _, h.res.alloc _, h.below.alloc h.below.size _⟩

set_option maxHeartbeats 1000000 in
theorem shift_out {t : Mom.Tm} (h : ¬ Mom.Ok t.k t.d t.n t.o) (u v : Int) (w : World) :
    Calls Try.prog 25 #[Mom.ag t, .int .i64 u, .int .i64 v] w fun e w' => e = .returned (.tuple #[Mom.ag Mom.tz, .int .i64 1]) ∧ Below w.heap.size w w' := by
  obtain ⟨k, d, n, o⟩ := t
  have HV := Lib.hid (valid_any k d n o)
  rw [decide_eq_false h] at HV
  have K := ZK.new w ⟨k, d, n, o⟩
  obtain ⟨x0, x1, x2, x3⟩ := K.cells
  dsimp only at x0 x1 x2 x3
  clear h
  unfold Mom.ag Mom.tz
  dsimp only
  go_enter Try.func25, Try.ntmps25
  go_wp2_with fail
  refine (HV.out _).mono ?_; rintro e w1 ⟨rfl, hb1⟩
  replace K := K.call hb1
  clear hb1 x0 x1 x2 x3
  obtain ⟨x0, x1, x2, x3⟩ := K.cells
  obtain ⟨z0, z1, z2, z3⟩ := K.rcells
  dsimp only at x0 x1 x2 x3
  have zf := K.res.frozen
  obtain ⟨hfin, hbf⟩ := K.put Mom.tz
  unfold putT Mom.tz at hfin hbf
  go_wp2_with fail
  exact bodyPost_ret (v := .tuple #[.agg #[.int .i64 0, .int .i64 0, .int .i64 0, .int .i64 0], .int .i64 1]) (by simp [results, Try.results25, go_sem, hfin.c4]) rfl ⟨rfl, hbf⟩
set_option maxHeartbeats 1000000 in
theorem shift_kind1 {t : Mom.Tm} (h : Mom.Ok t.k t.d t.n t.o) (u v : Int) (g1 : t.k = 1) (g2 : v ≠ 0) (w : World) :
    Calls Try.prog 25 #[Mom.ag t, .int .i64 u, .int .i64 v] w fun e w' => e = .returned (.tuple #[Mom.ag Mom.tz, .int .i64 6]) ∧ Below w.heap.size w w' := by
  obtain ⟨k, d, n, o⟩ := t
  have HV := Lib.hid (valid_any k d n o)
  rw [decide_eq_true h] at HV
  have K := ZK.new w ⟨k, d, n, o⟩
  obtain ⟨x0, x1, x2, x3⟩ := K.cells
  dsimp only at x0 x1 x2 x3
  clear h
  unfold Mom.ag Mom.tz
  dsimp only
  dsimp only at g1
  have d1 : (k == 1) = true := beq_iff_eq.2 g1
  have d3 : (k == 2) = false := beq_eq_false_iff_ne.2 (by omega)
  have d2 : (v != 0) = true := by simpa using g2
  clear g1 g2
  go_enter Try.func25, Try.ntmps25
  go_wp2_with fail
  refine (HV.out _).mono ?_; rintro e w1 ⟨rfl, hb1⟩
  replace K := K.call hb1
  clear hb1 x0 x1 x2 x3
  obtain ⟨x0, x1, x2, x3⟩ := K.cells
  obtain ⟨z0, z1, z2, z3⟩ := K.rcells
  dsimp only at x0 x1 x2 x3
  have zf := K.res.frozen
  obtain ⟨hfin, hbf⟩ := K.put Mom.tz
  unfold putT Mom.tz at hfin hbf
  go_wp2_with fail
  exact bodyPost_ret (v := .tuple #[.agg #[.int .i64 0, .int .i64 0, .int .i64 0, .int .i64 0], .int .i64 6]) (by simp [results, Try.results25, go_sem, hfin.c4]) rfl ⟨rfl, hbf⟩
set_option maxHeartbeats 1000000 in
theorem shift_kind2 {t : Mom.Tm} (h : Mom.Ok t.k t.d t.n t.o) (u v : Int) (g1 : t.k = 2) (g2 : u ≠ 0) (w : World) :
    Calls Try.prog 25 #[Mom.ag t, .int .i64 u, .int .i64 v] w fun e w' => e = .returned (.tuple #[Mom.ag Mom.tz, .int .i64 6]) ∧ Below w.heap.size w w' := by
  obtain ⟨k, d, n, o⟩ := t
  have HV := Lib.hid (valid_any k d n o)
  rw [decide_eq_true h] at HV
  have K := ZK.new w ⟨k, d, n, o⟩
  obtain ⟨x0, x1, x2, x3⟩ := K.cells
  dsimp only at x0 x1 x2 x3
  clear h
  unfold Mom.ag Mom.tz
  dsimp only
  dsimp only at g1
  have d1 : (k == 1) = false := beq_eq_false_iff_ne.2 (by omega)
  have d3 : (k == 2) = true := beq_iff_eq.2 g1
  have d2 : (u != 0) = true := by simpa using g2
  clear g1 g2
  go_enter Try.func25, Try.ntmps25
  go_wp2_with fail
  refine (HV.out _).mono ?_; rintro e w1 ⟨rfl, hb1⟩
  replace K := K.call hb1
  clear hb1 x0 x1 x2 x3
  obtain ⟨x0, x1, x2, x3⟩ := K.cells
  obtain ⟨z0, z1, z2, z3⟩ := K.rcells
  dsimp only at x0 x1 x2 x3
  have zf := K.res.frozen
  obtain ⟨hfin, hbf⟩ := K.put Mom.tz
  unfold putT Mom.tz at hfin hbf
  go_wp2_with fail
  exact bodyPost_ret (v := .tuple #[.agg #[.int .i64 0, .int .i64 0, .int .i64 0, .int .i64 0], .int .i64 6]) (by simp [results, Try.results25, go_sem, hfin.c4]) rfl ⟨rfl, hbf⟩
set_option maxHeartbeats 4000000 in
theorem shift_a {k d n o u v : Int} (h : Mom.Ok k d n o) (hu : Mom.i64 u) (hv : Mom.i64 v) (hk : k = 1) (h0 : v = 0) (w : World) :
    Calls Try.prog 25 #[.agg #[.int .i64 k, .int .i64 d, .int .i64 n, .int .i64 o], .int .i64 u, .int .i64 v] w fun e w' => e = .returned (.tuple #[Mom.ag (Mom.shE k (Mom.shD ⟨k, d, n, o⟩ u v) (Mom.shN ⟨k, d, n, o⟩ v) o).1, .int .i64 (Mom.shE k (Mom.shD ⟨k, d, n, o⟩ u v) (Mom.shN ⟨k, d, n, o⟩ v) o).2]) ∧ Below w.heap.size w w' := by
  have HV := Lib.hid (valid_any k d n o)
  rw [decide_eq_true h] at HV
  have K := ZK.new w ⟨k, d, n, o⟩
  obtain ⟨x0, x1, x2, x3⟩ := K.cells
  dsimp only at x0 x1 x2 x3
  have hb := h.1
  unfold Mom.i64 at hu hv

  have hP : -106752 ≤ Mom.dD 0 v ∧ Mom.dD 0 v ≤ 106752 := by unfold Mom.dD; omega
  have hQ : 0 ≤ Mom.dN v ∧ Mom.dN v < 86400000000000 := by unfold Mom.dN; omega
  have HC := Lib.hid (carry_world 0 v (by omega) hv)
  have HD := Lib.hid (carry_world (d + Mom.dD 0 v) (n + Mom.dN v) (by omega) (by unfold Mom.i64; omega))
  have hA : Mom.shD ⟨k, d, n, o⟩ u v = Mom.dD (d + Mom.dD 0 v) (n + Mom.dN v) + u := by unfold Mom.shD Mom.dD Mom.dN; dsimp only; omega
  have hN : Mom.shN ⟨k, d, n, o⟩ v = Mom.dN (n + Mom.dN v) := by unfold Mom.shN Mom.dN; dsimp only; omega
  have hR : -200000 ≤ Mom.dD (d + Mom.dD 0 v) (n + Mom.dN v) ∧ Mom.dD (d + Mom.dD 0 v) (n + Mom.dN v) ≤ 4000000 := by unfold Mom.dD Mom.dN; omega
  unfold Mom.sp at HC HD
  rw [hA, hN]
  clear hA hN h
  obtain ⟨_, _, b1, b2, b3, b4, b5, b6⟩ := hb
  obtain ⟨u1, u2⟩ := hu
  obtain ⟨v1, v2⟩ := hv
  obtain ⟨p1, p2⟩ := hP
  obtain ⟨q1, q2⟩ := hQ
  obtain ⟨r1, r2⟩ := hR
  generalize Mom.dD (d + Mom.dD 0 v) (n + Mom.dN v) = A at *
  generalize Mom.dN (n + Mom.dN v) = N at *
  generalize Mom.dD 0 v = P at *
  generalize Mom.dN v = Q at *
  have d1 : (k == 1) = true := beq_iff_eq.2 hk
  have d2 : (v != 0) = false := by simpa using h0
  have d3 : (k == 2) = false := beq_eq_false_iff_ne.2 (by omega)
  have HK := Lib.hid hk
  clear hk h0
  by_cases c1 : u < -1099511627776
  · rw [Mom.shE_bad (by have := HK.out; omega)]
    unfold Mom.ag Mom.tz
    dsimp only
    go_enter Try.func25, Try.ntmps25
    go_wp2_with fail
    refine (HV.out _).mono ?_; rintro e w1 ⟨rfl, hb1⟩
    replace K := K.call hb1
    clear hb1 x0 x1 x2 x3
    obtain ⟨x0, x1, x2, x3⟩ := K.cells
    obtain ⟨z0, z1, z2, z3⟩ := K.rcells
    dsimp only at x0 x1 x2 x3
    have zf := K.res.frozen
    have l0 : w.heap.size + 1 < w1.heap.size := K.res.lt
    have m0 : w.heap.size < w1.heap.size := K.tt.lt
    have l1 : w.heap.size + 1 < w1.heap.size + 1 := by omega
    have m1 : w.heap.size < w1.heap.size + 1 := by omega
    have l2 : w.heap.size + 1 < w1.heap.size + 2 := by omega
    have m2 : w.heap.size < w1.heap.size + 2 := by omega
    have l3 : w.heap.size + 1 < w1.heap.size + 3 := by omega
    have m3 : w.heap.size < w1.heap.size + 3 := by omega
    go_wp2_with fail
    refine (HC.out _).mono ?_; rintro e w2 ⟨rfl, rfl⟩
    go_wp2_with fail
    refine (HD.out _).mono ?_; rintro e w3 ⟨rfl, rfl⟩
    go_upto_region 8 with fail
    replace K := ((((K.alloc (.cells #[.int .i64 P, .int .i64 Q] 73)).alloc (.cells #[.int .i64 P, .int .i64 Q] 73)).alloc (.cells #[.int .i64 A, .int .i64 N] 73)).alloc (.cells #[.int .i64 A, .int .i64 N] 73))
    generalize ((((w1.alloc (.cells #[.int .i64 P, .int .i64 Q] 73)).alloc (.cells #[.int .i64 P, .int .i64 Q] 73)).alloc (.cells #[.int .i64 A, .int .i64 N] 73)).alloc (.cells #[.int .i64 A, .int .i64 N] 73)) = Wf at *
    clear x0 x1 x2 x3 z0 z1 z2 z3 zf
    obtain ⟨z0, z1, z2, z3⟩ := K.rcells
    have zf := K.res.frozen
    obtain ⟨hfin, hbf⟩ := K.put Mom.tz
    unfold putT Mom.tz at hfin hbf
    go_wp2_with fail
    exact bodyPost_ret (v := .tuple #[.agg #[.int .i64 0, .int .i64 0, .int .i64 0, .int .i64 0], .int .i64 2]) (by simp [results, Try.results25, go_sem, hfin.c4]) rfl ⟨rfl, hbf⟩
  by_cases c2 : 1099511627776 < u
  · rw [Mom.shE_bad (by have := HK.out; omega)]
    unfold Mom.ag Mom.tz
    dsimp only
    go_enter Try.func25, Try.ntmps25
    go_wp2_with fail
    refine (HV.out _).mono ?_; rintro e w1 ⟨rfl, hb1⟩
    replace K := K.call hb1
    clear hb1 x0 x1 x2 x3
    obtain ⟨x0, x1, x2, x3⟩ := K.cells
    obtain ⟨z0, z1, z2, z3⟩ := K.rcells
    dsimp only at x0 x1 x2 x3
    have zf := K.res.frozen
    have l0 : w.heap.size + 1 < w1.heap.size := K.res.lt
    have m0 : w.heap.size < w1.heap.size := K.tt.lt
    have l1 : w.heap.size + 1 < w1.heap.size + 1 := by omega
    have m1 : w.heap.size < w1.heap.size + 1 := by omega
    have l2 : w.heap.size + 1 < w1.heap.size + 2 := by omega
    have m2 : w.heap.size < w1.heap.size + 2 := by omega
    have l3 : w.heap.size + 1 < w1.heap.size + 3 := by omega
    have m3 : w.heap.size < w1.heap.size + 3 := by omega
    go_wp2_with fail
    refine (HC.out _).mono ?_; rintro e w2 ⟨rfl, rfl⟩
    go_wp2_with fail
    refine (HD.out _).mono ?_; rintro e w3 ⟨rfl, rfl⟩
    go_upto_region 8 with fail
    replace K := ((((K.alloc (.cells #[.int .i64 P, .int .i64 Q] 73)).alloc (.cells #[.int .i64 P, .int .i64 Q] 73)).alloc (.cells #[.int .i64 A, .int .i64 N] 73)).alloc (.cells #[.int .i64 A, .int .i64 N] 73))
    generalize ((((w1.alloc (.cells #[.int .i64 P, .int .i64 Q] 73)).alloc (.cells #[.int .i64 P, .int .i64 Q] 73)).alloc (.cells #[.int .i64 A, .int .i64 N] 73)).alloc (.cells #[.int .i64 A, .int .i64 N] 73)) = Wf at *
    clear x0 x1 x2 x3 z0 z1 z2 z3 zf
    obtain ⟨z0, z1, z2, z3⟩ := K.rcells
    have zf := K.res.frozen
    obtain ⟨hfin, hbf⟩ := K.put Mom.tz
    unfold putT Mom.tz at hfin hbf
    go_wp2_with fail
    exact bodyPost_ret (v := .tuple #[.agg #[.int .i64 0, .int .i64 0, .int .i64 0, .int .i64 0], .int .i64 2]) (by simp [results, Try.results25, go_sem, hfin.c4]) rfl ⟨rfl, hbf⟩
  by_cases c3 : A + u < 0
  · rw [Mom.shE_bad (by have := HK.out; omega)]
    unfold Mom.ag Mom.tz
    dsimp only
    go_enter Try.func25, Try.ntmps25
    go_wp2_with fail
    refine (HV.out _).mono ?_; rintro e w1 ⟨rfl, hb1⟩
    replace K := K.call hb1
    clear hb1 x0 x1 x2 x3
    obtain ⟨x0, x1, x2, x3⟩ := K.cells
    obtain ⟨z0, z1, z2, z3⟩ := K.rcells
    dsimp only at x0 x1 x2 x3
    have zf := K.res.frozen
    have l0 : w.heap.size + 1 < w1.heap.size := K.res.lt
    have m0 : w.heap.size < w1.heap.size := K.tt.lt
    have l1 : w.heap.size + 1 < w1.heap.size + 1 := by omega
    have m1 : w.heap.size < w1.heap.size + 1 := by omega
    have l2 : w.heap.size + 1 < w1.heap.size + 2 := by omega
    have m2 : w.heap.size < w1.heap.size + 2 := by omega
    have l3 : w.heap.size + 1 < w1.heap.size + 3 := by omega
    have m3 : w.heap.size < w1.heap.size + 3 := by omega
    go_wp2_with fail
    refine (HC.out _).mono ?_; rintro e w2 ⟨rfl, rfl⟩
    go_wp2_with fail
    refine (HD.out _).mono ?_; rintro e w3 ⟨rfl, rfl⟩
    go_upto_region 11 with fail
    replace K := ((((K.alloc (.cells #[.int .i64 P, .int .i64 Q] 73)).alloc (.cells #[.int .i64 P, .int .i64 Q] 73)).alloc (.cells #[.int .i64 A, .int .i64 N] 73)).alloc (.cells #[.int .i64 (A + u), .int .i64 N] 73))
    generalize ((((w1.alloc (.cells #[.int .i64 P, .int .i64 Q] 73)).alloc (.cells #[.int .i64 P, .int .i64 Q] 73)).alloc (.cells #[.int .i64 A, .int .i64 N] 73)).alloc (.cells #[.int .i64 (A + u), .int .i64 N] 73)) = Wf at *
    clear x0 x1 x2 x3 z0 z1 z2 z3 zf
    obtain ⟨z0, z1, z2, z3⟩ := K.rcells
    have zf := K.res.frozen
    obtain ⟨hfin, hbf⟩ := K.put Mom.tz
    unfold putT Mom.tz at hfin hbf
    go_wp2_with fail
    exact bodyPost_ret (v := .tuple #[.agg #[.int .i64 0, .int .i64 0, .int .i64 0, .int .i64 0], .int .i64 2]) (by simp [results, Try.results25, go_sem, hfin.c4]) rfl ⟨rfl, hbf⟩
  by_cases c4 : 3652058 < A + u
  · rw [Mom.shE_bad (by have := HK.out; omega)]
    unfold Mom.ag Mom.tz
    dsimp only
    go_enter Try.func25, Try.ntmps25
    go_wp2_with fail
    refine (HV.out _).mono ?_; rintro e w1 ⟨rfl, hb1⟩
    replace K := K.call hb1
    clear hb1 x0 x1 x2 x3
    obtain ⟨x0, x1, x2, x3⟩ := K.cells
    obtain ⟨z0, z1, z2, z3⟩ := K.rcells
    dsimp only at x0 x1 x2 x3
    have zf := K.res.frozen
    have l0 : w.heap.size + 1 < w1.heap.size := K.res.lt
    have m0 : w.heap.size < w1.heap.size := K.tt.lt
    have l1 : w.heap.size + 1 < w1.heap.size + 1 := by omega
    have m1 : w.heap.size < w1.heap.size + 1 := by omega
    have l2 : w.heap.size + 1 < w1.heap.size + 2 := by omega
    have m2 : w.heap.size < w1.heap.size + 2 := by omega
    have l3 : w.heap.size + 1 < w1.heap.size + 3 := by omega
    have m3 : w.heap.size < w1.heap.size + 3 := by omega
    go_wp2_with fail
    refine (HC.out _).mono ?_; rintro e w2 ⟨rfl, rfl⟩
    go_wp2_with fail
    refine (HD.out _).mono ?_; rintro e w3 ⟨rfl, rfl⟩
    go_upto_region 11 with fail
    replace K := ((((K.alloc (.cells #[.int .i64 P, .int .i64 Q] 73)).alloc (.cells #[.int .i64 P, .int .i64 Q] 73)).alloc (.cells #[.int .i64 A, .int .i64 N] 73)).alloc (.cells #[.int .i64 (A + u), .int .i64 N] 73))
    generalize ((((w1.alloc (.cells #[.int .i64 P, .int .i64 Q] 73)).alloc (.cells #[.int .i64 P, .int .i64 Q] 73)).alloc (.cells #[.int .i64 A, .int .i64 N] 73)).alloc (.cells #[.int .i64 (A + u), .int .i64 N] 73)) = Wf at *
    clear x0 x1 x2 x3 z0 z1 z2 z3 zf
    obtain ⟨z0, z1, z2, z3⟩ := K.rcells
    have zf := K.res.frozen
    obtain ⟨hfin, hbf⟩ := K.put Mom.tz
    unfold putT Mom.tz at hfin hbf
    go_wp2_with fail
    exact bodyPost_ret (v := .tuple #[.agg #[.int .i64 0, .int .i64 0, .int .i64 0, .int .i64 0], .int .i64 2]) (by simp [results, Try.results25, go_sem, hfin.c4]) rfl ⟨rfl, hbf⟩
  rw [Mom.shE_ok (by have := HK.out; omega)]
  unfold Mom.ag
  dsimp only
  go_enter Try.func25, Try.ntmps25
  go_wp2_with fail
  refine (HV.out _).mono ?_; rintro e w1 ⟨rfl, hb1⟩
  replace K := K.call hb1
  clear hb1 x0 x1 x2 x3
  obtain ⟨x0, x1, x2, x3⟩ := K.cells
  obtain ⟨z0, z1, z2, z3⟩ := K.rcells
  dsimp only at x0 x1 x2 x3
  have zf := K.res.frozen
  have l0 : w.heap.size + 1 < w1.heap.size := K.res.lt
  have m0 : w.heap.size < w1.heap.size := K.tt.lt
  have l1 : w.heap.size + 1 < w1.heap.size + 1 := by omega
  have m1 : w.heap.size < w1.heap.size + 1 := by omega
  have l2 : w.heap.size + 1 < w1.heap.size + 2 := by omega
  have m2 : w.heap.size < w1.heap.size + 2 := by omega
  have l3 : w.heap.size + 1 < w1.heap.size + 3 := by omega
  have m3 : w.heap.size < w1.heap.size + 3 := by omega
  go_wp2_with fail
  refine (HC.out _).mono ?_; rintro e w2 ⟨rfl, rfl⟩
  go_wp2_with fail
  refine (HD.out _).mono ?_; rintro e w3 ⟨rfl, rfl⟩
  have tf := K.tt.frozen
  go_upto_region 12 with fail
  go_region
  replace K := (((((K.set12 (A + u) N).alloc (.cells #[.int .i64 P, .int .i64 Q] 73)).alloc (.cells #[.int .i64 P, .int .i64 Q] 73)).alloc (.cells #[.int .i64 A, .int .i64 N] 73)).alloc (.cells #[.int .i64 (A + u), .int .i64 N] 73)).drew
  generalize ((((((w1.setCell ⟨w.heap.size, 1, none⟩ (.int .i64 (A + u))).setCell ⟨w.heap.size, 2, none⟩ (.int .i64 N)).alloc (.cells #[.int .i64 P, .int .i64 Q] 73)).alloc (.cells #[.int .i64 P, .int .i64 Q] 73)).alloc (.cells #[.int .i64 A, .int .i64 N] 73)).alloc (.cells #[.int .i64 (A + u), .int .i64 N] 73)).drew = Wf at *
  clear x0 x1 x2 x3 z0 z1 z2 z3 zf tf
  obtain ⟨y0, y1, y2, y3⟩ := K.cells
  dsimp only at y0 y1 y2 y3
  obtain ⟨u0, u1, u2, u3⟩ := K.rcells
  have uf := K.res.frozen
  obtain ⟨hfin, hbf⟩ := K.put ⟨k, A + u, N, o⟩
  unfold putT at hfin hbf
  dsimp only at hfin hbf
  go_wp2_with fail
  exact bodyPost_ret (v := .tuple #[.agg #[.int .i64 k, .int .i64 (A + u), .int .i64 N, .int .i64 o], .int .i64 0]) (by simp [results, Try.results25, go_sem, hfin.c4]) rfl ⟨rfl, hbf⟩
set_option maxHeartbeats 4000000 in
theorem shift_b {k d n o u v : Int} (h : Mom.Ok k d n o) (hu : Mom.i64 u) (hv : Mom.i64 v) (hk : k = 2) (h0 : u = 0) (w : World) :
    Calls Try.prog 25 #[.agg #[.int .i64 k, .int .i64 d, .int .i64 n, .int .i64 o], .int .i64 u, .int .i64 v] w fun e w' => e = .returned (.tuple #[Mom.ag (Mom.shE k (Mom.shD ⟨k, d, n, o⟩ u v) (Mom.shN ⟨k, d, n, o⟩ v) o).1, .int .i64 (Mom.shE k (Mom.shD ⟨k, d, n, o⟩ u v) (Mom.shN ⟨k, d, n, o⟩ v) o).2]) ∧ Below w.heap.size w w' := by
  have HV := Lib.hid (valid_any k d n o)
  rw [decide_eq_true h] at HV
  have K := ZK.new w ⟨k, d, n, o⟩
  obtain ⟨x0, x1, x2, x3⟩ := K.cells
  dsimp only at x0 x1 x2 x3
  have hb := h.1
  unfold Mom.i64 at hu hv

  have hP : -106752 ≤ Mom.dD 0 v ∧ Mom.dD 0 v ≤ 106752 := by unfold Mom.dD; omega
  have hQ : 0 ≤ Mom.dN v ∧ Mom.dN v < 86400000000000 := by unfold Mom.dN; omega
  have HC := Lib.hid (carry_world 0 v (by omega) hv)
  have HD := Lib.hid (carry_world (d + Mom.dD 0 v) (n + Mom.dN v) (by omega) (by unfold Mom.i64; omega))
  have hA : Mom.shD ⟨k, d, n, o⟩ u v = Mom.dD (d + Mom.dD 0 v) (n + Mom.dN v) + u := by unfold Mom.shD Mom.dD Mom.dN; dsimp only; omega
  have hN : Mom.shN ⟨k, d, n, o⟩ v = Mom.dN (n + Mom.dN v) := by unfold Mom.shN Mom.dN; dsimp only; omega
  have hR : -200000 ≤ Mom.dD (d + Mom.dD 0 v) (n + Mom.dN v) ∧ Mom.dD (d + Mom.dD 0 v) (n + Mom.dN v) ≤ 4000000 := by unfold Mom.dD Mom.dN; omega
  unfold Mom.sp at HC HD
  rw [hA, hN]
  clear hA hN h
  obtain ⟨_, _, b1, b2, b3, b4, b5, b6⟩ := hb
  obtain ⟨u1, u2⟩ := hu
  obtain ⟨v1, v2⟩ := hv
  obtain ⟨p1, p2⟩ := hP
  obtain ⟨q1, q2⟩ := hQ
  obtain ⟨r1, r2⟩ := hR
  generalize Mom.dD (d + Mom.dD 0 v) (n + Mom.dN v) = A at *
  generalize Mom.dN (n + Mom.dN v) = N at *
  generalize Mom.dD 0 v = P at *
  generalize Mom.dN v = Q at *
  have d1 : (k == 1) = false := beq_eq_false_iff_ne.2 (by omega)
  have d3 : (k == 2) = true := beq_iff_eq.2 hk
  have d2 : (u != 0) = false := by simpa using h0
  have HK := Lib.hid hk
  have u3 : -1 ≤ u := by omega
  have u4 : u ≤ 1 := by omega
  clear hk h0 u1 u2
  by_cases c3 : A + u < 0
  · rw [Mom.shE_bad (by have := HK.out; omega)]
    unfold Mom.ag Mom.tz
    dsimp only
    go_enter Try.func25, Try.ntmps25
    go_wp2_with fail
    refine (HV.out _).mono ?_; rintro e w1 ⟨rfl, hb1⟩
    replace K := K.call hb1
    clear hb1 x0 x1 x2 x3
    obtain ⟨x0, x1, x2, x3⟩ := K.cells
    obtain ⟨z0, z1, z2, z3⟩ := K.rcells
    dsimp only at x0 x1 x2 x3
    have zf := K.res.frozen
    have l0 : w.heap.size + 1 < w1.heap.size := K.res.lt
    have m0 : w.heap.size < w1.heap.size := K.tt.lt
    have l1 : w.heap.size + 1 < w1.heap.size + 1 := by omega
    have m1 : w.heap.size < w1.heap.size + 1 := by omega
    have l2 : w.heap.size + 1 < w1.heap.size + 2 := by omega
    have m2 : w.heap.size < w1.heap.size + 2 := by omega
    have l3 : w.heap.size + 1 < w1.heap.size + 3 := by omega
    have m3 : w.heap.size < w1.heap.size + 3 := by omega
    go_wp2_with fail
    refine (HC.out _).mono ?_; rintro e w2 ⟨rfl, rfl⟩
    go_wp2_with fail
    refine (HD.out _).mono ?_; rintro e w3 ⟨rfl, rfl⟩
    go_upto_region 11 with fail
    replace K := ((((K.alloc (.cells #[.int .i64 P, .int .i64 Q] 73)).alloc (.cells #[.int .i64 P, .int .i64 Q] 73)).alloc (.cells #[.int .i64 A, .int .i64 N] 73)).alloc (.cells #[.int .i64 (A + u), .int .i64 N] 73))
    generalize ((((w1.alloc (.cells #[.int .i64 P, .int .i64 Q] 73)).alloc (.cells #[.int .i64 P, .int .i64 Q] 73)).alloc (.cells #[.int .i64 A, .int .i64 N] 73)).alloc (.cells #[.int .i64 (A + u), .int .i64 N] 73)) = Wf at *
    clear x0 x1 x2 x3 z0 z1 z2 z3 zf
    obtain ⟨z0, z1, z2, z3⟩ := K.rcells
    have zf := K.res.frozen
    obtain ⟨hfin, hbf⟩ := K.put Mom.tz
    unfold putT Mom.tz at hfin hbf
    go_wp2_with fail
    exact bodyPost_ret (v := .tuple #[.agg #[.int .i64 0, .int .i64 0, .int .i64 0, .int .i64 0], .int .i64 2]) (by simp [results, Try.results25, go_sem, hfin.c4]) rfl ⟨rfl, hbf⟩
  by_cases c4 : 3652058 < A + u
  · rw [Mom.shE_bad (by have := HK.out; omega)]
    unfold Mom.ag Mom.tz
    dsimp only
    go_enter Try.func25, Try.ntmps25
    go_wp2_with fail
    refine (HV.out _).mono ?_; rintro e w1 ⟨rfl, hb1⟩
    replace K := K.call hb1
    clear hb1 x0 x1 x2 x3
    obtain ⟨x0, x1, x2, x3⟩ := K.cells
    obtain ⟨z0, z1, z2, z3⟩ := K.rcells
    dsimp only at x0 x1 x2 x3
    have zf := K.res.frozen
    have l0 : w.heap.size + 1 < w1.heap.size := K.res.lt
    have m0 : w.heap.size < w1.heap.size := K.tt.lt
    have l1 : w.heap.size + 1 < w1.heap.size + 1 := by omega
    have m1 : w.heap.size < w1.heap.size + 1 := by omega
    have l2 : w.heap.size + 1 < w1.heap.size + 2 := by omega
    have m2 : w.heap.size < w1.heap.size + 2 := by omega
    have l3 : w.heap.size + 1 < w1.heap.size + 3 := by omega
    have m3 : w.heap.size < w1.heap.size + 3 := by omega
    go_wp2_with fail
    refine (HC.out _).mono ?_; rintro e w2 ⟨rfl, rfl⟩
    go_wp2_with fail
    refine (HD.out _).mono ?_; rintro e w3 ⟨rfl, rfl⟩
    go_upto_region 11 with fail
    replace K := ((((K.alloc (.cells #[.int .i64 P, .int .i64 Q] 73)).alloc (.cells #[.int .i64 P, .int .i64 Q] 73)).alloc (.cells #[.int .i64 A, .int .i64 N] 73)).alloc (.cells #[.int .i64 (A + u), .int .i64 N] 73))
    generalize ((((w1.alloc (.cells #[.int .i64 P, .int .i64 Q] 73)).alloc (.cells #[.int .i64 P, .int .i64 Q] 73)).alloc (.cells #[.int .i64 A, .int .i64 N] 73)).alloc (.cells #[.int .i64 (A + u), .int .i64 N] 73)) = Wf at *
    clear x0 x1 x2 x3 z0 z1 z2 z3 zf
    obtain ⟨z0, z1, z2, z3⟩ := K.rcells
    have zf := K.res.frozen
    obtain ⟨hfin, hbf⟩ := K.put Mom.tz
    unfold putT Mom.tz at hfin hbf
    go_wp2_with fail
    exact bodyPost_ret (v := .tuple #[.agg #[.int .i64 0, .int .i64 0, .int .i64 0, .int .i64 0], .int .i64 2]) (by simp [results, Try.results25, go_sem, hfin.c4]) rfl ⟨rfl, hbf⟩
  by_cases c5 : A + u ≠ 0
  · rw [Mom.shE_bad (by have := HK.out; omega)]
    unfold Mom.ag Mom.tz
    dsimp only
    have d4 : (A + u != 0) = true := by simpa using c5
    go_enter Try.func25, Try.ntmps25
    go_wp2_with fail
    refine (HV.out _).mono ?_; rintro e w1 ⟨rfl, hb1⟩
    replace K := K.call hb1
    clear hb1 x0 x1 x2 x3
    obtain ⟨x0, x1, x2, x3⟩ := K.cells
    obtain ⟨z0, z1, z2, z3⟩ := K.rcells
    dsimp only at x0 x1 x2 x3
    have zf := K.res.frozen
    have l0 : w.heap.size + 1 < w1.heap.size := K.res.lt
    have m0 : w.heap.size < w1.heap.size := K.tt.lt
    have l1 : w.heap.size + 1 < w1.heap.size + 1 := by omega
    have m1 : w.heap.size < w1.heap.size + 1 := by omega
    have l2 : w.heap.size + 1 < w1.heap.size + 2 := by omega
    have m2 : w.heap.size < w1.heap.size + 2 := by omega
    have l3 : w.heap.size + 1 < w1.heap.size + 3 := by omega
    have m3 : w.heap.size < w1.heap.size + 3 := by omega
    go_wp2_with fail
    refine (HC.out _).mono ?_; rintro e w2 ⟨rfl, rfl⟩
    go_wp2_with fail
    refine (HD.out _).mono ?_; rintro e w3 ⟨rfl, rfl⟩
    go_upto_region 11 with fail
    replace K := ((((K.alloc (.cells #[.int .i64 P, .int .i64 Q] 73)).alloc (.cells #[.int .i64 P, .int .i64 Q] 73)).alloc (.cells #[.int .i64 A, .int .i64 N] 73)).alloc (.cells #[.int .i64 (A + u), .int .i64 N] 73))
    generalize ((((w1.alloc (.cells #[.int .i64 P, .int .i64 Q] 73)).alloc (.cells #[.int .i64 P, .int .i64 Q] 73)).alloc (.cells #[.int .i64 A, .int .i64 N] 73)).alloc (.cells #[.int .i64 (A + u), .int .i64 N] 73)) = Wf at *
    clear x0 x1 x2 x3 z0 z1 z2 z3 zf
    obtain ⟨z0, z1, z2, z3⟩ := K.rcells
    have zf := K.res.frozen
    obtain ⟨hfin, hbf⟩ := K.put Mom.tz
    unfold putT Mom.tz at hfin hbf
    go_wp2_with fail
    exact bodyPost_ret (v := .tuple #[.agg #[.int .i64 0, .int .i64 0, .int .i64 0, .int .i64 0], .int .i64 2]) (by simp [results, Try.results25, go_sem, hfin.c4]) rfl ⟨rfl, hbf⟩
  have d4 : (A + u != 0) = false := by simpa using c5
  rw [Mom.shE_ok (by have := HK.out; omega)]
  unfold Mom.ag
  dsimp only
  go_enter Try.func25, Try.ntmps25
  go_wp2_with fail
  refine (HV.out _).mono ?_; rintro e w1 ⟨rfl, hb1⟩
  replace K := K.call hb1
  clear hb1 x0 x1 x2 x3
  obtain ⟨x0, x1, x2, x3⟩ := K.cells
  obtain ⟨z0, z1, z2, z3⟩ := K.rcells
  dsimp only at x0 x1 x2 x3
  have zf := K.res.frozen
  have l0 : w.heap.size + 1 < w1.heap.size := K.res.lt
  have m0 : w.heap.size < w1.heap.size := K.tt.lt
  have l1 : w.heap.size + 1 < w1.heap.size + 1 := by omega
  have m1 : w.heap.size < w1.heap.size + 1 := by omega
  have l2 : w.heap.size + 1 < w1.heap.size + 2 := by omega
  have m2 : w.heap.size < w1.heap.size + 2 := by omega
  have l3 : w.heap.size + 1 < w1.heap.size + 3 := by omega
  have m3 : w.heap.size < w1.heap.size + 3 := by omega
  go_wp2_with fail
  refine (HC.out _).mono ?_; rintro e w2 ⟨rfl, rfl⟩
  go_wp2_with fail
  refine (HD.out _).mono ?_; rintro e w3 ⟨rfl, rfl⟩
  have tf := K.tt.frozen
  go_upto_region 12 with fail
  go_region
  replace K := (((((K.set12 (A + u) N).alloc (.cells #[.int .i64 P, .int .i64 Q] 73)).alloc (.cells #[.int .i64 P, .int .i64 Q] 73)).alloc (.cells #[.int .i64 A, .int .i64 N] 73)).alloc (.cells #[.int .i64 (A + u), .int .i64 N] 73)).drew
  generalize ((((((w1.setCell ⟨w.heap.size, 1, none⟩ (.int .i64 (A + u))).setCell ⟨w.heap.size, 2, none⟩ (.int .i64 N)).alloc (.cells #[.int .i64 P, .int .i64 Q] 73)).alloc (.cells #[.int .i64 P, .int .i64 Q] 73)).alloc (.cells #[.int .i64 A, .int .i64 N] 73)).alloc (.cells #[.int .i64 (A + u), .int .i64 N] 73)).drew = Wf at *
  clear x0 x1 x2 x3 z0 z1 z2 z3 zf tf
  obtain ⟨y0, y1, y2, y3⟩ := K.cells
  dsimp only at y0 y1 y2 y3
  obtain ⟨u0, u1, u2, u3⟩ := K.rcells
  have uf := K.res.frozen
  obtain ⟨hfin, hbf⟩ := K.put ⟨k, A + u, N, o⟩
  unfold putT at hfin hbf
  dsimp only at hfin hbf
  go_wp2_with fail
  exact bodyPost_ret (v := .tuple #[.agg #[.int .i64 k, .int .i64 (A + u), .int .i64 N, .int .i64 o], .int .i64 0]) (by simp [results, Try.results25, go_sem, hfin.c4]) rfl ⟨rfl, hbf⟩
set_option maxHeartbeats 4000000 in
theorem shift_c {k d n o u v : Int} (h : Mom.Ok k d n o) (hu : Mom.i64 u) (hv : Mom.i64 v) (h1 : k ≠ 1) (h2 : k ≠ 2) (w : World) :
    Calls Try.prog 25 #[.agg #[.int .i64 k, .int .i64 d, .int .i64 n, .int .i64 o], .int .i64 u, .int .i64 v] w fun e w' => e = .returned (.tuple #[Mom.ag (Mom.shE k (Mom.shD ⟨k, d, n, o⟩ u v) (Mom.shN ⟨k, d, n, o⟩ v) o).1, .int .i64 (Mom.shE k (Mom.shD ⟨k, d, n, o⟩ u v) (Mom.shN ⟨k, d, n, o⟩ v) o).2]) ∧ Below w.heap.size w w' := by
  have HV := Lib.hid (valid_any k d n o)
  rw [decide_eq_true h] at HV
  have K := ZK.new w ⟨k, d, n, o⟩
  obtain ⟨x0, x1, x2, x3⟩ := K.cells
  dsimp only at x0 x1 x2 x3
  have hb := h.1
  unfold Mom.i64 at hu hv

  have hP : -106752 ≤ Mom.dD 0 v ∧ Mom.dD 0 v ≤ 106752 := by unfold Mom.dD; omega
  have hQ : 0 ≤ Mom.dN v ∧ Mom.dN v < 86400000000000 := by unfold Mom.dN; omega
  have HC := Lib.hid (carry_world 0 v (by omega) hv)
  have HD := Lib.hid (carry_world (d + Mom.dD 0 v) (n + Mom.dN v) (by omega) (by unfold Mom.i64; omega))
  have hA : Mom.shD ⟨k, d, n, o⟩ u v = Mom.dD (d + Mom.dD 0 v) (n + Mom.dN v) + u := by unfold Mom.shD Mom.dD Mom.dN; dsimp only; omega
  have hN : Mom.shN ⟨k, d, n, o⟩ v = Mom.dN (n + Mom.dN v) := by unfold Mom.shN Mom.dN; dsimp only; omega
  have hR : -200000 ≤ Mom.dD (d + Mom.dD 0 v) (n + Mom.dN v) ∧ Mom.dD (d + Mom.dD 0 v) (n + Mom.dN v) ≤ 4000000 := by unfold Mom.dD Mom.dN; omega
  unfold Mom.sp at HC HD
  rw [hA, hN]
  clear hA hN h
  obtain ⟨_, _, b1, b2, b3, b4, b5, b6⟩ := hb
  obtain ⟨u1, u2⟩ := hu
  obtain ⟨v1, v2⟩ := hv
  obtain ⟨p1, p2⟩ := hP
  obtain ⟨q1, q2⟩ := hQ
  obtain ⟨r1, r2⟩ := hR
  generalize Mom.dD (d + Mom.dD 0 v) (n + Mom.dN v) = A at *
  generalize Mom.dN (n + Mom.dN v) = N at *
  generalize Mom.dD 0 v = P at *
  generalize Mom.dN v = Q at *
  have d1 : (k == 1) = false := beq_eq_false_iff_ne.2 h1
  have d3 : (k == 2) = false := beq_eq_false_iff_ne.2 h2
  have HK := Lib.hid (And.intro h1 h2)
  clear h1 h2
  by_cases c1 : u < -1099511627776
  · rw [Mom.shE_bad (by have := HK.out; omega)]
    unfold Mom.ag Mom.tz
    dsimp only
    go_enter Try.func25, Try.ntmps25
    go_wp2_with fail
    refine (HV.out _).mono ?_; rintro e w1 ⟨rfl, hb1⟩
    replace K := K.call hb1
    clear hb1 x0 x1 x2 x3
    obtain ⟨x0, x1, x2, x3⟩ := K.cells
    obtain ⟨z0, z1, z2, z3⟩ := K.rcells
    dsimp only at x0 x1 x2 x3
    have zf := K.res.frozen
    have l0 : w.heap.size + 1 < w1.heap.size := K.res.lt
    have m0 : w.heap.size < w1.heap.size := K.tt.lt
    have l1 : w.heap.size + 1 < w1.heap.size + 1 := by omega
    have m1 : w.heap.size < w1.heap.size + 1 := by omega
    have l2 : w.heap.size + 1 < w1.heap.size + 2 := by omega
    have m2 : w.heap.size < w1.heap.size + 2 := by omega
    have l3 : w.heap.size + 1 < w1.heap.size + 3 := by omega
    have m3 : w.heap.size < w1.heap.size + 3 := by omega
    go_wp2_with fail
    refine (HC.out _).mono ?_; rintro e w2 ⟨rfl, rfl⟩
    go_wp2_with fail
    refine (HD.out _).mono ?_; rintro e w3 ⟨rfl, rfl⟩
    go_upto_region 8 with fail
    replace K := ((((K.alloc (.cells #[.int .i64 P, .int .i64 Q] 73)).alloc (.cells #[.int .i64 P, .int .i64 Q] 73)).alloc (.cells #[.int .i64 A, .int .i64 N] 73)).alloc (.cells #[.int .i64 A, .int .i64 N] 73))
    generalize ((((w1.alloc (.cells #[.int .i64 P, .int .i64 Q] 73)).alloc (.cells #[.int .i64 P, .int .i64 Q] 73)).alloc (.cells #[.int .i64 A, .int .i64 N] 73)).alloc (.cells #[.int .i64 A, .int .i64 N] 73)) = Wf at *
    clear x0 x1 x2 x3 z0 z1 z2 z3 zf
    obtain ⟨z0, z1, z2, z3⟩ := K.rcells
    have zf := K.res.frozen
    obtain ⟨hfin, hbf⟩ := K.put Mom.tz
    unfold putT Mom.tz at hfin hbf
    go_wp2_with fail
    exact bodyPost_ret (v := .tuple #[.agg #[.int .i64 0, .int .i64 0, .int .i64 0, .int .i64 0], .int .i64 2]) (by simp [results, Try.results25, go_sem, hfin.c4]) rfl ⟨rfl, hbf⟩
  by_cases c2 : 1099511627776 < u
  · rw [Mom.shE_bad (by have := HK.out; omega)]
    unfold Mom.ag Mom.tz
    dsimp only
    go_enter Try.func25, Try.ntmps25
    go_wp2_with fail
    refine (HV.out _).mono ?_; rintro e w1 ⟨rfl, hb1⟩
    replace K := K.call hb1
    clear hb1 x0 x1 x2 x3
    obtain ⟨x0, x1, x2, x3⟩ := K.cells
    obtain ⟨z0, z1, z2, z3⟩ := K.rcells
    dsimp only at x0 x1 x2 x3
    have zf := K.res.frozen
    have l0 : w.heap.size + 1 < w1.heap.size := K.res.lt
    have m0 : w.heap.size < w1.heap.size := K.tt.lt
    have l1 : w.heap.size + 1 < w1.heap.size + 1 := by omega
    have m1 : w.heap.size < w1.heap.size + 1 := by omega
    have l2 : w.heap.size + 1 < w1.heap.size + 2 := by omega
    have m2 : w.heap.size < w1.heap.size + 2 := by omega
    have l3 : w.heap.size + 1 < w1.heap.size + 3 := by omega
    have m3 : w.heap.size < w1.heap.size + 3 := by omega
    go_wp2_with fail
    refine (HC.out _).mono ?_; rintro e w2 ⟨rfl, rfl⟩
    go_wp2_with fail
    refine (HD.out _).mono ?_; rintro e w3 ⟨rfl, rfl⟩
    go_upto_region 8 with fail
    replace K := ((((K.alloc (.cells #[.int .i64 P, .int .i64 Q] 73)).alloc (.cells #[.int .i64 P, .int .i64 Q] 73)).alloc (.cells #[.int .i64 A, .int .i64 N] 73)).alloc (.cells #[.int .i64 A, .int .i64 N] 73))
    generalize ((((w1.alloc (.cells #[.int .i64 P, .int .i64 Q] 73)).alloc (.cells #[.int .i64 P, .int .i64 Q] 73)).alloc (.cells #[.int .i64 A, .int .i64 N] 73)).alloc (.cells #[.int .i64 A, .int .i64 N] 73)) = Wf at *
    clear x0 x1 x2 x3 z0 z1 z2 z3 zf
    obtain ⟨z0, z1, z2, z3⟩ := K.rcells
    have zf := K.res.frozen
    obtain ⟨hfin, hbf⟩ := K.put Mom.tz
    unfold putT Mom.tz at hfin hbf
    go_wp2_with fail
    exact bodyPost_ret (v := .tuple #[.agg #[.int .i64 0, .int .i64 0, .int .i64 0, .int .i64 0], .int .i64 2]) (by simp [results, Try.results25, go_sem, hfin.c4]) rfl ⟨rfl, hbf⟩
  by_cases c3 : A + u < 0
  · rw [Mom.shE_bad (by have := HK.out; omega)]
    unfold Mom.ag Mom.tz
    dsimp only
    go_enter Try.func25, Try.ntmps25
    go_wp2_with fail
    refine (HV.out _).mono ?_; rintro e w1 ⟨rfl, hb1⟩
    replace K := K.call hb1
    clear hb1 x0 x1 x2 x3
    obtain ⟨x0, x1, x2, x3⟩ := K.cells
    obtain ⟨z0, z1, z2, z3⟩ := K.rcells
    dsimp only at x0 x1 x2 x3
    have zf := K.res.frozen
    have l0 : w.heap.size + 1 < w1.heap.size := K.res.lt
    have m0 : w.heap.size < w1.heap.size := K.tt.lt
    have l1 : w.heap.size + 1 < w1.heap.size + 1 := by omega
    have m1 : w.heap.size < w1.heap.size + 1 := by omega
    have l2 : w.heap.size + 1 < w1.heap.size + 2 := by omega
    have m2 : w.heap.size < w1.heap.size + 2 := by omega
    have l3 : w.heap.size + 1 < w1.heap.size + 3 := by omega
    have m3 : w.heap.size < w1.heap.size + 3 := by omega
    go_wp2_with fail
    refine (HC.out _).mono ?_; rintro e w2 ⟨rfl, rfl⟩
    go_wp2_with fail
    refine (HD.out _).mono ?_; rintro e w3 ⟨rfl, rfl⟩
    go_upto_region 11 with fail
    replace K := ((((K.alloc (.cells #[.int .i64 P, .int .i64 Q] 73)).alloc (.cells #[.int .i64 P, .int .i64 Q] 73)).alloc (.cells #[.int .i64 A, .int .i64 N] 73)).alloc (.cells #[.int .i64 (A + u), .int .i64 N] 73))
    generalize ((((w1.alloc (.cells #[.int .i64 P, .int .i64 Q] 73)).alloc (.cells #[.int .i64 P, .int .i64 Q] 73)).alloc (.cells #[.int .i64 A, .int .i64 N] 73)).alloc (.cells #[.int .i64 (A + u), .int .i64 N] 73)) = Wf at *
    clear x0 x1 x2 x3 z0 z1 z2 z3 zf
    obtain ⟨z0, z1, z2, z3⟩ := K.rcells
    have zf := K.res.frozen
    obtain ⟨hfin, hbf⟩ := K.put Mom.tz
    unfold putT Mom.tz at hfin hbf
    go_wp2_with fail
    exact bodyPost_ret (v := .tuple #[.agg #[.int .i64 0, .int .i64 0, .int .i64 0, .int .i64 0], .int .i64 2]) (by simp [results, Try.results25, go_sem, hfin.c4]) rfl ⟨rfl, hbf⟩
  by_cases c4 : 3652058 < A + u
  · rw [Mom.shE_bad (by have := HK.out; omega)]
    unfold Mom.ag Mom.tz
    dsimp only
    go_enter Try.func25, Try.ntmps25
    go_wp2_with fail
    refine (HV.out _).mono ?_; rintro e w1 ⟨rfl, hb1⟩
    replace K := K.call hb1
    clear hb1 x0 x1 x2 x3
    obtain ⟨x0, x1, x2, x3⟩ := K.cells
    obtain ⟨z0, z1, z2, z3⟩ := K.rcells
    dsimp only at x0 x1 x2 x3
    have zf := K.res.frozen
    have l0 : w.heap.size + 1 < w1.heap.size := K.res.lt
    have m0 : w.heap.size < w1.heap.size := K.tt.lt
    have l1 : w.heap.size + 1 < w1.heap.size + 1 := by omega
    have m1 : w.heap.size < w1.heap.size + 1 := by omega
    have l2 : w.heap.size + 1 < w1.heap.size + 2 := by omega
    have m2 : w.heap.size < w1.heap.size + 2 := by omega
    have l3 : w.heap.size + 1 < w1.heap.size + 3 := by omega
    have m3 : w.heap.size < w1.heap.size + 3 := by omega
    go_wp2_with fail
    refine (HC.out _).mono ?_; rintro e w2 ⟨rfl, rfl⟩
    go_wp2_with fail
    refine (HD.out _).mono ?_; rintro e w3 ⟨rfl, rfl⟩
    go_upto_region 11 with fail
    replace K := ((((K.alloc (.cells #[.int .i64 P, .int .i64 Q] 73)).alloc (.cells #[.int .i64 P, .int .i64 Q] 73)).alloc (.cells #[.int .i64 A, .int .i64 N] 73)).alloc (.cells #[.int .i64 (A + u), .int .i64 N] 73))
    generalize ((((w1.alloc (.cells #[.int .i64 P, .int .i64 Q] 73)).alloc (.cells #[.int .i64 P, .int .i64 Q] 73)).alloc (.cells #[.int .i64 A, .int .i64 N] 73)).alloc (.cells #[.int .i64 (A + u), .int .i64 N] 73)) = Wf at *
    clear x0 x1 x2 x3 z0 z1 z2 z3 zf
    obtain ⟨z0, z1, z2, z3⟩ := K.rcells
    have zf := K.res.frozen
    obtain ⟨hfin, hbf⟩ := K.put Mom.tz
    unfold putT Mom.tz at hfin hbf
    go_wp2_with fail
    exact bodyPost_ret (v := .tuple #[.agg #[.int .i64 0, .int .i64 0, .int .i64 0, .int .i64 0], .int .i64 2]) (by simp [results, Try.results25, go_sem, hfin.c4]) rfl ⟨rfl, hbf⟩
  rw [Mom.shE_ok (by have := HK.out; omega)]
  unfold Mom.ag
  dsimp only
  go_enter Try.func25, Try.ntmps25
  go_wp2_with fail
  refine (HV.out _).mono ?_; rintro e w1 ⟨rfl, hb1⟩
  replace K := K.call hb1
  clear hb1 x0 x1 x2 x3
  obtain ⟨x0, x1, x2, x3⟩ := K.cells
  obtain ⟨z0, z1, z2, z3⟩ := K.rcells
  dsimp only at x0 x1 x2 x3
  have zf := K.res.frozen
  have l0 : w.heap.size + 1 < w1.heap.size := K.res.lt
  have m0 : w.heap.size < w1.heap.size := K.tt.lt
  have l1 : w.heap.size + 1 < w1.heap.size + 1 := by omega
  have m1 : w.heap.size < w1.heap.size + 1 := by omega
  have l2 : w.heap.size + 1 < w1.heap.size + 2 := by omega
  have m2 : w.heap.size < w1.heap.size + 2 := by omega
  have l3 : w.heap.size + 1 < w1.heap.size + 3 := by omega
  have m3 : w.heap.size < w1.heap.size + 3 := by omega
  go_wp2_with fail
  refine (HC.out _).mono ?_; rintro e w2 ⟨rfl, rfl⟩
  go_wp2_with fail
  refine (HD.out _).mono ?_; rintro e w3 ⟨rfl, rfl⟩
  have tf := K.tt.frozen
  go_upto_region 12 with fail
  go_region
  replace K := (((((K.set12 (A + u) N).alloc (.cells #[.int .i64 P, .int .i64 Q] 73)).alloc (.cells #[.int .i64 P, .int .i64 Q] 73)).alloc (.cells #[.int .i64 A, .int .i64 N] 73)).alloc (.cells #[.int .i64 (A + u), .int .i64 N] 73)).drew
  generalize ((((((w1.setCell ⟨w.heap.size, 1, none⟩ (.int .i64 (A + u))).setCell ⟨w.heap.size, 2, none⟩ (.int .i64 N)).alloc (.cells #[.int .i64 P, .int .i64 Q] 73)).alloc (.cells #[.int .i64 P, .int .i64 Q] 73)).alloc (.cells #[.int .i64 A, .int .i64 N] 73)).alloc (.cells #[.int .i64 (A + u), .int .i64 N] 73)).drew = Wf at *
  clear x0 x1 x2 x3 z0 z1 z2 z3 zf tf
  obtain ⟨y0, y1, y2, y3⟩ := K.cells
  dsimp only at y0 y1 y2 y3
  obtain ⟨u0, u1, u2, u3⟩ := K.rcells
  have uf := K.res.frozen
  obtain ⟨hfin, hbf⟩ := K.put ⟨k, A + u, N, o⟩
  unfold putT at hfin hbf
  dsimp only at hfin hbf
  go_wp2_with fail
  exact bodyPost_ret (v := .tuple #[.agg #[.int .i64 k, .int .i64 (A + u), .int .i64 N, .int .i64 o], .int .i64 0]) (by simp [results, Try.results25, go_sem, hfin.c4]) rfl ⟨rfl, hbf⟩
theorem shift_any (t : Mom.Tm) (u v : Int) (hu : Mom.i64 u) (hv : Mom.i64 v) (w : World) :
    Calls Try.prog 25 #[Mom.ag t, .int .i64 u, .int .i64 v] w fun e w' => e = .returned (.tuple #[Mom.ag (Mom.shift t u v).1, .int .i64 (Mom.shift t u v).2]) ∧ Below w.heap.size w w' := by
  unfold Mom.shift
  by_cases h : Mom.Ok t.k t.d t.n t.o
  case neg => rw [if_pos h]; exact shift_out h u v w
  rw [if_neg (fun g => g h)]
  by_cases g : (t.k = 1 ∧ v ≠ 0) ∨ (t.k = 2 ∧ u ≠ 0)
  · rw [if_pos g]
    rcases g with ⟨g1, g2⟩ | ⟨g1, g2⟩
    · exact shift_kind1 h u v g1 g2 w
    · exact shift_kind2 h u v g1 g2 w
  rw [if_neg g]
  by_cases k1 : t.k = 1
  · exact shift_a h hu hv k1 (by omega) w
  by_cases k2 : t.k = 2
  · exact shift_b h hu hv k2 (by omega) w
  exact shift_c h hu hv k1 k2 w
end Go.Proofs.Ythbjkibclbgjoaa
