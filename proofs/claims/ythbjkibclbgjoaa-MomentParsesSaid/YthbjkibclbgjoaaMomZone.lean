/- Times: the same instant with another offset. -/
import Derived.Test.YthbjkibclbgjoaaMomSplit
namespace Go.Proofs.Ythbjkibclbgjoaa
open Go.RowKit

namespace Mom
def zone (t : Tm) (f : Int) : Tm × Int :=
  if ¬ Ok t.k t.d t.n t.o then (tz, 1)
  else if t.k ≠ 4 then (tz, 6)
  else if f < -1439 ∨ 1439 < f then (tz, 2)
  else if dD t.d (t.n + (f - t.o) * 60000000000) < 0 ∨ 3652058 < dD t.d (t.n + (f - t.o) * 60000000000) then (tz, 2)
  else (⟨4, dD t.d (t.n + (f - t.o) * 60000000000), dN (t.n + (f - t.o) * 60000000000), f⟩, 0)
end Mom
/-- A time, a result that is still empty, and what lay ahead. -/
structure ZK (w : World) (t : Mom.Tm) (W : World) : Prop where
  tt : Whole W w.heap.size 23 #[.int .i64 t.k, .int .i64 t.d, .int .i64 t.n, .int .i64 t.o]
  res : Whole W (w.heap.size + 1) 23 #[.int .i64 0, .int .i64 0, .int .i64 0, .int .i64 0]
  below : Below w.heap.size w W
theorem ZK.new (w : World) (t : Mom.Tm) : ZK w t ((w.alloc (.cells #[.int .i64 t.k, .int .i64 t.d, .int .i64 t.n, .int .i64 t.o] 23)).alloc (.cells #[.int .i64 0, .int .i64 0, .int .i64 0, .int .i64 0] 23)) := by
  refine ⟨(Whole.new w _ _).alloc _, ?_, ((Below.refl w.heap.size w).alloc (Nat.le_refl _) _).alloc (by simp) _⟩
  have := Whole.new (w.alloc (.cells #[.int .i64 t.k, .int .i64 t.d, .int .i64 t.n, .int .i64 t.o] 23)) 23 #[.int .i64 0, .int .i64 0, .int .i64 0, .int .i64 0]
  rwa [World.size_alloc] at this
section
variable {w W W' : World} {t : Mom.Tm}
theorem ZK.call (h : ZK w t W) (hb : Below W.heap.size W W') : ZK w t W' := ⟨h.tt.below hb h.tt.lt, h.res.below hb h.res.lt, below_then h.below hb⟩
theorem ZK.cells (h : ZK w t W) : W.cell? ⟨w.heap.size, 0, none⟩ = some (.int .i64 t.k) ∧ W.cell? ⟨w.heap.size, 1, none⟩ = some (.int .i64 t.d) ∧ W.cell? ⟨w.heap.size, 2, none⟩ = some (.int .i64 t.n) ∧ W.cell? ⟨w.heap.size, 3, none⟩ = some (.int .i64 t.o) := h.tt.c4
theorem ZK.rcells (h : ZK w t W) : W.cell? ⟨w.heap.size + 1, 0, none⟩ = some (.int .i64 0) ∧ W.cell? ⟨w.heap.size + 1, 1, none⟩ = some (.int .i64 0) ∧ W.cell? ⟨w.heap.size + 1, 2, none⟩ = some (.int .i64 0) ∧ W.cell? ⟨w.heap.size + 1, 3, none⟩ = some (.int .i64 0) := h.res.c4
/-- The world with a result. -/
def putT (W : World) (B : Nat) (u : Mom.Tm) : World := (((W.setCell ⟨B, 0, none⟩ (.int .i64 u.k)).setCell ⟨B, 1, none⟩ (.int .i64 u.d)).setCell ⟨B, 2, none⟩ (.int .i64 u.n)).setCell ⟨B, 3, none⟩ (.int .i64 u.o)
theorem ZK.put (h : ZK w t W) (u : Mom.Tm) : Whole (putT W (w.heap.size + 1) u) (w.heap.size + 1) 23 #[.int .i64 u.k, .int .i64 u.d, .int .i64 u.n, .int .i64 u.o] ∧ Below w.heap.size w (putT W (w.heap.size + 1) u) :=
  ⟨h.res.s4 _ _ _ _, (((h.below.setCell (p := ⟨w.heap.size + 1, 0, none⟩) (by simp) _).setCell (p := ⟨w.heap.size + 1, 1, none⟩) (by simp) _).setCell (p := ⟨w.heap.size + 1, 2, none⟩) (by simp) _).setCell (p := ⟨w.heap.size + 1, 3, none⟩) (by simp) _⟩
end
set_option maxHeartbeats 2000000 in
theorem zone_any (t : Mom.Tm) (f : Int) (w : World) :
    Calls Try.prog 23 #[Mom.ag t, .int .i64 f] w fun e w' => e = .returned (.tuple #[Mom.ag (Mom.zone t f).1, .int .i64 (Mom.zone t f).2]) ∧ Below w.heap.size w w' := by
  obtain ⟨k, d, n, o⟩ := t
  have HV := Lib.hid (valid_any k d n o)
  have K := ZK.new w ⟨k, d, n, o⟩
  unfold Mom.zone
  dsimp only
  obtain ⟨x0, x1, x2, x3⟩ := K.cells
  dsimp only at x0 x1 x2 x3
  by_cases h : Mom.Ok k d n o
  case neg =>
    rw [if_pos h]
    rw [decide_eq_false h] at HV
    clear h
    unfold Mom.ag Mom.tz
    dsimp only
    go_enter Try.func23, Try.ntmps23
    go_wp2_with fail
    refine (HV.out _).mono ?_; rintro e w1 ⟨rfl, hb1⟩
    replace K := K.call hb1
    clear hb1 x0 x1 x2 x3
    obtain ⟨x0, x1, x2, x3⟩ := K.cells
    obtain ⟨z0, z1, z2, z3⟩ := K.rcells
    dsimp only at x0 x1 x2 x3
    have zf := K.res.frozen
    obtain ⟨hfin, hbf⟩ := K.put Mom.tz
    unfold putT Mom.tz at hfin hbf
    go_wp2_with fail
    exact bodyPost_ret (v := .tuple #[.agg #[.int .i64 0, .int .i64 0, .int .i64 0, .int .i64 0], .int .i64 1]) (by simp [results, Try.results23, go_sem, hfin.c4]) rfl ⟨rfl, hbf⟩
  rw [if_neg (fun g => g h)]
  rw [decide_eq_true h] at HV
  by_cases h4 : k = 4
  case neg =>
    rw [if_pos h4]
    unfold Mom.ag Mom.tz
    dsimp only
    clear h
    go_enter Try.func23, Try.ntmps23
    go_wp2_with fail
    refine (HV.out _).mono ?_; rintro e w1 ⟨rfl, hb1⟩
    replace K := K.call hb1
    clear hb1 x0 x1 x2 x3
    obtain ⟨x0, x1, x2, x3⟩ := K.cells
    obtain ⟨z0, z1, z2, z3⟩ := K.rcells
    dsimp only at x0 x1 x2 x3
    have zf := K.res.frozen
    obtain ⟨hfin, hbf⟩ := K.put Mom.tz
    unfold putT Mom.tz at hfin hbf
    go_wp2_with fail
    exact bodyPost_ret (v := .tuple #[.agg #[.int .i64 0, .int .i64 0, .int .i64 0, .int .i64 0], .int .i64 6]) (by simp [results, Try.results23, go_sem, hfin.c4]) rfl ⟨rfl, hbf⟩
  rw [if_neg (fun g => g h4)]
  subst h4
  by_cases f1 : f < -1439
  · rw [if_pos (Or.inl f1)]
    unfold Mom.ag Mom.tz
    dsimp only
    clear h
    go_enter Try.func23, Try.ntmps23
    go_wp2_with fail
    refine (HV.out _).mono ?_; rintro e w1 ⟨rfl, hb1⟩
    replace K := K.call hb1
    clear hb1 x0 x1 x2 x3
    obtain ⟨x0, x1, x2, x3⟩ := K.cells
    obtain ⟨z0, z1, z2, z3⟩ := K.rcells
    dsimp only at x0 x1 x2 x3
    have zf := K.res.frozen
    obtain ⟨hfin, hbf⟩ := K.put Mom.tz
    unfold putT Mom.tz at hfin hbf
    go_wp2_with fail
    exact bodyPost_ret (v := .tuple #[.agg #[.int .i64 0, .int .i64 0, .int .i64 0, .int .i64 0], .int .i64 2]) (by simp [results, Try.results23, go_sem, hfin.c4]) rfl ⟨rfl, hbf⟩
  by_cases f2 : 1439 < f
  · rw [if_pos (Or.inr f2)]
    unfold Mom.ag Mom.tz
    dsimp only
    clear h
    go_enter Try.func23, Try.ntmps23
    go_wp2_with fail
    refine (HV.out _).mono ?_; rintro e w1 ⟨rfl, hb1⟩
    replace K := K.call hb1
    clear hb1 x0 x1 x2 x3
    obtain ⟨x0, x1, x2, x3⟩ := K.cells
    obtain ⟨z0, z1, z2, z3⟩ := K.rcells
    dsimp only at x0 x1 x2 x3
    have zf := K.res.frozen
    obtain ⟨hfin, hbf⟩ := K.put Mom.tz
    unfold putT Mom.tz at hfin hbf
    go_wp2_with fail
    exact bodyPost_ret (v := .tuple #[.agg #[.int .i64 0, .int .i64 0, .int .i64 0, .int .i64 0], .int .i64 2]) (by simp [results, Try.results23, go_sem, hfin.c4]) rfl ⟨rfl, hbf⟩
  rw [if_neg (by omega)]
  have hb := h.1
  have HC := Lib.hid (carry_world d (n + (f - o) * 60000000000) (by omega) (by unfold Mom.i64; omega))
  unfold Mom.sp at HC
  obtain ⟨_, _, b1, b2, b3, b4, b5, b6⟩ := hb
  clear h
  generalize Mom.dD d (n + (f - o) * 60000000000) = A at *
  generalize Mom.dN (n + (f - o) * 60000000000) = B at *
  by_cases a1 : A < 0
  · rw [if_pos (Or.inl a1)]
    unfold Mom.ag Mom.tz
    dsimp only
    go_enter Try.func23, Try.ntmps23
    go_wp2_with fail
    refine (HV.out _).mono ?_; rintro e w1 ⟨rfl, hb1⟩
    replace K := K.call hb1
    clear hb1 x0 x1 x2 x3
    obtain ⟨x0, x1, x2, x3⟩ := K.cells
    obtain ⟨z0, z1, z2, z3⟩ := K.rcells
    dsimp only at x0 x1 x2 x3
    have zf := K.res.frozen
    have l0 : w.heap.size + 1 < w1.heap.size := K.res.lt
    have l1 : w.heap.size + 1 < w1.heap.size + 1 := by omega
    go_wp2_with fail
    refine (HC.out _).mono ?_; rintro e w2 ⟨rfl, rfl⟩
    obtain ⟨hfin, hbf⟩ := K.put Mom.tz
    unfold putT Mom.tz at hfin hbf
    dsimp only at hfin hbf
    replace hfin := (hfin.alloc (Mom.sob A B)).alloc (Mom.sob A B)
    replace hbf := (hbf.alloc hbf.size (Mom.sob A B)).alloc (Nat.le_trans hbf.size (by simp)) (Mom.sob A B)
    go_wp2_with fail
    exact bodyPost_ret (v := .tuple #[.agg #[.int .i64 0, .int .i64 0, .int .i64 0, .int .i64 0], .int .i64 2]) (by simp [results, Try.results23, go_sem, hfin.c4]) rfl ⟨rfl, hbf⟩
  by_cases a2 : 3652058 < A
  · rw [if_pos (Or.inr a2)]
    unfold Mom.ag Mom.tz
    dsimp only
    go_enter Try.func23, Try.ntmps23
    go_wp2_with fail
    refine (HV.out _).mono ?_; rintro e w1 ⟨rfl, hb1⟩
    replace K := K.call hb1
    clear hb1 x0 x1 x2 x3
    obtain ⟨x0, x1, x2, x3⟩ := K.cells
    obtain ⟨z0, z1, z2, z3⟩ := K.rcells
    dsimp only at x0 x1 x2 x3
    have zf := K.res.frozen
    have l0 : w.heap.size + 1 < w1.heap.size := K.res.lt
    have l1 : w.heap.size + 1 < w1.heap.size + 1 := by omega
    go_wp2_with fail
    refine (HC.out _).mono ?_; rintro e w2 ⟨rfl, rfl⟩
    obtain ⟨hfin, hbf⟩ := K.put Mom.tz
    unfold putT Mom.tz at hfin hbf
    dsimp only at hfin hbf
    replace hfin := (hfin.alloc (Mom.sob A B)).alloc (Mom.sob A B)
    replace hbf := (hbf.alloc hbf.size (Mom.sob A B)).alloc (Nat.le_trans hbf.size (by simp)) (Mom.sob A B)
    go_wp2_with fail
    exact bodyPost_ret (v := .tuple #[.agg #[.int .i64 0, .int .i64 0, .int .i64 0, .int .i64 0], .int .i64 2]) (by simp [results, Try.results23, go_sem, hfin.c4]) rfl ⟨rfl, hbf⟩
  rw [if_neg (by omega)]
  unfold Mom.ag
  dsimp only
  go_enter Try.func23, Try.ntmps23
  go_wp2_with fail
  refine (HV.out _).mono ?_; rintro e w1 ⟨rfl, hb1⟩
  replace K := K.call hb1
  clear hb1 x0 x1 x2 x3
  obtain ⟨x0, x1, x2, x3⟩ := K.cells
  obtain ⟨z0, z1, z2, z3⟩ := K.rcells
  dsimp only at x0 x1 x2 x3
  have zf := K.res.frozen
  have l0 : w.heap.size + 1 < w1.heap.size := K.res.lt
  have l1 : w.heap.size + 1 < w1.heap.size + 1 := by omega
  go_wp2_with fail
  refine (HC.out _).mono ?_; rintro e w2 ⟨rfl, rfl⟩
  obtain ⟨hfin, hbf⟩ := K.put ⟨4, A, B, f⟩
  unfold putT at hfin hbf
  dsimp only at hfin hbf
  replace hfin := (hfin.alloc (Mom.sob A B)).alloc (Mom.sob A B)
  replace hbf := (hbf.alloc hbf.size (Mom.sob A B)).alloc (Nat.le_trans hbf.size (by simp)) (Mom.sob A B)
  go_wp2_with fail
  exact bodyPost_ret (v := .tuple #[.agg #[.int .i64 4, .int .i64 A, .int .i64 B, .int .i64 f], .int .i64 0]) (by simp [results, Try.results23, go_sem, hfin.c4]) rfl ⟨rfl, hbf⟩
set_option maxHeartbeats 2000000 in
theorem rzone_any (t : Mom.Tm) (f : Int) (w : World) :
    Calls Try.prog 24 #[Mom.ag t, .int .i64 f] w fun e w' => e = .returned (.tuple #[Mom.ag (Mom.zone t f).1, .int .i64 (Mom.zone t f).2]) ∧ Below w.heap.size w w' := by
  obtain ⟨k, d, n, o⟩ := t
  have HV := Lib.hid (rvalid_any k d n o)
  have K := ZK.new w ⟨k, d, n, o⟩
  unfold Mom.zone
  dsimp only
  obtain ⟨x0, x1, x2, x3⟩ := K.cells
  dsimp only at x0 x1 x2 x3
  by_cases h : Mom.Ok k d n o
  case neg =>
    rw [if_pos h]
    rw [decide_eq_false h] at HV
    clear h
    unfold Mom.ag Mom.tz
    dsimp only
    go_enter Try.func24, Try.ntmps24
    go_wp2_with fail
    refine (HV.out _).mono ?_; rintro e w1 ⟨rfl, hb1⟩
    replace K := K.call hb1
    clear hb1 x0 x1 x2 x3
    obtain ⟨x0, x1, x2, x3⟩ := K.cells
    obtain ⟨z0, z1, z2, z3⟩ := K.rcells
    dsimp only at x0 x1 x2 x3
    have zf := K.res.frozen
    obtain ⟨hfin, hbf⟩ := K.put Mom.tz
    unfold putT Mom.tz at hfin hbf
    go_wp2_with fail
    exact bodyPost_ret (v := .tuple #[.agg #[.int .i64 0, .int .i64 0, .int .i64 0, .int .i64 0], .int .i64 1]) (by simp [results, Try.results24, go_sem, hfin.c4]) rfl ⟨rfl, hbf⟩
  rw [if_neg (fun g => g h)]
  rw [decide_eq_true h] at HV
  by_cases h4 : k = 4
  case neg =>
    rw [if_pos h4]
    unfold Mom.ag Mom.tz
    dsimp only
    clear h
    go_enter Try.func24, Try.ntmps24
    go_wp2_with fail
    refine (HV.out _).mono ?_; rintro e w1 ⟨rfl, hb1⟩
    replace K := K.call hb1
    clear hb1 x0 x1 x2 x3
    obtain ⟨x0, x1, x2, x3⟩ := K.cells
    obtain ⟨z0, z1, z2, z3⟩ := K.rcells
    dsimp only at x0 x1 x2 x3
    have zf := K.res.frozen
    obtain ⟨hfin, hbf⟩ := K.put Mom.tz
    unfold putT Mom.tz at hfin hbf
    go_wp2_with fail
    exact bodyPost_ret (v := .tuple #[.agg #[.int .i64 0, .int .i64 0, .int .i64 0, .int .i64 0], .int .i64 6]) (by simp [results, Try.results24, go_sem, hfin.c4]) rfl ⟨rfl, hbf⟩
  rw [if_neg (fun g => g h4)]
  subst h4
  by_cases f1 : f < -1439
  · rw [if_pos (Or.inl f1)]
    unfold Mom.ag Mom.tz
    dsimp only
    clear h
    go_enter Try.func24, Try.ntmps24
    go_wp2_with fail
    refine (HV.out _).mono ?_; rintro e w1 ⟨rfl, hb1⟩
    replace K := K.call hb1
    clear hb1 x0 x1 x2 x3
    obtain ⟨x0, x1, x2, x3⟩ := K.cells
    obtain ⟨z0, z1, z2, z3⟩ := K.rcells
    dsimp only at x0 x1 x2 x3
    have zf := K.res.frozen
    obtain ⟨hfin, hbf⟩ := K.put Mom.tz
    unfold putT Mom.tz at hfin hbf
    go_wp2_with fail
    exact bodyPost_ret (v := .tuple #[.agg #[.int .i64 0, .int .i64 0, .int .i64 0, .int .i64 0], .int .i64 2]) (by simp [results, Try.results24, go_sem, hfin.c4]) rfl ⟨rfl, hbf⟩
  by_cases f2 : 1439 < f
  · rw [if_pos (Or.inr f2)]
    unfold Mom.ag Mom.tz
    dsimp only
    clear h
    go_enter Try.func24, Try.ntmps24
    go_wp2_with fail
    refine (HV.out _).mono ?_; rintro e w1 ⟨rfl, hb1⟩
    replace K := K.call hb1
    clear hb1 x0 x1 x2 x3
    obtain ⟨x0, x1, x2, x3⟩ := K.cells
    obtain ⟨z0, z1, z2, z3⟩ := K.rcells
    dsimp only at x0 x1 x2 x3
    have zf := K.res.frozen
    obtain ⟨hfin, hbf⟩ := K.put Mom.tz
    unfold putT Mom.tz at hfin hbf
    go_wp2_with fail
    exact bodyPost_ret (v := .tuple #[.agg #[.int .i64 0, .int .i64 0, .int .i64 0, .int .i64 0], .int .i64 2]) (by simp [results, Try.results24, go_sem, hfin.c4]) rfl ⟨rfl, hbf⟩
  rw [if_neg (by omega)]
  have hb := h.1
  have hm := Mom.ok_mom h
  have HM := Lib.hid (rmoment_ok h)
  have HC := Lib.hid (split_any (Mom.mD d n o) (Mom.mN n o + f * 60000000000) (by omega) (by omega))
  have e1 : Mom.dD (Mom.mD d n o) (Mom.mN n o + f * 60000000000) = Mom.dD d (n + (f - o) * 60000000000) := by unfold Mom.mD Mom.mN Mom.dD Mom.dN; omega
  have e2 : Mom.dN (Mom.mN n o + f * 60000000000) = Mom.dN (n + (f - o) * 60000000000) := by unfold Mom.mN Mom.dN; omega
  rw [e1, e2] at HC
  obtain ⟨_, b1, b2, b3, b4⟩ := hm
  clear h hb e1 e2
  generalize Mom.dD d (n + (f - o) * 60000000000) = A at *
  generalize Mom.dN (n + (f - o) * 60000000000) = B at *
  generalize Mom.mD d n o = X at *
  generalize Mom.mN n o = Y at *
  by_cases a1 : A < 0
  · rw [if_pos (Or.inl a1)]
    unfold Mom.ag Mom.tz
    dsimp only
    go_enter Try.func24, Try.ntmps24
    go_wp2_with fail
    refine (HV.out _).mono ?_; rintro e w1 ⟨rfl, hb1⟩
    replace K := K.call hb1
    clear hb1 x0 x1 x2 x3
    obtain ⟨x0, x1, x2, x3⟩ := K.cells
    obtain ⟨z0, z1, z2, z3⟩ := K.rcells
    dsimp only at x0 x1 x2 x3
    have zf := K.res.frozen
    go_wp2_with fail
    refine (HM.out _).mono ?_; rintro e w2 ⟨rfl, hb2⟩
    replace K := K.call hb2
    clear hb2 x0 x1 x2 x3 z0 z1 z2 z3 zf
    obtain ⟨z0, z1, z2, z3⟩ := K.rcells
    have zf := K.res.frozen
    go_wp2_with fail
    refine (HC.out _).mono ?_; rintro e w3 ⟨rfl, rfl⟩
    obtain ⟨hfin, hbf⟩ := K.put Mom.tz
    unfold putT Mom.tz at hfin hbf
    dsimp only at hfin hbf
    go_wp2_with fail
    exact bodyPost_ret (v := .tuple #[.agg #[.int .i64 0, .int .i64 0, .int .i64 0, .int .i64 0], .int .i64 2]) (by simp [results, Try.results24, go_sem, hfin.c4]) rfl ⟨rfl, hbf⟩
  by_cases a2 : 3652058 < A
  · rw [if_pos (Or.inr a2)]
    unfold Mom.ag Mom.tz
    dsimp only
    go_enter Try.func24, Try.ntmps24
    go_wp2_with fail
    refine (HV.out _).mono ?_; rintro e w1 ⟨rfl, hb1⟩
    replace K := K.call hb1
    clear hb1 x0 x1 x2 x3
    obtain ⟨x0, x1, x2, x3⟩ := K.cells
    obtain ⟨z0, z1, z2, z3⟩ := K.rcells
    dsimp only at x0 x1 x2 x3
    have zf := K.res.frozen
    go_wp2_with fail
    refine (HM.out _).mono ?_; rintro e w2 ⟨rfl, hb2⟩
    replace K := K.call hb2
    clear hb2 x0 x1 x2 x3 z0 z1 z2 z3 zf
    obtain ⟨z0, z1, z2, z3⟩ := K.rcells
    have zf := K.res.frozen
    go_wp2_with fail
    refine (HC.out _).mono ?_; rintro e w3 ⟨rfl, rfl⟩
    obtain ⟨hfin, hbf⟩ := K.put Mom.tz
    unfold putT Mom.tz at hfin hbf
    dsimp only at hfin hbf
    go_wp2_with fail
    exact bodyPost_ret (v := .tuple #[.agg #[.int .i64 0, .int .i64 0, .int .i64 0, .int .i64 0], .int .i64 2]) (by simp [results, Try.results24, go_sem, hfin.c4]) rfl ⟨rfl, hbf⟩
  rw [if_neg (by omega)]
  unfold Mom.ag
  dsimp only
  go_enter Try.func24, Try.ntmps24
  go_wp2_with fail
  refine (HV.out _).mono ?_; rintro e w1 ⟨rfl, hb1⟩
  replace K := K.call hb1
  clear hb1 x0 x1 x2 x3
  obtain ⟨x0, x1, x2, x3⟩ := K.cells
  obtain ⟨z0, z1, z2, z3⟩ := K.rcells
  dsimp only at x0 x1 x2 x3
  have zf := K.res.frozen
  go_wp2_with fail
  refine (HM.out _).mono ?_; rintro e w2 ⟨rfl, hb2⟩
  replace K := K.call hb2
  clear hb2 x0 x1 x2 x3 z0 z1 z2 z3 zf
  obtain ⟨z0, z1, z2, z3⟩ := K.rcells
  have zf := K.res.frozen
  go_wp2_with fail
  refine (HC.out _).mono ?_; rintro e w3 ⟨rfl, rfl⟩
  obtain ⟨hfin, hbf⟩ := K.put ⟨4, A, B, f⟩
  unfold putT at hfin hbf
  dsimp only at hfin hbf
  go_wp2_with fail
  exact bodyPost_ret (v := .tuple #[.agg #[.int .i64 4, .int .i64 A, .int .i64 B, .int .i64 f], .int .i64 0]) (by simp [results, Try.results24, go_sem, hfin.c4]) rfl ⟨rfl, hbf⟩
end Go.Proofs.Ythbjkibclbgjoaa
