/- Decimals: the order; the negative; differences. -/
import Derived.Test.YtcnfgcdbjofihaaDoorDecRingM
namespace Go.Proofs.YtcnfgcdbjofihaaDoor
open Go.RowKit

set_option maxHeartbeats 2000000 in
set_option maxRecDepth 100000 in
theorem size_any {a b : Dec.Dc} (ha : Dec.ok a) (hb : Dec.ok b) (w : World) :
    Calls Tryd.prog 67 #[Dec.ag a, Dec.ag b] w fun r w' => r = .returned (.int .i64 (Dig.cmp (Dec.al a b).1 (Dec.al a b).2.1)) ∧ Below w.heap.size w w' := by
  have HAL := Lib.hid (align_any ha hb)
  obtain ⟨s1, s2⟩ := Dec.al_size ha hb
  generalize Dec.al a b = L at *
  obtain ⟨X, Y, z⟩ := L
  dsimp only at *
  have HC := Lib.hid (dcmp_any (Dec.str_st (m := X) (by omega)) (Dec.str_st (m := Y) (by omega)))
  generalize Dig.cmp X Y = cc at *
  obtain ⟨n, m, e⟩ := a
  obtain ⟨n', m', e'⟩ := b
  unfold Dec.ag at *
  dsimp only at *
  clear ha hb s1 s2
  generalize Dig.st X = sx at *
  generalize Dig.st Y = sy at *
  generalize Dig.st m = x at *
  generalize Dig.st m' = y at *
  have K := B2.new w n x e n' y e'
  go_enter Tryd.func67, Tryd.ntmps67
  go_wp2_with fail
  refine (HAL.out _).mono ?_; rintro _ w1 ⟨rfl, hb1⟩
  replace K := K.call hb1
  clear hb1
  go_wp2_with fail
  refine (HC.out _).mono ?_; rintro _ w' ⟨rfl, rfl⟩
  go_wp2
  go_ret
  exact ⟨rfl, K.below⟩
set_option maxHeartbeats 2000000 in
set_option maxRecDepth 100000 in
theorem order_any {a b : Dec.Dc} (ha : Dec.ok a) (hb : Dec.ok b) (w : World) :
    Calls Tryd.prog 22 #[Dec.ag a, Dec.ag b] w fun r w' => r = .returned (.int .i64 (Dec.cmpR a b)) ∧ Below w.heap.size w w' := by
  have HAB := Lib.hid (size_any ha hb)
  have HBA := Lib.hid (size_any hb ha)
  unfold Dec.cmpR
  generalize Dig.cmp (Dec.al a b).1 (Dec.al a b).2.1 = c1 at *
  generalize Dig.cmp (Dec.al b a).1 (Dec.al b a).2.1 = c2 at *
  obtain ⟨n, m, e⟩ := a
  obtain ⟨n', m', e'⟩ := b
  unfold Dec.ag at *
  dsimp only at *
  clear ha hb
  generalize Dig.st m = x at *
  generalize Dig.st m' = y at *
  have K := B2.new w n x e n' y e'
  cases n <;> cases n' <;> simp only [if_true, if_false, Bool.false_eq_true]
  · go_enter Tryd.func22, Tryd.ntmps22
    go_wp2_with fail
    refine (HAB.out _).mono ?_; rintro _ w1 ⟨rfl, hb1⟩
    go_wp2
    go_ret
    exact ⟨rfl, (K.call hb1).below⟩
  · go_enter Tryd.func22, Tryd.ntmps22
    go_wp2_with fail
    go_ret
    exact ⟨rfl, K.below⟩
  · go_enter Tryd.func22, Tryd.ntmps22
    go_wp2_with fail
    go_ret
    exact ⟨rfl, K.below⟩
  · go_enter Tryd.func22, Tryd.ntmps22
    go_wp2_with fail
    refine (HBA.out _).mono ?_; rintro _ w1 ⟨rfl, hb1⟩
    go_wp2
    go_ret
    exact ⟨rfl, (K.call hb1).below⟩
set_option maxHeartbeats 2000000 in
set_option maxRecDepth 100000 in
theorem dneg_any (a : Dec.Dc) (w : World) :
    Calls Tryd.prog 38 #[Dec.ag a] w fun r w' => r = .returned (Dec.ag (Dec.negR a)) ∧ Below w.heap.size w w' := by
  obtain ⟨n, m, e⟩ := a
  unfold Dec.negR Dec.ag
  dsimp only
  by_cases h0 : m = 0
  · rw [if_pos h0, h0, Dec.st0]
    clear h0
    go_enter Tryd.func38, Tryd.ntmps38
    go_wp2
    exact bodyPost_ret (v := .agg #[.bool n, .string ⟨#[]⟩, .int .i64 e]) (by simp [results, Tryd.results38, go_sem]) rfl ⟨rfl, ((Below.refl w.heap.size w).alloc (Nat.le_refl _) _).alloc (by simp) _⟩
  · rw [if_neg h0]
    have ne := Dig.some_of (Dec.st_pos h0)
    dsimp only
    clear h0
    generalize Dig.st m = x at *
    go_enter Tryd.func38, Tryd.ntmps38
    go_wp2
    exact bodyPost_ret (v := .agg #[.bool (!n), .string x, .int .i64 e]) (by simp [results, Tryd.results38, go_sem]) rfl ⟨rfl, ((Below.refl w.heap.size w).alloc (Nat.le_refl _) _).alloc (by simp) _⟩
theorem add_leaf {a b : Dec.Dc} {rg : Bool} {rm : Nat} {re rr : Int} {q : ByteArray} (ha : Dec.ok a) (hb : Dec.ok b) (h : Dec.addR a b = (⟨rg, rm, re⟩, rr)) (hq : Dig.st rm = q) (w : World) :
    Calls Tryd.prog 23 #[Dec.ag a, Dec.ag b] w fun e w' => e = .returned (.tuple #[.agg #[.bool rg, .string q, .int .i64 re], .int .i64 rr]) ∧ Below w.heap.size w w' := by
  have := dadd_any ha hb w
  rw [h] at this
  unfold Dec.ag at this ⊢
  dsimp only at this
  rwa [hq] at this
set_option maxHeartbeats 4000000 in
set_option maxRecDepth 100000 in
theorem dsub_any {a b : Dec.Dc} (ha : Dec.ok a) (hb : Dec.ok b) (w : World) :
    Calls Tryd.prog 24 #[Dec.ag a, Dec.ag b] w fun r w' => r = .returned (.tuple #[Dec.ag (Dec.addR a (Dec.negR b)).1, .int .i64 (Dec.addR a (Dec.negR b)).2]) ∧ Below w.heap.size w w' := by
  have HN := Lib.hid (dneg_any b)
  obtain ⟨R, hR⟩ : ∃ R, Dec.addR a (Dec.negR b) = R := ⟨_, rfl⟩
  rw [hR]
  obtain ⟨⟨rg, rm, re⟩, rr⟩ := R
  obtain ⟨q, hq⟩ : ∃ q, Dig.st rm = q := ⟨_, rfl⟩
  have HA := Lib.hid (add_leaf ha (Dec.neg_ok hb) hR hq)
  generalize Dec.negR b = c at *
  clear hR ha hb
  obtain ⟨n, m, e⟩ := a
  obtain ⟨n', m', e'⟩ := b
  obtain ⟨n1, m1, e1⟩ := c
  unfold Dec.ag at *
  dsimp only at *
  rw [hq]
  clear hq
  generalize Dig.st m = x at *
  generalize Dig.st m' = y at *
  generalize Dig.st m1 = y1 at *
  have K := B3.new w n x e n' y e'
  obtain ⟨⟨x0, x1, x2⟩, ⟨y0, y1, y2⟩, z0, z1, z2⟩ := K.cells
  go_enter Tryd.func24, Tryd.ntmps24
  go_upto_region 1 with fail
  replace K := K.drew
  go_region_with (first
    | (go_at_call 38; refine (HN.out _).mono ?_; rintro _ w3 ⟨rfl, hb3⟩; replace K := K.call hb3; clear hb3 x0 x1 x2 y0 y1 y2 z0 z1 z2; obtain ⟨⟨x0, x1, x2⟩, ⟨y0, y1, y2⟩, z0, z1, z2⟩ := K.cells)
    | (go_at_call 23; refine (HA.out _).mono ?_; rintro _ w4 ⟨rfl, hb4⟩; replace K := K.call hb4; clear hb4 x0 x1 x2 y0 y1 y2 z0 z1 z2; obtain ⟨⟨x0, x1, x2⟩, ⟨y0, y1, y2⟩, z0, z1, z2⟩ := K.cells; have zf := K.res.frozen))
  all_goals
    obtain ⟨hfin, hbf⟩ := K.put (.bool rg) (.string q) (.int .i64 re)
    go_wp2
    exact bodyPost_ret (v := .tuple #[.agg #[.bool rg, .string q, .int .i64 re], .int .i64 rr]) (by simp [results, Tryd.results24, go_sem, hfin.c3]) rfl ⟨rfl, hbf⟩
end Go.Proofs.YtcnfgcdbjofihaaDoor
