/- Times: the law of order (printed by gen_momord.py). -/
import Derived.Test.YthbjkibclbgjoaaMomOrdM
import Derived.Deep.DeepCutAuto
namespace Go.Proofs.Ythbjkibclbgjoaa
open Go.RowKit

theorem keep_tri {B0 B1 B2 : Nat} {w W W' : World} {a0 a1 a2 a3 b0 b1 b2 b3 c0 c1 c2 c3 : Int} (hb : Below W.heap.size W W') (h : W.cell? ⟨B0, 0, none⟩ = some (.int .i64 a0) ∧ W.cell? ⟨B0, 1, none⟩ = some (.int .i64 a1) ∧ W.cell? ⟨B0, 2, none⟩ = some (.int .i64 a2) ∧ W.cell? ⟨B0, 3, none⟩ = some (.int .i64 a3) ∧ W.cell? ⟨B1, 0, none⟩ = some (.int .i64 b0) ∧ W.cell? ⟨B1, 1, none⟩ = some (.int .i64 b1) ∧ W.cell? ⟨B1, 2, none⟩ = some (.int .i64 b2) ∧ W.cell? ⟨B1, 3, none⟩ = some (.int .i64 b3) ∧ W.cell? ⟨B2, 0, none⟩ = some (.int .i64 c0) ∧ W.cell? ⟨B2, 1, none⟩ = some (.int .i64 c1) ∧ W.cell? ⟨B2, 2, none⟩ = some (.int .i64 c2) ∧ W.cell? ⟨B2, 3, none⟩ = some (.int .i64 c3) ∧ B0 < W.heap.size ∧ B1 < W.heap.size ∧ B2 < W.heap.size ∧ Below w.heap.size w W) : W'.cell? ⟨B0, 0, none⟩ = some (.int .i64 a0) ∧ W'.cell? ⟨B0, 1, none⟩ = some (.int .i64 a1) ∧ W'.cell? ⟨B0, 2, none⟩ = some (.int .i64 a2) ∧ W'.cell? ⟨B0, 3, none⟩ = some (.int .i64 a3) ∧ W'.cell? ⟨B1, 0, none⟩ = some (.int .i64 b0) ∧ W'.cell? ⟨B1, 1, none⟩ = some (.int .i64 b1) ∧ W'.cell? ⟨B1, 2, none⟩ = some (.int .i64 b2) ∧ W'.cell? ⟨B1, 3, none⟩ = some (.int .i64 b3) ∧ W'.cell? ⟨B2, 0, none⟩ = some (.int .i64 c0) ∧ W'.cell? ⟨B2, 1, none⟩ = some (.int .i64 c1) ∧ W'.cell? ⟨B2, 2, none⟩ = some (.int .i64 c2) ∧ W'.cell? ⟨B2, 3, none⟩ = some (.int .i64 c3) ∧ B0 < W'.heap.size ∧ B1 < W'.heap.size ∧ B2 < W'.heap.size ∧ Below w.heap.size w W' := by
  obtain ⟨x0, x1, x2, x3, y0, y1, y2, y3, z0, z1, z2, z3, l0, l1, l2, hbb⟩ := h
  have g0 : ∀ i, W'.cell? ⟨B0, i, none⟩ = W.cell? ⟨B0, i, none⟩ := fun i => hb.cell (p := ⟨B0, i, none⟩) l0
  have g1 : ∀ i, W'.cell? ⟨B1, i, none⟩ = W.cell? ⟨B1, i, none⟩ := fun i => hb.cell (p := ⟨B1, i, none⟩) l1
  have g2 : ∀ i, W'.cell? ⟨B2, i, none⟩ = W.cell? ⟨B2, i, none⟩ := fun i => hb.cell (p := ⟨B2, i, none⟩) l2
  exact ⟨(g0 0).trans x0, (g0 1).trans x1, (g0 2).trans x2, (g0 3).trans x3, (g1 0).trans y0, (g1 1).trans y1, (g1 2).trans y2, (g1 3).trans y3, (g2 0).trans z0, (g2 1).trans z1, (g2 2).trans z2, (g2 3).trans z3, Nat.lt_of_lt_of_le l0 hb.size, Nat.lt_of_lt_of_le l1 hb.size, Nat.lt_of_lt_of_le l2 hb.size, below_then hbb hb⟩
theorem tri_drew {B0 B1 B2 : Nat} {w W : World} {a0 a1 a2 a3 b0 b1 b2 b3 c0 c1 c2 c3 : Int} (h : W.cell? ⟨B0, 0, none⟩ = some (.int .i64 a0) ∧ W.cell? ⟨B0, 1, none⟩ = some (.int .i64 a1) ∧ W.cell? ⟨B0, 2, none⟩ = some (.int .i64 a2) ∧ W.cell? ⟨B0, 3, none⟩ = some (.int .i64 a3) ∧ W.cell? ⟨B1, 0, none⟩ = some (.int .i64 b0) ∧ W.cell? ⟨B1, 1, none⟩ = some (.int .i64 b1) ∧ W.cell? ⟨B1, 2, none⟩ = some (.int .i64 b2) ∧ W.cell? ⟨B1, 3, none⟩ = some (.int .i64 b3) ∧ W.cell? ⟨B2, 0, none⟩ = some (.int .i64 c0) ∧ W.cell? ⟨B2, 1, none⟩ = some (.int .i64 c1) ∧ W.cell? ⟨B2, 2, none⟩ = some (.int .i64 c2) ∧ W.cell? ⟨B2, 3, none⟩ = some (.int .i64 c3) ∧ B0 < W.heap.size ∧ B1 < W.heap.size ∧ B2 < W.heap.size ∧ Below w.heap.size w W) : W.drew.cell? ⟨B0, 0, none⟩ = some (.int .i64 a0) ∧ W.drew.cell? ⟨B0, 1, none⟩ = some (.int .i64 a1) ∧ W.drew.cell? ⟨B0, 2, none⟩ = some (.int .i64 a2) ∧ W.drew.cell? ⟨B0, 3, none⟩ = some (.int .i64 a3) ∧ W.drew.cell? ⟨B1, 0, none⟩ = some (.int .i64 b0) ∧ W.drew.cell? ⟨B1, 1, none⟩ = some (.int .i64 b1) ∧ W.drew.cell? ⟨B1, 2, none⟩ = some (.int .i64 b2) ∧ W.drew.cell? ⟨B1, 3, none⟩ = some (.int .i64 b3) ∧ W.drew.cell? ⟨B2, 0, none⟩ = some (.int .i64 c0) ∧ W.drew.cell? ⟨B2, 1, none⟩ = some (.int .i64 c1) ∧ W.drew.cell? ⟨B2, 2, none⟩ = some (.int .i64 c2) ∧ W.drew.cell? ⟨B2, 3, none⟩ = some (.int .i64 c3) ∧ B0 < W.drew.heap.size ∧ B1 < W.drew.heap.size ∧ B2 < W.drew.heap.size ∧ Below w.heap.size w W.drew :=
  ⟨h.1, h.2.1, h.2.2.1, h.2.2.2.1, h.2.2.2.2.1, h.2.2.2.2.2.1, h.2.2.2.2.2.2.1, h.2.2.2.2.2.2.2.1, h.2.2.2.2.2.2.2.2.1, h.2.2.2.2.2.2.2.2.2.1, h.2.2.2.2.2.2.2.2.2.2.1, h.2.2.2.2.2.2.2.2.2.2.2.1, h.2.2.2.2.2.2.2.2.2.2.2.2.1, h.2.2.2.2.2.2.2.2.2.2.2.2.2.1, h.2.2.2.2.2.2.2.2.2.2.2.2.2.2.1, h.2.2.2.2.2.2.2.2.2.2.2.2.2.2.2.drew⟩
theorem sixteenth {P0 P1 P2 P3 P4 P5 P6 P7 P8 P9 Pa Pb Pc Pd Pe Pf : Prop} (h : P0 ∧ P1 ∧ P2 ∧ P3 ∧ P4 ∧ P5 ∧ P6 ∧ P7 ∧ P8 ∧ P9 ∧ Pa ∧ Pb ∧ Pc ∧ Pd ∧ Pe ∧ Pf) : Pf := h.2.2.2.2.2.2.2.2.2.2.2.2.2.2.2
theorem tri_alloc {B0 B1 B2 : Nat} {w W : World} {a0 a1 a2 a3 b0 b1 b2 b3 c0 c1 c2 c3 : Int} (a b c g : Int) (h : W.cell? ⟨B0, 0, none⟩ = some (.int .i64 a0) ∧ W.cell? ⟨B0, 1, none⟩ = some (.int .i64 a1) ∧ W.cell? ⟨B0, 2, none⟩ = some (.int .i64 a2) ∧ W.cell? ⟨B0, 3, none⟩ = some (.int .i64 a3) ∧ W.cell? ⟨B1, 0, none⟩ = some (.int .i64 b0) ∧ W.cell? ⟨B1, 1, none⟩ = some (.int .i64 b1) ∧ W.cell? ⟨B1, 2, none⟩ = some (.int .i64 b2) ∧ W.cell? ⟨B1, 3, none⟩ = some (.int .i64 b3) ∧ W.cell? ⟨B2, 0, none⟩ = some (.int .i64 c0) ∧ W.cell? ⟨B2, 1, none⟩ = some (.int .i64 c1) ∧ W.cell? ⟨B2, 2, none⟩ = some (.int .i64 c2) ∧ W.cell? ⟨B2, 3, none⟩ = some (.int .i64 c3) ∧ B0 < W.heap.size ∧ B1 < W.heap.size ∧ B2 < W.heap.size ∧ Below w.heap.size w W) : (W.alloc (.cells #[.int .i64 a, .int .i64 b, .int .i64 c, .int .i64 g] 23)).cell? ⟨B0, 0, none⟩ = some (.int .i64 a0) ∧ (W.alloc (.cells #[.int .i64 a, .int .i64 b, .int .i64 c, .int .i64 g] 23)).cell? ⟨B0, 1, none⟩ = some (.int .i64 a1) ∧ (W.alloc (.cells #[.int .i64 a, .int .i64 b, .int .i64 c, .int .i64 g] 23)).cell? ⟨B0, 2, none⟩ = some (.int .i64 a2) ∧ (W.alloc (.cells #[.int .i64 a, .int .i64 b, .int .i64 c, .int .i64 g] 23)).cell? ⟨B0, 3, none⟩ = some (.int .i64 a3) ∧ (W.alloc (.cells #[.int .i64 a, .int .i64 b, .int .i64 c, .int .i64 g] 23)).cell? ⟨B1, 0, none⟩ = some (.int .i64 b0) ∧ (W.alloc (.cells #[.int .i64 a, .int .i64 b, .int .i64 c, .int .i64 g] 23)).cell? ⟨B1, 1, none⟩ = some (.int .i64 b1) ∧ (W.alloc (.cells #[.int .i64 a, .int .i64 b, .int .i64 c, .int .i64 g] 23)).cell? ⟨B1, 2, none⟩ = some (.int .i64 b2) ∧ (W.alloc (.cells #[.int .i64 a, .int .i64 b, .int .i64 c, .int .i64 g] 23)).cell? ⟨B1, 3, none⟩ = some (.int .i64 b3) ∧ (W.alloc (.cells #[.int .i64 a, .int .i64 b, .int .i64 c, .int .i64 g] 23)).cell? ⟨W.heap.size, 0, none⟩ = some (.int .i64 a) ∧ (W.alloc (.cells #[.int .i64 a, .int .i64 b, .int .i64 c, .int .i64 g] 23)).cell? ⟨W.heap.size, 1, none⟩ = some (.int .i64 b) ∧ (W.alloc (.cells #[.int .i64 a, .int .i64 b, .int .i64 c, .int .i64 g] 23)).cell? ⟨W.heap.size, 2, none⟩ = some (.int .i64 c) ∧ (W.alloc (.cells #[.int .i64 a, .int .i64 b, .int .i64 c, .int .i64 g] 23)).cell? ⟨W.heap.size, 3, none⟩ = some (.int .i64 g) ∧ B0 < (W.alloc (.cells #[.int .i64 a, .int .i64 b, .int .i64 c, .int .i64 g] 23)).heap.size ∧ B1 < (W.alloc (.cells #[.int .i64 a, .int .i64 b, .int .i64 c, .int .i64 g] 23)).heap.size ∧ W.heap.size < (W.alloc (.cells #[.int .i64 a, .int .i64 b, .int .i64 c, .int .i64 g] 23)).heap.size ∧ Below w.heap.size w (W.alloc (.cells #[.int .i64 a, .int .i64 b, .int .i64 c, .int .i64 g] 23)) := by
  have k := keep_tri ((Below.refl _ _).alloc (Nat.le_refl _) (.cells #[.int .i64 a, .int .i64 b, .int .i64 c, .int .i64 g] 23)) h
  have u := Whole.new W 23 #[.int .i64 a, .int .i64 b, .int .i64 c, .int .i64 g]
  obtain ⟨x0, x1, x2, x3, y0, y1, y2, y3, _, _, _, _, l0, l1, _, hbb⟩ := k
  exact ⟨x0, x1, x2, x3, y0, y1, y2, y3, u.cell 0, u.cell 1, u.cell 2, u.cell 3, l0, l1, u.lt, hbb⟩
/-- Three times, kept. -/
structure TK (w : World) (B0 B1 B2 : Nat) (a0 a1 a2 a3 b0 b1 b2 b3 c0 c1 c2 c3 : Int) (W : World) : Prop where
  h0 : Whole W B0 23 #[.int .i64 a0, .int .i64 a1, .int .i64 a2, .int .i64 a3]
  h1 : Whole W B1 23 #[.int .i64 b0, .int .i64 b1, .int .i64 b2, .int .i64 b3]
  h2 : Whole W B2 23 #[.int .i64 c0, .int .i64 c1, .int .i64 c2, .int .i64 c3]
  below : Below w.heap.size w W
section
variable {w W W' : World} {B0 B1 B2 : Nat} {a0 a1 a2 a3 b0 b1 b2 b3 c0 c1 c2 c3 : Int}
theorem TK.call (h : TK w B0 B1 B2 a0 a1 a2 a3 b0 b1 b2 b3 c0 c1 c2 c3 W) (hb : Below W.heap.size W W') : TK w B0 B1 B2 a0 a1 a2 a3 b0 b1 b2 b3 c0 c1 c2 c3 W' := ⟨h.h0.below hb h.h0.lt, h.h1.below hb h.h1.lt, h.h2.below hb h.h2.lt, below_then h.below hb⟩
theorem TK.drew (h : TK w B0 B1 B2 a0 a1 a2 a3 b0 b1 b2 b3 c0 c1 c2 c3 W) : TK w B0 B1 B2 a0 a1 a2 a3 b0 b1 b2 b3 c0 c1 c2 c3 W.drew := ⟨h.h0, h.h1, h.h2, h.below.drew⟩
theorem TK.all (h : TK w B0 B1 B2 a0 a1 a2 a3 b0 b1 b2 b3 c0 c1 c2 c3 W) : W.cell? ⟨B0, 0, none⟩ = some (.int .i64 a0) ∧ W.cell? ⟨B0, 1, none⟩ = some (.int .i64 a1) ∧ W.cell? ⟨B0, 2, none⟩ = some (.int .i64 a2) ∧ W.cell? ⟨B0, 3, none⟩ = some (.int .i64 a3) ∧ W.cell? ⟨B1, 0, none⟩ = some (.int .i64 b0) ∧ W.cell? ⟨B1, 1, none⟩ = some (.int .i64 b1) ∧ W.cell? ⟨B1, 2, none⟩ = some (.int .i64 b2) ∧ W.cell? ⟨B1, 3, none⟩ = some (.int .i64 b3) ∧ W.cell? ⟨B2, 0, none⟩ = some (.int .i64 c0) ∧ W.cell? ⟨B2, 1, none⟩ = some (.int .i64 c1) ∧ W.cell? ⟨B2, 2, none⟩ = some (.int .i64 c2) ∧ W.cell? ⟨B2, 3, none⟩ = some (.int .i64 c3) ∧ B0 < W.heap.size ∧ B1 < W.heap.size ∧ B2 < W.heap.size ∧ Below w.heap.size w W :=
  ⟨h.h0.cell 0, h.h0.cell 1, h.h0.cell 2, h.h0.cell 3, h.h1.cell 0, h.h1.cell 1, h.h1.cell 2, h.h1.cell 3, h.h2.cell 0, h.h2.cell 1, h.h2.cell 2, h.h2.cell 3, h.h0.lt, h.h1.lt, h.h2.lt, h.below⟩
end

theorem tk_new (w : World) (k d n o q p r s e1 e2 e3 e4 : Int) : TK w w.heap.size (w.heap.size + 1) (w.heap.size + 1 + 1) k d n o q p r s e1 e2 e3 e4 (((w.alloc (.cells #[.int .i64 k, .int .i64 d, .int .i64 n, .int .i64 o] 23)).alloc (.cells #[.int .i64 q, .int .i64 p, .int .i64 r, .int .i64 s] 23)).alloc (.cells #[.int .i64 e1, .int .i64 e2, .int .i64 e3, .int .i64 e4] 23)) := by
  refine ⟨((Whole.new w _ _).alloc _).alloc _, (Whole.at _ _ (by simp)).alloc _, Whole.at _ _ (by simp), (((Below.refl w.heap.size w).alloc (Nat.le_refl _) _).alloc (by simp) _).alloc (by simp; omega) _⟩

set_option maxRecDepth 100000 in
set_option maxHeartbeats 8000000 in
theorem walk_MomentOrder (k d n o q p r s e1 e2 e3 e4 f : Int) (_ : (Lit.int .i64 k).wf = true) (_ : (Lit.int .i64 d).wf = true) (_ : (Lit.int .i64 n).wf = true) (_ : (Lit.int .i64 o).wf = true) (_ : (Lit.int .i64 q).wf = true) (_ : (Lit.int .i64 p).wf = true) (_ : (Lit.int .i64 r).wf = true) (_ : (Lit.int .i64 s).wf = true) (_ : (Lit.int .i64 e1).wf = true) (_ : (Lit.int .i64 e2).wf = true) (_ : (Lit.int .i64 e3).wf = true) (_ : (Lit.int .i64 e4).wf = true) (_ : (Lit.int .i64 f).wf = true) (w : World) :
    Calls Try.prog 11 #[.agg #[.int .i64 k, .int .i64 d, .int .i64 n, .int .i64 o], .agg #[.int .i64 q, .int .i64 p, .int .i64 r, .int .i64 s], .agg #[.int .i64 e1, .int .i64 e2, .int .i64 e3, .int .i64 e4], .int .i64 f] w fun e w' => e = .returned (.bool true) ∧ Below w.heap.size w w' := by
  have HA := Lib.hid mom_awake
  have HV1 := Lib.hid (valid_any k d n o)
  have HV2 := Lib.hid (valid_any q p r s)
  have HV3 := Lib.hid (valid_any e1 e2 e3 e4)
  have K := tk_new w k d n o q p r s e1 e2 e3 e4
  obtain ⟨x0, x1, x2, x3, y0, y1, y2, y3, z0, z1, z2, z3, l0, l1, l2, _⟩ := K.all
  by_cases h1 : Mom.Ok k d n o
  case neg =>
    rw [decide_eq_false h1] at HV1
    clear h1
    go_enter Try.func11, Try.ntmps11
    go_wp2_with fail
    refine (HV1.out _).mono ?_; rintro e w1 ⟨rfl, hb⟩
    replace K := K.call hb
    clear hb x0 x1 x2 x3 y0 y1 y2 y3 z0 z1 z2 z3 l0 l1 l2
    obtain ⟨x0, x1, x2, x3, y0, y1, y2, y3, z0, z1, z2, z3, l0, l1, l2, _⟩ := K.all
    go_wp2_with fail
    refine (HA.out _).mono ?_; rintro e wa ⟨rfl, hba⟩
    go_wp2_with fail
    go_ret
    exact ⟨rfl, below_then K.below hba⟩
  rw [decide_eq_true h1] at HV1
  by_cases h2 : Mom.Ok q p r s
  case neg =>
    rw [decide_eq_false h2] at HV2
    clear h1 h2
    go_enter Try.func11, Try.ntmps11
    go_wp2_with fail
    refine (HV1.out _).mono ?_; rintro e w1 ⟨rfl, hb⟩
    replace K := K.call hb
    clear hb x0 x1 x2 x3 y0 y1 y2 y3 z0 z1 z2 z3 l0 l1 l2
    obtain ⟨x0, x1, x2, x3, y0, y1, y2, y3, z0, z1, z2, z3, l0, l1, l2, _⟩ := K.all
    go_wp2_with fail
    refine (HV2.out _).mono ?_; rintro e w2 ⟨rfl, hb⟩
    replace K := K.call hb
    clear hb x0 x1 x2 x3 y0 y1 y2 y3 z0 z1 z2 z3 l0 l1 l2
    obtain ⟨x0, x1, x2, x3, y0, y1, y2, y3, z0, z1, z2, z3, l0, l1, l2, _⟩ := K.all
    go_wp2_with fail
    refine (HA.out _).mono ?_; rintro e wa ⟨rfl, hba⟩
    go_wp2_with fail
    go_ret
    exact ⟨rfl, below_then K.below hba⟩
  rw [decide_eq_true h2] at HV2
  by_cases h3 : Mom.Ok e1 e2 e3 e4
  case neg =>
    rw [decide_eq_false h3] at HV3
    clear h1 h2 h3
    go_enter Try.func11, Try.ntmps11
    go_wp2_with fail
    refine (HV1.out _).mono ?_; rintro e w1 ⟨rfl, hb⟩
    replace K := K.call hb
    clear hb x0 x1 x2 x3 y0 y1 y2 y3 z0 z1 z2 z3 l0 l1 l2
    obtain ⟨x0, x1, x2, x3, y0, y1, y2, y3, z0, z1, z2, z3, l0, l1, l2, _⟩ := K.all
    go_wp2_with fail
    refine (HV2.out _).mono ?_; rintro e w2 ⟨rfl, hb⟩
    replace K := K.call hb
    clear hb x0 x1 x2 x3 y0 y1 y2 y3 z0 z1 z2 z3 l0 l1 l2
    obtain ⟨x0, x1, x2, x3, y0, y1, y2, y3, z0, z1, z2, z3, l0, l1, l2, _⟩ := K.all
    go_wp2_with fail
    refine (HV3.out _).mono ?_; rintro e w3 ⟨rfl, hb⟩
    replace K := K.call hb
    clear hb x0 x1 x2 x3 y0 y1 y2 y3 z0 z1 z2 z3 l0 l1 l2
    obtain ⟨x0, x1, x2, x3, y0, y1, y2, y3, z0, z1, z2, z3, l0, l1, l2, _⟩ := K.all
    go_wp2_with fail
    refine (HA.out _).mono ?_; rintro e wa ⟨rfl, hba⟩
    go_wp2_with fail
    go_ret
    exact ⟨rfl, below_then K.below hba⟩
  rw [decide_eq_true h3] at HV3
  have anti := Mom.cmp_anti ⟨k, d, n, o⟩ ⟨q, p, r, s⟩
  have bd := Mom.cmp_bd ⟨k, d, n, o⟩ ⟨q, p, r, s⟩
  have tr := Lib.hid (Mom.cmp_trans ⟨k, d, n, o⟩ ⟨q, p, r, s⟩ ⟨e1, e2, e3, e4⟩)
  have hz0 := Lib.hid (fun e => Mom.cmp_zero h1 h2 e)
  have hz1 := Lib.hid (fun e => Mom.cmp_eq (t := ⟨k, d, n, o⟩) (u := ⟨q, p, r, s⟩) e)
  have ti := Lib.hid (fun e => Mom.txt_inj h1 h2 e)
  have HT := Lib.hid text_any
  have HZ := Lib.hid (zone_any ⟨k, d, n, o⟩ f)
  have sz := Lib.hid (fun z (e : Mom.zone ⟨k, d, n, o⟩ f = (z, 0)) => And.intro (Mom.zone_zero e).2.1 (Mom.same_zone e ⟨q, p, r, s⟩))
  have HQ : Hid (∀ (k d n o q p r s : Int) (v : Bool), Hid (Mom.sameb ⟨k, d, n, o⟩ ⟨q, p, r, s⟩ = v) → Hid (Mom.Ok k d n o) → Hid (Mom.Ok q p r s) → ∀ w, Calls Try.prog 27 #[.agg #[.int .i64 k, .int .i64 d, .int .i64 n, .int .i64 o], .agg #[.int .i64 q, .int .i64 p, .int .i64 r, .int .i64 s]] w fun e w' => e = .returned (.bool v) ∧ Below w.heap.size w w') := Lib.hid (fun k d n o q p r s v hv h h' w => by have := equalT_ok h.out h'.out w; rwa [show decide (Mom.same ⟨k, d, n, o⟩ ⟨q, p, r, s⟩) = v from hv.out] at this)
  have HCQ : Hid (∀ (k d n o q p r s v : Int), Hid (Mom.cmp ⟨k, d, n, o⟩ ⟨q, p, r, s⟩ = v) → Hid (Mom.Ok k d n o) → Hid (Mom.Ok q p r s) → ∀ w, Calls Try.prog 28 #[.agg #[.int .i64 k, .int .i64 d, .int .i64 n, .int .i64 o], .agg #[.int .i64 q, .int .i64 p, .int .i64 r, .int .i64 s]] w fun e w' => e = .returned (.int .i64 v) ∧ Below w.heap.size w w') := Lib.hid (fun k d n o q p r s v hv h h' w => by have := cmpT_ok h.out h'.out w; rwa [hv.out] at this)
  have G1 := Lib.hid h1
  have G2 := Lib.hid h2
  have G3 := Lib.hid h3
  obtain ⟨m, hm⟩ : ∃ m, Mom.cmp ⟨q, p, r, s⟩ ⟨k, d, n, o⟩ = m := ⟨_, rfl⟩
  rw [hm] at anti
  have hx : Mom.cmp ⟨k, d, n, o⟩ ⟨q, p, r, s⟩ = -m := by omega
  obtain ⟨y, hy⟩ : ∃ y, Mom.cmp ⟨q, p, r, s⟩ ⟨e1, e2, e3, e4⟩ = y := ⟨_, rfl⟩
  obtain ⟨z, hz⟩ : ∃ z, Mom.cmp ⟨k, d, n, o⟩ ⟨e1, e2, e3, e4⟩ = z := ⟨_, rfl⟩
  rw [hx] at bd anti tr hz0 hz1 sz
  rw [hy, hz] at tr
  have R1 := Lib.hid hx
  have R2 := Lib.hid hy
  have R3 := Lib.hid hz
  have R4 := Lib.hid hm
  obtain ⟨bd1, bd2⟩ := bd
  have dm1 : decide (1 < m) = false := decide_eq_false (by omega)
  have dm2 : decide (1 < -m) = false := decide_eq_false (by omega)
  have hwr : IntKind.i64.wrap (-m) = -m := by rw [IntKind.wrap_i64]; omega
  clear h1 h2 h3 anti hx hy hz hm
  go_enter Try.func11, Try.ntmps11
  go_wp2_with fail
  refine (HV1.out _).mono ?_; rintro e w1 ⟨rfl, hb⟩
  replace K := K.call hb
  clear hb x0 x1 x2 x3 y0 y1 y2 y3 z0 z1 z2 z3 l0 l1 l2
  obtain ⟨x0, x1, x2, x3, y0, y1, y2, y3, z0, z1, z2, z3, l0, l1, l2, _⟩ := K.all
  go_wp2_with fail
  refine (HV2.out _).mono ?_; rintro e w2 ⟨rfl, hb⟩
  replace K := K.call hb
  clear hb x0 x1 x2 x3 y0 y1 y2 y3 z0 z1 z2 z3 l0 l1 l2
  obtain ⟨x0, x1, x2, x3, y0, y1, y2, y3, z0, z1, z2, z3, l0, l1, l2, _⟩ := K.all
  go_wp2_with fail
  refine (HV3.out _).mono ?_; rintro e w3 ⟨rfl, hb⟩
  replace K := K.call hb
  clear hb x0 x1 x2 x3 y0 y1 y2 y3 z0 z1 z2 z3 l0 l1 l2
  obtain ⟨x0, x1, x2, x3, y0, y1, y2, y3, z0, z1, z2, z3, l0, l1, l2, _⟩ := K.all
  go_upto_region 3 with fail
  go_cut [9, 10, 11] (fun s9 s10 s11 wx => s9 = .int .i64 (-m) ∧ s10 = .int .i64 y ∧ s11 = .int .i64 z ∧ wx.cell? ⟨w.heap.size, 0, none⟩ = some (.int .i64 k) ∧ wx.cell? ⟨w.heap.size, 1, none⟩ = some (.int .i64 d) ∧ wx.cell? ⟨w.heap.size, 2, none⟩ = some (.int .i64 n) ∧ wx.cell? ⟨w.heap.size, 3, none⟩ = some (.int .i64 o) ∧ wx.cell? ⟨w.heap.size + 1, 0, none⟩ = some (.int .i64 q) ∧ wx.cell? ⟨w.heap.size + 1, 1, none⟩ = some (.int .i64 p) ∧ wx.cell? ⟨w.heap.size + 1, 2, none⟩ = some (.int .i64 r) ∧ wx.cell? ⟨w.heap.size + 1, 3, none⟩ = some (.int .i64 s) ∧ wx.cell? ⟨w.heap.size + 1 + 1, 0, none⟩ = some (.int .i64 e1) ∧ wx.cell? ⟨w.heap.size + 1 + 1, 1, none⟩ = some (.int .i64 e2) ∧ wx.cell? ⟨w.heap.size + 1 + 1, 2, none⟩ = some (.int .i64 e3) ∧ wx.cell? ⟨w.heap.size + 1 + 1, 3, none⟩ = some (.int .i64 e4) ∧ w.heap.size < wx.heap.size ∧ w.heap.size + 1 < wx.heap.size ∧ w.heap.size + 1 + 1 < wx.heap.size ∧ Below w.heap.size w wx)
  case first =>
    go_region_held3 (fun W => W.cell? ⟨w.heap.size, 0, none⟩ = some (.int .i64 k) ∧ W.cell? ⟨w.heap.size, 1, none⟩ = some (.int .i64 d) ∧ W.cell? ⟨w.heap.size, 2, none⟩ = some (.int .i64 n) ∧ W.cell? ⟨w.heap.size, 3, none⟩ = some (.int .i64 o) ∧ W.cell? ⟨w.heap.size + 1, 0, none⟩ = some (.int .i64 q) ∧ W.cell? ⟨w.heap.size + 1, 1, none⟩ = some (.int .i64 p) ∧ W.cell? ⟨w.heap.size + 1, 2, none⟩ = some (.int .i64 r) ∧ W.cell? ⟨w.heap.size + 1, 3, none⟩ = some (.int .i64 s) ∧ W.cell? ⟨w.heap.size + 1 + 1, 0, none⟩ = some (.int .i64 e1) ∧ W.cell? ⟨w.heap.size + 1 + 1, 1, none⟩ = some (.int .i64 e2) ∧ W.cell? ⟨w.heap.size + 1 + 1, 2, none⟩ = some (.int .i64 e3) ∧ W.cell? ⟨w.heap.size + 1 + 1, 3, none⟩ = some (.int .i64 e4) ∧ w.heap.size < W.heap.size ∧ w.heap.size + 1 < W.heap.size ∧ w.heap.size + 1 + 1 < W.heap.size ∧ Below w.heap.size w W) (first | exact (TK.drew K).all | exact K.all | exact keep_tri (by assumption) (by assumption)) (first | (go_at_call 28; refine (HCQ.out _ _ _ _ _ _ _ _ _ (by assumption) (by assumption) (by assumption) _).mono ?_; rintro e wx ⟨rfl, hbx⟩) | fail)
    go_wp2_with fail
    go_meet
    exact ⟨rfl, rfl, rfl, by assumption⟩
  case rest =>
  obtain ⟨rfl, rfl, rfl, hS⟩ := hcut
  clear x0 x1 x2 x3 y0 y1 y2 y3 z0 z1 z2 z3 l0 l1 l2
  have hS' := hS
  obtain ⟨x0, x1, x2, x3, y0, y1, y2, y3, z0, z1, z2, z3, l0, l1, l2, hbb⟩ := hS'
  go_upto_region 4 with fail
  go_cut [69] (fun s9 wx => s9 = .bool false ∧ wx.cell? ⟨w.heap.size, 0, none⟩ = some (.int .i64 k) ∧ wx.cell? ⟨w.heap.size, 1, none⟩ = some (.int .i64 d) ∧ wx.cell? ⟨w.heap.size, 2, none⟩ = some (.int .i64 n) ∧ wx.cell? ⟨w.heap.size, 3, none⟩ = some (.int .i64 o) ∧ wx.cell? ⟨w.heap.size + 1, 0, none⟩ = some (.int .i64 q) ∧ wx.cell? ⟨w.heap.size + 1, 1, none⟩ = some (.int .i64 p) ∧ wx.cell? ⟨w.heap.size + 1, 2, none⟩ = some (.int .i64 r) ∧ wx.cell? ⟨w.heap.size + 1, 3, none⟩ = some (.int .i64 s) ∧ wx.cell? ⟨w.heap.size + 1 + 1, 0, none⟩ = some (.int .i64 e1) ∧ wx.cell? ⟨w.heap.size + 1 + 1, 1, none⟩ = some (.int .i64 e2) ∧ wx.cell? ⟨w.heap.size + 1 + 1, 2, none⟩ = some (.int .i64 e3) ∧ wx.cell? ⟨w.heap.size + 1 + 1, 3, none⟩ = some (.int .i64 e4) ∧ w.heap.size < wx.heap.size ∧ w.heap.size + 1 < wx.heap.size ∧ w.heap.size + 1 + 1 < wx.heap.size ∧ Below w.heap.size w wx)
  case first =>
    by_cases hab : (k, d, n, o) = (q, p, r, s)
    · have hx0 := hz1.out hab
      have q1 : ∀ W, (binOp .eql 23 (.agg #[.int .i64 k, .int .i64 d, .int .i64 n, .int .i64 o]) (.agg #[.int .i64 q, .int .i64 p, .int .i64 r, .int .i64 s])).run Try.prog W = .ok (.bool true) W := fun W => by rw [time_eql, decide_eq_true hab]
      have ts : ((Mom.str (Mom.txt k d n o)).toList == (Mom.str (Mom.txt q p r s)).toList) = true := by
        simp only [Prod.mk.injEq] at hab
        obtain ⟨rfl, rfl, rfl, rfl⟩ := hab
        simp
      have t0 : ((-m) == 0) = true := beq_iff_eq.2 hx0
      clear hab hx0
      go_region_held3 (fun W => W.cell? ⟨w.heap.size, 0, none⟩ = some (.int .i64 k) ∧ W.cell? ⟨w.heap.size, 1, none⟩ = some (.int .i64 d) ∧ W.cell? ⟨w.heap.size, 2, none⟩ = some (.int .i64 n) ∧ W.cell? ⟨w.heap.size, 3, none⟩ = some (.int .i64 o) ∧ W.cell? ⟨w.heap.size + 1, 0, none⟩ = some (.int .i64 q) ∧ W.cell? ⟨w.heap.size + 1, 1, none⟩ = some (.int .i64 p) ∧ W.cell? ⟨w.heap.size + 1, 2, none⟩ = some (.int .i64 r) ∧ W.cell? ⟨w.heap.size + 1, 3, none⟩ = some (.int .i64 s) ∧ W.cell? ⟨w.heap.size + 1 + 1, 0, none⟩ = some (.int .i64 e1) ∧ W.cell? ⟨w.heap.size + 1 + 1, 1, none⟩ = some (.int .i64 e2) ∧ W.cell? ⟨w.heap.size + 1 + 1, 2, none⟩ = some (.int .i64 e3) ∧ W.cell? ⟨w.heap.size + 1 + 1, 3, none⟩ = some (.int .i64 e4) ∧ w.heap.size < W.heap.size ∧ w.heap.size + 1 < W.heap.size ∧ w.heap.size + 1 + 1 < W.heap.size ∧ Below w.heap.size w W) (first | exact tri_drew hS | exact keep_tri (by assumption) (by assumption)) (first | (go_at_call 28; refine (HCQ.out _ _ _ _ _ _ _ _ _ (by assumption) (by assumption) (by assumption) _).mono ?_; rintro e wx ⟨rfl, hbx⟩) | (go_at_call 14; refine (HT.out _ _ _ _ _).mono ?_; rintro e wy ⟨rfl, hby⟩))
      go_wp2_with fail
      go_meet
      exact ⟨rfl, by assumption⟩
    · have hx0 : (-m) ≠ 0 := fun e => hab (hz0.out e)
      have q1 : ∀ W, (binOp .eql 23 (.agg #[.int .i64 k, .int .i64 d, .int .i64 n, .int .i64 o]) (.agg #[.int .i64 q, .int .i64 p, .int .i64 r, .int .i64 s])).run Try.prog W = .ok (.bool false) W := fun W => by rw [time_eql, decide_eq_false hab]
      have ht : ¬ Mom.str (Mom.txt k d n o) = Mom.str (Mom.txt q p r s) := fun e => hab (ti.out e)
      have ts : ((Mom.str (Mom.txt k d n o)).toList == (Mom.str (Mom.txt q p r s)).toList) = false := beq_eq_false_iff_ne.2 (fun e => ht (ByteArray.ext (Array.toList_inj.1 (by rw [← Lib.toList_data, ← Lib.toList_data]; exact e))))
      have t0 : ((-m) == 0) = false := beq_eq_false_iff_ne.2 hx0
      clear hab hx0 ht
      go_region_held3 (fun W => W.cell? ⟨w.heap.size, 0, none⟩ = some (.int .i64 k) ∧ W.cell? ⟨w.heap.size, 1, none⟩ = some (.int .i64 d) ∧ W.cell? ⟨w.heap.size, 2, none⟩ = some (.int .i64 n) ∧ W.cell? ⟨w.heap.size, 3, none⟩ = some (.int .i64 o) ∧ W.cell? ⟨w.heap.size + 1, 0, none⟩ = some (.int .i64 q) ∧ W.cell? ⟨w.heap.size + 1, 1, none⟩ = some (.int .i64 p) ∧ W.cell? ⟨w.heap.size + 1, 2, none⟩ = some (.int .i64 r) ∧ W.cell? ⟨w.heap.size + 1, 3, none⟩ = some (.int .i64 s) ∧ W.cell? ⟨w.heap.size + 1 + 1, 0, none⟩ = some (.int .i64 e1) ∧ W.cell? ⟨w.heap.size + 1 + 1, 1, none⟩ = some (.int .i64 e2) ∧ W.cell? ⟨w.heap.size + 1 + 1, 2, none⟩ = some (.int .i64 e3) ∧ W.cell? ⟨w.heap.size + 1 + 1, 3, none⟩ = some (.int .i64 e4) ∧ w.heap.size < W.heap.size ∧ w.heap.size + 1 < W.heap.size ∧ w.heap.size + 1 + 1 < W.heap.size ∧ Below w.heap.size w W) (first | exact tri_drew hS | exact keep_tri (by assumption) (by assumption)) (first | (go_at_call 28; refine (HCQ.out _ _ _ _ _ _ _ _ _ (by assumption) (by assumption) (by assumption) _).mono ?_; rintro e wx ⟨rfl, hbx⟩) | (go_at_call 14; refine (HT.out _ _ _ _ _).mono ?_; rintro e wy ⟨rfl, hby⟩))
      go_wp2_with fail
      go_meet
      exact ⟨rfl, by assumption⟩
  case rest =>
  obtain ⟨rfl, hS2⟩ := hcut
  clear hS
  have hS := hS2
  clear hS2 x0 x1 x2 x3 y0 y1 y2 y3 z0 z1 z2 z3 l0 l1 l2 hbb
  have hS' := hS
  obtain ⟨x0, x1, x2, x3, y0, y1, y2, y3, z0, z1, z2, z3, l0, l1, l2, hbb⟩ := hS'
  go_upto_region 6 with fail
  go_cut [91] (fun s9 wx => s9 = .bool false ∧ wx.cell? ⟨w.heap.size, 0, none⟩ = some (.int .i64 k) ∧ wx.cell? ⟨w.heap.size, 1, none⟩ = some (.int .i64 d) ∧ wx.cell? ⟨w.heap.size, 2, none⟩ = some (.int .i64 n) ∧ wx.cell? ⟨w.heap.size, 3, none⟩ = some (.int .i64 o) ∧ wx.cell? ⟨w.heap.size + 1, 0, none⟩ = some (.int .i64 q) ∧ wx.cell? ⟨w.heap.size + 1, 1, none⟩ = some (.int .i64 p) ∧ wx.cell? ⟨w.heap.size + 1, 2, none⟩ = some (.int .i64 r) ∧ wx.cell? ⟨w.heap.size + 1, 3, none⟩ = some (.int .i64 s) ∧ wx.cell? ⟨w.heap.size + 1 + 1, 0, none⟩ = some (.int .i64 e1) ∧ wx.cell? ⟨w.heap.size + 1 + 1, 1, none⟩ = some (.int .i64 e2) ∧ wx.cell? ⟨w.heap.size + 1 + 1, 2, none⟩ = some (.int .i64 e3) ∧ wx.cell? ⟨w.heap.size + 1 + 1, 3, none⟩ = some (.int .i64 e4) ∧ w.heap.size < wx.heap.size ∧ w.heap.size + 1 < wx.heap.size ∧ w.heap.size + 1 + 1 < wx.heap.size ∧ Below w.heap.size w wx)
  case first =>
    by_cases hx1 : 0 < (-m)
    · go_wp2_with fail
      go_meet
      exact ⟨rfl, hS⟩
    by_cases hy1 : 0 < y
    · go_wp2_with fail
      go_meet
      exact ⟨rfl, hS⟩
    rcases tr.out (by omega) (by omega) with h | ⟨h1, h2, h3⟩
    · have t1 : (z == 0) = false := beq_eq_false_iff_ne.2 (by omega)
      have u1 : decide (0 < z) = false := decide_eq_false (by omega)
      go_wp2_with fail
      go_meet
      exact ⟨rfl, hS⟩
    · have t1 : (z == 0) = true := beq_iff_eq.2 h1
      have t2 : ((-m) != 0) = false := by simp [h2]
      have t3 : (y != 0) = false := by simp [h3]
      have u1 : decide (0 < z) = false := decide_eq_false (by omega)
      clear h1 h2 h3
      go_wp2_with fail
      go_meet
      exact ⟨rfl, hS⟩
  case rest =>
  obtain ⟨rfl, hS2⟩ := hcut
  clear hS
  have hS := hS2
  clear hS2 x0 x1 x2 x3 y0 y1 y2 y3 z0 z1 z2 z3 l0 l1 l2 hbb
  have hS' := hS
  obtain ⟨x0, x1, x2, x3, y0, y1, y2, y3, z0, z1, z2, z3, l0, l1, l2, hbb⟩ := hS'
  generalize Mom.zone ⟨k, d, n, o⟩ f = Z at *
  obtain ⟨⟨a, b, c, g⟩, er⟩ := Z
  unfold Mom.ag at HZ
  dsimp only at HZ
  by_cases he : er = 0
  case neg =>
    have t1 : (er != 0) = true := by simpa using he
    clear he
    go_wp2_with fail
    refine (HZ.out _).mono ?_; rintro e w5 ⟨rfl, hb5⟩
    replace hbb := (below_then hbb hb5).alloc (below_then hbb hb5).size (.cells #[.int .i64 a, .int .i64 b, .int .i64 c, .int .i64 g] 23)
    go_wp2_with fail
    refine (HA.out _).mono ?_; rintro e wa ⟨rfl, hba⟩
    go_wp2_with fail
    go_ret
    exact ⟨rfl, below_then hbb hba⟩
  subst he
  obtain ⟨okz, m1, m2, m3⟩ := sz.out _ rfl
  have G4 : Hid (Mom.Ok a b c g) := Lib.hid okz
  obtain ⟨E, hE⟩ : ∃ E, Mom.sameb ⟨k, d, n, o⟩ ⟨q, p, r, s⟩ = E := ⟨_, rfl⟩
  rw [hE] at m2 m3
  have M1 := Lib.hid m1
  have M2 := Lib.hid m2
  have M3 := Lib.hid hE
  have M4 := Lib.hid m3
  clear okz m1 m2 m3 hE sz
  cases E
  case false =>
    have R5 := Lib.hid (M4.out rfl)
    go_wp2_with fail
    refine (HZ.out _).mono ?_; rintro e w5 ⟨rfl, hb5⟩
    replace hS := tri_alloc a b c g (keep_tri hb5 hS)
    clear hb5 x0 x1 x2 x3 y0 y1 y2 y3 z0 z1 z2 z3 l0 l1 l2 hbb
    have hS' := hS
    obtain ⟨x0, x1, x2, x3, y0, y1, y2, y3, z0, z1, z2, z3, l0, l1, l2, hbb⟩ := hS'
    go_upto_region 11 with fail
    generalize hW : w5.alloc (.cells #[.int .i64 a, .int .i64 b, .int .i64 c, .int .i64 g] 23) = W6 at *
    generalize hU : w5.heap.size = U at *
    clear hW hU
    go_region_held3 (fun W => W.cell? ⟨w.heap.size, 0, none⟩ = some (.int .i64 k) ∧ W.cell? ⟨w.heap.size, 1, none⟩ = some (.int .i64 d) ∧ W.cell? ⟨w.heap.size, 2, none⟩ = some (.int .i64 n) ∧ W.cell? ⟨w.heap.size, 3, none⟩ = some (.int .i64 o) ∧ W.cell? ⟨w.heap.size + 1, 0, none⟩ = some (.int .i64 q) ∧ W.cell? ⟨w.heap.size + 1, 1, none⟩ = some (.int .i64 p) ∧ W.cell? ⟨w.heap.size + 1, 2, none⟩ = some (.int .i64 r) ∧ W.cell? ⟨w.heap.size + 1, 3, none⟩ = some (.int .i64 s) ∧ W.cell? ⟨U, 0, none⟩ = some (.int .i64 a) ∧ W.cell? ⟨U, 1, none⟩ = some (.int .i64 b) ∧ W.cell? ⟨U, 2, none⟩ = some (.int .i64 c) ∧ W.cell? ⟨U, 3, none⟩ = some (.int .i64 g) ∧ w.heap.size < W.heap.size ∧ w.heap.size + 1 < W.heap.size ∧ U < W.heap.size ∧ Below w.heap.size w W) (first | exact tri_drew hS | exact keep_tri (by assumption) (by assumption)) (first | (go_at_call 28; refine (HCQ.out _ _ _ _ _ _ _ _ _ (by assumption) (by assumption) (by assumption) _).mono ?_; rintro e wx ⟨rfl, hbx⟩) | (go_at_call 27; refine (HQ.out _ _ _ _ _ _ _ _ _ (by assumption) (by assumption) (by assumption) _).mono ?_; rintro e wy ⟨rfl, hby⟩) | (go_at_call 16; refine (HA.out _).mono ?_; rintro e wz ⟨rfl, hbz⟩))
    go_wp2
    go_ret
    exact ⟨rfl, sixteenth (by assumption)⟩
  case true =>
    go_wp2_with fail
    refine (HZ.out _).mono ?_; rintro e w5 ⟨rfl, hb5⟩
    replace hS := tri_alloc a b c g (keep_tri hb5 hS)
    clear hb5 x0 x1 x2 x3 y0 y1 y2 y3 z0 z1 z2 z3 l0 l1 l2 hbb
    have hS' := hS
    obtain ⟨x0, x1, x2, x3, y0, y1, y2, y3, z0, z1, z2, z3, l0, l1, l2, hbb⟩ := hS'
    go_upto_region 11 with fail
    generalize hW : w5.alloc (.cells #[.int .i64 a, .int .i64 b, .int .i64 c, .int .i64 g] 23) = W6 at *
    generalize hU : w5.heap.size = U at *
    clear hW hU
    refine wp_region_held_drew (S := fun W => W.cell? ⟨w.heap.size, 0, none⟩ = some (.int .i64 k) ∧ W.cell? ⟨w.heap.size, 1, none⟩ = some (.int .i64 d) ∧ W.cell? ⟨w.heap.size, 2, none⟩ = some (.int .i64 n) ∧ W.cell? ⟨w.heap.size, 3, none⟩ = some (.int .i64 o) ∧ W.cell? ⟨w.heap.size + 1, 0, none⟩ = some (.int .i64 q) ∧ W.cell? ⟨w.heap.size + 1, 1, none⟩ = some (.int .i64 p) ∧ W.cell? ⟨w.heap.size + 1, 2, none⟩ = some (.int .i64 r) ∧ W.cell? ⟨w.heap.size + 1, 3, none⟩ = some (.int .i64 s) ∧ W.cell? ⟨U, 0, none⟩ = some (.int .i64 a) ∧ W.cell? ⟨U, 1, none⟩ = some (.int .i64 b) ∧ W.cell? ⟨U, 2, none⟩ = some (.int .i64 c) ∧ W.cell? ⟨U, 3, none⟩ = some (.int .i64 g) ∧ w.heap.size < W.heap.size ∧ w.heap.size + 1 < W.heap.size ∧ U < W.heap.size ∧ Below w.heap.size w W) (by kernel_rfl) (tri_drew hS) (fun hHeld => ?_)
    refine wpAnyH_take (i := 0) (v := ?v0) rfl (by kernel_rfl) (by kernel_rfl) (by kernel_rfl) (fun _ _ _ h => h) (Or.inl ⟨by rfl, ?hy0⟩) (by assumption) ?rest0
    case hy0 => ((intro w hSw); (try dsimp only at hSw); go_simp; (try with_reducible rfl))
    case rest0 =>
    simp only [Act.put, List.getElem_toArray, List.getElem_cons_zero, List.setIfInBounds_toArray, List.set_cons_zero, List.set_cons_succ]
    refine wpAnyH_take (i := 1) (v := ?v1) rfl (by kernel_rfl) (by kernel_rfl) (by kernel_rfl) (fun _ _ _ h => h) (Or.inl ⟨by rfl, ?hy1⟩) (by assumption) ?rest1
    case hy1 => ((intro w hSw); (try dsimp only at hSw); go_simp; (try with_reducible rfl))
    case rest1 =>
    simp only [Act.put, List.getElem_toArray, List.getElem_cons_zero, List.getElem_cons_succ, List.setIfInBounds_toArray, List.set_cons_zero, List.set_cons_succ]
    refine wpAnyH_ready (rs := [2]) (by kernel_rfl) (by simp) ?_
    refine AllReadyH.cons rfl (fun K hK => ?_) AllReadyH.nil
    go_simp
    go_at_call 27; refine (HQ.out _ _ _ _ _ _ _ _ _ (by assumption) (by assumption) (by assumption) _).mono ?_; rintro e wy ⟨rfl, hby⟩
    refine hK.out _ _ ?_ (fun hHeld => ?_)
    · exact keep_tri (by assumption) (by assumption)
    clear hK K
    try simp only [Act.put, List.getElem_toArray, List.getElem_cons_zero, List.getElem_cons_succ, List.setIfInBounds_toArray, List.set_cons_zero, List.set_cons_succ]
    refine wpAnyH_take (i := 3) (v := ?v3) rfl (by kernel_rfl) (by kernel_rfl) (by kernel_rfl) (fun _ _ _ h => h) (Or.inl ⟨by rfl, ?hy3⟩) (by assumption) ?rest3
    case hy3 => ((intro w hSw); (try dsimp only at hSw); go_simp; (try with_reducible rfl))
    case rest3 =>
    simp only [Act.put, List.getElem_toArray, List.getElem_cons_zero, List.getElem_cons_succ, List.setIfInBounds_toArray, List.set_cons_zero, List.set_cons_succ]
    refine wpAnyH_take (i := 4) (v := ?v4) rfl (by kernel_rfl) (by kernel_rfl) (by kernel_rfl) (fun _ _ _ h => h) (Or.inl ⟨by rfl, ?hy4⟩) (by assumption) ?rest4
    case hy4 => ((intro w hSw); (try dsimp only at hSw); go_simp; (try with_reducible rfl))
    case rest4 =>
    simp only [Act.put, List.getElem_toArray, List.getElem_cons_zero, List.getElem_cons_succ, List.setIfInBounds_toArray, List.set_cons_zero, List.set_cons_succ]
    refine wpAnyH_take (i := 5) (v := ?v5) rfl (by kernel_rfl) (by kernel_rfl) (by kernel_rfl) (fun _ _ _ h => h) (Or.inl ⟨by rfl, ?hy5⟩) (by assumption) ?rest5
    case hy5 => ((intro w hSw); (try dsimp only at hSw); go_simp; (try with_reducible rfl))
    case rest5 =>
    simp only [Act.put, List.getElem_toArray, List.getElem_cons_zero, List.getElem_cons_succ, List.setIfInBounds_toArray, List.set_cons_zero, List.set_cons_succ]
    refine wpAnyH_take (i := 7) (v := ?v7) rfl (by kernel_rfl) (by kernel_rfl) (by kernel_rfl) (fun _ _ _ h => h) (Or.inl ⟨by rfl, ?hy7⟩) (by assumption) ?rest7
    case hy7 => ((intro w hSw); (try dsimp only at hSw); go_simp; (try with_reducible rfl))
    case rest7 =>
    simp only [Act.put, List.getElem_toArray, List.getElem_cons_zero, List.getElem_cons_succ, List.setIfInBounds_toArray, List.set_cons_zero, List.set_cons_succ]
    refine wpAnyH_take (i := 8) (v := ?v8) rfl (by kernel_rfl) (by kernel_rfl) (by kernel_rfl) (fun _ _ _ h => h) (Or.inl ⟨by rfl, ?hy8⟩) (by assumption) ?rest8
    case hy8 => ((intro w hSw); (try dsimp only at hSw); go_simp; (try with_reducible rfl))
    case rest8 =>
    simp only [Act.put, List.getElem_toArray, List.getElem_cons_zero, List.getElem_cons_succ, List.setIfInBounds_toArray, List.set_cons_zero, List.set_cons_succ]
    refine wpAnyH_ready (rs := [6]) (by kernel_rfl) (by simp) ?_
    refine AllReadyH.cons rfl (fun K hK => ?_) AllReadyH.nil
    go_simp
    go_at_call 27; refine (HQ.out _ _ _ _ _ _ _ _ _ (by assumption) (by assumption) (by assumption) _).mono ?_; rintro e wy ⟨rfl, hby⟩
    refine hK.out _ _ ?_ (fun hHeld => ?_)
    · exact keep_tri (by assumption) (by assumption)
    clear hK K
    try simp only [Act.put, List.getElem_toArray, List.getElem_cons_zero, List.getElem_cons_succ, List.setIfInBounds_toArray, List.set_cons_zero, List.set_cons_succ]
    refine wpAnyH_ready (rs := [9]) (by kernel_rfl) (by simp) ?_
    refine AllReadyH.cons rfl (fun K hK => ?_) AllReadyH.nil
    go_simp
    go_at_call 27; refine (HQ.out _ _ _ _ _ _ _ _ _ (by assumption) (by assumption) (by assumption) _).mono ?_; rintro e wy ⟨rfl, hby⟩
    refine hK.out _ _ ?_ (fun hHeld => ?_)
    · exact keep_tri (by assumption) (by assumption)
    clear hK K
    try simp only [Act.put, List.getElem_toArray, List.getElem_cons_zero, List.getElem_cons_succ, List.setIfInBounds_toArray, List.set_cons_zero, List.set_cons_succ]
    refine wpAnyH_take (i := 10) (v := ?v10) rfl (by kernel_rfl) (by kernel_rfl) (by kernel_rfl) (fun _ _ _ h => h) (Or.inl ⟨by rfl, ?hy10⟩) (by assumption) ?rest10
    case hy10 => ((intro w hSw); (try dsimp only at hSw); go_simp; (try with_reducible rfl))
    case rest10 =>
    simp only [Act.put, List.getElem_toArray, List.getElem_cons_zero, List.getElem_cons_succ, List.setIfInBounds_toArray, List.set_cons_zero, List.set_cons_succ]
    refine wpAnyH_take (i := 11) (v := ?v11) rfl (by kernel_rfl) (by kernel_rfl) (by kernel_rfl) (fun _ _ _ h => h) (Or.inl ⟨by rfl, ?hy11⟩) (by assumption) ?rest11
    case hy11 => ((intro w hSw); (try dsimp only at hSw); go_simp; (try with_reducible rfl))
    case rest11 =>
    simp only [Act.put, List.getElem_toArray, List.getElem_cons_zero, List.getElem_cons_succ, List.setIfInBounds_toArray, List.set_cons_zero, List.set_cons_succ]
    refine wpAnyH_take (i := 12) (v := ?v12) rfl (by kernel_rfl) (by kernel_rfl) (by kernel_rfl) (fun _ _ _ h => h) (Or.inl ⟨by rfl, ?hy12⟩) (by assumption) ?rest12
    case hy12 => ((intro w hSw); (try dsimp only at hSw); go_simp; (try with_reducible rfl))
    case rest12 =>
    simp only [Act.put, List.getElem_toArray, List.getElem_cons_zero, List.getElem_cons_succ, List.setIfInBounds_toArray, List.set_cons_zero, List.set_cons_succ]
    refine wpAnyH_take (i := 13) (v := ?v13) rfl (by kernel_rfl) (by kernel_rfl) (by kernel_rfl) (fun _ _ _ h => h) (Or.inl ⟨by rfl, ?hy13⟩) (by assumption) ?rest13
    case hy13 => ((intro w hSw); (try dsimp only at hSw); go_simp; (try with_reducible rfl))
    case rest13 =>
    simp only [Act.put, List.getElem_toArray, List.getElem_cons_zero, List.getElem_cons_succ, List.setIfInBounds_toArray, List.set_cons_zero, List.set_cons_succ]
    refine wpAnyH_take (i := 14) (v := ?v14) rfl (by kernel_rfl) (by kernel_rfl) (by kernel_rfl) (fun _ _ _ h => h) (Or.inl ⟨by rfl, ?hy14⟩) (by assumption) ?rest14
    case hy14 => ((intro w hSw); (try dsimp only at hSw); go_simp; (try with_reducible rfl))
    case rest14 =>
    simp only [Act.put, List.getElem_toArray, List.getElem_cons_zero, List.getElem_cons_succ, List.setIfInBounds_toArray, List.set_cons_zero, List.set_cons_succ]
    refine wpAnyH_ready (rs := [15]) (by kernel_rfl) (by simp) ?_
    refine AllReadyH.cons rfl (fun K hK => ?_) AllReadyH.nil
    go_simp
    go_at_call 27; refine (HQ.out _ _ _ _ _ _ _ _ _ (by assumption) (by assumption) (by assumption) _).mono ?_; rintro e wy ⟨rfl, hby⟩
    refine hK.out _ _ ?_ (fun hHeld => ?_)
    · exact keep_tri (by assumption) (by assumption)
    clear hK K
    try simp only [Act.put, List.getElem_toArray, List.getElem_cons_zero, List.getElem_cons_succ, List.setIfInBounds_toArray, List.set_cons_zero, List.set_cons_succ]
    refine wpAnyH_take (i := 16) (v := ?v16) rfl (by kernel_rfl) (by kernel_rfl) (by kernel_rfl) (fun _ _ _ h => h) (Or.inl ⟨by rfl, ?hy16⟩) (by assumption) ?rest16
    case hy16 => ((intro w hSw); (try dsimp only at hSw); go_simp; (try with_reducible rfl))
    case rest16 =>
    simp only [Act.put, List.getElem_toArray, List.getElem_cons_zero, List.getElem_cons_succ, List.setIfInBounds_toArray, List.set_cons_zero, List.set_cons_succ]
    refine wpAnyH_take (i := 17) (v := _) rfl (by kernel_rfl) (by kernel_rfl) (by kernel_rfl) (fun _ _ _ h => h) (Or.inr ⟨by rfl, rfl⟩) (by assumption) ?rest17
    case rest17 =>
    simp only [Act.put, List.getElem_toArray, List.getElem_cons_zero, List.getElem_cons_succ, List.setIfInBounds_toArray, List.set_cons_zero, List.set_cons_succ]
    refine wpAnyH_take (i := 18) (v := _) rfl (by kernel_rfl) (by kernel_rfl) (by kernel_rfl) (fun _ _ _ h => h) (Or.inr ⟨by rfl, rfl⟩) (by assumption) ?rest18
    case rest18 =>
    simp only [Act.put, List.getElem_toArray, List.getElem_cons_zero, List.getElem_cons_succ, List.setIfInBounds_toArray, List.set_cons_zero, List.set_cons_succ]
    refine wpAnyH_take (i := 20) (v := _) rfl (by kernel_rfl) (by kernel_rfl) (by kernel_rfl) (fun _ _ _ h => h) (Or.inr ⟨by rfl, rfl⟩) (by assumption) ?rest20
    case rest20 =>
    simp only [Act.put, List.getElem_toArray, List.getElem_cons_zero, List.getElem_cons_succ, List.setIfInBounds_toArray, List.set_cons_zero, List.set_cons_succ]
    refine wpAnyH_take (i := 19) (v := _) rfl (by kernel_rfl) (by kernel_rfl) (by kernel_rfl) (fun _ _ _ h => h) (Or.inr ⟨by rfl, rfl⟩) (by assumption) ?rest19
    case rest19 =>
    simp only [Act.put, List.getElem_toArray, List.getElem_cons_zero, List.getElem_cons_succ, List.setIfInBounds_toArray, List.set_cons_zero, List.set_cons_succ]
    refine wpAnyH_take (i := 21) (v := _) rfl (by kernel_rfl) (by kernel_rfl) (by kernel_rfl) (fun _ _ _ h => h) (Or.inr ⟨by rfl, rfl⟩) (by assumption) ?rest21
    case rest21 =>
    simp only [Act.put, List.getElem_toArray, List.getElem_cons_zero, List.getElem_cons_succ, List.setIfInBounds_toArray, List.set_cons_zero, List.set_cons_succ]
    refine wpAnyH_take (i := 22) (v := ?v22) rfl (by kernel_rfl) (by kernel_rfl) (by kernel_rfl) (fun _ _ _ h => h) (Or.inl ⟨by rfl, ?hy22⟩) (by assumption) ?rest22
    case hy22 => ((intro w hSw); (try dsimp only at hSw); go_simp; (try with_reducible rfl))
    case rest22 =>
    simp only [Act.put, List.getElem_toArray, List.getElem_cons_zero, List.getElem_cons_succ, List.setIfInBounds_toArray, List.set_cons_zero, List.set_cons_succ]
    refine wpAnyH_take (i := 23) (v := ?v23) rfl (by kernel_rfl) (by kernel_rfl) (by kernel_rfl) (fun _ _ _ h => h) (Or.inl ⟨by rfl, ?hy23⟩) (by assumption) ?rest23
    case hy23 => ((intro w hSw); (try dsimp only at hSw); go_simp; (try with_reducible rfl))
    case rest23 =>
    simp only [Act.put, List.getElem_toArray, List.getElem_cons_zero, List.getElem_cons_succ, List.setIfInBounds_toArray, List.set_cons_zero, List.set_cons_succ]
    refine wpAnyH_take (i := 24) (v := ?v24) rfl (by kernel_rfl) (by kernel_rfl) (by kernel_rfl) (fun _ _ _ h => h) (Or.inl ⟨by rfl, ?hy24⟩) (by assumption) ?rest24
    case hy24 => ((intro w hSw); (try dsimp only at hSw); go_simp; (try with_reducible rfl))
    case rest24 =>
    simp only [Act.put, List.getElem_toArray, List.getElem_cons_zero, List.getElem_cons_succ, List.setIfInBounds_toArray, List.set_cons_zero, List.set_cons_succ]
    refine wpAnyH_ready (rs := [25]) (by kernel_rfl) (by simp) ?_
    refine AllReadyH.cons rfl (fun K hK => ?_) AllReadyH.nil
    go_simp
    go_at_call 16; refine (HA.out _).mono ?_; rintro e wz ⟨rfl, hbz⟩
    refine hK.out _ _ ?_ (fun hHeld => ?_)
    · exact keep_tri (by assumption) (by assumption)
    clear hK K
    try simp only [Act.put, List.getElem_toArray, List.getElem_cons_zero, List.getElem_cons_succ, List.setIfInBounds_toArray, List.set_cons_zero, List.set_cons_succ]
    refine wpAnyH_take (i := 26) (v := ?v26) rfl (by kernel_rfl) (by kernel_rfl) (by kernel_rfl) (fun _ _ _ h => h) (Or.inl ⟨by rfl, ?hy26⟩) (by assumption) ?rest26
    case hy26 => ((intro w hSw); (try dsimp only at hSw); go_simp; (try with_reducible rfl))
    case rest26 =>
    simp only [Act.put, List.getElem_toArray, List.getElem_cons_zero, List.getElem_cons_succ, List.setIfInBounds_toArray, List.set_cons_zero, List.set_cons_succ]
    refine wpAnyH_take (i := 27) (v := ?v27) rfl (by kernel_rfl) (by kernel_rfl) (by kernel_rfl) (fun _ _ _ h => h) (Or.inl ⟨by rfl, ?hy27⟩) (by assumption) ?rest27
    case hy27 => ((intro w hSw); (try dsimp only at hSw); go_simp; (try with_reducible rfl))
    case rest27 =>
    simp only [Act.put, List.getElem_toArray, List.getElem_cons_zero, List.getElem_cons_succ, List.setIfInBounds_toArray, List.set_cons_zero, List.set_cons_succ]
    refine wpAnyH_done (by kernel_rfl) ?_ _
    go_wp2
    go_ret
    exact ⟨rfl, sixteenth (by assumption)⟩
end Go.Proofs.Ythbjkibclbgjoaa
