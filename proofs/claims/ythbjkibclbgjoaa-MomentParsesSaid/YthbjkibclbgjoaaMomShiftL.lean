/- Times: the law of shifts. -/
import Derived.Test.YthbjkibclbgjoaaMomShiftR
namespace Go.Proofs.Ythbjkibclbgjoaa
open Go.RowKit

theorem wf_i64 {a : Int} (h : (Lit.int .i64 a).wf = true) : Mom.i64 a := by
  unfold Mom.i64
  have e1 : IntKind.i64.min = -9223372036854775808 := rfl
  have e2 : IntKind.i64.max = 9223372036854775807 := rfl
  simp only [Lit.wf, e1, e2, Bool.and_eq_true, decide_eq_true_eq] at h
  exact h

set_option maxHeartbeats 1000000 in
theorem walk_MomentShifts (k d n o u v : Int) (_ : (Lit.int .i64 k).wf = true) (_ : (Lit.int .i64 d).wf = true) (_ : (Lit.int .i64 n).wf = true) (_ : (Lit.int .i64 o).wf = true) (hu : (Lit.int .i64 u).wf = true) (hv : (Lit.int .i64 v).wf = true) (w : World) :
    Calls Try.prog 8 #[.agg #[.int .i64 k, .int .i64 d, .int .i64 n, .int .i64 o], .int .i64 u, .int .i64 v] w fun e w' => e = .returned (.bool true) ∧ Below w.heap.size w w' := by
  have H1 := Lib.hid (shift_any ⟨k, d, n, o⟩ u v (wf_i64 hu) (wf_i64 hv))
  have H2 := Lib.hid (rshift_any ⟨k, d, n, o⟩ u v (wf_i64 hu) (wf_i64 hv))
  clear hu hv
  generalize Mom.shift ⟨k, d, n, o⟩ u v = Z at *
  obtain ⟨⟨a, b, c, g⟩, r⟩ := Z
  unfold Mom.ag at H1 H2
  dsimp only at H1 H2
  have q1 : ∀ W, (binOp .eql 23 (.agg #[.int .i64 a, .int .i64 b, .int .i64 c, .int .i64 g]) (.agg #[.int .i64 a, .int .i64 b, .int .i64 c, .int .i64 g])).run Try.prog W = .ok (.bool true) W := fun W => by rw [time_eql, decide_eq_true rfl]
  have hp := Whole.new w 23 #[.int .i64 k, .int .i64 d, .int .i64 n, .int .i64 o]
  have hbb := (Below.refl w.heap.size w).alloc (Nat.le_refl _) (.cells #[.int .i64 k, .int .i64 d, .int .i64 n, .int .i64 o] 23)
  go_enter Try.func8, Try.ntmps8
  go_wp2_with fail
  refine (H1.out _).mono ?_; rintro e w1 ⟨rfl, hb1⟩
  replace hp := hp.below hb1 hp.lt
  replace hbb := below_then hbb hb1
  clear hb1
  replace hp := hp.alloc (.cells #[.int .i64 a, .int .i64 b, .int .i64 c, .int .i64 g] 23)
  have hu := Whole.new w1 23 #[.int .i64 a, .int .i64 b, .int .i64 c, .int .i64 g]
  replace hbb := hbb.alloc hbb.size (.cells #[.int .i64 a, .int .i64 b, .int .i64 c, .int .i64 g] 23)
  obtain ⟨x0, x1, x2, x3⟩ := hp.c4
  go_wp2_with fail
  refine (H2.out _).mono ?_; rintro e w2 ⟨rfl, hb2⟩
  replace hu := hu.below hb2 hu.lt
  replace hbb := below_then hbb hb2
  clear hb2 x0 x1 x2 x3 hp
  replace hu := hu.alloc (.cells #[.int .i64 a, .int .i64 b, .int .i64 c, .int .i64 g] 23)
  have hv := Whole.new w2 23 #[.int .i64 a, .int .i64 b, .int .i64 c, .int .i64 g]
  replace hbb := hbb.alloc hbb.size (.cells #[.int .i64 a, .int .i64 b, .int .i64 c, .int .i64 g] 23)
  obtain ⟨u0, u1, u2, u3⟩ := hu.c4
  obtain ⟨v0, v1, v2, v3⟩ := hv.c4
  go_wp2_with fail
  refine (mom_awake _).mono ?_; rintro e w5 ⟨rfl, hb5⟩
  go_wp2_with fail
  go_ret
  exact ⟨rfl, below_then hbb hb5⟩
end Go.Proofs.Ythbjkibclbgjoaa
