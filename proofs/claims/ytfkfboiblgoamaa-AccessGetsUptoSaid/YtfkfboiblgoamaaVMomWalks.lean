/- Times: which are valid. -/
import Derived.Test.YtfkfboiblgoamaaVMomCal
import Derived.Deep.QuietTactic
import Derived.BigQuiet
namespace Go.Proofs.Ytfkfboiblgoamaa
open Go.RowKit

namespace Mom
def Ok (k d n o : Int) : Prop := (1 ≤ k ∧ k ≤ 4 ∧ 0 ≤ d ∧ d ≤ 3652058 ∧ 0 ≤ n ∧ n ≤ 86399999999999 ∧ -1439 ≤ o ∧ o ≤ 1439) ∧ (k = 2 → d = 0) ∧ (k = 1 → n = 0) ∧ (k ≠ 4 → o = 0)
instance (k d n o : Int) : Decidable (Ok k d n o) := by unfold Ok; infer_instance
end Mom

def Mom.dated (k : Int) : Prop := k = 1 ∨ k = 3 ∨ k = 4
def Mom.clocked (k : Int) : Prop := k = 2 ∨ k = 3 ∨ k = 4
instance (k : Int) : Decidable (Mom.dated k) := by unfold Mom.dated; infer_instance
instance (k : Int) : Decidable (Mom.clocked k) := by unfold Mom.clocked; infer_instance
theorem dated_any (k : Int) (w : World) : Calls Try.prog 70 #[.int .i64 k] w fun e w' => e = .returned (.bool (decide (Mom.dated k))) ∧ w = w' := by
  go_enter Try.func70, Try.ntmps70
  go_wp2
  all_goals
    go_ret
    refine ⟨congrArg (fun b => Ending.returned (Value.bool b)) ?_, rfl⟩
    rw [Bool.eq_iff_iff]; simp [Mom.dated, *]
theorem clocked_any (k : Int) (w : World) : Calls Try.prog 71 #[.int .i64 k] w fun e w' => e = .returned (.bool (decide (Mom.clocked k))) ∧ w = w' := by
  go_enter Try.func71, Try.ntmps71
  go_wp2
  all_goals
    go_ret
    refine ⟨congrArg (fun b => Ending.returned (Value.bool b)) ?_, rfl⟩
    rw [Bool.eq_iff_iff]; simp [Mom.clocked, *]

set_option maxHeartbeats 2000000 in
set_option maxRecDepth 100000 in
theorem rtime_in (k d n o : Int) (hb : 1 ≤ k ∧ k ≤ 4 ∧ 0 ≤ d ∧ d ≤ 3652058 ∧ 0 ≤ n ∧ n ≤ 86399999999999 ∧ -1439 ≤ o ∧ o ≤ 1439) (w : World) : Calls Try.prog 64 #[.agg #[.int .i64 k, .int .i64 d, .int .i64 n, .int .i64 o]] w fun e w' => e = .returned (.bool (decide (Mom.Ok k d n o))) ∧ Below w.heap.size w w' := by
  obtain ⟨b1, b2, b3, b4, b5, b6, b7, b8⟩ := hb
  have hk : k = 1 ∨ k = 2 ∨ k = 3 ∨ k = 4 := by omega
  have q1 : decide (Mom.dated 1) = true := rfl
  have q2 : decide (Mom.dated 2) = false := rfl
  have q3 : decide (Mom.dated 3) = true := rfl
  have q4 : decide (Mom.dated 4) = true := rfl
  have r1 : decide (Mom.clocked 1) = false := rfl
  have r2 : decide (Mom.clocked 2) = true := rfl
  have r3 : decide (Mom.clocked 3) = true := rfl
  have r4 : decide (Mom.clocked 4) = true := rfl
  rcases hk with rfl | rfl | rfl | rfl
  all_goals
    clear b1 b2
    go_enter Try.func64, Try.ntmps64
    go_wp2_with (first | (go_at_call 70; refine (dated_any _ _).mono ?_; rintro e w1 ⟨rfl, rfl⟩) | (go_at_call 71; refine (clocked_any _ _).mono ?_; rintro e w1 ⟨rfl, rfl⟩))
  all_goals
    go_ret
    refine ⟨congrArg (fun b => Ending.returned (Value.bool b)) ?_, (Below.refl _ _).alloc (Nat.le_refl _) _⟩
    try simp only [beq_iff_eq, beq_eq_false_iff_ne, ne_eq] at *
    first
      | exact (decide_eq_false (by unfold Mom.Ok; omega)).symm
      | exact (decide_eq_true (by unfold Mom.Ok; omega)).symm
      | (rw [Bool.eq_iff_iff, beq_iff_eq, decide_eq_true_iff]; unfold Mom.Ok; omega)
set_option maxHeartbeats 2000000 in
set_option maxRecDepth 100000 in
theorem rtime_out (k d n o : Int) (hb : ¬ (1 ≤ k ∧ k ≤ 4 ∧ 0 ≤ d ∧ d ≤ 3652058 ∧ 0 ≤ n ∧ n ≤ 86399999999999 ∧ -1439 ≤ o ∧ o ≤ 1439)) (w : World) : Calls Try.prog 64 #[.agg #[.int .i64 k, .int .i64 d, .int .i64 n, .int .i64 o]] w fun e w' => e = .returned (.bool (decide (Mom.Ok k d n o))) ∧ Below w.heap.size w w' := by
  have hd : decide (Mom.Ok k d n o) = false := decide_eq_false (fun h => hb h.1)
  have hc : k < 1 ∨ 4 < k ∨ d < 0 ∨ 3652058 < d ∨ n < 0 ∨ 86399999999999 < n ∨ o < -1439 ∨ 1439 < o := by omega
  rw [hd]
  clear hd hb
  rcases hc with h | h | h | h | h | h | h | h
  all_goals
    go_enter Try.func64, Try.ntmps64
    go_wp2_with fail
  all_goals
    first
      | omega
      | (go_ret; exact ⟨rfl, (Below.refl _ _).alloc (Nat.le_refl _) _⟩)
theorem rtime_any (k d n o : Int) (w : World) : Calls Try.prog 64 #[.agg #[.int .i64 k, .int .i64 d, .int .i64 n, .int .i64 o]] w fun e w' => e = .returned (.bool (decide (Mom.Ok k d n o))) ∧ Below w.heap.size w w' := by
  by_cases hb : 1 ≤ k ∧ k ≤ 4 ∧ 0 ≤ d ∧ d ≤ 3652058 ∧ 0 ≤ n ∧ n ≤ 86399999999999 ∧ -1439 ≤ o ∧ o ≤ 1439
  · exact rtime_in k d n o hb w
  · exact rtime_out k d n o hb w
end Go.Proofs.Ytfkfboiblgoamaa
