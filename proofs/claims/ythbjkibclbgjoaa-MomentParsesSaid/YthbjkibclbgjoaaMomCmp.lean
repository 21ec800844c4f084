/- Times: how they compare, in the program. -/
import Derived.Test.YthbjkibclbgjoaaMomZone
namespace Go.Proofs.Ythbjkibclbgjoaa
open Go.RowKit

namespace Mom
def sg (a b : Int) : Int := if a < b then -1 else if b < a then 1 else 0
def sg2 (a b c d : Int) : Int := if sg a c ≠ 0 then sg a c else sg b d
def cmp (t u : Tm) : Int :=
  if sg t.k u.k ≠ 0 then sg t.k u.k
  else if sg2 (mD t.d t.n t.o) (mN t.n t.o) (mD u.d u.n u.o) (mN u.n u.o) ≠ 0 then sg2 (mD t.d t.n t.o) (mN t.n t.o) (mD u.d u.n u.o) (mN u.n u.o)
  else sg t.o u.o
def same (t u : Tm) : Prop := t.k = u.k ∧ mD t.d t.n t.o = mD u.d u.n u.o ∧ mN t.n t.o = mN u.n u.o
instance (t u : Tm) : Decidable (same t u) := by unfold same; infer_instance
theorem sg_self (a : Int) : sg a a = 0 := by unfold sg; rw [if_neg (by omega), if_neg (by omega)]
theorem sg2_self (a b : Int) : sg2 a b a b = 0 := by unfold sg2; rw [sg_self, if_neg (by simp), sg_self]
end Mom

theorem nan_any (x : Int) (w : World) : Calls Try.prog 66 #[.int .i64 x] w fun e w' => e = .returned (.bool false) ∧ w = w' := by
  go_enter Try.func66, Try.ntmps66
  go_wp2
  go_ret
  exact ⟨by simp, rfl⟩
set_option maxHeartbeats 1000000 in
theorem compare_any (x y : Int) (w : World) : Calls Try.prog 51 #[.int .i64 x, .int .i64 y] w fun e w' => e = .returned (.int .i64 (Mom.sg x y)) ∧ w = w' := by
  unfold Mom.sg
  by_cases h : x < y
  · rw [if_pos h]
    go_enter Try.func51, Try.ntmps51
    go_wp2_with (go_at_call 66; refine (nan_any _ _).mono ?_; rintro e w1 ⟨rfl, rfl⟩)
    go_ret
    exact ⟨rfl, rfl⟩
  rw [if_neg h]
  by_cases h2 : y < x
  · rw [if_pos h2]
    go_enter Try.func51, Try.ntmps51
    go_wp2_with (go_at_call 66; refine (nan_any _ _).mono ?_; rintro e w1 ⟨rfl, rfl⟩)
    go_ret
    exact ⟨rfl, rfl⟩
  rw [if_neg h2]
  go_enter Try.func51, Try.ntmps51
  go_wp2_with (go_at_call 66; refine (nan_any _ _).mono ?_; rintro e w1 ⟨rfl, rfl⟩)
  go_ret
  exact ⟨rfl, rfl⟩

theorem span_eql (x1 x2 y1 y2 : Int) (W : World) : (binOp .eql 73 (.agg #[.int .i64 x1, .int .i64 x2]) (.agg #[.int .i64 y1, .int .i64 y2])).run Try.prog W = .ok (.bool (decide ((x1, x2) = (y1, y2)))) W := by
  by_cases h1 : x1 = y1
  · by_cases h2 : x2 = y2
    · subst h1 h2
      rw [decide_eq_true rfl]
      simp [go_sem]
    · rw [decide_eq_false (fun e => h2 (congrArg Prod.snd e))]
      simp [go_sem, h1, h2]
  · rw [decide_eq_false (fun e => h1 (congrArg Prod.fst e))]
    simp [go_sem, h1]

set_option maxHeartbeats 1000000 in
theorem compare2_any (a b c d : Int) (w : World) : Calls Try.prog 52 #[.agg #[.int .i64 a, .int .i64 b], .agg #[.int .i64 c, .int .i64 d]] w fun e w' => e = .returned (.int .i64 (Mom.sg2 a b c d)) ∧ Below w.heap.size w w' := by
  have hbb := ((Below.refl w.heap.size w).alloc (Nat.le_refl _) (.cells #[.int .i64 a, .int .i64 b] 73)).alloc (by simp) (.cells #[.int .i64 c, .int .i64 d] 73)
  by_cases he : (a, b) = (c, d)
  · have q1 : ∀ W, (binOp .eql 73 (.agg #[.int .i64 a, .int .i64 b]) (.agg #[.int .i64 c, .int .i64 d])).run Try.prog W = .ok (.bool true) W := fun W => by rw [span_eql, decide_eq_true he]
    have hz : Mom.sg2 a b c d = 0 := by
      obtain ⟨h1, h2⟩ := Prod.mk.inj he
      rw [h1, h2, Mom.sg2_self]
    rw [hz]
    clear he hz
    go_enter Try.func52, Try.ntmps52
    go_wp2_with fail
    go_ret
    exact ⟨rfl, hbb⟩
  · have q1 : ∀ W, (binOp .eql 73 (.agg #[.int .i64 a, .int .i64 b]) (.agg #[.int .i64 c, .int .i64 d])).run Try.prog W = .ok (.bool false) W := fun W => by rw [span_eql, decide_eq_false he]
    clear he
    unfold Mom.sg2
    have H1 := Lib.hid (compare_any a c)
    have H2 := Lib.hid (compare_any b d)
    by_cases h1 : Mom.sg a c ≠ 0
    · rw [if_pos h1]
      have t1 : (Mom.sg a c != 0) = true := by simpa using h1
      clear h1
      generalize Mom.sg a c = S at *
      go_enter Try.func52, Try.ntmps52
      go_wp2_with fail
      refine (H1.out _).mono ?_; rintro e w1 ⟨rfl, rfl⟩
      go_wp2_with fail
      go_ret
      exact ⟨rfl, hbb⟩
    · rw [if_neg h1]
      have t1 : (Mom.sg a c != 0) = false := by simpa using h1
      clear h1
      generalize Mom.sg a c = S at *
      generalize Mom.sg b d = R at *
      go_enter Try.func52, Try.ntmps52
      go_wp2_with fail
      refine (H1.out _).mono ?_; rintro e w1 ⟨rfl, rfl⟩
      go_wp2_with fail
      refine (H2.out _).mono ?_; rintro e w1 ⟨rfl, rfl⟩
      go_wp2_with fail
      go_ret
      exact ⟨rfl, hbb⟩
end Go.Proofs.Ythbjkibclbgjoaa
