/- Times: moments, and how they compare, in the program. -/
import Derived.Test.YthbjkibclbgjoaaMomAwake
namespace Go.Proofs.Ythbjkibclbgjoaa
open Go.RowKit

namespace Mom
def dD (d n : Int) : Int := d + n / 86400000000000
def dN (n : Int) : Int := n % 86400000000000
def i64 (n : Int) : Prop := -9223372036854775808 ≤ n ∧ n ≤ 9223372036854775807
end Mom
def Mom.sp (a b : Int) : Value := .agg #[.int .i64 a, .int .i64 b]

theorem Mom.sp_eq {a b c d : Int} (h : a = c) (k : b = d) : Ending.returned (Value.agg #[.int .i64 a, .int .i64 b]) = .returned (Mom.sp c d) := by rw [h, k]; rfl
theorem Mom.quo (n : Int) : ∃ q r : Int, n.tdiv 86400000000000 = q ∧ n.tmod 86400000000000 = r ∧ n = 86400000000000 * q + r ∧ -86400000000000 < r ∧ r < 86400000000000 ∧ (0 ≤ n → 0 ≤ r) ∧ (n ≤ 0 → r ≤ 0) := by
  refine ⟨_, _, rfl, rfl, (Int.mul_tdiv_add_tmod n _).symm, ?_, ?_, ?_, ?_⟩
  · exact Int.lt_tmod_of_pos n (by decide)
  · exact Int.tmod_lt_of_pos n (by decide)
  · exact fun h => Int.tmod_nonneg _ h
  · intro h
    have := Int.tmod_nonneg (a := -n) 86400000000000 (by omega)
    rw [Int.neg_tmod] at this
    omega

set_option maxHeartbeats 1000000 in
theorem carry_world (d n : Int) (hd : -1000000000000 ≤ d ∧ d ≤ 1000000000000) (hn : Mom.i64 n) (w : World) :
    Calls Try.prog 48 #[.int .i64 d, .int .i64 n] w fun e w' => e = .returned (Mom.sp (Mom.dD d n) (Mom.dN n)) ∧ w' = w.alloc (.cells #[.int .i64 (Mom.dD d n), .int .i64 (Mom.dN n)] 73) := by
  obtain ⟨d1, d2⟩ := hd
  unfold Mom.i64 at hn
  obtain ⟨n1, n2⟩ := hn
  go_enter Try.func48, Try.ntmps48
  go_wp2
  · rename_i hneg
    obtain ⟨q, r, hq, hr, h1, h2, h3, h4, h5⟩ := Mom.quo n
    rw [hr] at hneg
    have e1 : wrap64 (d + wrap64 (n.tdiv 86400000000000 - 1)) = Mom.dD d n := by rw [hq]; unfold wrap64 Mom.dD; omega
    have e2 : wrap64 (n - wrap64 (wrap64 (n.tdiv 86400000000000 - 1) * 86400000000000)) = Mom.dN n := by rw [hq]; unfold wrap64 Mom.dN; omega
    rw [e1, e2]
    exact bodyPost_ret (v := Mom.sp (Mom.dD d n) (Mom.dN n)) (by unfold Mom.sp; simp [results, Try.results48, go_sem]) rfl ⟨rfl, rfl⟩
  · rename_i hneg
    obtain ⟨q, r, hq, hr, h1, h2, h3, h4, h5⟩ := Mom.quo n
    rw [hr] at hneg
    have e1 : wrap64 (d + n.tdiv 86400000000000) = Mom.dD d n := by rw [hq]; unfold wrap64 Mom.dD; omega
    have e2 : wrap64 (n - wrap64 (n.tdiv 86400000000000 * 86400000000000)) = Mom.dN n := by rw [hq]; unfold wrap64 Mom.dN; omega
    rw [e1, e2]
    exact bodyPost_ret (v := Mom.sp (Mom.dD d n) (Mom.dN n)) (by unfold Mom.sp; simp [results, Try.results48, go_sem]) rfl ⟨rfl, rfl⟩

theorem carry_any (d n : Int) (hd : -1000000000000 ≤ d ∧ d ≤ 1000000000000) (hn : Mom.i64 n) (w : World) :
    Calls Try.prog 48 #[.int .i64 d, .int .i64 n] w fun e w' => e = .returned (Mom.sp (Mom.dD d n) (Mom.dN n)) ∧ Below w.heap.size w w' :=
  (carry_world d n hd hn w).mono fun _ _ ⟨h, k⟩ => ⟨h, k ▸ (Below.refl _ _).alloc (Nat.le_refl _) _⟩

/-- The moment of a time: its days and its nanoseconds. -/
def Mom.mD (d n o : Int) : Int := Mom.dD d (n - o * 60000000000)
def Mom.mN (n o : Int) : Int := Mom.dN (n - o * 60000000000)
theorem Mom.ok_mom {k d n o : Int} (h : Mom.Ok k d n o) : Mom.i64 (n - o * 60000000000) ∧ -1 ≤ Mom.mD d n o ∧ Mom.mD d n o ≤ 3652059 ∧ 0 ≤ Mom.mN n o ∧ Mom.mN n o < 86400000000000 := by
  obtain ⟨⟨_, _, h1, h2, h3, h4, h5, h6⟩, _⟩ := h
  unfold Mom.i64 Mom.mD Mom.mN Mom.dD Mom.dN
  omega

abbrev Mom.tob (k d n o : Int) : Obj := .cells #[.int .i64 k, .int .i64 d, .int .i64 n, .int .i64 o] 23
abbrev Mom.sob (a b : Int) : Obj := .cells #[.int .i64 a, .int .i64 b] 73
set_option maxHeartbeats 1000000 in
theorem moment_world {k d n o : Int} (h : Mom.Ok k d n o) (w : World) :
    Calls Try.prog 47 #[.agg #[.int .i64 k, .int .i64 d, .int .i64 n, .int .i64 o]] w fun e w' => e = .returned (Mom.sp (Mom.mD d n o) (Mom.mN n o)) ∧
      w' = ((w.alloc (Mom.tob k d n o)).alloc (Mom.sob (Mom.mD d n o) (Mom.mN n o))).alloc (Mom.sob (Mom.mD d n o) (Mom.mN n o)) := by
  have HC := Lib.hid (carry_world d (n - o * 60000000000) (by have := h.1; omega) (Mom.ok_mom h).1)
  change Hid (∀ w, Calls Try.prog 48 #[.int .i64 d, .int .i64 (n - o * 60000000000)] w fun e w' => e = .returned (.agg #[.int .i64 (Mom.mD d n o), .int .i64 (Mom.mN n o)]) ∧ w' = w.alloc (Mom.sob (Mom.mD d n o) (Mom.mN n o))) at HC
  obtain ⟨⟨_, _, h1, h2, h3, h4, h5, h6⟩, _⟩ := h
  unfold Mom.sp
  generalize Mom.mD d n o = A at *
  generalize Mom.mN n o = B at *
  go_enter Try.func47, Try.ntmps47
  go_wp2_with fail
  refine (HC.out _).mono ?_; rintro e w1 ⟨rfl, rfl⟩
  go_wp2_with fail
  exact bodyPost_ret (v := .agg #[.int .i64 A, .int .i64 B]) (by simp [results, Try.results47, go_sem]) rfl ⟨rfl, rfl⟩
theorem moment_ok {k d n o : Int} (h : Mom.Ok k d n o) (w : World) :
    Calls Try.prog 47 #[.agg #[.int .i64 k, .int .i64 d, .int .i64 n, .int .i64 o]] w fun e w' => e = .returned (Mom.sp (Mom.mD d n o) (Mom.mN n o)) ∧ Below w.heap.size w w' :=
  (moment_world h w).mono fun _ _ ⟨h, k⟩ => ⟨h, k ▸ (((Below.refl _ _).alloc (Nat.le_refl _) _).alloc (by simp) _).alloc (by simp; omega) _⟩
end Go.Proofs.Ythbjkibclbgjoaa
