/- Numerals: plain: carries, borrows, products, quotients. -/
import Derived.Test.YtfkfboiblgoamaaDigMath
namespace Go.Proofs.Ytfkfboiblgoamaa
open Go.RowKit

namespace Dig
theorem p10 (i : Nat) : 0 < 10 ^ i := Nat.pow_pos (by omega)
theorem div_step {S r add : Nat} (hr : 0 < r) : (S + r * add) / (r * 10) = (S / r + add) / 10 := by
  rw [← Nat.div_div_eq_div_mul, Nat.add_mul_div_left _ _ hr]
theorem mod_split (a i : Nat) : a % 10 ^ (i + 1) = a % 10 ^ i + 10 ^ i * dg a i := by rw [dg_mod, Nat.mul_comm]
theorem whole_split (a i : Nat) : a = a % 10 ^ i + 10 ^ i * (a / 10 ^ i) := (Nat.mod_add_div a _).symm

/-! ### sums -/
def carry (a b i : Nat) : Nat := (a % 10 ^ i + b % 10 ^ i) / 10 ^ i
theorem carry_zero (a b : Nat) : carry a b 0 = 0 := by unfold carry; simp [Nat.mod_one]
theorem carry_le (a b i : Nat) : carry a b i ≤ 1 := by
  unfold carry
  have h1 := Nat.mod_lt a (p10 i)
  have h2 := Nat.mod_lt b (p10 i)
  have : (a % 10 ^ i + b % 10 ^ i) / 10 ^ i < 2 := Nat.div_lt_of_lt_mul (by omega)
  omega
theorem carry_succ (a b i : Nat) : (carry a b i + dg a i + dg b i) / 10 = carry a b (i + 1) := by
  unfold carry
  rw [mod_split, mod_split, Nat.pow_succ, show a % 10 ^ i + 10 ^ i * dg a i + (b % 10 ^ i + 10 ^ i * dg b i) = (a % 10 ^ i + b % 10 ^ i) + 10 ^ i * (dg a i + dg b i) by rw [Nat.mul_add]; omega, div_step (p10 i), Nat.add_assoc]
theorem sum_dg (a b i : Nat) : (carry a b i + dg a i + dg b i) % 10 = dg (a + b) i := by
  have e : (a + b) / 10 ^ i = carry a b i + (a / 10 ^ i + b / 10 ^ i) := by
    unfold carry
    have h1 := whole_split a i
    have h2 := whole_split b i
    conv => lhs; rw [h1, h2]
    rw [show a % 10 ^ i + 10 ^ i * (a / 10 ^ i) + (b % 10 ^ i + 10 ^ i * (b / 10 ^ i)) = (a % 10 ^ i + b % 10 ^ i) + 10 ^ i * (a / 10 ^ i + b / 10 ^ i) by rw [Nat.mul_add]; omega, Nat.add_mul_div_left _ _ (p10 i)]
  unfold dg
  rw [e]
  omega

/-! ### differences -/
def borrow (a b i : Nat) : Nat := if a % 10 ^ i < b % 10 ^ i then 1 else 0
theorem borrow_zero (a b : Nat) : borrow a b 0 = 0 := by unfold borrow; simp [Nat.mod_one]
theorem borrow_le (a b i : Nat) : borrow a b i ≤ 1 := by unfold borrow; split <;> omega
theorem borrow_succ (a b i : Nat) : borrow a b (i + 1) = if dg a i < dg b i + borrow a b i then 1 else 0 := by
  unfold borrow
  rw [mod_split, mod_split]
  have h1 := Nat.mod_lt a (p10 i)
  have h2 := Nat.mod_lt b (p10 i)
  generalize a % 10 ^ i = u at *
  generalize b % 10 ^ i = v at *
  generalize 10 ^ i = p at *
  generalize dg a i = x
  generalize dg b i = y
  have m : ∀ x y : Nat, x < y → p * x + p ≤ p * y := fun x y h => by
    have := Nat.mul_le_mul_left p (show x + 1 ≤ y from h)
    rw [Nat.mul_add, Nat.mul_one] at this; exact this
  rcases Nat.lt_trichotomy x y with g | g | g
  · have := m x y g
    rw [if_pos (by omega), if_pos (by omega)]
  · subst g
    by_cases k : u < v
    · rw [if_pos k, if_pos (by omega), if_pos (by omega)]
    · rw [if_neg k, if_neg (by omega), if_neg (by omega)]
  · have := m y x g
    rw [if_neg (by omega)]
    by_cases k : u < v
    · rw [if_pos k, if_neg (by omega)]
    · rw [if_neg k, if_neg (by omega)]
theorem sub_dg {a b : Nat} (h : b ≤ a) (i : Nat) : (10 + dg a i - dg b i - borrow a b i) % 10 = dg (a - b) i := by
  have hd1 := dg_lt a i
  have hd2 := dg_lt b i
  have hb := borrow_le a b i
  have e : a / 10 ^ i = (a - b) / 10 ^ i + b / 10 ^ i + borrow a b i := by
    have h1 := whole_split a i
    have h2 := whole_split b i
    have h3 := whole_split (a - b) i
    have m1 := Nat.mod_lt a (p10 i)
    have m2 := Nat.mod_lt b (p10 i)
    have m3 := Nat.mod_lt (a - b) (p10 i)
    unfold borrow
    generalize a % 10 ^ i = u at *
    generalize b % 10 ^ i = v at *
    generalize (a - b) % 10 ^ i = t at *
    generalize a / 10 ^ i = A at *
    generalize b / 10 ^ i = B at *
    generalize (a - b) / 10 ^ i = C at *
    generalize 10 ^ i = p at *
    have k : u + p * A = t + p * C + (v + p * B) := by omega
    have m : ∀ x y : Nat, x < y → p * x + p ≤ p * y := fun x y h => by
      have := Nat.mul_le_mul_left p (show x + 1 ≤ y from h)
      rw [Nat.mul_add, Nat.mul_one] at this; exact this
    have q : p * (C + B) = p * C + p * B := Nat.mul_add _ _ _
    have q2 : p * (C + B + 1) = p * C + p * B + p := by rw [Nat.mul_add, q, Nat.mul_one]
    by_cases g : u < v
    · rw [if_pos g]
      rcases Nat.lt_trichotomy A (C + B + 1) with r | r | r
      · have := m _ _ r; omega
      · exact r
      · have := m _ _ r; omega
    · rw [if_neg g, Nat.add_zero]
      rcases Nat.lt_trichotomy A (C + B) with r | r | r
      · have := m _ _ r; omega
      · exact r
      · have := m _ _ r; omega
  unfold dg at hd1 hd2 ⊢
  omega

/-! ### products -/
def up (P d b i k : Nat) : Nat := (P % 10 ^ (i + k) + d * (b % 10 ^ k) * 10 ^ i) / 10 ^ (i + k)
theorem up_zero (P d b i : Nat) : up P d b i 0 = 0 := by
  unfold up
  rw [Nat.pow_zero, Nat.mod_one, Nat.mul_zero, Nat.zero_mul, Nat.add_zero, Nat.add_zero]
  exact Nat.div_eq_of_lt (Nat.mod_lt _ (p10 i))
theorem up_le (P d b i k : Nat) (hd : d ≤ 9) : up P d b i k ≤ 9 := by
  unfold up
  have h1 := Nat.mod_lt P (p10 (i + k))
  have h2 := Nat.mod_lt b (p10 k)
  have h3 : d * (b % 10 ^ k) ≤ 9 * (10 ^ k - 1) := Nat.mul_le_mul hd (by omega)
  have h4 : d * (b % 10 ^ k) * 10 ^ i ≤ 9 * (10 ^ k - 1) * 10 ^ i := Nat.mul_le_mul_right _ h3
  have h5 : 9 * (10 ^ k - 1) * 10 ^ i ≤ 9 * 10 ^ (i + k) := by
    rw [Nat.pow_add, Nat.mul_comm (10 ^ i), ← Nat.mul_assoc]
    exact Nat.mul_le_mul_right _ (by omega)
  have : (P % 10 ^ (i + k) + d * (b % 10 ^ k) * 10 ^ i) / 10 ^ (i + k) < 10 := Nat.div_lt_of_lt_mul (by omega)
  omega
theorem up_succ (P d b i k : Nat) : (up P d b i k + dg P (i + k) + d * dg b k) / 10 = up P d b i (k + 1) := by
  unfold up
  rw [show i + (k + 1) = (i + k) + 1 by omega, mod_split P (i + k), mod_split b k]
  have e : P % 10 ^ (i + k) + 10 ^ (i + k) * dg P (i + k) + d * (b % 10 ^ k + 10 ^ k * dg b k) * 10 ^ i =
      (P % 10 ^ (i + k) + d * (b % 10 ^ k) * 10 ^ i) + 10 ^ (i + k) * (dg P (i + k) + d * dg b k) := by
    rw [Nat.mul_add d, Nat.add_mul _ _ (10 ^ i), Nat.mul_add (10 ^ (i + k)), show d * (10 ^ k * dg b k) * 10 ^ i = 10 ^ (i + k) * (d * dg b k) by
      rw [Nat.pow_add]; ac_rfl]
    omega
  rw [e, Nat.pow_succ, div_step (p10 (i + k)), Nat.add_assoc]
theorem mul_dg (P d b i k : Nat) : (up P d b i k + dg P (i + k) + d * dg b k) % 10 = dg (P + d * b * 10 ^ i) (i + k) := by
  have e : (P + d * b * 10 ^ i) / 10 ^ (i + k) = up P d b i k + (P / 10 ^ (i + k) + d * (b / 10 ^ k)) := by
    unfold up
    have h1 := whole_split P (i + k)
    have h2 := whole_split b k
    have e2 : d * b * 10 ^ i = d * (b % 10 ^ k) * 10 ^ i + 10 ^ (i + k) * (d * (b / 10 ^ k)) := by
      conv => lhs; rw [h2]
      rw [Nat.mul_add d, Nat.add_mul _ _ (10 ^ i), show d * (10 ^ k * (b / 10 ^ k)) * 10 ^ i = 10 ^ (i + k) * (d * (b / 10 ^ k)) by rw [Nat.pow_add]; ac_rfl]
    rw [e2]
    conv => lhs; rw [h1]
    rw [show P % 10 ^ (i + k) + 10 ^ (i + k) * (P / 10 ^ (i + k)) + (d * (b % 10 ^ k) * 10 ^ i + 10 ^ (i + k) * (d * (b / 10 ^ k))) =
      (P % 10 ^ (i + k) + d * (b % 10 ^ k) * 10 ^ i) + 10 ^ (i + k) * (P / 10 ^ (i + k) + d * (b / 10 ^ k)) by rw [Nat.mul_add (10 ^ (i + k))]; omega]
    rw [Nat.add_mul_div_left _ _ (p10 (i + k))]
  unfold dg
  rw [e]
  have m : ∀ d x : Nat, d * x % 10 = d * (x % 10) % 10 := fun d x => by rw [Nat.mul_mod d x, Nat.mul_mod d (x % 10), Nat.mod_mod]
  have := m d (b / 10 ^ k)
  omega
theorem dg_low {P Q i : Nat} (h : ∃ c, Q = P + c * 10 ^ i) {j : Nat} (hj : j < i) : dg Q j = dg P j := by
  obtain ⟨c, rfl⟩ := h
  unfold dg
  obtain ⟨m, rfl⟩ : ∃ m, i = j + (m + 1) := ⟨i - j - 1, by omega⟩
  rw [Nat.pow_add, show c * (10 ^ j * 10 ^ (m + 1)) = 10 ^ j * (c * 10 ^ (m + 1)) by ac_rfl, Nat.add_mul_div_left _ _ (p10 j), Nat.pow_succ, show P / 10 ^ j + c * (10 ^ m * 10) = P / 10 ^ j + (c * 10 ^ m) * 10 by rw [Nat.mul_assoc], Nat.add_mul_mod_self_right]
theorem prod_succ (a b i : Nat) : a % 10 ^ (i + 1) * b = a % 10 ^ i * b + dg a i * b * 10 ^ i := by
  rw [dg_mod, Nat.add_mul]; congr 1; ac_rfl
theorem prod_lt {a b i n : Nat} (hb : b < 10 ^ n) : a % 10 ^ i * b < 10 ^ (i + n) := by
  rw [Nat.pow_add]
  have := Nat.mod_lt a (p10 i)
  exact Nat.mul_lt_mul'' this hb

/-! ### quotients -/
theorem quo_step {r d b : Nat} (hr : r < b) (hd : d < 10) : (10 * r + d) / b < 10 := Nat.div_lt_of_lt_mul (by omega)
theorem div_dg (a b k : Nat) : a / 10 ^ k / b % 10 = dg (a / b) k := by
  unfold dg
  rw [Nat.div_div_eq_div_mul, Nat.div_div_eq_div_mul, Nat.mul_comm]
theorem pre_succ (a k : Nat) : a / 10 ^ k = 10 * (a / 10 ^ (k + 1)) + dg a k := by
  unfold dg
  rw [Nat.pow_succ, ← Nat.div_div_eq_div_mul]
  omega
theorem rem_step (x d b : Nat) : (10 * (x % b) + d) % b = (10 * x + d) % b := by
  rw [Nat.add_mod, Nat.mul_mod, Nat.mod_mod, ← Nat.mul_mod, ← Nat.add_mod]
theorem quo_dg {x d b : Nat} (hb : 0 < b) (hd : d < 10) : (10 * (x % b) + d) / b = (10 * x + d) / b % 10 := by
  have h1 : 10 * x + d = b * (10 * (x / b)) + (10 * (x % b) + d) := by
    have := Nat.div_add_mod x b
    have e : b * (10 * (x / b)) = 10 * (b * (x / b)) := by ac_rfl
    omega
  have h2 := quo_step (Nat.mod_lt x hb) hd
  rw [h1, Nat.mul_add_div hb, Nat.mul_add_mod, Nat.mod_eq_of_lt h2]
end Dig
end Go.Proofs.Ytfkfboiblgoamaa
