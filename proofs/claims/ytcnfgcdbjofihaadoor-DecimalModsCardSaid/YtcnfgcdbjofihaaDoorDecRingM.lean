/- Decimals: products, exact quotients and the laws of a ring, by value. -/
import Derived.Test.YtcnfgcdbjofihaaDoorDecVal
namespace Go.Proofs.YtcnfgcdbjofihaaDoor
open Go.RowKit

namespace Dec
theorem al_swap {a b : Dc} (ha : ok a) (hb : ok b) : al b a = ((al a b).2.1, (al a b).1, (al a b).2.2) := by
  unfold al
  by_cases a0 : a.m = 0
  · by_cases b0 : b.m = 0
    · rw [if_pos a0, if_pos b0]
      obtain rfl := ok_zero ha a0
      obtain rfl := ok_zero hb b0
      rfl
    · rw [if_pos a0, if_neg b0, if_pos a0]
  · by_cases b0 : b.m = 0
    · rw [if_neg a0, if_pos b0, if_pos b0, if_neg a0]
    · rw [if_neg a0, if_neg b0, if_neg b0, if_neg a0]
      dsimp only
      rw [Int.min_comm b.e a.e]
theorem norm_zero (neg : Bool) (e : Int) : normR neg 0 e = (z0, 0) := by unfold normR; rw [if_pos rfl]
theorem add_comm' {a b : Dc} (ha : ok a) (hb : ok b) : addR a b = addR b a := by
  have hs := al_swap ha hb
  unfold addR
  rw [hs]
  generalize al a b = L
  obtain ⟨X, Y, z⟩ := L
  dsimp only
  by_cases hn : a.neg = b.neg
  · rw [if_pos hn, if_pos hn.symm, hn, Nat.add_comm]
  · have hn2 : ¬ b.neg = a.neg := fun h => hn h.symm
    rw [if_neg hn, if_neg hn2]
    by_cases h1 : Y ≤ X
    · rw [if_pos h1]
      by_cases h2 : X ≤ Y
      · rw [if_pos h2, show X - Y = 0 by omega, show Y - X = 0 by omega, norm_zero, norm_zero]
      · rw [if_neg h2]
    · rw [if_neg h1, if_pos (by omega)]
/-- The sum of a sum and a number, by whichever way. -/
theorem add_assoc' {a b c : Dc} (ha : ok a) (hb : ok b) (hc : ok c) (h1 : (addR a b).2 = 0) (h2 : (addR b c).2 = 0) (h3 : (addR (addR a b).1 c).2 = 0) : addR a (addR b c).1 = ((addR (addR a b).1 c).1, 0) := by
  have v1 := add_val ha hb h1
  have v2 := add_val hb hc h2
  have v3 := add_val (add_ok ha hb) hc h3
  exact add_of ha (add_ok hb hc) (add_ok (add_ok ha hb) hc) (by rw [v2, v3, v1]; omega)
/-- The negative. -/
def negR (a : Dc) : Dc := if a.m = 0 then a else ⟨!a.neg, a.m, a.e⟩
theorem neg_ok {a : Dc} (h : ok a) : ok (negR a) := by
  unfold negR
  split
  · exact h
  · rename_i h0
    unfold ok vd at h ⊢
    have hp := st_pos h0
    rw [if_neg (by omega)] at h
    dsimp only
    rw [if_neg (by omega)]
    exact h
theorem neg_val {a : Dc} : N (negR a) = -N a := by
  unfold negR
  split
  · rename_i h0
    unfold N
    rw [mag_zero h0]
    unfold sgd
    split <;> omega
  · unfold N mag sgd
    dsimp only
    cases a.neg <;> simp
theorem sub_back {a b : Dc} (ha : ok a) (hb : ok b) (h1 : (addR a b).2 = 0) : addR (addR a b).1 (negR b) = (a, 0) := by
  have v1 := add_val ha hb h1
  exact add_of (add_ok ha hb) (neg_ok hb) ha (by rw [v1, neg_val]; omega)
def big2 : Nat := Dig.big 2000
theorem big_pos (k : Nat) : 0 < Dig.big k := Nat.pow_pos (by omega)
theorem big2_pos : 0 < big2 := big_pos 2000
theorem big3 (i j k l : Nat) (h : i + j = k + l) : 10 ^ i * Dig.big j = 10 ^ k * 10 ^ l := by
  unfold Dig.big
  rw [← Nat.pow_add, ← Nat.pow_add, h]
theorem big4 (j k l : Nat) (h : j = k + l) : Dig.big j = 10 ^ k * 10 ^ l := by
  unfold Dig.big
  rw [← Nat.pow_add, h]
/-- The product. -/
def mulR (a b : Dc) : Dc × Int := normR (a.neg != b.neg) (a.m * b.m) (a.e + b.e)
theorem mul_mag {a b : Dc} (ha : ok a) (hb : ok b) : a.m * b.m * 10 ^ (a.e + b.e + 2000).toNat * big2 = mag a * mag b := by
  obtain ⟨a1, a2, a3, _⟩ := ok_all ha
  obtain ⟨b1, b2, b3, _⟩ := ok_all hb
  have e : 10 ^ (a.e + b.e + 2000).toNat * big2 = 10 ^ (a.e + 2000).toNat * 10 ^ (b.e + 2000).toNat := big3 _ 2000 _ _ (by omega)
  unfold mag
  rw [Nat.mul_assoc, e]
  generalize 10 ^ (a.e + 2000).toNat = x
  generalize 10 ^ (b.e + 2000).toNat = y
  rw [Nat.mul_assoc, Nat.mul_assoc, Nat.mul_left_comm b.m]
theorem sgd_mul (n n' : Bool) (x y : Nat) : sgd (n != n') (x * y) = sgd n x * sgd n' y := by
  unfold sgd
  cases n <;> cases n' <;> simp [Int.neg_mul, Int.mul_neg]
theorem sgd_scale (n : Bool) (x y : Nat) : sgd n (x * y) = sgd n x * (y : Int) := by
  unfold sgd
  cases n <;> simp [Int.neg_mul]
theorem mul_ok (a b : Dc) (ha : ok a) (hb : ok b) : ok (mulR a b).1 := by
  obtain ⟨a1, a2, a3, _⟩ := ok_all ha
  obtain ⟨b1, b2, b3, _⟩ := ok_all hb
  exact norm_ok _ _ (by omega)
theorem mul_val {a b : Dc} (ha : ok a) (hb : ok b) (h : (mulR a b).2 = 0) : N (mulR a b).1 * (big2 : Int) = N a * N b := by
  obtain ⟨a1, a2, a3, _⟩ := ok_all ha
  obtain ⟨b1, b2, b3, _⟩ := ok_all hb
  unfold mulR at h ⊢
  rw [(norm_val (by omega) h).2, ← sgd_scale, mul_mag ha hb, sgd_mul]
  rfl
theorem mul_of {a b d : Dc} (ha : ok a) (hb : ok b) (hd : ok d) (h : N a * N b = N d * (big2 : Int)) : mulR a b = (d, 0) := by
  obtain ⟨a1, a2, a3, _⟩ := ok_all ha
  obtain ⟨b1, b2, b3, _⟩ := ok_all hb
  unfold mulR
  refine norm_of (by omega) hd ?_
  have h2 : sgd (a.neg != b.neg) (a.m * b.m * 10 ^ (a.e + b.e + 2000).toNat) * (big2 : Int) = N d * (big2 : Int) := by
    rw [← sgd_scale, mul_mag ha hb, sgd_mul]
    exact h
  have hb2 := big2_pos
  exact Int.eq_of_mul_eq_mul_right (by omega) h2
/-- Products of sums are sums of products. -/
theorem mul_dist {a b c : Dc} (ha : ok a) (hb : ok b) (hc : ok c) (h1 : (addR a b).2 = 0) (h2 : (mulR (addR a b).1 c).2 = 0) (h3 : (mulR a c).2 = 0) (h4 : (mulR c b).2 = 0) : addR (mulR a c).1 (mulR c b).1 = ((mulR (addR a b).1 c).1, 0) := by
  have v1 := add_val ha hb h1
  have v2 := mul_val (add_ok ha hb) hc h2
  have v3 := mul_val ha hc h3
  have v4 := mul_val hc hb h4
  refine add_of (mul_ok _ _ ha hc) (mul_ok _ _ hc hb) (mul_ok _ _ (add_ok ha hb) hc) ?_
  have hb2 := big2_pos
  refine Int.eq_of_mul_eq_mul_right (a := (big2 : Int)) (by omega) ?_
  rw [Int.add_mul, v3, v4, v2, v1, Int.add_mul, Int.mul_comm (N c) (N b)]
/-- The exact quotient. -/
def divR (a b : Dc) : Dc × Int :=
  if b.m = 0 then (z0, 14) else if a.m * Dig.big 400 % b.m ≠ 0 then (z0, 15) else normR (a.neg != b.neg) (a.m * Dig.big 400 / b.m) (a.e - b.e - 400)
theorem div_mul {a c : Dc} (ha : ok a) (hc : ok c) (h0 : c.m ≠ 0) (h : (mulR a c).2 = 0) : divR (mulR a c).1 c = (a, 0) := by
  obtain ⟨a1, a2, a3, _⟩ := ok_all ha
  obtain ⟨c1, c2, c3, _⟩ := ok_all hc
  unfold divR
  rw [if_neg h0]
  by_cases a0 : a.m = 0
  · obtain rfl := ok_zero ha a0
    have hm : mulR z0 c = (z0, 0) := by unfold mulR z0; dsimp only; rw [Nat.zero_mul, norm_zero]; rfl
    rw [hm]
    have hz : z0.m = 0 := rfl
    dsimp only
    rw [hz, Nat.zero_mul, Nat.zero_mod, if_neg (by omega), Nat.zero_div, norm_zero]
  · have p0 : a.m * c.m ≠ 0 := Nat.ne_of_gt (Nat.mul_pos (Nat.pos_of_ne_zero a0) (Nat.pos_of_ne_zero h0))
    unfold mulR normR at h ⊢
    rw [if_neg p0] at h ⊢
    have hP := cut_mul (a.m * c.m)
    have hlt : a.m * c.m < Dig.big 240 := by
      have := Nat.mul_lt_mul'' (ok_lt ha) (ok_lt hc)
      unfold Dig.big at this ⊢
      rwa [← Nat.pow_add] at this
    have htz : tz (a.m * c.m) ≤ 240 := Nat.le_trans (tz_all _).1 ((Dig.st_size _ _).2 hlt)
    generalize tz (a.m * c.m) = t at *
    generalize cut (a.m * c.m) = P at *
    by_cases hg : 400 < a.e + c.e + t ∨ a.e + c.e + t < -400 ∨ ¬ P < Dig.big 120
    · rw [if_pos hg] at h
      exact absurd h (by decide)
    · rw [if_neg hg]
      dsimp only
      have e1 : P * Dig.big 400 = c.m * (a.m * 10 ^ (400 - t)) := by
        have : Dig.big 400 = 10 ^ t * 10 ^ (400 - t) := big4 400 _ _ (by omega)
        rw [this, ← Nat.mul_assoc, hP, Nat.mul_comm a.m c.m, Nat.mul_assoc]
      rw [e1, Nat.mul_mod_right, if_neg (by omega), Nat.mul_div_cancel_left _ (Nat.pos_of_ne_zero h0)]
      refine norm_of (by omega) ha ?_
      have hn : ((a.neg != c.neg) != c.neg) = a.neg := by cases a.neg <;> cases c.neg <;> rfl
      rw [hn, Nat.mul_assoc, ← Nat.pow_add]
      unfold N mag
      congr 3
      omega
end Dec
end Go.Proofs.YtcnfgcdbjofihaaDoor
