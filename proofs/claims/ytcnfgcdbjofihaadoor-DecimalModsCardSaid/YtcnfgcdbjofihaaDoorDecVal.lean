/- Decimals: their values; sums and order by value. -/
import Derived.Test.YtcnfgcdbjofihaaDoorDecAdd
namespace Go.Proofs.YtcnfgcdbjofihaaDoor
open Go.RowKit

namespace Dec
/-- The absolute value, in units of the last place that there is. -/
def mag (d : Dc) : Nat := d.m * 10 ^ (d.e + 2000).toNat
def sgd (neg : Bool) (n : Nat) : Int := if neg then -(n : Int) else n
def N (d : Dc) : Int := sgd d.neg (mag d)
def isg (x : Int) : Int := if x < 0 then -1 else if x = 0 then 0 else 1
theorem ok_tz {d : Dc} (h : ok d) (h0 : d.m ≠ 0) : d.m % 10 ≠ 0 := by
  have hp := st_pos h0
  unfold ok vd at h
  rw [if_neg (by omega)] at h
  have hz : tz d.m = 0 := h.2.2.1
  have := ((tz_all d.m).2.2 h0).2
  rw [hz] at this
  simpa [Dig.dg] using this
theorem tz_odd {m : Nat} (h : m % 10 ≠ 0) : tz m = 0 := by
  have h1 := (tz_all m).2.1
  rcases Nat.eq_zero_or_pos (tz m) with g | g
  · exact g
  · exfalso
    obtain ⟨k, hk⟩ : ∃ k, tz m = k + 1 := ⟨tz m - 1, by omega⟩
    rw [hk, Nat.pow_succ] at h1
    have h2 := Nat.dvd_of_mod_eq_zero h1
    have h3 : 10 ∣ m := Nat.dvd_trans (Nat.dvd_mul_left 10 _) h2
    exact h (Nat.mod_eq_zero_of_dvd h3)
theorem odd_ne {m : Nat} (h : m % 10 ≠ 0) : m ≠ 0 := fun k => h (by rw [k])
/-- The form without final zeros is one only. -/
theorem odd_unique {m n j k : Nat} (hm : m % 10 ≠ 0) (hn : n % 10 ≠ 0) (h : m * 10 ^ j = n * 10 ^ k) : m = n ∧ j = k := by
  have hp : ∀ i, 0 < 10 ^ i := fun i => Nat.pow_pos (by omega)
  rcases Nat.lt_trichotomy j k with g | g | g
  · exfalso
    obtain ⟨c, rfl⟩ : ∃ c, k = j + 1 + c := ⟨k - j - 1, by omega⟩
    rw [show j + 1 + c = c + 1 + j by omega, Nat.pow_add, ← Nat.mul_assoc] at h
    have := Nat.eq_of_mul_eq_mul_right (hp j) h
    rw [Nat.pow_succ, ← Nat.mul_assoc] at this
    exact hm (by rw [this]; exact Nat.mul_mod_left _ _)
  · subst g
    exact ⟨Nat.eq_of_mul_eq_mul_right (hp j) h, rfl⟩
  · exfalso
    obtain ⟨c, rfl⟩ : ∃ c, j = k + 1 + c := ⟨j - k - 1, by omega⟩
    rw [show k + 1 + c = c + 1 + k by omega, Nat.pow_add, ← Nat.mul_assoc] at h
    have := Nat.eq_of_mul_eq_mul_right (hp k) h
    rw [Nat.pow_succ, ← Nat.mul_assoc] at this
    exact hn (by rw [← this]; exact Nat.mul_mod_left _ _)
theorem mag_pos {d : Dc} (h : d.m ≠ 0) : 0 < mag d := Nat.mul_pos (Nat.pos_of_ne_zero h) (Nat.pow_pos (by omega))
theorem mag_zero {d : Dc} (h : d.m = 0) : mag d = 0 := by unfold mag; rw [h, Nat.zero_mul]
theorem ok_z0 : ok z0 := by unfold ok vd z0; rw [if_pos (by rw [st0]; rfl)]; exact ⟨rfl, rfl⟩
theorem N_z0 : N z0 = 0 := by unfold N; rw [mag_zero rfl]; unfold sgd; split <;> rfl
theorem ok_zero {d : Dc} (h : ok d) (h0 : d.m = 0) : d = z0 := by
  have := (ok_all h).2.2.2 h0
  obtain ⟨n, m, e⟩ := d
  dsimp only at *
  unfold z0
  rw [h0, this.1, this.2]
theorem N_inj {a b : Dc} (ha : ok a) (hb : ok b) (h : N a = N b) : a = b := by
  by_cases a0 : a.m = 0
  · by_cases b0 : b.m = 0
    · rw [ok_zero ha a0, ok_zero hb b0]
    · exfalso
      have := mag_pos b0
      unfold N sgd at h
      rw [mag_zero a0] at h
      split at h <;> split at h <;> omega
  · have ap := mag_pos a0
    by_cases b0 : b.m = 0
    · exfalso
      unfold N sgd at h
      rw [mag_zero b0] at h
      split at h <;> split at h <;> omega
    · have bp := mag_pos b0
      have hs : a.neg = b.neg ∧ mag a = mag b := by
        unfold N sgd at h
        cases hn : a.neg <;> cases hn' : b.neg <;> rw [hn, hn'] at h <;> simp at h ⊢ <;> omega
      have hu := odd_unique (ok_tz ha a0) (ok_tz hb b0) hs.2
      obtain ⟨_, a1, _, _⟩ := ok_all ha
      obtain ⟨_, b1, _, _⟩ := ok_all hb
      obtain ⟨n, m, e⟩ := a
      obtain ⟨n', m', e'⟩ := b
      dsimp only at *
      obtain ⟨h1, h2⟩ := hu
      rw [h1, hs.1, show e = e' by omega]
theorem ok_mk {neg : Bool} {m : Nat} {e : Int} (h : m % 10 ≠ 0) (hm : m < Dig.big 120) (h1 : -400 ≤ e) (h2 : e ≤ 400) : ok ⟨neg, m, e⟩ := by
  unfold ok vd
  dsimp only
  have hp := st_pos (odd_ne h)
  rw [if_neg (by omega)]
  exact ⟨Dig.st_vld (Nat.lt_of_lt_of_le hm (Dig.big_le (by omega))), (Dig.st_size _ _).2 hm, tz_odd h, h1, h2⟩
theorem ok_lt {d : Dc} (h : ok d) : d.m < Dig.big 120 := (Dig.st_size _ _).1 (ok_all h).1
/-- The normal form has the value, where there is one. -/
theorem norm_val {neg : Bool} {m : Nat} {e : Int} (he : -2000 ≤ e) (h : (normR neg m e).2 = 0) : ok (normR neg m e).1 ∧ N (normR neg m e).1 = sgd neg (m * 10 ^ (e + 2000).toNat) := by
  unfold normR at h ⊢
  by_cases h0 : m = 0
  · rw [if_pos h0]
    refine ⟨ok_z0, ?_⟩
    rw [N_z0, h0]
    unfold sgd
    simp
  · rw [if_neg h0] at h ⊢
    by_cases hc : 400 < e + tz m ∨ e + tz m < -400 ∨ ¬ cut m < Dig.big 120
    · rw [if_pos hc] at h
      exact absurd h (by decide)
    · rw [if_neg hc]
      have hc1 : cut m < Dig.big 120 := by
        rcases Nat.lt_or_ge (cut m) (Dig.big 120) with g | g
        · exact g
        · exact absurd (Or.inr (Or.inr (by omega))) hc
      refine ⟨ok_mk (cut_odd h0) hc1 (by omega) (by omega), ?_⟩
      unfold N mag
      dsimp only
      congr 1
      conv => rhs; rw [← cut_mul m]
      rw [Nat.mul_assoc, ← Nat.pow_add]
      congr 2
      omega
theorem norm_ok (neg : Bool) (m : Nat) {e : Int} (he : -2000 ≤ e) : ok (normR neg m e).1 := by
  by_cases h : (normR neg m e).2 = 0
  · exact (norm_val he h).1
  · unfold normR at h ⊢
    split at h
    · exact absurd rfl h
    · rename_i h0
      rw [if_neg h0]
      split at h
      · rename_i hc
        rw [if_pos hc]
        exact ok_z0
      · exact absurd rfl h
theorem cut_of {m k : Nat} (h : m % 10 ≠ 0) : tz (m * 10 ^ k) = k ∧ cut (m * 10 ^ k) = m := by
  have h0 : m * 10 ^ k ≠ 0 := Nat.ne_of_gt (Nat.mul_pos (Nat.pos_of_ne_zero (odd_ne h)) (Nat.pow_pos (by omega)))
  have := odd_unique (cut_odd h0) h (cut_mul _)
  exact ⟨this.2, this.1⟩
/-- What has the value of a valid decimal has it as its normal form. -/
theorem norm_of {neg : Bool} {m : Nat} {e : Int} {d : Dc} (he : -2000 ≤ e) (hd : ok d) (h : sgd neg (m * 10 ^ (e + 2000).toNat) = N d) : normR neg m e = (d, 0) := by
  have hp : ∀ i, 0 < 10 ^ i := fun i => Nat.pow_pos (by omega)
  by_cases h0 : m = 0
  · have hd0 : d.m = 0 := by
      rcases Nat.eq_zero_or_pos d.m with g | g
      · exact g
      · exfalso
        have := mag_pos (d := d) (by omega)
        rw [h0, Nat.zero_mul] at h
        unfold N sgd at h
        split at h <;> split at h <;> omega
    rw [ok_zero hd hd0]
    unfold normR
    rw [if_pos h0]
  · have h1 : 0 < m * 10 ^ (e + 2000).toNat := Nat.mul_pos (Nat.pos_of_ne_zero h0) (hp _)
    have hd0 : d.m ≠ 0 := by
      intro g
      unfold N at h
      rw [mag_zero g] at h
      unfold sgd at h
      split at h <;> split at h <;> omega
    have h2 := mag_pos hd0
    have hs : neg = d.neg ∧ m * 10 ^ (e + 2000).toNat = mag d := by
      generalize m * 10 ^ (e + 2000).toNat = X at *
      unfold N sgd at h
      cases hn : neg <;> cases hn' : d.neg <;> rw [hn, hn'] at h <;> simp at h ⊢ <;> omega
    have h3 := hs.2
    unfold mag at h3
    rw [← cut_mul m, Nat.mul_assoc, ← Nat.pow_add] at h3
    obtain ⟨k1, k2⟩ := odd_unique (cut_odd h0) (ok_tz hd hd0) h3
    obtain ⟨d1, d2, d3, _⟩ := ok_all hd
    have hl := ok_lt hd
    unfold normR
    rw [if_neg h0, if_neg (by rintro (g | g | g); omega; omega; exact g (by rw [k1]; exact hl))]
    obtain ⟨n, m', e'⟩ := d
    dsimp only at *
    rw [k1, hs.1, show e + tz m = e' by omega]
/-- Two numbers with one exponent have their values. -/
theorem al_mag {a b : Dc} (ha : ok a) (hb : ok b) : (al a b).1 * 10 ^ ((al a b).2.2 + 2000).toNat = mag a ∧ (al a b).2.1 * 10 ^ ((al a b).2.2 + 2000).toNat = mag b ∧ -400 ≤ (al a b).2.2 := by
  obtain ⟨a1, a2, a3, _⟩ := ok_all ha
  obtain ⟨b1, b2, b3, _⟩ := ok_all hb
  unfold al
  split
  · rename_i h
    exact ⟨by rw [mag_zero h]; exact Nat.zero_mul _, rfl, b2⟩
  · split
    · rename_i h
      exact ⟨rfl, by rw [mag_zero h]; exact Nat.zero_mul _, a2⟩
    · dsimp only
      obtain ⟨z, hz, h1, h2, h3⟩ : ∃ z : Int, min a.e b.e = z ∧ z ≤ a.e ∧ z ≤ b.e ∧ -400 ≤ z := ⟨_, rfl, by omega, by omega, by omega⟩
      rw [hz]
      refine ⟨?_, ?_, h3⟩
      · unfold mag
        rw [Nat.mul_assoc, ← Nat.pow_add]
        congr 2
        omega
      · unfold mag
        rw [Nat.mul_assoc, ← Nat.pow_add]
        congr 2
        omega
theorem sgd_add (neg : Bool) (x y : Nat) : sgd neg (x + y) = sgd neg x + sgd neg y := by unfold sgd; split <;> omega
theorem add_form {a b : Dc} (ha : ok a) (hb : ok b) : ∃ (neg : Bool) (m : Nat) (e : Int), addR a b = normR neg m e ∧ -2000 ≤ e ∧ sgd neg (m * 10 ^ (e + 2000).toNat) = N a + N b := by
  obtain ⟨h1, h2, h3⟩ := al_mag ha hb
  unfold addR N
  rw [← h1, ← h2]
  generalize al a b = L at *
  obtain ⟨X, Y, z⟩ := L
  dsimp only at *
  obtain ⟨T, hT⟩ : ∃ T, 10 ^ (z + 2000).toNat = T := ⟨_, rfl⟩
  rw [hT] at h1 h2 ⊢
  by_cases hn : a.neg = b.neg
  · rw [if_pos hn]
    refine ⟨_, _, _, rfl, by omega, ?_⟩
    rw [hT, ← hn, Nat.add_mul, sgd_add]
  · rw [if_neg hn]
    by_cases hc : Y ≤ X
    · rw [if_pos hc]
      have hm : Y * T ≤ X * T := Nat.mul_le_mul_right _ hc
      refine ⟨_, _, _, rfl, by omega, ?_⟩
      rw [hT, Nat.sub_mul]
      generalize X * T = x at *
      generalize Y * T = y at *
      unfold sgd
      cases hx : a.neg <;> cases hy : b.neg <;> rw [hx, hy] at hn <;> simp at hn ⊢ <;> omega
    · rw [if_neg hc]
      have hm : X * T ≤ Y * T := Nat.mul_le_mul_right _ (by omega)
      refine ⟨_, _, _, rfl, by omega, ?_⟩
      rw [hT, Nat.sub_mul]
      generalize X * T = x at *
      generalize Y * T = y at *
      unfold sgd
      cases hx : a.neg <;> cases hy : b.neg <;> rw [hx, hy] at hn <;> simp at hn ⊢ <;> omega
theorem add_ok {a b : Dc} (ha : ok a) (hb : ok b) : ok (addR a b).1 := by
  obtain ⟨n, m, e, h, he, _⟩ := add_form ha hb
  rw [h]
  exact norm_ok n m he
theorem add_val {a b : Dc} (ha : ok a) (hb : ok b) (h0 : (addR a b).2 = 0) : N (addR a b).1 = N a + N b := by
  obtain ⟨n, m, e, h, he, hv⟩ := add_form ha hb
  rw [h] at h0 ⊢
  rw [(norm_val he h0).2, hv]
theorem add_of {a b d : Dc} (ha : ok a) (hb : ok b) (hd : ok d) (h : N a + N b = N d) : addR a b = (d, 0) := by
  obtain ⟨n, m, e, h1, he, hv⟩ := add_form ha hb
  rw [h1]
  exact norm_of he hd (hv.trans h)
/-- The order. -/
def cmpR (a b : Dc) : Int := if a.neg then (if b.neg then Dig.cmp (al b a).1 (al b a).2.1 else -1) else (if b.neg then 1 else Dig.cmp (al a b).1 (al a b).2.1)
theorem cmp_mul {x y T : Nat} (h : 0 < T) : Dig.cmp x y = isg ((x * T : Nat) - (y * T : Nat) : Int) := by
  unfold Dig.cmp isg
  rcases Nat.lt_trichotomy x y with g | g | g
  · have := Nat.mul_lt_mul_of_pos_right g h
    rw [if_pos g, if_pos (by omega)]
  · subst g
    rw [if_neg (by omega), if_pos rfl, if_neg (by omega), if_pos (by omega)]
  · have := Nat.mul_lt_mul_of_pos_right g h
    rw [if_neg (by omega), if_neg (by omega), if_neg (by omega), if_neg (by omega)]
theorem neg_m {d : Dc} (h : ok d) (hn : d.neg = true) : d.m ≠ 0 := fun k => by
  have := ((ok_all h).2.2.2 k).1
  rw [hn] at this
  cases this
theorem cmp_val {a b : Dc} (ha : ok a) (hb : ok b) : cmpR a b = isg (N a - N b) := by
  have hp : ∀ i, 0 < 10 ^ i := fun i => Nat.pow_pos (by omega)
  unfold cmpR
  cases hx : a.neg <;> cases hy : b.neg <;> simp only [if_true, if_false, Bool.false_eq_true]
  · obtain ⟨h1, h2, _⟩ := al_mag ha hb
    rw [cmp_mul (hp ((al a b).2.2 + 2000).toNat), h1, h2]
    unfold N sgd
    rw [hx, hy]
    simp
  · have h1 := mag_pos (neg_m hb hy)
    unfold N sgd isg
    rw [hx, hy]
    simp only [if_true, if_false, Bool.false_eq_true]
    rw [if_neg (by omega), if_neg (by omega)]
  · have h1 := mag_pos (neg_m ha hx)
    unfold N sgd isg
    rw [hx, hy]
    simp only [if_true, if_false, Bool.false_eq_true]
    rw [if_pos (by omega)]
  · obtain ⟨h1, h2, _⟩ := al_mag hb ha
    rw [cmp_mul (hp ((al b a).2.2 + 2000).toNat), h1, h2]
    unfold N sgd
    rw [hx, hy]
    simp only [if_true]
    congr 1
    omega
theorem cmp_range (a b : Dc) : -1 ≤ cmpR a b ∧ cmpR a b ≤ 1 := by
  unfold cmpR
  have := Dig.cmp_le1 (al a b).1 (al a b).2.1
  have := Dig.cmp_le1 (al b a).1 (al b a).2.1
  split <;> split <;> omega
theorem isg_neg (x : Int) : isg (-x) = -isg x := by unfold isg; split <;> (try split) <;> (try split) <;> (try split) <;> omega
theorem cmp_swap {a b : Dc} (ha : ok a) (hb : ok b) : cmpR b a = -cmpR a b := by rw [cmp_val hb ha, cmp_val ha hb, ← isg_neg]; congr 1; omega
theorem isg_zero {x : Int} : isg x = 0 ↔ x = 0 := by unfold isg; split <;> (try split) <;> omega
theorem isg_le {x : Int} : isg x ≤ 0 ↔ x ≤ 0 := by unfold isg; split <;> (try split) <;> omega
theorem cmp_eq {a b : Dc} (ha : ok a) (hb : ok b) : cmpR a b = 0 ↔ a = b := by
  rw [cmp_val ha hb, isg_zero]
  constructor
  · intro h; exact N_inj ha hb (by omega)
  · intro h; rw [h]; omega
theorem cmp_trans {a b c : Dc} (ha : ok a) (hb : ok b) (hc : ok c) (h1 : cmpR a b ≤ 0) (h2 : cmpR b c ≤ 0) : cmpR a c ≤ 0 := by
  rw [cmp_val ha hb, isg_le] at h1
  rw [cmp_val hb hc, isg_le] at h2
  rw [cmp_val ha hc, isg_le]
  omega
theorem cmp_add {a b c : Dc} (ha : ok a) (hb : ok b) (hc : ok c) (h1 : (addR a c).2 = 0) (h2 : (addR b c).2 = 0) : cmpR (addR a c).1 (addR b c).1 = cmpR a b := by
  rw [cmp_val (add_ok ha hc) (add_ok hb hc), add_val ha hc h1, add_val hb hc h2, cmp_val ha hb]
  congr 1
  omega
end Dec
end Go.Proofs.YtcnfgcdbjofihaaDoor
