/- Plain mathematics of the calendar: leap years, days of months, the number of a date. No program in sight. -/
import Derived.WalkKit
namespace Go.Proofs.Ytfkfboiblgoamaa.Cal

def lp (y : Int) : Int := if y % 4 = 0 ∧ (y % 100 ≠ 0 ∨ y % 400 = 0) then 1 else 0
def dim (y m : Int) : Int := if m = 2 then 28 + lp y else if m = 4 ∨ m = 6 ∨ m = 9 ∨ m = 11 then 30 else 31
def mon (y m : Int) : Int := if 1 ≤ y ∧ y ≤ 9999 ∧ 1 ≤ m ∧ m ≤ 12 then dim y m else 0
def dby (y : Int) : Int := 365 * (y - 1) + (y - 1) / 4 - (y - 1) / 100 + (y - 1) / 400
def cum (y m : Int) : Int :=
  if m ≤ 1 then 0 else if m = 2 then 31 else lp y + (if m = 3 then 59 else if m = 4 then 90 else if m = 5 then 120 else if m = 6 then 151
    else if m = 7 then 181 else if m = 8 then 212 else if m = 9 then 243 else if m = 10 then 273 else if m = 11 then 304 else if m = 12 then 334 else 365)
def num (y m d : Int) : Int := dby y + cum y m + d - 1
def yok (y : Int) : Prop := 1 ≤ y ∧ y ≤ 9999
def Vld (y m d : Int) : Prop := 1 ≤ y ∧ y ≤ 9999 ∧ 1 ≤ m ∧ m ≤ 12 ∧ 1 ≤ d ∧ d ≤ dim y m
def leap (y : Int) : Bool := decide (1 ≤ y ∧ y ≤ 9999 ∧ lp y = 1)

theorem lp_01 (y : Int) : 0 ≤ lp y ∧ lp y ≤ 1 := by unfold lp; split <;> omega
theorem dim_lo (y m : Int) : 28 ≤ dim y m ∧ dim y m ≤ 31 := by
  have := lp_01 y
  unfold dim; split <;> (try split) <;> omega
theorem mon_bd (y m : Int) : 0 ≤ mon y m ∧ mon y m ≤ 31 := by
  have := dim_lo y m
  unfold mon; split <;> omega
theorem mon_in {y m : Int} (a : 1 ≤ y) (b : y ≤ 9999) (c : 1 ≤ m) (d : m ≤ 12) : mon y m = dim y m := by unfold mon; rw [if_pos ⟨a, b, c, d⟩]
theorem mon_pos {y m d : Int} (h : 1 ≤ d) (h' : d ≤ mon y m) : Vld y m d := by
  unfold mon at h'
  split at h'
  · rename_i k; exact ⟨k.1, k.2.1, k.2.2.1, k.2.2.2, h, h'⟩
  · omega
theorem vld_mon {y m d : Int} (h : Vld y m d) : 1 ≤ d ∧ d ≤ mon y m := by
  obtain ⟨a, b, c, d, e, f⟩ := h
  rw [mon_in a b c d]; exact ⟨e, f⟩
theorem dby_one : dby 1 = 0 := by decide
theorem dby_max : dby 10000 = 3652059 := by decide
theorem dby_succ (y : Int) (_h : 1 ≤ y) : dby (y + 1) = dby y + 365 + lp y := by
  unfold dby lp; split <;> omega
theorem dby_mono (a b : Int) (h : a ≤ b) : dby a ≤ dby b := by unfold dby; omega
theorem dby_bd (y : Int) (h : 1 ≤ y) (h' : y ≤ 10000) : 0 ≤ dby y ∧ dby y ≤ 3652059 := by
  have h1 := dby_mono 1 y h
  have h2 := dby_mono y 10000 h'
  rw [dby_one] at h1; rw [dby_max] at h2; exact ⟨h1, h2⟩
theorem cum_one (y : Int) : cum y 1 = 0 := by simp [cum]
theorem cum_end (y : Int) : cum y 13 = 365 + lp y := by simp [cum]; omega
theorem cum_succ (y m : Int) (h : 1 ≤ m) (h' : m ≤ 12) : cum y (m + 1) = cum y m + dim y m := by
  have e : m = 1 ∨ m = 2 ∨ m = 3 ∨ m = 4 ∨ m = 5 ∨ m = 6 ∨ m = 7 ∨ m = 8 ∨ m = 9 ∨ m = 10 ∨ m = 11 ∨ m = 12 := by omega
  rcases e with rfl | rfl | rfl | rfl | rfl | rfl | rfl | rfl | rfl | rfl | rfl | rfl <;> simp [cum, dim] <;> omega
theorem cum_mono (y : Int) (k : Nat) : ∀ m : Int, 1 ≤ m → m + k ≤ 13 → cum y m ≤ cum y (m + k) := by
  induction k with
  | zero => intro m _ _; simp
  | succ k ih =>
    intro m h h'
    have h1 := ih m h (by omega)
    have h2 := cum_succ y (m + k) (by omega) (by omega)
    have h3 := dim_lo y (m + k)
    rw [show m + ((k + 1 : Nat) : Int) = m + k + 1 from by omega, h2]; omega
theorem cum_le (y m b : Int) (h : 1 ≤ m) (h' : m ≤ b) (h'' : b ≤ 13) : cum y m ≤ cum y b := by
  have := cum_mono y (b - m).toNat m h (by omega)
  rwa [show m + ((b - m).toNat : Int) = b from by omega] at this
theorem cum_bd (y m : Int) (h : 1 ≤ m) (h' : m ≤ 13) : 0 ≤ cum y m ∧ cum y m ≤ 366 := by
  have h1 := cum_le y 1 m (by omega) h h'
  have h2 := cum_le y m 13 h h' (by omega)
  have h3 := lp_01 y
  rw [cum_one] at h1; rw [cum_end] at h2; omega
theorem num_lt {y m d : Int} (h : Vld y m d) : dby y + cum y m ≤ num y m d ∧ num y m d < dby y + cum y (m + 1) ∧ num y m d < dby (y + 1) ∧ dby y ≤ num y m d := by
  obtain ⟨a, b, c, d, e, f⟩ := h
  have h1 := cum_succ y m c d
  have h2 := cum_le y (m + 1) 13 (by omega) (by omega) (by omega)
  have h3 := dby_succ y a
  have h4 := cum_bd y m c (by omega)
  rw [cum_end] at h2
  unfold num; omega
theorem num_bd {y m d : Int} (h : Vld y m d) : 0 ≤ num y m d ∧ num y m d ≤ 3652058 := by
  have h1 := num_lt h
  obtain ⟨a, b, _⟩ := h
  have h2 := dby_bd y a (by omega)
  have h3 := dby_bd (y + 1) (by omega) (by omega)
  omega
theorem num_inj {y m d a b c : Int} (h : Vld y m d) (k : Vld a b c) (e : num y m d = num a b c) : y = a ∧ m = b ∧ d = c := by
  have h1 := num_lt h
  have k1 := num_lt k
  have hy : y = a := by
    rcases Int.lt_trichotomy y a with l | l | l
    · have := dby_mono (y + 1) a (by omega); omega
    · exact l
    · have := dby_mono (a + 1) y (by omega); omega
  subst hy
  obtain ⟨_, _, m1, m2, _, _⟩ := h
  obtain ⟨_, _, b1, b2, _, _⟩ := k
  have hm : m = b := by
    rcases Int.lt_trichotomy m b with l | l | l
    · have := cum_le y (m + 1) b (by omega) (by omega) (by omega); omega
    · exact l
    · have := cum_le y (b + 1) m (by omega) (by omega) (by omega); omega
  subst hm
  unfold num at e
  exact ⟨rfl, rfl, by omega⟩
theorem num_of (n y k : Int) : num y k (n - dby y - cum y k + 1) = n := by unfold num; omega
theorem vld_of (n y k : Int) (a : 1 ≤ y) (b : y ≤ 9999) (m1 : 1 ≤ k) (m2 : k ≤ 12) (c : 0 ≤ n - dby y - cum y k) (d : n - dby y - cum y k < dim y k) : Vld y k (n - dby y - cum y k + 1) :=
  ⟨a, b, m1, m2, by omega, by omega⟩
theorem dby_guess (n : Int) (h : 0 ≤ n) : dby (n / 366 + 1) ≤ n := by unfold dby; omega
theorem guess_bd (n : Int) (h : 0 ≤ n) (h' : n ≤ 3652058) : 1 ≤ n / 366 + 1 ∧ n / 366 + 1 ≤ 9999 := by omega

/-! ### the date of a number -/
theorem ex_year (n : Int) (h : 0 ≤ n) (k : Nat) (hk : n < dby ((k : Int) + 1)) : ∃ y : Int, 1 ≤ y ∧ y ≤ k ∧ dby y ≤ n ∧ n < dby (y + 1) := by
  induction k with
  | zero => simp [dby] at hk; omega
  | succ k ih =>
    by_cases c : n < dby ((k : Int) + 1)
    · obtain ⟨y, a, b, e, f⟩ := ih c
      exact ⟨y, a, by omega, e, f⟩
    · exact ⟨(k : Int) + 1, by omega, by omega, by omega, by simpa using hk⟩
theorem ex_month (y r : Int) (h : 0 ≤ r) (k : Nat) (hk : r < cum y ((k : Int) + 1)) : ∃ m : Int, 1 ≤ m ∧ m ≤ k ∧ cum y m ≤ r ∧ r < cum y (m + 1) := by
  induction k with
  | zero => simp [cum] at hk; omega
  | succ k ih =>
    by_cases c : r < cum y ((k : Int) + 1)
    · obtain ⟨m, a, b, e, f⟩ := ih c
      exact ⟨m, a, by omega, e, f⟩
    · exact ⟨(k : Int) + 1, by omega, by omega, by omega, by simpa using hk⟩
theorem ex_date (n : Int) (h : 0 ≤ n) (h' : n ≤ 3652058) : ∃ p : Int × Int × Int, Vld p.1 p.2.1 p.2.2 ∧ num p.1 p.2.1 p.2.2 = n := by
  obtain ⟨y, y1, y2, y3, y4⟩ := ex_year n h 9999 (by have := dby_max; show n < dby 10000; omega)
  have hs := dby_succ y y1
  obtain ⟨m, m1, m2, m3, m4⟩ := ex_month y (n - dby y) (by omega) 12 (by have := cum_end y; show n - dby y < cum y 13; omega)
  have hm := cum_succ y m m1 (by omega)
  exact ⟨(y, m, n - dby y - cum y m + 1), vld_of n y m y1 (by omega) m1 (by omega) (by omega) (by omega), num_of n y m⟩
def kn (n : Int) : Prop := 0 ≤ n ∧ n ≤ 3652058
instance (n : Int) : Decidable (kn n) := by unfold kn; infer_instance
instance (y m d : Int) : Decidable (Vld y m d) := by unfold Vld; infer_instance
noncomputable def dt (n : Int) : Int × Int × Int := Classical.epsilon fun p : Int × Int × Int => Vld p.1 p.2.1 p.2.2 ∧ num p.1 p.2.1 p.2.2 = n
noncomputable def Yr (n : Int) : Int := (dt n).1
noncomputable def Mo (n : Int) : Int := (dt n).2.1
noncomputable def Da (n : Int) : Int := (dt n).2.2
theorem dt_vld {n : Int} (h : kn n) : Vld (Yr n) (Mo n) (Da n) := (Classical.epsilon_spec (ex_date n h.1 h.2)).1
theorem dt_num {n : Int} (h : kn n) : num (Yr n) (Mo n) (Da n) = n := (Classical.epsilon_spec (ex_date n h.1 h.2)).2
theorem kn_num {y m d : Int} (h : Vld y m d) : kn (num y m d) := num_bd h
theorem dt_of {n y m d : Int} (h : Vld y m d) (e : num y m d = n) : Yr n = y ∧ Mo n = m ∧ Da n = d := by
  have k : kn n := e ▸ num_bd h
  exact num_inj (dt_vld k) h ((dt_num k).trans e.symm)
theorem dt_bd {n : Int} (h : kn n) : 1 ≤ Yr n ∧ Yr n ≤ 9999 ∧ 1 ≤ Mo n ∧ Mo n ≤ 12 ∧ 1 ≤ Da n ∧ Da n ≤ 31 := by
  obtain ⟨a, b, c, d, e, f⟩ := dt_vld h
  have := dim_lo (Yr n) (Mo n)
  exact ⟨a, b, c, d, e, by omega⟩

/-! ### the functions of the chapter -/
def dayN (y m d : Int) : Int := if Vld y m d then num y m d else 0
def dayE (y m d : Int) : Int := if Vld y m d then 0 else 2
noncomputable def dtY (n : Int) : Int := if kn n then Yr n else 0
noncomputable def dtM (n : Int) : Int := if kn n then Mo n else 0
noncomputable def dtD (n : Int) : Int := if kn n then Da n else 0
def knE (n : Int) : Int := if kn n then 0 else 2
def wdN (n : Int) : Int := if kn n then n % 7 + 1 else 0
def thu (n : Int) : Int := n - n % 7 + 3
noncomputable def wkY (n : Int) : Int := if kn n then Yr (thu n) else 0
noncomputable def wkW (n : Int) : Int := if kn n then (thu n - dby (Yr (thu n))) / 7 + 1 else 0
theorem kn_thu {n : Int} (h : kn n) : kn (thu n) := by unfold kn thu at *; omega
def low (a b : Int) : Int := if a ≤ b then a else b
noncomputable def tot (n k : Int) : Int := 12 * Yr n + Mo n - 1 + k
noncomputable def amN (n k : Int) : Int := if kn n ∧ 12 ≤ tot n k ∧ tot n k < 120000 then num (tot n k / 12) (tot n k % 12 + 1) (low (Da n) (dim (tot n k / 12) (tot n k % 12 + 1))) else 0
noncomputable def amE (n k : Int) : Int := if kn n ∧ 12 ≤ tot n k ∧ tot n k < 120000 then 0 else 2
theorem am_vld {n k : Int} (h : kn n) (h1 : 12 ≤ tot n k) (h2 : tot n k < 120000) : Vld (tot n k / 12) (tot n k % 12 + 1) (low (Da n) (dim (tot n k / 12) (tot n k % 12 + 1))) := by
  have b := dt_bd h
  have d := dim_lo (tot n k / 12) (tot n k % 12 + 1)
  refine ⟨by omega, by omega, by omega, by omega, ?_, ?_⟩ <;> unfold low <;> split <;> omega
end Go.Proofs.Ytfkfboiblgoamaa.Cal
