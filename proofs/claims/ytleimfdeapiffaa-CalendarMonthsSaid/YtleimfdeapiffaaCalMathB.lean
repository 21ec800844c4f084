/- More plain mathematics of the calendar: the next day, the next week, months after months. -/
import Derived.Test.YtleimfdeapiffaaCalMath
namespace Go.Proofs.Ytleimfdeapiffaa.Cal
/-! ### the next day, the next week, months after months -/
theorem dt_num_of {y m d : Int} (h : Vld y m d) : Yr (num y m d) = y ∧ Mo (num y m d) = m ∧ Da (num y m d) = d := dt_of h rfl
theorem next_day {y m d : Int} (hv : Vld y m d) (hl : num y m d < 3652058) :
    (d < dim y m ∧ Vld y m (d + 1) ∧ num y m (d + 1) = num y m d + 1) ∨ (d = dim y m ∧ m < 12 ∧ Vld y (m + 1) 1 ∧ num y (m + 1) 1 = num y m d + 1) ∨
    (d = dim y m ∧ m = 12 ∧ y < 9999 ∧ Vld (y + 1) 1 1 ∧ num (y + 1) 1 1 = num y m d + 1) := by
  obtain ⟨a, b, c, e, f, g⟩ := hv
  have cs := cum_succ y m c e
  by_cases h1 : d < dim y m
  · exact .inl ⟨h1, ⟨a, b, c, e, by omega, by omega⟩, by unfold num; omega⟩
  · have hd : d = dim y m := by omega
    by_cases h2 : m < 12
    · have := dim_lo y (m + 1)
      exact .inr (.inl ⟨hd, h2, ⟨a, b, by omega, by omega, by omega, by omega⟩, by unfold num; rw [cs]; omega⟩)
    · have hm : m = 12 := by omega
      subst hm
      have hs := dby_succ y a
      have ce : cum y (12 + 1) = 365 + lp y := cum_end y
      have hy : y < 9999 := by
        by_cases e9 : y = 9999
        · subst e9
          have : dby (9999 + 1) = 3652059 := dby_max
          unfold num at hl; omega
        · omega
      have := dim_lo (y + 1) 1
      exact .inr (.inr ⟨hd, rfl, hy, ⟨by omega, by omega, by omega, by omega, by omega, by omega⟩, by unfold num; rw [cum_one, hs]; omega⟩)
theorem yr_of {t y : Int} (h1 : 1 ≤ y) (h2 : y ≤ 9999) (h3 : dby y ≤ t) (h4 : t < dby (y + 1)) : Yr t = y := by
  have b1 := dby_bd y h1 (by omega)
  have b2 := dby_bd (y + 1) (by omega) (by omega)
  have k : kn t := ⟨by omega, by omega⟩
  have hl := num_lt (dt_vld k)
  rw [dt_num k] at hl
  rcases Int.lt_trichotomy (Yr t) y with l | l | l
  · have := dby_mono (Yr t + 1) y (by omega); omega
  · exact l
  · have := dby_mono (y + 1) (Yr t) (by omega); omega
theorem yr_bd {t : Int} (k : kn t) : 1 ≤ Yr t ∧ Yr t ≤ 9999 ∧ dby (Yr t) ≤ t ∧ t < dby (Yr t + 1) ∧ dby (Yr t + 1) = dby (Yr t) + 365 + lp (Yr t) := by
  have hl := num_lt (dt_vld k)
  rw [dt_num k] at hl
  have hb := dt_bd k
  exact ⟨hb.1, hb.2.1, hl.2.2.2, hl.2.2.1, dby_succ _ hb.1⟩
/-- The number of the week of a Thursday. -/
noncomputable def wk (t : Int) : Int := (t - dby (Yr t)) / 7 + 1
theorem wk_in {t : Int} (k : kn t) : 1 ≤ wk t ∧ wk t ≤ 53 := by
  have h := yr_bd k
  have := lp_01 (Yr t)
  unfold wk; omega
theorem wk_next {t : Int} (k : kn t) (k' : kn (t + 7)) : (Yr (t + 7) = Yr t ∧ wk (t + 7) = wk t + 1) ∨ (Yr (t + 7) = Yr t + 1 ∧ wk (t + 7) = 1 ∧ 52 ≤ wk t) := by
  have h := yr_bd k
  have hl := lp_01 (Yr t)
  by_cases c : t + 7 < dby (Yr t + 1)
  · have e := yr_of h.1 h.2.1 (by omega) c
    exact .inl ⟨e, by unfold wk; rw [e]; omega⟩
  · have hy : Yr t < 9999 := by
      by_cases e9 : Yr t = 9999
      · have : dby (9999 + 1) = 3652059 := dby_max
        rw [e9] at c
        unfold kn at k'; omega
      · omega
    have hs := dby_succ (Yr t + 1) (by omega)
    have hl2 := lp_01 (Yr t + 1)
    have e := yr_of (t := t + 7) (y := Yr t + 1) (by omega) (by omega) (by omega) (by omega)
    refine .inr ⟨e, by unfold wk; rw [e]; omega, by unfold wk; omega⟩
theorem wk_first {y : Int} (h1 : 1 ≤ y) (h2 : y ≤ 9999) : Vld y 1 4 ∧ num y 1 4 = dby y + 3 ∧ kn (dby y + 3) ∧ Yr (thu (dby y + 3)) = y ∧ wk (thu (dby y + 3)) = 1 := by
  have v : Vld y 1 4 := ⟨h1, h2, by omega, by omega, by omega, by have := dim_lo y 1; omega⟩
  have n : num y 1 4 = dby y + 3 := by unfold num; rw [cum_one]; omega
  have k : kn (dby y + 3) := n ▸ num_bd v
  have hs := dby_succ y h1
  have hl := lp_01 y
  have e : Yr (thu (dby y + 3)) = y := yr_of h1 h2 (by unfold thu; omega) (by unfold thu; omega)
  exact ⟨v, n, k, e, by unfold wk; rw [e]; unfold thu; omega⟩
theorem thu_next (n : Int) : (n % 7 < 6 → thu (n + 1) = thu n) ∧ thu (n + 7) = thu n + 7 := by unfold thu; omega

theorem tot_zero {n : Int} (h : kn n) : amN n 0 = n ∧ amE n 0 = 0 := by
  have hb := dt_bd h
  have hv := dt_vld h
  have e1 : tot n 0 / 12 = Yr n := by unfold tot; omega
  have e2 : tot n 0 % 12 + 1 = Mo n := by unfold tot; omega
  have hc : kn n ∧ 12 ≤ tot n 0 ∧ tot n 0 < 120000 := ⟨h, by unfold tot; omega, by unfold tot; omega⟩
  unfold amN amE
  rw [if_pos hc, if_pos hc, e1, e2]
  have : low (Da n) (dim (Yr n) (Mo n)) = Da n := by unfold low; rw [if_pos hv.2.2.2.2.2]
  rw [this]
  exact ⟨dt_num h, rfl⟩
/-- What AddMonths makes of a day: the month that many months later, the day cut to the month's length. -/
theorem am_date {n a : Int} (h : kn n) (h1 : 12 ≤ tot n a) (h2 : tot n a < 120000) : kn (amN n a) ∧ amE n a = 0 ∧ Yr (amN n a) = tot n a / 12 ∧ Mo (amN n a) = tot n a % 12 + 1 ∧ Da (amN n a) = low (Da n) (dim (tot n a / 12) (tot n a % 12 + 1)) := by
  have hv := am_vld h h1 h2
  have hc : kn n ∧ 12 ≤ tot n a ∧ tot n a < 120000 := ⟨h, h1, h2⟩
  have e : amN n a = num (tot n a / 12) (tot n a % 12 + 1) (low (Da n) (dim (tot n a / 12) (tot n a % 12 + 1))) := by unfold amN; rw [if_pos hc]
  have e' : amE n a = 0 := by unfold amE; rw [if_pos hc]
  rw [e]
  exact ⟨num_bd hv, e', dt_num_of hv⟩
theorem am_day {n a : Int} (h : kn n) (h1 : 12 ≤ tot n a) (h2 : tot n a < 120000) : Da (amN n a) ≤ Da n ∧ (Da n ≤ 28 → Da (amN n a) = Da n) ∧ (a % 12 = 0 → Mo (amN n a) = Mo n) := by
  obtain ⟨_, _, _, e2, e3⟩ := am_date h h1 h2
  have hd := dim_lo (tot n a / 12) (tot n a % 12 + 1)
  have hb := dt_bd h
  refine ⟨?_, ?_, ?_⟩
  · rw [e3]; unfold low; split <;> omega
  · intro k; rw [e3]; unfold low; rw [if_pos (by omega)]
  · intro k; rw [e2]; unfold tot; omega
theorem am_add {n a b : Int} (h : kn n) (h1 : 12 ≤ tot n a) (h2 : tot n a < 120000) (hd : Da n ≤ 28) : amN (amN n a) b = amN n (a + b) ∧ amE (amN n a) b = amE n (a + b) := by
  obtain ⟨k, _, e1, e2, _⟩ := am_date h h1 h2
  have e3 := (am_day h h1 h2).2.1 hd
  have et : tot (amN n a) b = tot n (a + b) := by
    have : tot (amN n a) b = 12 * Yr (amN n a) + Mo (amN n a) - 1 + b := rfl
    rw [this, e1, e2]; unfold tot; omega
  have e := e3
  generalize amN n a = x at *
  have hh : (kn x) = (kn n) := propext ⟨fun _ => h, fun _ => k⟩
  unfold amN amE
  simp only [et, e, hh]
  exact ⟨trivial, trivial⟩
end Go.Proofs.Ytleimfdeapiffaa.Cal
