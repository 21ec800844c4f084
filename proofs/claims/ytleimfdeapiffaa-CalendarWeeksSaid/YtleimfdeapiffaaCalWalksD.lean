/- The reference's Weekday, Week and AddMonths; every function of the chapter by one plain function each; the law's own first example. -/
import Derived.Test.YtleimfdeapiffaaCalWalksC
namespace Go.Proofs.Ytleimfdeapiffaa
open Go.RowKit

theorem rweekday_yes (n : Int) (w : World) (h : 0 ≤ n) (h' : n ≤ 3652058) : Calls Try.prog 19 #[.int .i64 n] w fun e w' => e = .returned (.tuple #[.int .i64 (n % 7 + 1), .int .i64 0]) ∧ w = w' := by
  go_enter Try.func19, Try.ntmps19
  go_wp2_with (go_at_call 28; refine (rin_yes _ _ (by omega) (by omega)).mono ?_; rintro e w' ⟨rfl, rfl⟩)
  go_ret2
  exact ⟨rfl, rfl⟩
theorem rweekday_no (n : Int) (w : World) (h : n < 0 ∨ 3652058 < n) : Calls Try.prog 19 #[.int .i64 n] w fun e w' => e = .returned (.tuple #[.int .i64 0, .int .i64 2]) ∧ w = w' := by
  go_enter Try.func19, Try.ntmps19
  go_wp2_with (go_at_call 28; refine (rin_no _ _ h).mono ?_; rintro e w' ⟨rfl, rfl⟩)
  go_ret2
  exact ⟨rfl, rfl⟩
theorem rweek_yes (n : Int) (w : World) (h : Cal.kn n) : Calls Try.prog 21 #[.int .i64 n] w fun e w' =>
    e = .returned (.tuple #[.int .i64 (Cal.Yr (Cal.thu n)), .int .i64 ((Cal.thu n - Cal.dby (Cal.Yr (Cal.thu n))) / 7 + 1), .int .i64 0]) ∧ w = w' := by
  have hk := Cal.kn_thu h
  have hb := Cal.dt_bd hk
  have hw := wk_bd h
  have hd := Cal.dby_bd (Cal.Yr (Cal.thu n)) hb.1 (by omega)
  obtain ⟨b1, b2, _⟩ := hb
  unfold Cal.thu at *
  obtain ⟨h1, h2⟩ := h
  go_enter Try.func21, Try.ntmps21
  go_wp2_with (first | (go_at_call 28; refine (rin_yes _ _ (by omega) (by omega)).mono ?_; rintro e w' ⟨rfl, rfl⟩) | (go_at_call 18; refine (rdate_at _ _ hk).mono ?_; rintro e w1 ⟨rfl, rfl⟩) | (go_at_call 25; refine (rbefore_any _ _ (by omega) (by omega)).mono ?_; rintro e w' ⟨rfl, rfl⟩))
  go_ret3
  exact ⟨rfl, rfl⟩
theorem rweek_no (n : Int) (w : World) (h : n < 0 ∨ 3652058 < n) : Calls Try.prog 21 #[.int .i64 n] w fun e w' => e = .returned (.tuple #[.int .i64 0, .int .i64 0, .int .i64 2]) ∧ w = w' := by
  go_enter Try.func21, Try.ntmps21
  go_wp2_with (go_at_call 28; refine (rin_no _ _ h).mono ?_; rintro e w' ⟨rfl, rfl⟩)
  go_ret3
  exact ⟨rfl, rfl⟩

/-- The reference counts months from 0: the same month. -/
theorem tot_ref (n k : Int) : ((Cal.Yr n - 1) * 12 + Cal.Mo n - 1 + k) / 12 + 1 = (12 * Cal.Yr n + Cal.Mo n - 1 + k) / 12 ∧ ((Cal.Yr n - 1) * 12 + Cal.Mo n - 1 + k) % 12 = (12 * Cal.Yr n + Cal.Mo n - 1 + k) % 12 := by omega

theorem radd_day (n k : Int) (w : World) (h : Cal.kn n) (h1 : 12 ≤ Cal.tot n k) (h2 : Cal.tot n k < 120000) : Calls Try.prog 23 #[.int .i64 n, .int .i64 k] w fun e w' =>
    e = .returned (.tuple #[.int .i64 (Cal.num (Cal.tot n k / 12) (Cal.tot n k % 12 + 1) (Cal.low (Cal.Da n) (Cal.dim (Cal.tot n k / 12) (Cal.tot n k % 12 + 1)))), .int .i64 0]) ∧ w = w' := by
  have hv := Cal.am_vld h h1 h2
  have hb := Cal.dt_bd h
  obtain ⟨b1, b2, b3, b4, b5, b6⟩ := hb
  have hm := Cal.mon_in (y := Cal.tot n k / 12) (m := Cal.tot n k % 12 + 1) (by omega) (by omega) (by omega) (by omega)
  have hdd := Cal.dim_lo (Cal.tot n k / 12) (Cal.tot n k % 12 + 1)
  unfold Cal.tot at *
  have hk : -119988 ≤ k ∧ k ≤ 119988 := by omega
  obtain ⟨k1, k2⟩ := hk
  obtain ⟨t1, t2⟩ := tot_ref n k
  rw [← t1, ← t2] at hv hdd hm ⊢
  have b7 : 0 ≤ (Cal.Yr n - 1) * 12 + Cal.Mo n - 1 + k := by omega
  have b8 : (Cal.Yr n - 1) * 12 + Cal.Mo n - 1 + k < 119988 := by omega
  clear t1 t2
  have HM := Lib.hid hm; clear hm
  by_cases hd : Cal.mon (((Cal.Yr n - 1) * 12 + Cal.Mo n - 1 + k) / 12 + 1) (((Cal.Yr n - 1) * 12 + Cal.Mo n - 1 + k) % 12 + 1) < Cal.Da n
  · have hl : Cal.low (Cal.Da n) (Cal.dim (((Cal.Yr n - 1) * 12 + Cal.Mo n - 1 + k) / 12 + 1) (((Cal.Yr n - 1) * 12 + Cal.Mo n - 1 + k) % 12 + 1)) = Cal.mon (((Cal.Yr n - 1) * 12 + Cal.Mo n - 1 + k) / 12 + 1) (((Cal.Yr n - 1) * 12 + Cal.Mo n - 1 + k) % 12 + 1) := by
      rw [← HM.out]; unfold Cal.low; rw [if_neg (by omega)]
    rw [hl] at hv ⊢
    have HV := Lib.hid hv; clear hv hl
    go_enter Try.func23, Try.ntmps23
    go_wp2_with (first | (go_at_call 18; refine (rdate_at _ _ h).mono ?_; rintro e w1 ⟨rfl, rfl⟩) | (go_at_call 14; refine (rmonth_any _ _ _).mono ?_; rintro e w2 ⟨rfl, rfl⟩) | (go_at_call 10; refine (rday_yes _ _ _ _ HV.out).mono ?_; rintro e w3 ⟨rfl, rfl⟩))
    go_ret2
    exact ⟨rfl, rfl⟩
  · have hl : Cal.low (Cal.Da n) (Cal.dim (((Cal.Yr n - 1) * 12 + Cal.Mo n - 1 + k) / 12 + 1) (((Cal.Yr n - 1) * 12 + Cal.Mo n - 1 + k) % 12 + 1)) = Cal.Da n := by
      rw [← HM.out]; unfold Cal.low; rw [if_pos (by omega)]
    rw [hl] at hv ⊢
    have HV := Lib.hid hv; clear hv hl
    go_enter Try.func23, Try.ntmps23
    go_wp2_with (first | (go_at_call 18; refine (rdate_at _ _ h).mono ?_; rintro e w1 ⟨rfl, rfl⟩) | (go_at_call 14; refine (rmonth_any _ _ _).mono ?_; rintro e w2 ⟨rfl, rfl⟩) | (go_at_call 10; refine (rday_yes _ _ _ _ HV.out).mono ?_; rintro e w3 ⟨rfl, rfl⟩))
    go_ret2
    exact ⟨rfl, rfl⟩

theorem radd_no (n k : Int) (w : World) (h : ¬ (Cal.kn n ∧ 12 ≤ Cal.tot n k ∧ Cal.tot n k < 120000)) : Calls Try.prog 23 #[.int .i64 n, .int .i64 k] w fun e w' =>
    e = .returned (.tuple #[.int .i64 0, .int .i64 2]) ∧ w = w' := by
  by_cases hn : Cal.kn n
  · have hb := Cal.dt_bd hn
    obtain ⟨b1, b2, b3, b4, b5, b6⟩ := hb
    have ho : Cal.tot n k < 12 ∨ 120000 ≤ Cal.tot n k := by
      by_cases a : 12 ≤ Cal.tot n k
      · by_cases b : Cal.tot n k < 120000
        · exact absurd ⟨hn, a, b⟩ h
        · omega
      · omega
    unfold Cal.tot at ho
    clear h
    by_cases k1 : k < -120000
    · go_enter Try.func23, Try.ntmps23
      go_wp2_with (go_at_call 18; refine (rdate_at _ _ hn).mono ?_; rintro e w1 ⟨rfl, rfl⟩)
      go_ret2
      exact ⟨rfl, rfl⟩
    · by_cases k2 : 120000 < k
      · have hd : decide (k < -120000) = false := by simp; omega
        go_enter Try.func23, Try.ntmps23
        go_wp2_with (go_at_call 18; refine (rdate_at _ _ hn).mono ?_; rintro e w1 ⟨rfl, rfl⟩)
        go_ret2
        exact ⟨rfl, rfl⟩
      · rcases ho with ho | ho
        · go_enter Try.func23, Try.ntmps23
          go_wp2_with (go_at_call 18; refine (rdate_at _ _ hn).mono ?_; rintro e w1 ⟨rfl, rfl⟩)
          go_ret2
          exact ⟨rfl, rfl⟩
        · have hd : decide ((Cal.Yr n - 1) * 12 + Cal.Mo n - 1 + k < 0) = false := by simp; omega
          go_enter Try.func23, Try.ntmps23
          go_wp2_with (go_at_call 18; refine (rdate_at _ _ hn).mono ?_; rintro e w1 ⟨rfl, rfl⟩)
          go_ret2
          exact ⟨rfl, rfl⟩
  · have hn' := not_kn hn
    clear h hn
    go_enter Try.func23, Try.ntmps23
    go_wp2_with (go_at_call 18; refine (rdate_no _ _ hn').mono ?_; rintro e w' ⟨rfl, rfl⟩)
    go_ret2
    exact ⟨rfl, rfl⟩

/-! ### one plain function each -/
theorem leap_any (y : Int) (w : World) : Calls Try.prog 11 #[.int .i64 y] w fun e w' => e = .returned (.bool (Cal.leap y)) ∧ w = w' := by
  unfold Cal.leap
  by_cases h : 1 ≤ y ∧ y ≤ 9999 ∧ Cal.lp y = 1
  · rw [decide_eq_true h]; exact leap_yes y w h.1 h.2.1 h.2.2
  · rw [decide_eq_false h]; exact leap_no y w h
theorem rleap_any (y : Int) (w : World) : Calls Try.prog 12 #[.int .i64 y] w fun e w' => e = .returned (.bool (Cal.leap y)) ∧ w = w' := by
  unfold Cal.leap
  by_cases h : 1 ≤ y ∧ y ≤ 9999 ∧ Cal.lp y = 1
  · rw [decide_eq_true h]; exact rleap_yes y w h.1 h.2.1 h.2.2
  · rw [decide_eq_false h]; exact rleap_no y w h
theorem below_eq {w w' : World} (h : w = w') : Below w.heap.size w w' := by subst h; exact Below.refl _ _
theorem day_any (y m d : Int) (w : World) : Calls Try.prog 9 #[.int .i64 y, .int .i64 m, .int .i64 d] w fun e w' => e = .returned (.tuple #[.int .i64 (Cal.dayN y m d), .int .i64 (Cal.dayE y m d)]) ∧ Below w.heap.size w w' := by
  unfold Cal.dayN Cal.dayE
  by_cases h : Cal.Vld y m d
  · rw [if_pos h, if_pos h]; exact day_yes y m d w h
  · rw [if_neg h, if_neg h]; exact day_no y m d w h
theorem rday_any (y m d : Int) (w : World) : Calls Try.prog 10 #[.int .i64 y, .int .i64 m, .int .i64 d] w fun e w' => e = .returned (.tuple #[.int .i64 (Cal.dayN y m d), .int .i64 (Cal.dayE y m d)]) ∧ w = w' := by
  unfold Cal.dayN Cal.dayE
  by_cases h : Cal.Vld y m d
  · rw [if_pos h, if_pos h]; exact rday_yes y m d w h
  · rw [if_neg h, if_neg h]; exact rday_no y m d w h
theorem date_any (n : Int) (w : World) : Calls Try.prog 16 #[.int .i64 n] w fun e w' =>
    e = .returned (.tuple #[.int .i64 (Cal.dtY n), .int .i64 (Cal.dtM n), .int .i64 (Cal.dtD n), .int .i64 (Cal.knE n)]) ∧ Below w.heap.size w w' := by
  unfold Cal.dtY Cal.dtM Cal.dtD Cal.knE
  by_cases h : Cal.kn n
  · rw [if_pos h, if_pos h, if_pos h, if_pos h]; exact date_at n w h
  · rw [if_neg h, if_neg h, if_neg h, if_neg h]; exact (date_no n w (not_kn h)).mono fun _ _ ⟨a, b⟩ => ⟨a, below_eq b⟩
theorem rdate_any (n : Int) (w : World) : Calls Try.prog 18 #[.int .i64 n] w fun e w' =>
    e = .returned (.tuple #[.int .i64 (Cal.dtY n), .int .i64 (Cal.dtM n), .int .i64 (Cal.dtD n), .int .i64 (Cal.knE n)]) ∧ w = w' := by
  unfold Cal.dtY Cal.dtM Cal.dtD Cal.knE
  by_cases h : Cal.kn n
  · rw [if_pos h, if_pos h, if_pos h, if_pos h]; exact rdate_at n w h
  · rw [if_neg h, if_neg h, if_neg h, if_neg h]; exact rdate_no n w (not_kn h)
theorem weekday_any (n : Int) (w : World) : Calls Try.prog 17 #[.int .i64 n] w fun e w' => e = .returned (.tuple #[.int .i64 (Cal.wdN n), .int .i64 (Cal.knE n)]) ∧ w = w' := by
  unfold Cal.wdN Cal.knE
  by_cases h : Cal.kn n
  · rw [if_pos h, if_pos h]; exact weekday_yes n w h.1 h.2
  · rw [if_neg h, if_neg h]; exact weekday_no n w (not_kn h)
theorem rweekday_any (n : Int) (w : World) : Calls Try.prog 19 #[.int .i64 n] w fun e w' => e = .returned (.tuple #[.int .i64 (Cal.wdN n), .int .i64 (Cal.knE n)]) ∧ w = w' := by
  unfold Cal.wdN Cal.knE
  by_cases h : Cal.kn n
  · rw [if_pos h, if_pos h]; exact rweekday_yes n w h.1 h.2
  · rw [if_neg h, if_neg h]; exact rweekday_no n w (not_kn h)
theorem week_any (n : Int) (w : World) : Calls Try.prog 20 #[.int .i64 n] w fun e w' =>
    e = .returned (.tuple #[.int .i64 (Cal.wkY n), .int .i64 (Cal.wkW n), .int .i64 (Cal.knE n)]) ∧ Below w.heap.size w w' := by
  unfold Cal.wkY Cal.wkW Cal.knE
  by_cases h : Cal.kn n
  · rw [if_pos h, if_pos h, if_pos h]; exact week_yes n w h
  · rw [if_neg h, if_neg h, if_neg h]; exact (week_no n w (not_kn h)).mono fun _ _ ⟨a, b⟩ => ⟨a, below_eq b⟩
theorem rweek_any (n : Int) (w : World) : Calls Try.prog 21 #[.int .i64 n] w fun e w' =>
    e = .returned (.tuple #[.int .i64 (Cal.wkY n), .int .i64 (Cal.wkW n), .int .i64 (Cal.knE n)]) ∧ w = w' := by
  unfold Cal.wkY Cal.wkW Cal.knE
  by_cases h : Cal.kn n
  · rw [if_pos h, if_pos h, if_pos h]; exact rweek_yes n w h
  · rw [if_neg h, if_neg h, if_neg h]; exact rweek_no n w (not_kn h)
theorem add_any (n k : Int) (w : World) : Calls Try.prog 22 #[.int .i64 n, .int .i64 k] w fun e w' => e = .returned (.tuple #[.int .i64 (Cal.amN n k), .int .i64 (Cal.amE n k)]) ∧ Below w.heap.size w w' := by
  unfold Cal.amN Cal.amE
  by_cases h : Cal.kn n ∧ 12 ≤ Cal.tot n k ∧ Cal.tot n k < 120000
  · rw [if_pos h, if_pos h]; exact add_day n k w h.1 h.2.1 h.2.2
  · rw [if_neg h, if_neg h]; exact add_no n k w h
theorem radd_any (n k : Int) (w : World) : Calls Try.prog 23 #[.int .i64 n, .int .i64 k] w fun e w' => e = .returned (.tuple #[.int .i64 (Cal.amN n k), .int .i64 (Cal.amE n k)]) ∧ w = w' := by
  unfold Cal.amN Cal.amE
  by_cases h : Cal.kn n ∧ 12 ≤ Cal.tot n k ∧ Cal.tot n k < 120000
  · rw [if_pos h, if_pos h]; exact radd_day n k w h.1 h.2.1 h.2.2
  · rw [if_neg h, if_neg h]; exact radd_no n k w h

theorem cal_awake (w : World) : Calls Try.prog 15 #[] w fun e w' => e = .returned (.bool true) ∧ Below w.heap.size w w' := by
  have hv : Cal.Vld 2024 2 29 := by decide
  have h := day_yes 2024 2 29
  rw [show Cal.num 2024 2 29 = 738944 from by decide] at h
  have H := Lib.hid (fun w => h w hv); clear h hv
  go_enter Try.func15, Try.ntmps15
  go_wp2_with (first | (go_at_call 9; refine (H.out _).mono ?_; rintro e w1 ⟨rfl, hb1⟩) | (go_at_call 17; refine (weekday_yes _ _ (by omega) (by omega)).mono ?_; rintro e w' ⟨rfl, rfl⟩))
  go_ret
  exact ⟨rfl, hb1⟩
end Go.Proofs.Ytleimfdeapiffaa
