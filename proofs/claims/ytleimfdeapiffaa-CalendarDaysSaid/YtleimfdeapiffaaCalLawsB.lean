/- The walks of the calendar's laws: dates, months later, successive days, weeks. -/
import Derived.Test.YtleimfdeapiffaaCalLaws
import Derived.Test.YtleimfdeapiffaaCalMathB
namespace Go.Proofs.Ytleimfdeapiffaa
open Go.RowKit

theorem walk_CalendarDates (n : Int) (_ : (Lit.int .i64 n).wf = true) (w : World) :
    Calls Try.prog 5 #[.int .i64 n] w fun e w' => e = .returned (.bool true) ∧ Below w.heap.size w w' := by
  go_enter Try.func5, Try.ntmps5
  go_wp2_with (first | (go_at_call 16; refine (date_any _ _).mono ?_; rintro e w1 ⟨rfl, hb1⟩) | (go_at_call 18; refine (rdate_any _ _).mono ?_; rintro e w' ⟨rfl, rfl⟩) | (go_at_call 17; refine (weekday_any _ _).mono ?_; rintro e w' ⟨rfl, rfl⟩) | (go_at_call 19; refine (rweekday_any _ _).mono ?_; rintro e w' ⟨rfl, rfl⟩) | (go_at_call 20; refine (week_any _ _).mono ?_; rintro e w2 ⟨rfl, hb2⟩) | (go_at_call 21; refine (rweek_any _ _).mono ?_; rintro e w' ⟨rfl, rfl⟩) | (go_at_call 15; refine (cal_awake _).mono ?_; rintro e w3 ⟨rfl, hb3⟩))
  go_ret
  have hb := hb1.trans (hb2.mono hb1.size)
  exact ⟨rfl, hb.trans (hb3.mono hb.size)⟩

theorem walk_CalendarAdds (n k : Int) (_ : (Lit.int .i64 n).wf = true) (_ : (Lit.int .i64 k).wf = true) (w : World) :
    Calls Try.prog 7 #[.int .i64 n, .int .i64 k] w fun e w' => e = .returned (.bool true) ∧ Below w.heap.size w w' := by
  go_enter Try.func7, Try.ntmps7
  go_wp2_with (first | (go_at_call 22; refine (add_any _ _ _).mono ?_; rintro e w1 ⟨rfl, hb1⟩) | (go_at_call 23; refine (radd_any _ _ _).mono ?_; rintro e w' ⟨rfl, rfl⟩) | (go_at_call 15; refine (cal_awake _).mono ?_; rintro e w3 ⟨rfl, hb3⟩))
  go_ret
  exact ⟨rfl, hb1.trans (hb3.mono hb1.size)⟩

/-- Date at the number of a date. -/
theorem date_vld {y m d n : Int} (w : World) (hv : Cal.Vld y m d) (hn : Cal.num y m d = n) : Calls Try.prog 16 #[.int .i64 n] w fun e w' =>
    e = .returned (.tuple #[.int .i64 y, .int .i64 m, .int .i64 d, .int .i64 0]) ∧ Below w.heap.size w w' := by
  obtain ⟨h1, h2, h3⟩ := Cal.dt_of hv hn
  have h := date_at n w (hn ▸ Cal.kn_num hv)
  rw [h1, h2, h3] at h
  exact h

theorem day_num {y m d n : Int} (w : World) (hv : Cal.Vld y m d) (hn : Cal.num y m d = n) : Calls Try.prog 9 #[.int .i64 y, .int .i64 m, .int .i64 d] w fun e w' =>
    e = .returned (.tuple #[.int .i64 n, .int .i64 0]) ∧ Below w.heap.size w w' := by
  subst hn; exact day_yes y m d w hv

/-- The days of the week of a day and of the next one, under two names. -/
theorem wd_pair (n : Int) (h : 0 ≤ n) (h' : n < 3652058) : ∃ p q : Int, 1 ≤ p ∧ p ≤ 7 ∧ (q != p % 7 + 1) = false ∧
    (∀ w, Calls Try.prog 17 #[.int .i64 n] w fun e w' => e = .returned (.tuple #[.int .i64 p, .int .i64 0]) ∧ w = w') ∧
    (∀ w, Calls Try.prog 17 #[.int .i64 (n + 1)] w fun e w' => e = .returned (.tuple #[.int .i64 q, .int .i64 0]) ∧ w = w') :=
  ⟨n % 7 + 1, (n + 1) % 7 + 1, by omega, by omega, by simp, fun w => weekday_yes n w (by omega) (by omega), fun w => weekday_yes (n + 1) w (by omega) (by omega)⟩

set_option maxRecDepth 100000 in
set_option maxHeartbeats 4000000 in
theorem days_out (n year month day : Int) (h : n < 0 ∨ 3652058 < n) (w : World) :
    Calls Try.prog 4 #[.int .i64 n, .int .i64 year, .int .i64 month, .int .i64 day] w fun e w' => e = .returned (.bool true) ∧ Below w.heap.size w w' := by
  have hk' := Lib.hid h
  by_cases hv : Cal.Vld year month day
  · have HV := Lib.hid hv; clear hv
    rcases h with h | h
    · have hd : decide (0 ≤ n) = false := by simp; omega
      go_enter Try.func4, Try.ntmps4
      go_wp2_with fail
      refine (date_no _ _ hk'.out).mono ?_; rintro e w' ⟨rfl, rfl⟩
      go_wp2_with fail
      refine (day_yes _ _ _ _ HV.out).mono ?_; rintro e w1 ⟨rfl, hb1⟩
      go_wp2_with fail
      refine (date_vld _ HV.out rfl).mono ?_; rintro e w2 ⟨rfl, hb2⟩
      go_wp2_with fail
      refine (cal_awake _).mono ?_; rintro e w3 ⟨rfl, hb3⟩
      go_wp2_with fail
      go_ret
      have hb := hb1.trans (hb2.mono hb1.size)
      exact ⟨rfl, hb.trans (hb3.mono hb.size)⟩
    · have hd : decide (n ≤ 3652058) = false := by simp; omega
      have hd2 : decide (n < 3652058) = false := by simp; omega
      go_enter Try.func4, Try.ntmps4
      go_wp2_with fail
      refine (date_no _ _ hk'.out).mono ?_; rintro e w' ⟨rfl, rfl⟩
      go_wp2_with fail
      refine (day_yes _ _ _ _ HV.out).mono ?_; rintro e w1 ⟨rfl, hb1⟩
      go_wp2_with fail
      refine (date_vld _ HV.out rfl).mono ?_; rintro e w2 ⟨rfl, hb2⟩
      go_wp2_with fail
      refine (cal_awake _).mono ?_; rintro e w3 ⟨rfl, hb3⟩
      go_wp2_with fail
      go_ret
      have hb := hb1.trans (hb2.mono hb1.size)
      exact ⟨rfl, hb.trans (hb3.mono hb.size)⟩
  · have HV := Lib.hid hv; clear hv
    rcases h with h | h
    · have hd : decide (0 ≤ n) = false := by simp; omega
      go_enter Try.func4, Try.ntmps4
      go_wp2_with fail
      refine (date_no _ _ hk'.out).mono ?_; rintro e w' ⟨rfl, rfl⟩
      go_wp2_with fail
      refine (day_no _ _ _ _ HV.out).mono ?_; rintro e w1 ⟨rfl, hb1⟩
      go_wp2_with fail
      refine (cal_awake _).mono ?_; rintro e w3 ⟨rfl, hb3⟩
      go_wp2_with fail
      go_ret
      exact ⟨rfl, hb1.trans (hb3.mono hb1.size)⟩
    · have hd : decide (n ≤ 3652058) = false := by simp; omega
      have hd2 : decide (n < 3652058) = false := by simp; omega
      go_enter Try.func4, Try.ntmps4
      go_wp2_with fail
      refine (date_no _ _ hk'.out).mono ?_; rintro e w' ⟨rfl, rfl⟩
      go_wp2_with fail
      refine (day_no _ _ _ _ HV.out).mono ?_; rintro e w1 ⟨rfl, hb1⟩
      go_wp2_with fail
      refine (cal_awake _).mono ?_; rintro e w3 ⟨rfl, hb3⟩
      go_wp2_with fail
      go_ret
      exact ⟨rfl, hb1.trans (hb3.mono hb1.size)⟩

set_option maxRecDepth 100000 in
set_option maxHeartbeats 4000000 in
theorem days_A (n y m d year month day : Int) (hv : Cal.Vld y m d) (hn : Cal.num y m d = n) (hl : n < 3652058) (h1 : d < Cal.dim y m) (hv2 : Cal.Vld y m (d + 1)) (hn2 : Cal.num y m (d + 1) = n + 1) (w : World) :
    Calls Try.prog 4 #[.int .i64 n, .int .i64 year, .int .i64 month, .int .i64 day] w fun e w' => e = .returned (.bool true) ∧ Below w.heap.size w w' := by
  have hd := Cal.vld_mon hv
  have hb := Cal.num_bd hv
  rw [hn] at hb
  have H2 := Lib.hid (fun w => date_vld w hv2 hn2)
  have H1 := Lib.hid (fun w => date_vld w hv hn)
  have H3 := Lib.hid (fun w => day_num w hv hn)
  have hdl := Cal.dim_lo y m
  have hd31 : d ≤ 31 := by have := hv.2.2.2.2.2; omega
  obtain ⟨y1, y2, m1, m2, d1, _⟩ := hv
  clear hdl
  obtain ⟨hd1, hd2⟩ := hd
  obtain ⟨hb1, hb2⟩ := hb
  obtain ⟨p, q, hp1, hp2, hpq, hW1, hW2⟩ := wd_pair n hb1 hl
  have H4 := Lib.hid hW1; clear hW1
  have H5 := Lib.hid hW2; clear hW2
  have hc1 : (d + 1 == 1) = false := by simp; omega
  clear hn hn2 hv2 h1
  by_cases hv : Cal.Vld year month day
  all_goals
    have HV := Lib.hid hv; clear hv
    go_enter Try.func4, Try.ntmps4
    go_wp2_with fail
    refine (H1.out _).mono ?_; rintro e w1 ⟨rfl, hb1⟩
    go_wp2_with fail
    refine (H3.out _).mono ?_; rintro e w2 ⟨rfl, hb2⟩; replace hb1 := hb1.trans (hb2.mono hb1.size); clear hb2
    go_wp2_with fail
    refine (month_any _ _ _).mono ?_; rintro e w2 ⟨rfl, hb2⟩; replace hb1 := hb1.trans (hb2.mono hb1.size); clear hb2
    go_wp2_with fail
    refine (H2.out _).mono ?_; rintro e w2 ⟨rfl, hb2⟩; replace hb1 := hb1.trans (hb2.mono hb1.size); clear hb2
    go_wp2_with fail
    refine (H4.out _).mono ?_; rintro e w' ⟨rfl, rfl⟩
    go_wp2_with fail
    refine (H5.out _).mono ?_; rintro e w' ⟨rfl, rfl⟩
    go_wp2_with fail
    first | (refine (day_yes _ _ _ _ HV.out).mono ?_) | (refine (day_no _ _ _ _ HV.out).mono ?_)
    rintro e w2 ⟨rfl, hb2⟩; replace hb1 := hb1.trans (hb2.mono hb1.size); clear hb2
    go_wp2_with fail
    try (refine (date_vld _ HV.out rfl).mono ?_; rintro e w2 ⟨rfl, hb2⟩; replace hb1 := hb1.trans (hb2.mono hb1.size); clear hb2; go_wp2_with fail)
    refine (cal_awake _).mono ?_; rintro e w3 ⟨rfl, hb3⟩
    go_wp2_with fail
    go_ret
    exact ⟨rfl, hb1.trans (hb3.mono hb1.size)⟩
set_option maxRecDepth 100000 in
set_option maxHeartbeats 4000000 in
theorem days_B (n y m d year month day : Int) (hv : Cal.Vld y m d) (hn : Cal.num y m d = n) (hl : n < 3652058) (h1 : d = Cal.dim y m) (h0 : m < 12) (hv2 : Cal.Vld y (m + 1) 1) (hn2 : Cal.num y (m + 1) 1 = n + 1) (w : World) :
    Calls Try.prog 4 #[.int .i64 n, .int .i64 year, .int .i64 month, .int .i64 day] w fun e w' => e = .returned (.bool true) ∧ Below w.heap.size w w' := by
  have hd := Cal.vld_mon hv
  have hb := Cal.num_bd hv
  rw [hn] at hb
  have H2 := Lib.hid (fun w => date_vld w hv2 hn2)
  have H1 := Lib.hid (fun w => date_vld w hv hn)
  have H3 := Lib.hid (fun w => day_num w hv hn)
  have hdl := Cal.dim_lo y m
  have hd31 : d ≤ 31 := by have := hv.2.2.2.2.2; omega
  obtain ⟨y1, y2, m1, m2, d1, _⟩ := hv
  clear hdl
  obtain ⟨hd1, hd2⟩ := hd
  obtain ⟨hb1, hb2⟩ := hb
  obtain ⟨p, q, hp1, hp2, hpq, hW1, hW2⟩ := wd_pair n hb1 hl
  have H4 := Lib.hid hW1; clear hW1
  have H5 := Lib.hid hW2; clear hW2
  have hc1 : (m + 1 == m) = false := by simp; omega
  have hc2 : (d == Cal.mon y m) = true := by rw [Cal.mon_in y1 y2 m1 m2, ← h1]; simp
  clear hn hn2 hv2 h1
  by_cases hv : Cal.Vld year month day
  all_goals
    have HV := Lib.hid hv; clear hv
    go_enter Try.func4, Try.ntmps4
    go_wp2_with fail
    refine (H1.out _).mono ?_; rintro e w1 ⟨rfl, hb1⟩
    go_wp2_with fail
    refine (H3.out _).mono ?_; rintro e w2 ⟨rfl, hb2⟩; replace hb1 := hb1.trans (hb2.mono hb1.size); clear hb2
    go_wp2_with fail
    refine (month_any _ _ _).mono ?_; rintro e w2 ⟨rfl, hb2⟩; replace hb1 := hb1.trans (hb2.mono hb1.size); clear hb2
    go_wp2_with fail
    refine (H2.out _).mono ?_; rintro e w2 ⟨rfl, hb2⟩; replace hb1 := hb1.trans (hb2.mono hb1.size); clear hb2
    go_wp2_with fail
    refine (month_any _ _ _).mono ?_; rintro e w2 ⟨rfl, hb2⟩; replace hb1 := hb1.trans (hb2.mono hb1.size); clear hb2
    go_wp2_with fail
    refine (H4.out _).mono ?_; rintro e w' ⟨rfl, rfl⟩
    go_wp2_with fail
    refine (H5.out _).mono ?_; rintro e w' ⟨rfl, rfl⟩
    go_wp2_with fail
    first | (refine (day_yes _ _ _ _ HV.out).mono ?_) | (refine (day_no _ _ _ _ HV.out).mono ?_)
    rintro e w2 ⟨rfl, hb2⟩; replace hb1 := hb1.trans (hb2.mono hb1.size); clear hb2
    go_wp2_with fail
    try (refine (date_vld _ HV.out rfl).mono ?_; rintro e w2 ⟨rfl, hb2⟩; replace hb1 := hb1.trans (hb2.mono hb1.size); clear hb2; go_wp2_with fail)
    refine (cal_awake _).mono ?_; rintro e w3 ⟨rfl, hb3⟩
    go_wp2_with fail
    go_ret
    exact ⟨rfl, hb1.trans (hb3.mono hb1.size)⟩
set_option maxRecDepth 100000 in
set_option maxHeartbeats 4000000 in
theorem days_C (n y m d year month day : Int) (hv : Cal.Vld y m d) (hn : Cal.num y m d = n) (hl : n < 3652058) (h1 : d = Cal.dim y m) (h0 : m = 12) (h00 : y < 9999) (hv2 : Cal.Vld (y + 1) 1 1) (hn2 : Cal.num (y + 1) 1 1 = n + 1) (w : World) :
    Calls Try.prog 4 #[.int .i64 n, .int .i64 year, .int .i64 month, .int .i64 day] w fun e w' => e = .returned (.bool true) ∧ Below w.heap.size w w' := by
  have hd := Cal.vld_mon hv
  have hb := Cal.num_bd hv
  rw [hn] at hb
  have H2 := Lib.hid (fun w => date_vld w hv2 hn2)
  have H1 := Lib.hid (fun w => date_vld w hv hn)
  have H3 := Lib.hid (fun w => day_num w hv hn)
  have hdl := Cal.dim_lo y m
  have hd31 : d ≤ 31 := by have := hv.2.2.2.2.2; omega
  obtain ⟨y1, y2, m1, m2, d1, _⟩ := hv
  clear hdl
  obtain ⟨hd1, hd2⟩ := hd
  obtain ⟨hb1, hb2⟩ := hb
  obtain ⟨p, q, hp1, hp2, hpq, hW1, hW2⟩ := wd_pair n hb1 hl
  have H4 := Lib.hid hW1; clear hW1
  have H5 := Lib.hid hW2; clear hW2
  have hc1 : (y + 1 == y) = false := by simp; omega
  have hc2 : (d == Cal.mon y m) = true := by rw [Cal.mon_in y1 y2 m1 m2, ← h1]; simp
  have hc3 : (m == 12) = true := by simp [h0]
  clear h0
  clear hn hn2 hv2 h1
  by_cases hv : Cal.Vld year month day
  all_goals
    have HV := Lib.hid hv; clear hv
    go_enter Try.func4, Try.ntmps4
    go_wp2_with fail
    refine (H1.out _).mono ?_; rintro e w1 ⟨rfl, hb1⟩
    go_wp2_with fail
    refine (H3.out _).mono ?_; rintro e w2 ⟨rfl, hb2⟩; replace hb1 := hb1.trans (hb2.mono hb1.size); clear hb2
    go_wp2_with fail
    refine (month_any _ _ _).mono ?_; rintro e w2 ⟨rfl, hb2⟩; replace hb1 := hb1.trans (hb2.mono hb1.size); clear hb2
    go_wp2_with fail
    refine (H2.out _).mono ?_; rintro e w2 ⟨rfl, hb2⟩; replace hb1 := hb1.trans (hb2.mono hb1.size); clear hb2
    go_wp2_with fail
    refine (month_any _ _ _).mono ?_; rintro e w2 ⟨rfl, hb2⟩; replace hb1 := hb1.trans (hb2.mono hb1.size); clear hb2
    go_wp2_with fail
    refine (H4.out _).mono ?_; rintro e w' ⟨rfl, rfl⟩
    go_wp2_with fail
    refine (H5.out _).mono ?_; rintro e w' ⟨rfl, rfl⟩
    go_wp2_with fail
    first | (refine (day_yes _ _ _ _ HV.out).mono ?_) | (refine (day_no _ _ _ _ HV.out).mono ?_)
    rintro e w2 ⟨rfl, hb2⟩; replace hb1 := hb1.trans (hb2.mono hb1.size); clear hb2
    go_wp2_with fail
    try (refine (date_vld _ HV.out rfl).mono ?_; rintro e w2 ⟨rfl, hb2⟩; replace hb1 := hb1.trans (hb2.mono hb1.size); clear hb2; go_wp2_with fail)
    refine (cal_awake _).mono ?_; rintro e w3 ⟨rfl, hb3⟩
    go_wp2_with fail
    go_ret
    exact ⟨rfl, hb1.trans (hb3.mono hb1.size)⟩
set_option maxRecDepth 100000 in
set_option maxHeartbeats 4000000 in
theorem days_L (n y m d year month day : Int) (hv : Cal.Vld y m d) (hn : Cal.num y m d = n) (hl : n = 3652058) (w : World) :
    Calls Try.prog 4 #[.int .i64 n, .int .i64 year, .int .i64 month, .int .i64 day] w fun e w' => e = .returned (.bool true) ∧ Below w.heap.size w w' := by
  have hd := Cal.vld_mon hv
  have hb := Cal.num_bd hv
  rw [hn] at hb
  have H1 := Lib.hid (fun w => date_vld w hv hn)
  have H3 := Lib.hid (fun w => day_num w hv hn)
  have hdl := Cal.dim_lo y m
  have hd31 : d ≤ 31 := by have := hv.2.2.2.2.2; omega
  obtain ⟨y1, y2, m1, m2, d1, _⟩ := hv
  clear hdl
  obtain ⟨hd1, hd2⟩ := hd
  obtain ⟨hb1, hb2⟩ := hb
  have hc1 : decide (n < 3652058) = false := by simp; omega
  clear hn hl
  by_cases hv : Cal.Vld year month day
  all_goals
    have HV := Lib.hid hv; clear hv
    go_enter Try.func4, Try.ntmps4
    go_wp2_with fail
    refine (H1.out _).mono ?_; rintro e w1 ⟨rfl, hb1⟩
    go_wp2_with fail
    refine (H3.out _).mono ?_; rintro e w2 ⟨rfl, hb2⟩; replace hb1 := hb1.trans (hb2.mono hb1.size); clear hb2
    go_wp2_with fail
    refine (month_any _ _ _).mono ?_; rintro e w2 ⟨rfl, hb2⟩; replace hb1 := hb1.trans (hb2.mono hb1.size); clear hb2
    go_wp2_with fail
    first | (refine (day_yes _ _ _ _ HV.out).mono ?_) | (refine (day_no _ _ _ _ HV.out).mono ?_)
    rintro e w2 ⟨rfl, hb2⟩; replace hb1 := hb1.trans (hb2.mono hb1.size); clear hb2
    go_wp2_with fail
    try (refine (date_vld _ HV.out rfl).mono ?_; rintro e w2 ⟨rfl, hb2⟩; replace hb1 := hb1.trans (hb2.mono hb1.size); clear hb2; go_wp2_with fail)
    refine (cal_awake _).mono ?_; rintro e w3 ⟨rfl, hb3⟩
    go_wp2_with fail
    go_ret
    exact ⟨rfl, hb1.trans (hb3.mono hb1.size)⟩

theorem walk_CalendarDays (n year month day : Int) (_ : (Lit.int .i64 n).wf = true) (_ : (Lit.int .i64 year).wf = true) (_ : (Lit.int .i64 month).wf = true) (_ : (Lit.int .i64 day).wf = true) (w : World) :
    Calls Try.prog 4 #[.int .i64 n, .int .i64 year, .int .i64 month, .int .i64 day] w fun e w' => e = .returned (.bool true) ∧ Below w.heap.size w w' := by
  by_cases hk : Cal.kn n
  · have hv := Cal.dt_vld hk
    have hn := Cal.dt_num hk
    by_cases hl : n < 3652058
    · rcases Cal.next_day hv (by rw [hn]; exact hl) with ⟨a, b, c⟩ | ⟨a, b, c, e⟩ | ⟨a, b, c, e, f⟩
      · exact days_A n _ _ _ year month day hv hn hl a b (by rw [c, hn]) w
      · exact days_B n _ _ _ year month day hv hn hl a b c (by rw [e, hn]) w
      · exact days_C n _ _ _ year month day hv hn hl a b c e (by rw [f, hn]) w
    · exact days_L n _ _ _ year month day hv hn (by have := hk.2; omega) w
  · exact days_out n year month day (not_kn hk) w
end Go.Proofs.Ytleimfdeapiffaa
