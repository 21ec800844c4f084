/- The calendar, as far as times need it (printed by mk_momcal.py out of CalWalksC, CalWalksD). -/
import Derived.Test.YthbjkibclbgjoaaCalWalksB
import Derived.Test.YthbjkibclbgjoaaMem
namespace Go.Proofs.Ythbjkibclbgjoaa
open Go.RowKit
/-- Date at a number that exists, by the functions of the plain text. -/
theorem date_at (n : Int) (w : World) (h : Cal.kn n) : Calls Try.prog 54 #[.int .i64 n] w fun e w' =>
    e = .returned (.tuple #[.int .i64 (Cal.Yr n), .int .i64 (Cal.Mo n), .int .i64 (Cal.Da n), .int .i64 0]) ∧ Below w.heap.size w w' := by
  refine (date_yes n w h.1 h.2).mono ?_
  rintro e w' ⟨y, m, d, rfl, hv, hn, hb⟩
  obtain ⟨h1, h2, h3⟩ := Cal.dt_of hv hn
  rw [h1, h2, h3]
  exact ⟨rfl, hb⟩

theorem not_kn {n : Int} (h : ¬ Cal.kn n) : n < 0 ∨ 3652058 < n := by unfold Cal.kn at h; omega

theorem rday_yes (y m d : Int) (w : World) (hv : Cal.Vld y m d) : Calls Try.prog 44 #[.int .i64 y, .int .i64 m, .int .i64 d] w fun e w' => e = .returned (.tuple #[.int .i64 (Cal.num y m d), .int .i64 0]) ∧ w = w' := by
  obtain ⟨d1, d2⟩ := Cal.vld_mon hv
  have hb := Cal.dby_bd y hv.1 (by have := hv.2.1; omega)
  obtain ⟨y1, y2, m1, m2, _, d3⟩ := hv
  have dl := Cal.dim_lo y m
  have hn : Cal.num y m d = Cal.dby y + Cal.cum y m + d - 1 := rfl
  have HN := Lib.hid hn; clear hn
  go_enter Try.func44, Try.ntmps44
  go_wp2_with (first | (go_at_call 58; refine (rmonth_any _ _ _).mono ?_; rintro e w1 ⟨rfl, rfl⟩) | (go_at_call 65; refine (rbefore_any _ _ (by omega) (by omega)).mono ?_; rintro e w' ⟨rfl, rfl⟩))
  go_loop [8, 9] (fun n i => ∃ k : Int, 1 ≤ k ∧ k ≤ m ∧ i = .int .i64 k ∧ n = .int .i64 (Cal.dby y + Cal.cum y k)) (fun _ i => (m - intOf i).toNat)
  case atStart => exact ⟨1, by omega, by omega, rfl, by rw [Cal.cum_one]; exact val_int (by omega)⟩
  case round =>
    obtain ⟨k, k1, k2, rfl, rfl⟩ := hrel
    have cb := Cal.cum_bd y k k1 (by omega)
    have ml := Cal.mon_bd y k
    by_cases hlt : k < m
    · have hs := Lib.hid (Cal.cum_succ y k k1 (by omega))
      have hm := Lib.hid (Cal.mon_in y1 y2 k1 (by omega : k ≤ 12))
      go_wp2_with (go_at_call 58; refine (rmonth_any _ _ _).mono ?_; rintro e w2 ⟨rfl, rfl⟩)
      go_round
      case rel => exact ⟨k + 1, by omega, by omega, rfl, by rw [hs.out, hm.out]; exact val_int (by omega)⟩
      case measure => simp [intOf]; omega
    · obtain rfl : k = m := by omega
      go_wp2
      go_ret2
      exact ⟨ret_two HN.out.symm rfl, rfl⟩

theorem rday_no (y m d : Int) (w : World) (hv : ¬ Cal.Vld y m d) : Calls Try.prog 44 #[.int .i64 y, .int .i64 m, .int .i64 d] w fun e w' => e = .returned (.tuple #[.int .i64 0, .int .i64 2]) ∧ w = w' := by
  by_cases hd : d < 1
  · clear hv
    go_enter Try.func44, Try.ntmps44
    go_wp2
    go_ret2
    exact ⟨rfl, rfl⟩
  · have h2 : Cal.mon y m < d := by
      by_cases h : d ≤ Cal.mon y m
      · exact absurd (Cal.mon_pos (by omega) h) hv
      · omega
    clear hv
    go_enter Try.func44, Try.ntmps44
    go_wp2_with (go_at_call 58; refine (rmonth_any _ _ _).mono ?_; rintro e w1 ⟨rfl, rfl⟩)
    go_ret2
    exact ⟨rfl, rfl⟩

theorem rin_yes (n : Int) (w : World) (h : 0 ≤ n) (h' : n ≤ 3652058) : Calls Try.prog 56 #[.int .i64 n] w fun e w' => e = .returned (.bool true) ∧ w = w' := by
  go_enter Try.func56, Try.ntmps56
  go_wp2
  go_ret
  exact ⟨rfl, rfl⟩

theorem rin_no (n : Int) (w : World) (h : n < 0 ∨ 3652058 < n) : Calls Try.prog 56 #[.int .i64 n] w fun e w' => e = .returned (.bool false) ∧ w = w' := by
  rcases h with h | h
  · go_enter Try.func56, Try.ntmps56
    go_wp2
    go_ret
    exact ⟨rfl, rfl⟩
  · have hd : decide (n ≤ 3652058) = false := by simp; omega
    go_enter Try.func56, Try.ntmps56
    go_wp2
    go_ret
    exact ⟨rfl, rfl⟩

theorem rdate_no (n : Int) (w : World) (h : n < 0 ∨ 3652058 < n) : Calls Try.prog 36 #[.int .i64 n] w fun e w' => e = .returned (.tuple #[.int .i64 0, .int .i64 0, .int .i64 0, .int .i64 2]) ∧ w = w' := by
  go_enter Try.func36, Try.ntmps36
  go_wp2_with (go_at_call 56; refine (rin_no _ _ h).mono ?_; rintro e w' ⟨rfl, rfl⟩)
  refine bodyPost_ret (v := .tuple #[.int .i64 0, .int .i64 0, .int .i64 0, .int .i64 2]) (by simp [results, Try.results36, go_sem]) rfl ⟨rfl, rfl⟩

set_option maxHeartbeats 1000000 in
theorem rdate_yes (n : Int) (w : World) (h1 : 0 ≤ n) (h2 : n ≤ 3652058) : Calls Try.prog 36 #[.int .i64 n] w fun e w' =>
    ∃ y m d : Int, e = .returned (.tuple #[.int .i64 y, .int .i64 m, .int .i64 d, .int .i64 0]) ∧ Cal.Vld y m d ∧ Cal.num y m d = n ∧ w = w' := by
  go_enter Try.func36, Try.ntmps36
  go_wp2_with (go_at_call 56; refine (rin_yes _ _ (by omega) (by omega)).mono ?_; rintro e w' ⟨rfl, rfl⟩)
  go_loop [0, 6] (fun r t => ∃ y : Int, 1 ≤ y ∧ y ≤ 9999 ∧ Cal.dby y ≤ n ∧ t = .int .i64 y ∧ r = .int .i64 (n - Cal.dby y)) (fun _ t => (9999 - intOf t).toNat)
  case atStart => exact ⟨1, by omega, by omega, by rw [Cal.dby_one]; omega, rfl, by rw [Cal.dby_one]; exact val_int (by omega)⟩
  case round =>
    obtain ⟨y, hy1, hy2, hy3, rfl, rfl⟩ := hrel
    have hb := Cal.dby_bd y hy1 (by omega)
    have hs := Lib.hid (Cal.dby_succ y hy1)
    have hl := Cal.lp_01 y
    by_cases hc : 365 + Cal.lp y ≤ n - Cal.dby y
    · have hlt : y < 9999 := by
        by_cases e : y = 9999
        · have := Cal.dby_max
          have b := hs.out
          subst e
          have b' : Cal.dby 10000 = Cal.dby 9999 + 365 + Cal.lp 9999 := b
          omega
        · omega
      go_wp2_with (go_at_call 57; refine (rlength_any _ _ (by omega) (by omega)).mono ?_; rintro e w' ⟨rfl, rfl⟩)
      go_round
      case rel => exact ⟨y + 1, by omega, by omega, by rw [hs.out]; omega, rfl, by rw [hs.out]; exact val_int (by omega)⟩
      case measure => simp [intOf]; omega
    · go_wp2_with (go_at_call 57; refine (rlength_any _ _ (by omega) (by omega)).mono ?_; rintro e w' ⟨rfl, rfl⟩)
      go_loop [0, 7] (fun r k => ∃ m : Int, 1 ≤ m ∧ m ≤ 12 ∧ k = .int .i64 m ∧ 0 ≤ n - Cal.dby y - Cal.cum y m ∧ r = .int .i64 (n - Cal.dby y - Cal.cum y m)) (fun _ k => (12 - intOf k).toNat)
      case atStart => exact ⟨1, by omega, by omega, rfl, by rw [Cal.cum_one]; omega, by rw [Cal.cum_one]; exact val_int (by omega)⟩
      case round =>
        obtain ⟨m, hm1, hm2, rfl, hr, rfl⟩ := hrel
        have cb := Cal.cum_bd y m hm1 (by omega)
        have db := Cal.dim_lo y m
        have cs := Lib.hid (Cal.cum_succ y m hm1 hm2)
        have ce := Lib.hid (Cal.cum_end y)
        have hme := Lib.hid (Cal.mon_in hy1 hy2 hm1 hm2)
        have ml := Cal.mon_bd y m
        by_cases hd : Cal.mon y m ≤ n - Cal.dby y - Cal.cum y m
        · have hm : m < 12 := by
            have a := hme.out
            have b := cs.out
            have c := ce.out
            by_cases e : m = 12
            · subst e
              have b' : Cal.cum y 13 = Cal.cum y 12 + Cal.dim y 12 := b
              omega
            · omega
          go_wp2_with (go_at_call 58; refine (rmonth_any _ _ _).mono ?_; rintro e w2 ⟨rfl, rfl⟩)
          go_round
          case rel => exact ⟨m + 1, by omega, by omega, rfl, by rw [cs.out]; have := hme.out; omega, by rw [cs.out, hme.out]; exact val_int (by omega)⟩
          case measure => simp [intOf]; omega
        · go_wp2_with (go_at_call 58; refine (rmonth_any _ _ _).mono ?_; rintro e w2 ⟨rfl, rfl⟩)
          refine bodyPost_ret (v := .tuple #[.int .i64 y, .int .i64 m, .int .i64 (n - Cal.dby y - Cal.cum y m + 1), .int .i64 0]) (by simp [results, Try.results36, go_sem]) rfl ⟨y, m, _, rfl, Cal.vld_of n y m hy1 hy2 hm1 hm2 hr (by have := hme.out; omega), Cal.num_of n y m, rfl⟩

theorem rdate_at (n : Int) (w : World) (h : Cal.kn n) : Calls Try.prog 36 #[.int .i64 n] w fun e w' =>
    e = .returned (.tuple #[.int .i64 (Cal.Yr n), .int .i64 (Cal.Mo n), .int .i64 (Cal.Da n), .int .i64 0]) ∧ w = w' := by
  refine (rdate_yes n w h.1 h.2).mono ?_
  rintro e w' ⟨y, m, d, rfl, hv, hn, hb⟩
  obtain ⟨h1, h2, h3⟩ := Cal.dt_of hv hn
  rw [h1, h2, h3]
  exact ⟨rfl, hb⟩

theorem below_eq {w w' : World} (h : w = w') : Below w.heap.size w w' := by subst h; exact Below.refl _ _

theorem day_any (y m d : Int) (w : World) : Calls Try.prog 41 #[.int .i64 y, .int .i64 m, .int .i64 d] w fun e w' => e = .returned (.tuple #[.int .i64 (Cal.dayN y m d), .int .i64 (Cal.dayE y m d)]) ∧ Below w.heap.size w w' := by
  unfold Cal.dayN Cal.dayE
  by_cases h : Cal.Vld y m d
  · rw [if_pos h, if_pos h]; exact day_yes y m d w h
  · rw [if_neg h, if_neg h]; exact day_no y m d w h

theorem rday_any (y m d : Int) (w : World) : Calls Try.prog 44 #[.int .i64 y, .int .i64 m, .int .i64 d] w fun e w' => e = .returned (.tuple #[.int .i64 (Cal.dayN y m d), .int .i64 (Cal.dayE y m d)]) ∧ w = w' := by
  unfold Cal.dayN Cal.dayE
  by_cases h : Cal.Vld y m d
  · rw [if_pos h, if_pos h]; exact rday_yes y m d w h
  · rw [if_neg h, if_neg h]; exact rday_no y m d w h

theorem date_any (n : Int) (w : World) : Calls Try.prog 54 #[.int .i64 n] w fun e w' =>
    e = .returned (.tuple #[.int .i64 (Cal.dtY n), .int .i64 (Cal.dtM n), .int .i64 (Cal.dtD n), .int .i64 (Cal.knE n)]) ∧ Below w.heap.size w w' := by
  unfold Cal.dtY Cal.dtM Cal.dtD Cal.knE
  by_cases h : Cal.kn n
  · rw [if_pos h, if_pos h, if_pos h, if_pos h]; exact date_at n w h
  · rw [if_neg h, if_neg h, if_neg h, if_neg h]; exact (date_no n w (not_kn h)).mono fun _ _ ⟨a, b⟩ => ⟨a, below_eq b⟩

theorem rdate_any (n : Int) (w : World) : Calls Try.prog 36 #[.int .i64 n] w fun e w' =>
    e = .returned (.tuple #[.int .i64 (Cal.dtY n), .int .i64 (Cal.dtM n), .int .i64 (Cal.dtD n), .int .i64 (Cal.knE n)]) ∧ w = w' := by
  unfold Cal.dtY Cal.dtM Cal.dtD Cal.knE
  by_cases h : Cal.kn n
  · rw [if_pos h, if_pos h, if_pos h, if_pos h]; exact rdate_at n w h
  · rw [if_neg h, if_neg h, if_neg h, if_neg h]; exact rdate_no n w (not_kn h)

end Go.Proofs.Ythbjkibclbgjoaa
