/- The calendar's Day and Date, the program's and the reference's: what each returns. -/
import Derived.Test.YthbjkibclbgjoaaCalWalks
namespace Go.Proofs.Ythbjkibclbgjoaa
open Go.RowKit

theorem ret_two {k l : IntKind} {a b c d : Int} (h : a = c) (h' : b = d) : Ending.returned (.tuple #[.int k a, .int l b]) = .returned (.tuple #[.int k c, .int l d]) := by rw [h, h']
theorem val_int {k : IntKind} {a b : Int} (h : a = b) : Value.int k a = .int k b := by rw [h]
theorem ret_int {k : IntKind} {a b : Int} (h : a = b) : Ending.returned (.int k a) = .returned (.int k b) := by rw [h]

set_option maxHeartbeats 1000000 in
theorem day_yes (y m d : Int) (w : World) (hv : Cal.Vld y m d) : Calls Try.prog 41 #[.int .i64 y, .int .i64 m, .int .i64 d] w fun e w' => e = .returned (.tuple #[.int .i64 (Cal.num y m d), .int .i64 0]) ∧ Below w.heap.size w w' := by
  obtain ⟨d1, d2⟩ := Cal.vld_mon hv
  have hb := Cal.dby_bd y hv.1 (by have := hv.2.1; omega)
  obtain ⟨y1, y2, m1, m2, _, d3⟩ := hv
  have dl := Cal.dim_lo y m
  have hn : Cal.num y m d = Cal.dby y + d - 1 + Cal.cum y m := by unfold Cal.num; omega
  have HN := Lib.hid hn; clear hn
  go_enter Try.func41, Try.ntmps41
  go_wp2_with (first | (go_at_call 63; refine (month_any _ _ _).mono ?_; rintro e w1 ⟨rfl, hb1⟩) | (go_at_call 64; refine (start_any _ _ (by omega) (by omega)).mono ?_; rintro e w' ⟨rfl, rfl⟩))
  go_loopw [8, 9] (fun n i wr => ∃ k : Int, 1 ≤ k ∧ k ≤ m ∧ i = .int .i64 k ∧ n = .int .i64 (Cal.dby y + d - 1 + Cal.cum y k) ∧ Below w.heap.size w wr) (fun _ i _ => (m - intOf i).toNat)
  case atStart => exact ⟨1, by omega, by omega, rfl, by rw [Cal.cum_one]; exact val_int (by omega), hb1⟩
  case round =>
    obtain ⟨k, k1, k2, rfl, rfl, hbr⟩ := hrel
    have cb := Cal.cum_bd y k k1 (by omega)
    have ml := Cal.mon_bd y k
    by_cases hlt : k < m
    · have hs := Lib.hid (Cal.cum_succ y k k1 (by omega))
      have hm := Lib.hid (Cal.mon_in y1 y2 k1 (by omega : k ≤ 12))
      go_wp2_with (go_at_call 63; refine (month_any _ _ _).mono ?_; rintro e w2 ⟨rfl, hb2⟩)
      go_roundw
      case rel => exact ⟨k + 1, by omega, by omega, rfl, by rw [hs.out, hm.out]; exact val_int (by omega), hbr.trans (hb2.mono hbr.size)⟩
      case measure => simp [intOf]; omega
    · obtain rfl : k = m := by omega
      go_wp2
      go_ret2
      exact ⟨ret_two HN.out.symm rfl, hbr⟩

theorem day_no (y m d : Int) (w : World) (hv : ¬ Cal.Vld y m d) : Calls Try.prog 41 #[.int .i64 y, .int .i64 m, .int .i64 d] w fun e w' => e = .returned (.tuple #[.int .i64 0, .int .i64 2]) ∧ Below w.heap.size w w' := by
  by_cases hd : d < 1
  · clear hv
    go_enter Try.func41, Try.ntmps41
    go_wp2
    go_ret2
    exact ⟨rfl, Below.refl _ _⟩
  · have h2 : Cal.mon y m < d := by
      by_cases h : d ≤ Cal.mon y m
      · exact absurd (Cal.mon_pos (by omega) h) hv
      · omega
    clear hv
    go_enter Try.func41, Try.ntmps41
    go_wp2_with (go_at_call 63; refine (month_any _ _ _).mono ?_; rintro e w1 ⟨rfl, hb1⟩)
    go_ret2
    exact ⟨rfl, hb1⟩

theorem known_yes (n : Int) (w : World) (h : 0 ≤ n) (h' : n ≤ 3652058) : Calls Try.prog 67 #[.int .i64 n] w fun e w' => e = .returned (.bool true) ∧ w = w' := by
  go_enter Try.func67, Try.ntmps67
  go_wp2
  go_ret
  exact ⟨rfl, rfl⟩
theorem known_no (n : Int) (w : World) (h : n < 0 ∨ 3652058 < n) : Calls Try.prog 67 #[.int .i64 n] w fun e w' => e = .returned (.bool false) ∧ w = w' := by
  rcases h with h | h
  · go_enter Try.func67, Try.ntmps67
    go_wp2
    go_ret
    exact ⟨rfl, rfl⟩
  · have hd : decide (n ≤ 3652058) = false := by simp; omega
    go_enter Try.func67, Try.ntmps67
    go_wp2
    go_ret
    exact ⟨rfl, rfl⟩

theorem date_no (n : Int) (w : World) (h : n < 0 ∨ 3652058 < n) : Calls Try.prog 54 #[.int .i64 n] w fun e w' => e = .returned (.tuple #[.int .i64 0, .int .i64 0, .int .i64 0, .int .i64 2]) ∧ w = w' := by
  go_enter Try.func54, Try.ntmps54
  go_wp2_with (go_at_call 67; refine (known_no _ _ h).mono ?_; rintro e w' ⟨rfl, rfl⟩)
  refine bodyPost_ret (v := .tuple #[.int .i64 0, .int .i64 0, .int .i64 0, .int .i64 2]) (by simp [results, Try.results54, go_sem]) rfl ⟨rfl, rfl⟩

set_option maxHeartbeats 1000000 in
theorem date_yes (n : Int) (w : World) (h1 : 0 ≤ n) (h2 : n ≤ 3652058) : Calls Try.prog 54 #[.int .i64 n] w fun e w' =>
    ∃ y m d : Int, e = .returned (.tuple #[.int .i64 y, .int .i64 m, .int .i64 d, .int .i64 0]) ∧ Cal.Vld y m d ∧ Cal.num y m d = n ∧ Below w.heap.size w w' := by
  have g0 := Cal.dby_guess n h1
  have g1 := Cal.guess_bd n h1 h2
  go_enter Try.func54, Try.ntmps54
  go_wp2_with (go_at_call 67; refine (known_yes _ _ (by omega) (by omega)).mono ?_; rintro e w' ⟨rfl, rfl⟩)
  go_loop [2] (fun t => ∃ y : Int, 1 ≤ y ∧ y ≤ 9999 ∧ Cal.dby y ≤ n ∧ t = .int .i64 y) (fun t => (9999 - intOf t).toNat)
  case atStart => exact ⟨_, g1.1, g1.2, g0, rfl⟩
  case round =>
    clear g0 g1
    obtain ⟨y, hy1, hy2, hy3, rfl⟩ := hrel
    by_cases hc : y < 9999 ∧ Cal.dby (y + 1) ≤ n
    · obtain ⟨hlt, hd⟩ := hc
      go_wp2_with (go_at_call 64; refine (start_any _ _ (by omega) (by omega)).mono ?_; rintro e w' ⟨rfl, rfl⟩)
      go_round
      case rel => exact ⟨y + 1, by omega, by omega, hd, rfl⟩
      case measure => simp [intOf]; omega
    · have hz : n < Cal.dby (y + 1) := by
        by_cases e : y = 9999
        · have := Cal.dby_max; rw [e]; show _ < Cal.dby 10000; omega
        · omega
      have hb := Cal.dby_bd y hy1 (by omega)
      have hs := Cal.dby_succ y hy1
      have hl := Cal.lp_01 y
      have HS := Lib.hid hs; clear hs
      clear hc
      by_cases hlt : y < 9999
      all_goals
        go_wp2_with (go_at_call 64; refine (start_any _ _ (by omega) (by omega)).mono ?_; rintro e w' ⟨rfl, rfl⟩)
        go_loopw [3, 6] (fun k r wr => ∃ m : Int, 1 ≤ m ∧ m ≤ 12 ∧ k = .int .i64 m ∧ 0 ≤ n - Cal.dby y - Cal.cum y m ∧ r = .int .i64 (n - Cal.dby y - Cal.cum y m) ∧ Below w.heap.size w wr) (fun k _ _ => (12 - intOf k).toNat)
        case atStart => exact ⟨1, by omega, by omega, rfl, by rw [Cal.cum_one]; omega, by rw [Cal.cum_one]; exact val_int (by omega), Below.refl _ _⟩
        case round =>
          obtain ⟨m, hm1, hm2, rfl, hr, rfl, hbr⟩ := hrel
          have cb := Cal.cum_bd y m hm1 (by omega)
          have db := Cal.dim_lo y m
          have cs := Lib.hid (Cal.cum_succ y m hm1 hm2)
          have ce := Lib.hid (Cal.cum_end y)
          have hme := Lib.hid (Cal.mon_in hy1 hy2 hm1 hm2)
          have ml := Cal.mon_bd y m
          by_cases hc : Cal.mon y m ≤ n - Cal.dby y - Cal.cum y m
          · have hm : m < 12 := by
              have a := hme.out
              have b := cs.out
              have c := ce.out
              have d := HS.out
              by_cases e : m = 12
              · subst e
                have b' : Cal.cum y 13 = Cal.cum y 12 + Cal.dim y 12 := b
                omega
              · omega
            go_wp2_with (go_at_call 63; refine (month_any _ _ _).mono ?_; rintro e w2 ⟨rfl, hb2⟩; replace hbr := hbr.trans (hb2.mono hbr.size); clear hb2)
            go_roundw
            case rel => exact ⟨m + 1, by omega, by omega, rfl, by rw [cs.out]; have := hme.out; omega, by rw [cs.out, hme.out]; exact val_int (by omega), hbr⟩
            case measure => simp [intOf]; omega
          · go_wp2_with (go_at_call 63; refine (month_any _ _ _).mono ?_; rintro e w2 ⟨rfl, hb2⟩)
            refine bodyPost_ret (v := .tuple #[.int .i64 y, .int .i64 m, .int .i64 (n - Cal.dby y - Cal.cum y m + 1), .int .i64 0]) (by simp [results, Try.results54, go_sem]) rfl ⟨y, m, _, rfl, Cal.vld_of n y m hy1 hy2 hm1 hm2 hr (by have := hme.out; omega), Cal.num_of n y m, hbr.trans (hb2.mono hbr.size)⟩

/-! ### the reference -/
theorem rleap_yes (y : Int) (w : World) (h : 1 ≤ y) (h' : y ≤ 9999) (hl : Cal.lp y = 1) : Calls Try.prog 68 #[.int .i64 y] w fun e w' => e = .returned (.bool true) ∧ w = w' := by
  have h4 : y % 4 = 0 := by unfold Cal.lp at hl; split at hl <;> omega
  by_cases h1 : y % 100 = 0
  · have h40 : y % 400 = 0 := by unfold Cal.lp at hl; split at hl <;> omega
    clear hl
    have a4 : (y % 4 == 0) = true := by simpa using h4
    have a1 : (y % 100 != 0) = false := by simpa using h1
    have a40 : (y % 400 == 0) = true := by simpa using h40
    clear h4 h1 h40
    go_enter Try.func68, Try.ntmps68
    go_wp2
    go_ret
    exact ⟨rfl, rfl⟩
  · clear hl
    have a4 : (y % 4 == 0) = true := by simpa using h4
    have a1 : (y % 100 != 0) = true := by simpa using h1
    clear h4 h1
    go_enter Try.func68, Try.ntmps68
    go_wp2
    go_ret
    exact ⟨rfl, rfl⟩
theorem rleap_no (y : Int) (w : World) (h : ¬ (1 ≤ y ∧ y ≤ 9999 ∧ Cal.lp y = 1)) : Calls Try.prog 68 #[.int .i64 y] w fun e w' => e = .returned (.bool false) ∧ w = w' := by
  by_cases hv : 1 ≤ y ∧ y ≤ 9999
  · obtain ⟨v1, v2⟩ := hv
    have hl : ¬ (y % 4 = 0 ∧ (y % 100 ≠ 0 ∨ y % 400 = 0)) := by intro k; exact h ⟨v1, v2, by unfold Cal.lp; rw [if_pos k]⟩
    clear h
    by_cases h4 : y % 4 = 0
    · have a4 : (y % 4 == 0) = true := by simpa using h4
      have a1 : (y % 100 != 0) = false := by simp; omega
      have a40 : (y % 400 == 0) = false := by simp; omega
      clear h4 hl
      go_enter Try.func68, Try.ntmps68
      go_wp2
      go_ret
      exact ⟨rfl, rfl⟩
    · have a4 : (y % 4 == 0) = false := by simpa using h4
      have a40 : (y % 400 == 0) = false := by simp; omega
      clear h4 hl
      go_enter Try.func68, Try.ntmps68
      go_wp2
      go_ret
      exact ⟨rfl, rfl⟩
  · rcases (show y < 1 ∨ 9999 < y by omega) with k | k
    · clear h hv
      have hd : decide (1 ≤ y) = false := by simp; omega
      go_enter Try.func68, Try.ntmps68
      go_wp2
      go_ret
      exact ⟨rfl, rfl⟩
    · clear h hv
      have hd : decide (y ≤ 9999) = false := by simp; omega
      go_enter Try.func68, Try.ntmps68
      go_wp2
      go_ret
      exact ⟨rfl, rfl⟩

set_option maxHeartbeats 2000000 in
theorem rmonth_any (y m : Int) (w : World) : Calls Try.prog 58 #[.int .i64 y, .int .i64 m] w fun e w' => e = .returned (.int .i64 (Cal.mon y m)) ∧ w = w' := by
  by_cases hv : 1 ≤ y ∧ y ≤ 9999
  · obtain ⟨v1, v2⟩ := hv
    by_cases hm : 1 ≤ m ∧ m ≤ 12
    · obtain ⟨m1, m2⟩ := hm
      rw [Cal.mon_in v1 v2 m1 m2]
      by_cases h2 : m = 2
      · subst h2
        rcases (show Cal.lp y = 1 ∨ Cal.lp y = 0 by have := Cal.lp_01 y; omega) with hl | hl
        · have HL := Lib.hid hl; clear hl
          go_enter Try.func58, Try.ntmps58
          go_wp2_with (go_at_call 68; refine (rleap_yes _ _ (by omega) (by omega) HL.out).mono ?_; rintro e w' ⟨rfl, rfl⟩)
          go_ret
          exact ⟨by simp [Cal.dim, HL.out], rfl⟩
        · have HL := Lib.hid hl; clear hl
          go_enter Try.func58, Try.ntmps58
          go_wp2_with (go_at_call 68; refine (rleap_no _ _ (by rw [HL.out]; omega)).mono ?_; rintro e w' ⟨rfl, rfl⟩)
          go_ret
          exact ⟨by simp [Cal.dim, HL.out], rfl⟩
      · have e : m = 1 ∨ m = 3 ∨ m = 4 ∨ m = 5 ∨ m = 6 ∨ m = 7 ∨ m = 8 ∨ m = 9 ∨ m = 10 ∨ m = 11 ∨ m = 12 := by omega
        clear h2 m1 m2
        rcases e with rfl | rfl | rfl | rfl | rfl | rfl | rfl | rfl | rfl | rfl | rfl
        all_goals
          go_enter Try.func58, Try.ntmps58
          go_wp2
          go_ret
          exact ⟨by simp [Cal.dim], rfl⟩
    · have hz : Cal.mon y m = 0 := by unfold Cal.mon; rw [if_neg (by omega)]
      rw [hz]
      clear hz
      have b1 : (m == 1) = false := by simp; omega
      have b2 : (m == 2) = false := by simp; omega
      have b3 : (m == 3) = false := by simp; omega
      have b4 : (m == 4) = false := by simp; omega
      have b5 : (m == 5) = false := by simp; omega
      have b6 : (m == 6) = false := by simp; omega
      have b7 : (m == 7) = false := by simp; omega
      have b8 : (m == 8) = false := by simp; omega
      have b9 : (m == 9) = false := by simp; omega
      have b10 : (m == 10) = false := by simp; omega
      have b11 : (m == 11) = false := by simp; omega
      have b12 : (m == 12) = false := by simp; omega
      clear hm
      go_enter Try.func58, Try.ntmps58
      go_wp2
      go_ret
      exact ⟨rfl, rfl⟩
  · have hz : Cal.mon y m = 0 := by unfold Cal.mon; rw [if_neg (by omega)]
    rw [hz]
    rcases (show y < 1 ∨ 9999 < y by omega) with k | k
    all_goals
      clear hz hv
      go_enter Try.func58, Try.ntmps58
      go_wp2
      go_ret
      exact ⟨rfl, rfl⟩

/-- The days of a year that exists. -/
theorem rlength_any (y : Int) (w : World) (h : 1 ≤ y) (h' : y ≤ 9999) : Calls Try.prog 57 #[.int .i64 y] w fun e w' => e = .returned (.int .i64 (365 + Cal.lp y)) ∧ w = w' := by
  go_enter Try.func57, Try.ntmps57
  go_wp2
  go_loop [3, 4] (fun n i => ∃ k : Int, 1 ≤ k ∧ k ≤ 13 ∧ i = .int .i64 k ∧ n = .int .i64 (Cal.cum y k)) (fun _ i => (13 - intOf i).toNat)
  case atStart => exact ⟨1, by omega, by omega, rfl, by rw [Cal.cum_one]⟩
  case round =>
    obtain ⟨k, k1, k2, rfl, rfl⟩ := hrel
    have cb := Cal.cum_bd y k k1 (by omega)
    have ml := Cal.mon_bd y k
    by_cases hlt : k ≤ 12
    · have hs := Lib.hid (Cal.cum_succ y k k1 (by omega))
      have hm := Lib.hid (Cal.mon_in h h' k1 (by omega : k ≤ 12))
      go_wp2_with (go_at_call 58; refine (rmonth_any _ _ _).mono ?_; rintro e w2 ⟨rfl, rfl⟩)
      go_round
      case rel => exact ⟨k + 1, by omega, by omega, rfl, by rw [hs.out, hm.out]⟩
      case measure => simp [intOf]; omega
    · obtain rfl : k = 13 := by omega
      go_wp2
      go_ret
      exact ⟨ret_int (Cal.cum_end y), rfl⟩

theorem rbefore_any (y : Int) (w : World) (h : 1 ≤ y) (h' : y ≤ 9999) : Calls Try.prog 65 #[.int .i64 y] w fun e w' => e = .returned (.int .i64 (Cal.dby y)) ∧ w = w' := by
  go_enter Try.func65, Try.ntmps65
  go_wp2
  go_loop [3, 4] (fun n i => ∃ k : Int, 1 ≤ k ∧ k ≤ y ∧ i = .int .i64 k ∧ n = .int .i64 (Cal.dby k)) (fun _ i => (y - intOf i).toNat)
  case atStart => exact ⟨1, by omega, by omega, rfl, by rw [Cal.dby_one]⟩
  case round =>
    obtain ⟨k, k1, k2, rfl, rfl⟩ := hrel
    have cb := Cal.dby_bd k k1 (by omega)
    have ml := Cal.lp_01 k
    by_cases hlt : k < y
    · have hs := Lib.hid (Cal.dby_succ k k1)
      go_wp2_with (go_at_call 57; refine (rlength_any _ _ (by omega) (by omega)).mono ?_; rintro e w2 ⟨rfl, rfl⟩)
      go_round
      case rel => exact ⟨k + 1, by omega, by omega, rfl, by rw [hs.out]; exact val_int (by omega)⟩
      case measure => simp [intOf]; omega
    · obtain rfl : k = y := by omega
      go_wp2
      go_ret
      exact ⟨rfl, rfl⟩
end Go.Proofs.Ythbjkibclbgjoaa
