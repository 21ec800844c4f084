/- The leaf functions of the calendar, the program's and the reference's: what each returns. -/
import Derived.Test.YthbjkibclbgjoaaProg
import Derived.Test.YthbjkibclbgjoaaCalMath
import Derived.WalkKit
import Derived.Outline
import Derived.Below
import Derived.LoopTactic
import Derived.Lib.Hide
import Derived.WalkLawsBesides
import Derived.WalkSpells
namespace Go.Proofs.Ythbjkibclbgjoaa
open Go.RowKit

theorem valid_yes (y : Int) (w : World) (h : 1 ≤ y) (h' : y ≤ 9999) : Calls Try.prog 71 #[.int .i64 y] w fun e w' => e = .returned (.bool true) ∧ w = w' := by
  go_enter Try.func71, Try.ntmps71
  go_wp2
  go_ret
  exact ⟨rfl, rfl⟩
theorem valid_no (y : Int) (w : World) (h : y < 1 ∨ 9999 < y) : Calls Try.prog 71 #[.int .i64 y] w fun e w' => e = .returned (.bool false) ∧ w = w' := by
  rcases h with h | h
  · go_enter Try.func71, Try.ntmps71
    go_wp2
    go_ret
    exact ⟨rfl, rfl⟩
  · have hd : decide (y ≤ 9999) = false := by simp; omega
    go_enter Try.func71, Try.ntmps71
    go_wp2
    go_ret
    exact ⟨rfl, rfl⟩

theorem start_any (y : Int) (w : World) (h : 1 ≤ y) (h' : y ≤ 10000) : Calls Try.prog 64 #[.int .i64 y] w fun e w' => e = .returned (.int .i64 (Cal.dby y)) ∧ w = w' := by
  have hb := Cal.dby_bd y h h'
  unfold Cal.dby at hb ⊢
  go_enter Try.func64, Try.ntmps64
  go_wp2
  go_ret
  exact ⟨rfl, rfl⟩

theorem leap_yes (y : Int) (w : World) (h : 1 ≤ y) (h' : y ≤ 9999) (hl : Cal.lp y = 1) : Calls Try.prog 72 #[.int .i64 y] w fun e w' => e = .returned (.bool true) ∧ w = w' := by
  have h4 : y % 4 = 0 := by unfold Cal.lp at hl; split at hl <;> omega
  by_cases h1 : y % 100 = 0
  · have h40 : y % 400 = 0 := by unfold Cal.lp at hl; split at hl <;> omega
    clear hl
    have a4 : (y % 4 == 0) = true := by simpa using h4
    have a1 : (y % 100 != 0) = false := by simpa using h1
    have a40 : (y % 400 == 0) = true := by simpa using h40
    clear h4 h1 h40
    go_enter Try.func72, Try.ntmps72
    go_wp2_with (go_at_call 71; refine (valid_yes _ _ (by omega) (by omega)).mono ?_; rintro e w' ⟨rfl, rfl⟩)
    go_ret
    exact ⟨rfl, rfl⟩
  · clear hl
    have a4 : (y % 4 == 0) = true := by simpa using h4
    have a1 : (y % 100 != 0) = true := by simpa using h1
    clear h4 h1
    go_enter Try.func72, Try.ntmps72
    go_wp2_with (go_at_call 71; refine (valid_yes _ _ (by omega) (by omega)).mono ?_; rintro e w' ⟨rfl, rfl⟩)
    go_ret
    exact ⟨rfl, rfl⟩

theorem leap_no (y : Int) (w : World) (h : ¬ (1 ≤ y ∧ y ≤ 9999 ∧ Cal.lp y = 1)) : Calls Try.prog 72 #[.int .i64 y] w fun e w' => e = .returned (.bool false) ∧ w = w' := by
  by_cases hv : 1 ≤ y ∧ y ≤ 9999
  · obtain ⟨v1, v2⟩ := hv
    have hl : ¬ (y % 4 = 0 ∧ (y % 100 ≠ 0 ∨ y % 400 = 0)) := by intro k; exact h ⟨v1, v2, by unfold Cal.lp; rw [if_pos k]⟩
    clear h
    by_cases h4 : y % 4 = 0
    · have a4 : (y % 4 == 0) = true := by simpa using h4
      have a1 : (y % 100 != 0) = false := by simp; omega
      have a40 : (y % 400 == 0) = false := by simp; omega
      clear h4 hl
      go_enter Try.func72, Try.ntmps72
      go_wp2_with (go_at_call 71; refine (valid_yes _ _ (by omega) (by omega)).mono ?_; rintro e w' ⟨rfl, rfl⟩)
      go_ret
      exact ⟨rfl, rfl⟩
    · have a4 : (y % 4 == 0) = false := by simpa using h4
      clear h4 hl
      go_enter Try.func72, Try.ntmps72
      go_wp2_with (go_at_call 71; refine (valid_yes _ _ (by omega) (by omega)).mono ?_; rintro e w' ⟨rfl, rfl⟩)
      go_ret
      exact ⟨rfl, rfl⟩
  · have hv' : y < 1 ∨ 9999 < y := by omega
    clear h hv
    go_enter Try.func72, Try.ntmps72
    go_wp2_with (go_at_call 71; refine (valid_no _ _ hv').mono ?_; rintro e w' ⟨rfl, rfl⟩)
    go_ret
    exact ⟨rfl, rfl⟩

set_option maxHeartbeats 2000000 in
theorem month_tab (y m : Int) (w : World) (v1 : 1 ≤ y) (v2 : y ≤ 9999) (e : m = 1 ∨ m = 3 ∨ m = 4 ∨ m = 5 ∨ m = 6 ∨ m = 7 ∨ m = 8 ∨ m = 9 ∨ m = 10 ∨ m = 11 ∨ m = 12) :
    Calls Try.prog 63 #[.int .i64 y, .int .i64 m] w fun e w' => e = .returned (.int .i64 (Cal.dim y m)) ∧ Below w.heap.size w w' := by
  rcases e with rfl | rfl | rfl | rfl | rfl | rfl | rfl | rfl | rfl | rfl | rfl
  all_goals
    go_enter Try.func63, Try.ntmps63
    go_wp2_with (go_at_call 71; refine (valid_yes _ _ (by omega) (by omega)).mono ?_; rintro e w' ⟨rfl, rfl⟩)
    go_ret
    exact ⟨by simp [Cal.dim], (Below.refl _ _).alloc (Nat.le_refl _) _⟩

/-- What Month returns: 0 where there is no such month. -/
theorem month_any (y m : Int) (w : World) : Calls Try.prog 63 #[.int .i64 y, .int .i64 m] w fun e w' => e = .returned (.int .i64 (Cal.mon y m)) ∧ Below w.heap.size w w' := by
  by_cases hv : 1 ≤ y ∧ y ≤ 9999
  · obtain ⟨v1, v2⟩ := hv
    by_cases hm : 1 ≤ m ∧ m ≤ 12
    · obtain ⟨m1, m2⟩ := hm
      rw [Cal.mon_in v1 v2 m1 m2]
      by_cases h2 : m = 2
      · subst h2
        rcases (show Cal.lp y = 1 ∨ Cal.lp y = 0 by have := Cal.lp_01 y; omega) with hl | hl
        · have HL := Lib.hid hl; clear hl
          go_enter Try.func63, Try.ntmps63
          go_wp2_with (first | (go_at_call 71; refine (valid_yes _ _ (by omega) (by omega)).mono ?_; rintro e w' ⟨rfl, rfl⟩) | (go_at_call 72; refine (leap_yes _ _ (by omega) (by omega) HL.out).mono ?_; rintro e w' ⟨rfl, rfl⟩))
          go_ret
          exact ⟨by simp [Cal.dim, HL.out], Below.refl _ _⟩
        · have HL := Lib.hid hl; clear hl
          go_enter Try.func63, Try.ntmps63
          go_wp2_with (first | (go_at_call 71; refine (valid_yes _ _ (by omega) (by omega)).mono ?_; rintro e w' ⟨rfl, rfl⟩) | (go_at_call 72; refine (leap_no _ _ (by rw [HL.out]; omega)).mono ?_; rintro e w' ⟨rfl, rfl⟩))
          go_ret
          exact ⟨by simp [Cal.dim, HL.out], (Below.refl _ _).alloc (Nat.le_refl _) _⟩
      · exact month_tab y m w v1 v2 (by omega)
    · have hz : Cal.mon y m = 0 := by unfold Cal.mon; rw [if_neg (by omega)]
      rw [hz]
      clear hz
      rcases (show m < 1 ∨ 12 < m by omega) with k | k
      all_goals
        clear hm
        go_enter Try.func63, Try.ntmps63
        go_wp2_with (go_at_call 71; refine (valid_yes _ _ (by omega) (by omega)).mono ?_; rintro e w' ⟨rfl, rfl⟩)
        go_ret
        exact ⟨rfl, Below.refl _ _⟩
  · have hz : Cal.mon y m = 0 := by unfold Cal.mon; rw [if_neg (by omega)]
    have hv' : y < 1 ∨ 9999 < y := by omega
    rw [hz]
    clear hz hv
    go_enter Try.func63, Try.ntmps63
    go_wp2_with (go_at_call 71; refine (valid_no _ _ hv').mono ?_; rintro e w' ⟨rfl, rfl⟩)
    go_ret
    exact ⟨rfl, Below.refl _ _⟩
end Go.Proofs.Ythbjkibclbgjoaa
