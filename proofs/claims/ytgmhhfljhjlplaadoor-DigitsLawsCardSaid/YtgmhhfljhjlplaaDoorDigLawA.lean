/- Numerals: the laws of sums, products and quotients. -/
import Derived.Test.YtgmhhfljhjlplaaDoorDigLives
namespace Go.Proofs.YtgmhhfljhjlplaaDoor
open Go.RowKit

theorem rvalid_yes {x : ByteArray} (hx : x.size ≤ maxLen) (h : Dig.vld x) (w : World) : Calls Tryd.prog 10 #[.string x] w fun e w' => e = .returned (.bool true) ∧ w = w' := by
  have := rvalid_any hx w
  rwa [decide_eq_true h] at this
theorem rvalid_no {x : ByteArray} (hx : x.size ≤ maxLen) (h : ¬ Dig.vld x) (w : World) : Calls Tryd.prog 10 #[.string x] w fun e w' => e = .returned (.bool false) ∧ w = w' := by
  have := rvalid_any hx w
  rwa [decide_eq_false h] at this

set_option maxHeartbeats 2000000 in
theorem walk_DigitsSums (a b : ByteArray) (ha : a.size ≤ maxLen) (hb : b.size ≤ maxLen) (w : World) :
    Calls Tryd.prog 5 #[.string a, .string b] w fun e w' => e = .returned (.bool true) ∧ Below w.heap.size w w' := by
  have HL := Lib.hid (dig_lives)
  by_cases va : Dig.vld a
  case neg =>
    have VA := Lib.hid (rvalid_no ha va)
    clear va ha hb
    go_enter Tryd.func5, Tryd.ntmps5
    go_wp2_with fail
    refine (VA.out _).mono ?_; rintro _ w' ⟨rfl, rfl⟩
    go_wp2_with fail
    refine (HL.out _).mono ?_; rintro _ w' ⟨rfl, hb1⟩
    go_wp2
    go_ret
    exact ⟨rfl, hb1⟩
  by_cases vb : Dig.vld b
  case neg =>
    have VA := Lib.hid (rvalid_yes ha va)
    have VB := Lib.hid (rvalid_no hb vb)
    clear va ha vb hb
    go_enter Tryd.func5, Tryd.ntmps5
    go_wp2_with fail
    refine (VA.out _).mono ?_; rintro _ w' ⟨rfl, rfl⟩
    go_wp2_with fail
    refine (VB.out _).mono ?_; rintro _ w' ⟨rfl, rfl⟩
    go_wp2_with fail
    refine (HL.out _).mono ?_; rintro _ w' ⟨rfl, hb1⟩
    go_wp2
    go_ret
    exact ⟨rfl, hb1⟩
  have VA := Lib.hid (rvalid_yes ha va)
  have VB := Lib.hid (rvalid_yes hb vb)
  obtain ⟨A, rfl⟩ := vst va
  obtain ⟨B, rfl⟩ := vst vb
  have H1 := Lib.hid (addS va vb)
  have H2 := Lib.hid (sub_any va vb)
  have H3 := Lib.hid (radd_any va vb)
  have H4 := Lib.hid (rsub_any va vb)
  have H5 := Lib.hid (cmp_any (Dig.vld_str va) (Dig.vld_str vb))
  have H6 := Lib.hid (rcmp_any (Dig.vld_str va) (Dig.vld_str vb))
  generalize Dig.lim (A + B) = R at *
  generalize Dig.subR A B = S at *
  generalize Dig.cmp A B = c at *
  obtain ⟨r1, r2⟩ := R
  obtain ⟨s1, s2⟩ := S
  generalize Dig.st A = x at *
  generalize Dig.st B = y at *
  dsimp only at H1 H2 H3 H4
  clear va vb ha hb
  go_enter Tryd.func5, Tryd.ntmps5
  go_wp2_with fail
  refine (VA.out _).mono ?_; rintro _ w' ⟨rfl, rfl⟩
  go_wp2_with fail
  refine (VB.out _).mono ?_; rintro _ w' ⟨rfl, rfl⟩
  go_wp2_with fail
  refine (H1.out _).mono ?_; rintro _ w1 ⟨rfl, hb1⟩
  go_wp2_with fail
  refine (H2.out _).mono ?_; rintro _ w2 ⟨rfl, hb2⟩
  have k2 := below_then hb1 hb2
  go_wp2_with fail
  refine (H3.out _).mono ?_; rintro _ w3 ⟨rfl, hb3⟩
  have k3 := below_then k2 hb3
  go_wp2_with fail
  refine (H4.out _).mono ?_; rintro _ w4 ⟨rfl, hb4⟩
  have k4 := below_then k3 hb4
  clear hb1 hb2 hb3 hb4 k2 k3
  go_wp2_with fail
  refine (H5.out _).mono ?_; rintro _ w5 ⟨rfl, rfl⟩
  go_wp2_with fail
  refine (H6.out _).mono ?_; rintro _ w6 ⟨rfl, rfl⟩
  go_wp2_with fail
  refine (HL.out _).mono ?_; rintro _ w7 ⟨rfl, hb7⟩
  go_wp2
  go_ret
  exact ⟨rfl, below_then k4 hb7⟩

set_option maxHeartbeats 2000000 in
theorem walk_DigitsProducts (a b : ByteArray) (ha : a.size ≤ maxLen) (hb : b.size ≤ maxLen) (w : World) :
    Calls Tryd.prog 3 #[.string a, .string b] w fun e w' => e = .returned (.bool true) ∧ Below w.heap.size w w' := by
  have HL := Lib.hid (dig_lives)
  by_cases va : Dig.vld a
  case neg =>
    have VA := Lib.hid (rvalid_no ha va)
    clear va ha hb
    go_enter Tryd.func3, Tryd.ntmps3
    go_wp2_with fail
    refine (VA.out _).mono ?_; rintro _ w' ⟨rfl, rfl⟩
    go_wp2_with fail
    refine (HL.out _).mono ?_; rintro _ w' ⟨rfl, hb1⟩
    go_wp2
    go_ret
    exact ⟨rfl, hb1⟩
  by_cases vb : Dig.vld b
  case neg =>
    have VA := Lib.hid (rvalid_yes ha va)
    have VB := Lib.hid (rvalid_no hb vb)
    clear va ha vb hb
    go_enter Tryd.func3, Tryd.ntmps3
    go_wp2_with fail
    refine (VA.out _).mono ?_; rintro _ w' ⟨rfl, rfl⟩
    go_wp2_with fail
    refine (VB.out _).mono ?_; rintro _ w' ⟨rfl, rfl⟩
    go_wp2_with fail
    refine (HL.out _).mono ?_; rintro _ w' ⟨rfl, hb1⟩
    go_wp2
    go_ret
    exact ⟨rfl, hb1⟩
  have VA := Lib.hid (rvalid_yes ha va)
  have VB := Lib.hid (rvalid_yes hb vb)
  obtain ⟨A, rfl⟩ := vst va
  obtain ⟨B, rfl⟩ := vst vb
  have H1 := Lib.hid (mulS va vb)
  have H3 := Lib.hid (rmul_any va vb)
  generalize Dig.lim (A * B) = R at *
  obtain ⟨r1, r2⟩ := R
  generalize Dig.st A = x at *
  generalize Dig.st B = y at *
  dsimp only at H1 H3
  clear va vb ha hb
  go_enter Tryd.func3, Tryd.ntmps3
  go_wp2_with fail
  refine (VA.out _).mono ?_; rintro _ w' ⟨rfl, rfl⟩
  go_wp2_with fail
  refine (VB.out _).mono ?_; rintro _ w' ⟨rfl, rfl⟩
  go_wp2_with fail
  refine (H1.out _).mono ?_; rintro _ w1 ⟨rfl, hb1⟩
  go_wp2_with fail
  refine (H3.out _).mono ?_; rintro _ w3 ⟨rfl, hb3⟩
  have k4 := below_then hb1 hb3
  clear hb1 hb3
  go_wp2_with fail
  refine (HL.out _).mono ?_; rintro _ w7 ⟨rfl, hb7⟩
  go_wp2
  go_ret
  exact ⟨rfl, below_then k4 hb7⟩

set_option maxHeartbeats 2000000 in
theorem walk_DigitsQuotients (a b : ByteArray) (ha : a.size ≤ maxLen) (hb : b.size ≤ maxLen) (w : World) :
    Calls Tryd.prog 4 #[.string a, .string b] w fun e w' => e = .returned (.bool true) ∧ Below w.heap.size w w' := by
  have HL := Lib.hid (dig_lives)
  by_cases va : Dig.vld a
  case neg =>
    have VA := Lib.hid (rvalid_no ha va)
    clear va ha hb
    go_enter Tryd.func4, Tryd.ntmps4
    go_wp2_with fail
    refine (VA.out _).mono ?_; rintro _ w' ⟨rfl, rfl⟩
    go_wp2_with fail
    refine (HL.out _).mono ?_; rintro _ w' ⟨rfl, hb1⟩
    go_wp2
    go_ret
    exact ⟨rfl, hb1⟩
  by_cases vb : Dig.vld b
  case neg =>
    have VA := Lib.hid (rvalid_yes ha va)
    have VB := Lib.hid (rvalid_no hb vb)
    clear va ha vb hb
    go_enter Tryd.func4, Tryd.ntmps4
    go_wp2_with fail
    refine (VA.out _).mono ?_; rintro _ w' ⟨rfl, rfl⟩
    go_wp2_with fail
    refine (VB.out _).mono ?_; rintro _ w' ⟨rfl, rfl⟩
    go_wp2_with fail
    refine (HL.out _).mono ?_; rintro _ w' ⟨rfl, hb1⟩
    go_wp2
    go_ret
    exact ⟨rfl, hb1⟩
  have VA := Lib.hid (rvalid_yes ha va)
  have VB := Lib.hid (rvalid_yes hb vb)
  obtain ⟨A, rfl⟩ := vst va
  obtain ⟨B, rfl⟩ := vst vb
  have H : ∃ q r : ByteArray, ∃ c : Int, (∀ w, Calls Tryd.prog 14 #[.string (Dig.st A), .string (Dig.st B)] w fun e w' => e = .returned (.tuple #[.string q, .string r, .int .i64 c]) ∧ Below w.heap.size w w') ∧
      (∀ w, Calls Tryd.prog 15 #[.string (Dig.st A), .string (Dig.st B)] w fun e w' => e = .returned (.tuple #[.string q, .string r, .int .i64 c]) ∧ Below w.heap.size w w') := by
    rcases Nat.eq_zero_or_pos B with h | h
    · subst h
      rw [Dig.st_zero]
      exact ⟨_, _, _, quo_none _, rquo_none _⟩
    · exact ⟨_, _, _, quoS va vb h, rquoS va vb h⟩
  obtain ⟨q, r, c, h1, h3⟩ := H
  have H1 := Lib.hid h1
  have H3 := Lib.hid h3
  generalize Dig.st A = x at *
  generalize Dig.st B = y at *
  clear va vb ha hb h1 h3
  go_enter Tryd.func4, Tryd.ntmps4
  go_wp2_with fail
  refine (VA.out _).mono ?_; rintro _ w' ⟨rfl, rfl⟩
  go_wp2_with fail
  refine (VB.out _).mono ?_; rintro _ w' ⟨rfl, rfl⟩
  go_wp2_with fail
  refine (H1.out _).mono ?_; rintro _ w1 ⟨rfl, hb1⟩
  go_wp2_with fail
  refine (H3.out _).mono ?_; rintro _ w3 ⟨rfl, hb3⟩
  have k4 := below_then hb1 hb3
  clear hb1 hb3
  go_wp2_with fail
  refine (HL.out _).mono ?_; rintro _ w7 ⟨rfl, hb7⟩
  go_wp2
  go_ret
  exact ⟨rfl, below_then k4 hb7⟩
end Go.Proofs.YtgmhhfljhjlplaaDoor
