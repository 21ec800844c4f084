/- Numerals: the law of shifts. -/
import Derived.Test.YtgmhhfljhjlplaaDoorDigLawA
import Derived.Test.YtgmhhfljhjlplaaDoorDigShift
namespace Go.Proofs.YtgmhhfljhjlplaaDoor
open Go.RowKit

namespace Dig
/-- A numeral, shifted. -/
def shR (x : ByteArray) (n : Int) : ByteArray × Int :=
  if x.size = 0 then (⟨#[]⟩, 0) else if n < 0 then (if n ≤ -(x.size : Int) then (⟨#[]⟩, 0) else (x.extract 0 ((x.size : Int) + n).toNat, 0))
  else if 600 - (x.size : Int) < n then (⟨#[]⟩, 2) else (x ++ noughts n.toNat, 0)
end Dig
theorem neg_wrap {x : ByteArray} (h : x.size ≤ 600) : IntKind.i64.wrap (-(x.size : Int)) = -(x.size : Int) := by rw [IntKind.wrap_i64]; omega

set_option maxHeartbeats 2000000 in
theorem sh_any {x : ByteArray} (hx : x.size ≤ 600) (n : Int) (hn : -9223372036854775808 ≤ n) (hn2 : n ≤ 9223372036854775807) (w : World) :
    Calls Tryd.prog 29 #[.string x, .int .i64 n] w fun e w' => e = .returned (.tuple #[.string (Dig.shR x n).1, .int .i64 (Dig.shR x n).2]) ∧ Below w.heap.size w w' := by
  have W := neg_wrap hx
  unfold Dig.shR
  by_cases h0 : x.size = 0
  · rw [if_pos h0]
    have e0 := Dig.nil_of h0
    clear h0 W
    go_enter Tryd.func29, Tryd.ntmps29
    go_wp2
    go_ret2
    exact ⟨rfl, Below.refl _ _⟩
  rw [if_neg h0]
  have e0 := Dig.some_of (x := x) (by omega)
  by_cases h1 : n < 0
  · rw [if_pos h1]
    have d1 : decide (n < 0) = true := decide_eq_true h1
    by_cases h2 : n ≤ -(x.size : Int)
    · rw [if_pos h2]
      have d2 : decide (n ≤ -(x.size : Int)) = true := decide_eq_true h2
      clear h0 h1 h2
      go_enter Tryd.func29, Tryd.ntmps29
      go_wp2
      go_ret2
      exact ⟨rfl, Below.refl _ _⟩
    · rw [if_neg h2]
      have d2 : decide (n ≤ -(x.size : Int)) = false := decide_eq_false h2
      obtain ⟨m, hm⟩ : ∃ m : Nat, (x.size : Int) + n = m := ⟨((x.size : Int) + n).toNat, by omega⟩
      rw [hm]
      have hmx : (m : Int) ≤ x.size := by omega
      have hm0 : (0 : Int) ≤ m := by omega
      have hb1 : -601 ≤ n := by omega
      clear h0 h1 h2 hn
      go_enter Tryd.func29, Tryd.ntmps29
      go_wp2
      go_ret2
      exact ⟨rfl, Below.refl _ _⟩
  rw [if_neg h1]
  have d1 : decide (n < 0) = false := decide_eq_false h1
  by_cases h2 : 600 - (x.size : Int) < n
  · rw [if_pos h2]
    have d2 : decide (600 - (x.size : Int) < n) = true := decide_eq_true h2
    clear h0 h1 h2 W
    go_enter Tryd.func29, Tryd.ntmps29
    go_wp2
    go_ret2
    exact ⟨rfl, Below.refl _ _⟩
  · rw [if_neg h2]
    have d2 : decide (600 - (x.size : Int) < n) = false := decide_eq_false h2
    obtain ⟨m, rfl⟩ : ∃ m : Nat, n = m := ⟨n.toNat, by omega⟩
    rw [Int.toNat_natCast]
    have HR := Lib.hid (repeat_any (n := m) (by omega))
    have hs := Dig.noughts_size m
    generalize Dig.noughts m = y at *
    have happ : ¬ 9223372036854775807 < x.size + y.size := by omega
    clear h0 h1 h2 hs W
    go_enter Tryd.func29, Tryd.ntmps29
    go_wp2_with fail
    refine (HR.out _).mono ?_; rintro _ w' ⟨rfl, hb⟩
    go_wp2
    go_ret2
    exact ⟨rfl, hb⟩

set_option maxHeartbeats 2000000 in
theorem rsh_any {x : ByteArray} (hx : x.size ≤ 600) (n : Int) (hn : -9223372036854775808 ≤ n) (hn2 : n ≤ 9223372036854775807) (w : World) :
    Calls Tryd.prog 30 #[.string x, .int .i64 n] w fun e w' => e = .returned (.tuple #[.string (Dig.shR x n).1, .int .i64 (Dig.shR x n).2]) ∧ Below w.heap.size w w' := by
  have W := neg_wrap hx
  unfold Dig.shR
  by_cases h0 : x.size = 0
  · rw [if_pos h0]
    have e0 := Dig.nil_of h0
    clear h0 W
    go_enter Tryd.func30, Tryd.ntmps30
    go_wp2
    go_ret2
    exact ⟨rfl, Below.refl _ _⟩
  rw [if_neg h0]
  have e0 := Dig.some_of (x := x) (by omega)
  by_cases h1 : n < 0
  · rw [if_pos h1]
    have d1 : decide (n < 0) = true := decide_eq_true h1
    by_cases h2 : n ≤ -(x.size : Int)
    · rw [if_pos h2]
      have d2 : decide (n ≤ -(x.size : Int)) = true := decide_eq_true h2
      clear h0 h1 h2
      go_enter Tryd.func30, Tryd.ntmps30
      go_wp2
      go_ret2
      exact ⟨rfl, Below.refl _ _⟩
    · rw [if_neg h2]
      have d2 : decide (n ≤ -(x.size : Int)) = false := decide_eq_false h2
      obtain ⟨m, hm⟩ : ∃ m : Nat, (x.size : Int) + n = m := ⟨((x.size : Int) + n).toNat, by omega⟩
      rw [hm]
      have hmx : (m : Int) ≤ x.size := by omega
      have hm0 : (0 : Int) ≤ m := by omega
      have hb1 : -601 ≤ n := by omega
      clear h0 h1 h2 hn
      go_enter Tryd.func30, Tryd.ntmps30
      go_wp2
      go_ret2
      exact ⟨rfl, Below.refl _ _⟩
  rw [if_neg h1]
  have d1 : decide (n < 0) = false := decide_eq_false h1
  by_cases h2 : 600 - (x.size : Int) < n
  · rw [if_pos h2]
    have d2 : decide (600 - (x.size : Int) < n) = true := decide_eq_true h2
    clear h0 h1 h2 W
    go_enter Tryd.func30, Tryd.ntmps30
    go_wp2
    go_ret2
    exact ⟨rfl, Below.refl _ _⟩
  · rw [if_neg h2]
    have d2 : decide (600 - (x.size : Int) < n) = false := decide_eq_false h2
    obtain ⟨m, rfl⟩ : ∃ m : Nat, n = m := ⟨n.toNat, by omega⟩
    rw [Int.toNat_natCast]
    have HR := Lib.hid (noughts_any (n := m) (by omega))
    have hs := Dig.noughts_size m
    generalize Dig.noughts m = y at *
    have happ : ¬ 9223372036854775807 < x.size + y.size := by omega
    clear h0 h1 h2 hs W
    go_enter Tryd.func30, Tryd.ntmps30
    go_wp2_with fail
    refine (HR.out _).mono ?_; rintro _ w' ⟨rfl, hb⟩
    go_wp2
    go_ret2
    exact ⟨rfl, hb⟩

set_option maxHeartbeats 2000000 in
theorem walk_DigitsShifts (a : ByteArray) (n : Int) (ha : a.size ≤ maxLen) (hn : (Lit.int .i64 n).wf = true) (w : World) :
    Calls Tryd.prog 9 #[.string a, .int .i64 n] w fun e w' => e = .returned (.bool true) ∧ Below w.heap.size w w' := by
  have HL := Lib.hid (dig_lives)
  have hb : -9223372036854775808 ≤ n ∧ n ≤ 9223372036854775807 := by
    have e1 : IntKind.i64.min = -9223372036854775808 := rfl
    have e2 : IntKind.i64.max = 9223372036854775807 := rfl
    simp only [Lit.wf, e1, e2, Bool.and_eq_true, decide_eq_true_eq] at hn
    exact hn
  clear hn
  by_cases va : Dig.vld a
  case neg =>
    have VA := Lib.hid (rvalid_no ha va)
    clear va ha hb
    go_enter Tryd.func9, Tryd.ntmps9
    go_wp2_with fail
    refine (VA.out _).mono ?_; rintro _ w' ⟨rfl, rfl⟩
    go_wp2_with fail
    refine (HL.out _).mono ?_; rintro _ w' ⟨rfl, hb1⟩
    go_wp2
    go_ret
    exact ⟨rfl, hb1⟩
  have VA := Lib.hid (rvalid_yes ha va)
  have H1 := Lib.hid (sh_any va.1 n hb.1 hb.2)
  have H2 := Lib.hid (rsh_any va.1 n hb.1 hb.2)
  have H3 := Lib.hid (zeros_any (x := a) (by have := va.1; omega))
  have H4 := Lib.hid (rzeros_any (x := a) (by have := va.1; omega))
  generalize Dig.shR a n = R at *
  obtain ⟨r1, r2⟩ := R
  generalize Dig.zc a = z at *
  dsimp only at H1 H2
  clear va ha hb
  go_enter Tryd.func9, Tryd.ntmps9
  go_wp2_with fail
  refine (VA.out _).mono ?_; rintro _ w' ⟨rfl, rfl⟩
  go_wp2_with fail
  refine (H1.out _).mono ?_; rintro _ w1 ⟨rfl, hb1⟩
  go_wp2_with fail
  refine (H2.out _).mono ?_; rintro _ w2 ⟨rfl, hb2⟩
  have k2 := below_then hb1 hb2
  clear hb1 hb2
  go_wp2_with fail
  refine (H3.out _).mono ?_; rintro _ w3 ⟨rfl, rfl⟩
  go_wp2_with fail
  refine (H4.out _).mono ?_; rintro _ w4 ⟨rfl, rfl⟩
  go_wp2_with fail
  refine (HL.out _).mono ?_; rintro _ w7 ⟨rfl, hb7⟩
  go_wp2
  go_ret
  exact ⟨rfl, below_then k2 hb7⟩
end Go.Proofs.YtgmhhfljhjlplaaDoor
