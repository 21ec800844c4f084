/- Numerals: the law of what is read. -/
import Derived.Test.YtgmhhfljhjlplaaDoorDigLawA
import Derived.Test.YtgmhhfljhjlplaaDoorDigInt
namespace Go.Proofs.YtgmhhfljhjlplaaDoor
open Go.RowKit

namespace Dig
/-- Without leading zeros, or the error. -/
def trR (x : ByteArray) : ByteArray × Int := if alld (l x) then lim (V x) else (⟨#[]⟩, 3)
/-- Any string as an int. -/
def anyI (x : ByteArray) : Int × Int := if vld x then intR (V x) else (0, 3)
end Dig
theorem trim_any {x : ByteArray} (hx : x.size ≤ maxLen) (w : World) :
    Calls Tryd.prog 22 #[.string x] w fun e w' => e = .returned (.tuple #[.string (Dig.trR x).1, .int .i64 (Dig.trR x).2]) ∧ w = w' := by
  have H1 := Lib.hid (all_any hx)
  unfold Dig.trR
  by_cases h : Dig.alld (Dig.l x)
  · rw [if_pos h]
    rw [decide_eq_true h] at H1
    have H2 := Lib.hid (strip_any h)
    have H3 := Lib.hid (limited_any (Dig.V x))
    generalize Dig.lim (Dig.V x) = R at *
    obtain ⟨r1, r2⟩ := R
    dsimp only at H3 ⊢
    clear h hx
    go_enter Tryd.func22, Tryd.ntmps22
    go_wp2_with fail
    refine (H1.out _).mono ?_; rintro _ w' ⟨rfl, rfl⟩
    go_wp2_with fail
    refine (H2.out _).mono ?_; rintro _ w' ⟨rfl, rfl⟩
    go_wp2_with fail
    refine (H3.out _).mono ?_; rintro _ w' ⟨rfl, rfl⟩
    go_wp2
    go_ret2
    exact ⟨rfl, rfl⟩
  · rw [if_neg h]
    rw [decide_eq_false h] at H1
    clear h hx
    go_enter Tryd.func22, Tryd.ntmps22
    go_wp2_with fail
    refine (H1.out _).mono ?_; rintro _ w' ⟨rfl, rfl⟩
    go_wp2
    go_ret2
    exact ⟨rfl, rfl⟩
theorem rtrim_any {x : ByteArray} (hx : x.size ≤ maxLen) (w : World) :
    Calls Tryd.prog 24 #[.string x] w fun e w' => e = .returned (.tuple #[.string (Dig.trR x).1, .int .i64 (Dig.trR x).2]) ∧ w = w' := by
  have H1 := Lib.hid (rdig_any hx)
  unfold Dig.trR
  by_cases h : Dig.alld (Dig.l x)
  · rw [if_pos h]
    rw [decide_eq_true h] at H1
    have H2 := Lib.hid (rstrip_any hx)
    rw [Dig.st_strip h] at H2
    unfold Dig.lim
    by_cases g : Dig.V x < Dig.big 600
    · rw [if_pos g]
      have hs := (Dig.st_size _ _).2 g
      generalize Dig.st (Dig.V x) = y at *
      have d1 : decide (600 < (y.size : Int)) = false := decide_eq_false (by omega)
      clear h hx g hs
      go_enter Tryd.func24, Tryd.ntmps24
      go_wp2_with fail
      refine (H1.out _).mono ?_; rintro _ w' ⟨rfl, rfl⟩
      go_wp2_with fail
      refine (H2.out _).mono ?_; rintro _ w' ⟨rfl, rfl⟩
      go_wp2
      go_ret2
      exact ⟨rfl, rfl⟩
    · rw [if_neg g]
      have hs : ¬ (Dig.st (Dig.V x)).size ≤ 600 := fun k => g ((Dig.st_size _ _).1 k)
      generalize Dig.st (Dig.V x) = y at *
      have d1 : decide (600 < (y.size : Int)) = true := decide_eq_true (by omega)
      clear h hx g hs
      go_enter Tryd.func24, Tryd.ntmps24
      go_wp2_with fail
      refine (H1.out _).mono ?_; rintro _ w' ⟨rfl, rfl⟩
      go_wp2_with fail
      refine (H2.out _).mono ?_; rintro _ w' ⟨rfl, rfl⟩
      go_wp2
      go_ret2
      exact ⟨rfl, rfl⟩
  · rw [if_neg h]
    rw [decide_eq_false h] at H1
    clear h hx
    go_enter Tryd.func24, Tryd.ntmps24
    go_wp2_with fail
    refine (H1.out _).mono ?_; rintro _ w' ⟨rfl, rfl⟩
    go_wp2
    go_ret2
    exact ⟨rfl, rfl⟩
theorem toInt_all {x : ByteArray} (hx : x.size ≤ maxLen) (w : World) :
    Calls Tryd.prog 23 #[.string x] w fun e w' => e = .returned (.tuple #[.int .i64 (Dig.anyI x).1, .int .i64 (Dig.anyI x).2]) ∧ w = w' := by
  unfold Dig.anyI
  by_cases h : Dig.vld x
  · rw [if_pos h]
    obtain ⟨a, rfl⟩ := vst h
    rw [Dig.V_st]
    exact toInt_any h w
  · rw [if_neg h]
    exact toInt_bad hx h w
theorem rtoInt_all {x : ByteArray} (hx : x.size ≤ maxLen) (w : World) :
    Calls Tryd.prog 25 #[.string x] w fun e w' => e = .returned (.tuple #[.int .i64 (Dig.anyI x).1, .int .i64 (Dig.anyI x).2]) ∧ w = w' := by
  unfold Dig.anyI
  by_cases h : Dig.vld x
  · rw [if_pos h]
    obtain ⟨a, rfl⟩ := vst h
    rw [Dig.V_st]
    exact rtoInt_any h w
  · rw [if_neg h]
    exact rtoInt_bad hx h w

set_option maxHeartbeats 2000000 in
theorem walk_DigitsReads (a : ByteArray) (ha : a.size ≤ maxLen) (w : World) :
    Calls Tryd.prog 7 #[.string a] w fun e w' => e = .returned (.bool true) ∧ Below w.heap.size w w' := by
  have HL := Lib.hid (dig_lives)
  by_cases hs : 1500 < a.size
  · have d1 : decide (1500 < (a.size : Int)) = true := decide_eq_true (by omega)
    clear ha hs
    go_enter Tryd.func7, Tryd.ntmps7
    go_wp2_with fail
    refine (HL.out _).mono ?_; rintro _ w' ⟨rfl, hb1⟩
    go_wp2
    go_ret
    exact ⟨rfl, hb1⟩
  have d1 : decide (1500 < (a.size : Int)) = false := decide_eq_false (by omega)
  have H1 := Lib.hid (trim_any ha)
  have H2 := Lib.hid (toInt_all ha)
  have H3 := Lib.hid (rtrim_any ha)
  have H4 := Lib.hid (rtoInt_all ha)
  have H5 := Lib.hid (valid_any ha)
  have H6 := Lib.hid (rvalid_any ha)
  generalize Dig.trR a = R at *
  obtain ⟨r1, r2⟩ := R
  generalize Dig.anyI a = S at *
  obtain ⟨s1, s2⟩ := S
  generalize decide (Dig.vld a) = v at *
  dsimp only at H1 H2 H3 H4
  clear ha hs
  go_enter Tryd.func7, Tryd.ntmps7
  go_wp2_with fail
  refine (H1.out _).mono ?_; rintro _ w1 ⟨rfl, rfl⟩
  go_wp2_with fail
  refine (H2.out _).mono ?_; rintro _ w2 ⟨rfl, rfl⟩
  go_wp2_with fail
  refine (H3.out _).mono ?_; rintro _ w2 ⟨rfl, rfl⟩
  go_wp2_with fail
  refine (H4.out _).mono ?_; rintro _ w2 ⟨rfl, rfl⟩
  go_wp2_with fail
  refine (H5.out _).mono ?_; rintro _ w2 ⟨rfl, rfl⟩
  go_wp2_with fail
  refine (H6.out _).mono ?_; rintro _ w2 ⟨rfl, rfl⟩
  go_wp2_with fail
  refine (HL.out _).mono ?_; rintro _ w7 ⟨rfl, hb7⟩
  go_wp2
  go_ret
  exact ⟨rfl, hb7⟩
end Go.Proofs.YtgmhhfljhjlplaaDoor
