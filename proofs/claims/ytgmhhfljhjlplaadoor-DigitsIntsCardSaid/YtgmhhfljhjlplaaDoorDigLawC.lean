/- Numerals: the law of ints. -/
import Derived.Test.YtgmhhfljhjlplaaDoorDigLawA
import Derived.Test.YtgmhhfljhjlplaaDoorDigFrom
namespace Go.Proofs.YtgmhhfljhjlplaaDoor
open Go.RowKit

namespace Dig
theorem fi_vld {n : Int} (h : n ≤ 9223372036854775807) : vld (fi n) := by
  unfold fi
  refine st_vld ?_
  have h2 : n.toNat ≤ 9223372036854775807 := by omega
  exact Nat.lt_of_lt_of_le (show n.toNat < 10 ^ 19 by omega) (show 10 ^ 19 ≤ big 600 from big_le (a := 19) (by omega))
theorem fi_int {n : Int} (h : n ≤ 9223372036854775807) : intR n.toNat = (if n < 0 then 0 else n, 0) := by
  unfold intR
  rw [if_pos (by omega)]
  by_cases g : n < 0
  · rw [if_pos g, show n.toNat = 0 by omega]; rfl
  · rw [if_neg g, Int.toNat_of_nonneg (by omega)]
end Dig
set_option maxHeartbeats 2000000 in
theorem walk_DigitsInts (n : Int) (hn : (Lit.int .i64 n).wf = true) (w : World) :
    Calls Tryd.prog 8 #[.int .i64 n] w fun e w' => e = .returned (.bool true) ∧ Below w.heap.size w w' := by
  have HL := Lib.hid (dig_lives)
  have hb : -9223372036854775808 ≤ n ∧ n ≤ 9223372036854775807 := by
    have e1 : IntKind.i64.min = -9223372036854775808 := rfl
    have e2 : IntKind.i64.max = 9223372036854775807 := rfl
    simp only [Lit.wf, e1, e2, Bool.and_eq_true, decide_eq_true_eq] at hn
    exact hn
  clear hn
  have H1 := Lib.hid (fromInt_any n hb.2)
  have H2 := Lib.hid (rfromInt_any n hb.2)
  have H3 := Lib.hid (toInt_any (a := n.toNat) (Dig.fi_vld hb.2))
  rw [Dig.fi_int hb.2] at H3
  dsimp only at H3
  rw [show Dig.st n.toNat = Dig.fi n from rfl] at H3
  generalize Dig.fi n = x at *
  by_cases h : n < 0
  · rw [if_pos h] at H3
    have d1 : decide (n < 0) = true := decide_eq_true h
    have d2 : ((0 : Int) == n) = false := beq_eq_false_iff_ne.2 (by omega)
    clear h hb
    go_enter Tryd.func8, Tryd.ntmps8
    go_wp2_with fail
    refine (H1.out _).mono ?_; rintro _ w1 ⟨rfl, hb1⟩
    go_wp2_with fail
    refine (H3.out _).mono ?_; rintro _ w2 ⟨rfl, rfl⟩
    go_wp2_with fail
    refine (H2.out _).mono ?_; rintro _ w3 ⟨rfl, hb3⟩
    have k3 := below_then hb1 hb3
    clear hb1 hb3
    go_wp2_with fail
    refine (HL.out _).mono ?_; rintro _ w7 ⟨rfl, hb7⟩
    go_wp2
    go_ret
    exact ⟨rfl, below_then k3 hb7⟩
  · rw [if_neg h] at H3
    have d1 : decide (n < 0) = false := decide_eq_false h
    clear h hb
    go_enter Tryd.func8, Tryd.ntmps8
    go_wp2_with fail
    refine (H1.out _).mono ?_; rintro _ w1 ⟨rfl, hb1⟩
    go_wp2_with fail
    refine (H3.out _).mono ?_; rintro _ w2 ⟨rfl, rfl⟩
    go_wp2_with fail
    refine (H2.out _).mono ?_; rintro _ w3 ⟨rfl, hb3⟩
    have k3 := below_then hb1 hb3
    clear hb1 hb3
    go_wp2_with fail
    refine (HL.out _).mono ?_; rintro _ w7 ⟨rfl, hb7⟩
    go_wp2
    go_ret
    exact ⟨rfl, below_then k3 hb7⟩
end Go.Proofs.YtgmhhfljhjlplaaDoor
