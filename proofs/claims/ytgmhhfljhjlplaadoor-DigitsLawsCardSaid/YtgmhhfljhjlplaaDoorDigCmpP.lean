/- Numerals: their order: the program. -/
import Derived.Test.YtgmhhfljhjlplaaDoorDigCmp
namespace Go.Proofs.YtgmhhfljhjlplaaDoor
open Go.RowKit

set_option maxHeartbeats 1000000 in
theorem cmp_any {a b : Nat} (ha : Dig.Str (Dig.st a)) (hb : Dig.Str (Dig.st b)) (w : World) :
    Calls Tryd.prog 20 #[.string (Dig.st a), .string (Dig.st b)] w fun e w' => e = .returned (.int .i64 (Dig.cmp a b)) ∧ w = w' := by
  have HC := Lib.hid (Tryd.strings_Compare (Dig.st a) (Dig.st b))
  have za := ha.size
  have zb := hb.size
  clear ha hb
  by_cases h1 : (Dig.st a).size < (Dig.st b).size
  · rw [Dig.cmp_lt h1]
    generalize Dig.st a = x at *
    generalize Dig.st b = y at *
    have d1 : ((x.size : Int) != y.size) = true := by simp; omega
    have d2 : decide (x.size < y.size) = true := decide_eq_true (by omega)
    clear h1
    go_enter Tryd.func20, Tryd.ntmps20
    go_wp2
    go_ret
    exact ⟨rfl, rfl⟩
  by_cases h2 : (Dig.st b).size < (Dig.st a).size
  · rw [Dig.cmp_gt h2]
    generalize Dig.st a = x at *
    generalize Dig.st b = y at *
    have d1 : ((x.size : Int) != y.size) = true := by simp; omega
    have d2 : decide (x.size < y.size) = false := decide_eq_false (by omega)
    clear h1 h2
    go_enter Tryd.func20, Tryd.ntmps20
    go_wp2
    go_ret
    exact ⟨rfl, rfl⟩
  have e : (Dig.st a).size = (Dig.st b).size := by omega
  have HE := Lib.hid (Dig.cmp_num (a := a) (b := b) (by rw [← Dig.st_len, ← Dig.st_len]; exact e))
  rw [show (Dig.st a).data.toList = Dig.num a from Dig.l_st a, show (Dig.st b).data.toList = Dig.num b from Dig.l_st b, HE.out] at HC
  generalize Dig.cmp a b = R at *
  generalize Dig.st a = x at *
  generalize Dig.st b = y at *
  have d1 : ((x.size : Int) != y.size) = false := by simp; omega
  clear h1 h2 e HE
  go_enter Tryd.func20, Tryd.ntmps20
  go_wp2_with fail
  refine (HC.out _).mono ?_; rintro _ w' ⟨rfl, rfl⟩
  go_wp2
  go_ret
  exact ⟨rfl, rfl⟩
end Go.Proofs.YtgmhhfljhjlplaaDoor
