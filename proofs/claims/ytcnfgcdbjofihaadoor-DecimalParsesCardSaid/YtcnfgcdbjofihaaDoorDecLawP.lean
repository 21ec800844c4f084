/- Decimals: the law of Parse. -/
import Derived.Test.YtcnfgcdbjofihaaDoorDecFar
import Derived.Test.YtcnfgcdbjofihaaDoorDecLives
namespace Go.Proofs.YtcnfgcdbjofihaaDoor
open Go.RowKit

set_option maxHeartbeats 4000000 in
set_option maxRecDepth 100000 in
theorem walk_DecimalParses (s : ByteArray) (_ : s.size ≤ maxLen) (w : World) :
    Calls Tryd.prog 5 #[.string s] w fun e w' => e = .returned (.bool true) ∧ Below w.heap.size w w' := by
  have HL := Lib.hid dec_lives
  by_cases hl : s.size ≤ 1000
  case neg =>
    have d1 : decide (1000 < (s.size : Int)) = true := decide_eq_true (by omega)
    clear hl
    go_enter Tryd.func5, Tryd.ntmps5
    go_wp2_with fail
    refine (HL.out _).mono ?_; rintro _ w1 ⟨rfl, hb1⟩
    go_wp2
    go_ret
    exact ⟨rfl, hb1⟩
  have d1 : decide (1000 < (s.size : Int)) = false := decide_eq_false (by omega)
  have HM := Lib.hid (fun w => parse_any hl w)
  have HN := Lib.hid (fun w => rparse_any hl w)
  generalize Dec.parse Dec.movR s = R at *
  obtain ⟨⟨rg, rm, re⟩, rr⟩ := R
  unfold Dec.ag at *
  dsimp only at *
  generalize Dig.st rm = q at *
  have q1 : ∀ W, (binOp .eql 23 (.agg #[.bool rg, .string q, .int .i64 re]) (.agg #[.bool rg, .string q, .int .i64 re])).run Tryd.prog W = .ok (.bool true) W := fun W => by rw [dec_eql, decide_eq_true rfl]
  clear hl
  go_enter Tryd.func5, Tryd.ntmps5
  go_wp2_with fail
  refine (HM.out _).mono ?_; rintro _ w1 ⟨rfl, hb1⟩
  have P5 := Whole.new w1 23 #[.bool rg, .string q, .int .i64 re]
  have hbb := hb1.alloc hb1.size (.cells #[.bool rg, .string q, .int .i64 re] 23)
  clear hb1
  go_wp2_with fail
  refine (HN.out _).mono ?_; rintro _ w2 ⟨rfl, hb2⟩
  replace P5 := (P5.below hb2 P5.lt).alloc (.cells #[.bool rg, .string q, .int .i64 re] 23)
  have P7 := Whole.new w2 23 #[.bool rg, .string q, .int .i64 re]
  replace hbb := (below_then hbb hb2).alloc (below_then hbb hb2).size (.cells #[.bool rg, .string q, .int .i64 re] 23)
  clear hb2
  obtain ⟨x0, x1, x2⟩ := P5.c3
  obtain ⟨y0, y1, y2⟩ := P7.c3
  go_wp2_with fail
  refine (HL.out _).mono ?_; rintro _ w3 ⟨rfl, hb3⟩
  go_wp2
  go_ret
  exact ⟨rfl, below_then hbb hb3⟩
end Go.Proofs.YtcnfgcdbjofihaaDoor
