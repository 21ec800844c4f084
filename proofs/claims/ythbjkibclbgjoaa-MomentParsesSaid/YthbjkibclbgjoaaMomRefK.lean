/- Times: the law of what any string says. -/
import Derived.Test.YthbjkibclbgjoaaMomRefJ
import Derived.Test.YthbjkibclbgjoaaMomAwake
namespace Go.Proofs.Ythbjkibclbgjoaa
open Go.RowKit

theorem ret_pr {R S : Mom.Tm × Int} (h : R = S) : Ending.returned (Value.tuple #[Mom.ag R.1, .int .i64 R.2]) = .returned (.tuple #[Mom.ag S.1, .int .i64 S.2]) := by rw [h]
theorem rparse_any {x : ByteArray} (hx : x.size ≤ maxLen) (w : World) :
    Calls Try.prog 18 #[.string x] w fun e w' => e = .returned (.tuple #[Mom.ag (Mom.rPar x).1, .int .i64 (Mom.rPar x).2]) ∧ Below w.heap.size w w' := by
  by_cases h : Mom.lk x Mom.dateF
  case neg =>
    refine (rparse_clock hx h w).mono ?_
    rintro e w' ⟨rfl, hb⟩
    refine ⟨?_, hb⟩
    unfold Mom.rPar
    rw [if_pos h]
    by_cases c1 : (Mom.rClk x).2.2.1 = false ∨ (Mom.rClk x).2.1.size ≠ 0
    · rw [if_pos c1, if_pos c1, if_pos c1]
    · rw [if_neg c1, if_neg c1, if_neg c1]
      by_cases c2 : (Mom.rClk x).2.2.2 = false
      · rw [if_pos c2, if_pos c2, if_pos c2]
      · rw [if_neg c2, if_neg c2, if_neg c2]
  have h10 : 10 ≤ x.size := h.1
  unfold Mom.rPar
  rw [if_neg (show ¬ ¬ Mom.lk x Mom.dateF from fun k => k h)]
  by_cases hs : x.size = 10
  · rw [if_pos hs]
    refine (rparse_day hx h hs w).mono ?_
    rintro e w' ⟨rfl, hb⟩
    refine ⟨?_, hb⟩
    by_cases c1 : Cal.Vld (Mom.ryr x) (Mom.rmo x) (Mom.rda x)
    · rw [if_pos c1, if_pos c1, if_pos c1]
    · rw [if_neg c1, if_neg c1, if_neg c1]
  rw [if_neg hs]
  by_cases ht : Mom.sepd x
  case neg =>
    rw [if_pos (show ¬ Mom.sepd x from ht)]
    exact rparse_sep hx h (by omega) ⟨fun k => ht (Or.inl k), fun k => ht (Or.inr (Or.inl k)), fun k => ht (Or.inr (Or.inr k))⟩ w
  rw [if_neg (show ¬ ¬ Mom.sepd x from fun k => k ht)]
  have N := fun hc : (Mom.rClk (Mom.rest11 x)).2.2.1 = false => rparse_noclk hx h (by omega) ht (by unfold Mom.rest11 at hc; exact hc) w
  have Y := fun hc : (Mom.rClk (Mom.rest11 x)).2.2.1 = true => rparse_in hx h (by omega) ht hc w
  generalize Mom.rClk (Mom.rest11 x) = Z at *
  by_cases hc : Z.2.2.1 = true
  · rw [if_neg (show ¬ Z.2.2.1 = false by rw [hc]; decide)]
    exact Y hc
  · have hc2 : Z.2.2.1 = false := by simpa using hc
    rw [if_pos hc2]
    exact N hc2

set_option maxHeartbeats 1000000 in
theorem walk_MomentParses (x : ByteArray) (hx : x.size ≤ maxLen) (w : World) :
    Calls Try.prog 4 #[.string x] w fun e w' => e = .returned (.bool true) ∧ Below w.heap.size w w' := by
  have H1 := Lib.hid (parse_any hx)
  have H2 := Lib.hid (rparse_any hx)
  rw [Mom.parse_plain] at H1
  generalize Mom.rPar x = Z at *
  obtain ⟨⟨a, b, c, g⟩, r⟩ := Z
  unfold Mom.ag at H1 H2
  dsimp only at H1 H2
  have q1 : ∀ W, (binOp .eql 23 (.agg #[.int .i64 a, .int .i64 b, .int .i64 c, .int .i64 g]) (.agg #[.int .i64 a, .int .i64 b, .int .i64 c, .int .i64 g])).run Try.prog W = .ok (.bool true) W := fun W => by rw [time_eql, decide_eq_true rfl]
  unfold maxLen at hx
  have hbb := Below.refl w.heap.size w
  go_enter Try.func4, Try.ntmps4
  go_wp2_with fail
  refine (H1.out _).mono ?_; rintro e w1 ⟨rfl, hb1⟩
  replace hbb := below_then hbb hb1
  clear hb1
  have hu := Whole.new w1 23 #[.int .i64 a, .int .i64 b, .int .i64 c, .int .i64 g]
  replace hbb := hbb.alloc hbb.size (.cells #[.int .i64 a, .int .i64 b, .int .i64 c, .int .i64 g] 23)
  go_wp2_with fail
  refine (H2.out _).mono ?_; rintro e w2 ⟨rfl, hb2⟩
  replace hu := hu.below hb2 hu.lt
  replace hbb := below_then hbb hb2
  clear hb2
  replace hu := hu.alloc (.cells #[.int .i64 a, .int .i64 b, .int .i64 c, .int .i64 g] 23)
  have hv := Whole.new w2 23 #[.int .i64 a, .int .i64 b, .int .i64 c, .int .i64 g]
  replace hbb := hbb.alloc hbb.size (.cells #[.int .i64 a, .int .i64 b, .int .i64 c, .int .i64 g] 23)
  obtain ⟨u0, u1, u2, u3⟩ := hu.c4
  obtain ⟨v0, v1, v2, v3⟩ := hv.c4
  go_wp2_with fail
  refine (mom_awake _).mono ?_; rintro e w5 ⟨rfl, hb5⟩
  go_wp2_with fail
  go_ret
  exact ⟨rfl, below_then hbb hb5⟩
end Go.Proofs.Ythbjkibclbgjoaa
