/- Times: the first example holds of the program. -/
import Derived.Test.YthbjkibclbgjoaaMomParseD
namespace Go.Proofs.Ythbjkibclbgjoaa
open Go.RowKit

theorem time_eql (a b c d p q r s : Int) (W : World) : (binOp .eql 23 (.agg #[.int .i64 a, .int .i64 b, .int .i64 c, .int .i64 d]) (.agg #[.int .i64 p, .int .i64 q, .int .i64 r, .int .i64 s])).run Try.prog W = .ok (.bool (decide ((a, b, c, d) = (p, q, r, s)))) W := by
  by_cases h1 : a = p
  · by_cases h2 : b = q
    · by_cases h3 : c = r
      · by_cases h4 : d = s
        · subst h1 h2 h3 h4
          rw [decide_eq_true rfl]
          simp [go_sem]
        · rw [decide_eq_false (fun e => h4 (by simpa using congrArg (·.2.2.2) e))]
          simp [go_sem, h1, h2, h3, h4]
      · rw [decide_eq_false (fun e => h3 (by simpa using congrArg (·.2.2.1) e))]
        simp [go_sem, h1, h2, h3]
    · rw [decide_eq_false (fun e => h2 (by simpa using congrArg (·.2.1) e))]
      simp [go_sem, h1, h2]
  · rw [decide_eq_false (fun e => h1 (by simpa using congrArg (·.1) e))]
    simp [go_sem, h1]

set_option maxHeartbeats 1000000 in
theorem mom_awake (w : World) : Calls Try.prog 16 #[] w fun e w' => e = .returned (.bool true) ∧ Below w.heap.size w w' := by
  have HP := Lib.hid (parse_any (x := Mom.ex1) (by decide))
  have HV := Lib.hid (valid_any 4 738944 37800500000000 120)
  have HT := Lib.hid (text_any 4 738944 37800500000000 120)
  rw [parse_ex] at HP
  rw [text_ex, show Mom.str Mom.ex2 = ⟨#[50, 48, 50, 52, 45, 48, 50, 45, 50, 57, 84, 49, 48, 58, 51, 48, 58, 48, 48, 46, 53, 43, 48, 50, 58, 48, 48]⟩ by decide +kernel] at HT
  rw [show decide (Mom.Ok 4 738944 37800500000000 120) = true by decide +kernel] at HV
  unfold Mom.ex1 Mom.ag at HP
  dsimp only at HP
  have q1 : ∀ W, (binOp .eql 23 (.agg #[.int .i64 4, .int .i64 738944, .int .i64 37800500000000, .int .i64 120]) (.agg #[.int .i64 4, .int .i64 738944, .int .i64 37800500000000, .int .i64 120])).run Try.prog W = .ok (.bool true) W := fun W => by rw [time_eql, decide_eq_true rfl]
  go_enter Try.func16, Try.ntmps16
  go_wp2_with fail
  refine (HP.out _).mono ?_; rintro e w1 ⟨rfl, hb1⟩
  have hp1 := (Whole.new w 23 #[.int .i64 4, .int .i64 738944, .int .i64 37800500000000, .int .i64 120]).below hb1 (by simp)
  have hbb : Below w.heap.size w w1 := ((Below.refl _ _).alloc (Nat.le_refl _) _).trans (hb1.mono (by simp))
  clear hb1
  have hp2 := hp1.alloc (.cells #[.int .i64 4, .int .i64 738944, .int .i64 37800500000000, .int .i64 120] 23)
  have hu2 := Whole.new w1 23 #[.int .i64 4, .int .i64 738944, .int .i64 37800500000000, .int .i64 120]
  replace hbb := hbb.alloc hbb.size (.cells #[.int .i64 4, .int .i64 738944, .int .i64 37800500000000, .int .i64 120] 23)
  obtain ⟨x0, x1, x2, x3⟩ := hp2.c4
  go_wp2_with fail
  refine (HV.out _).mono ?_; rintro e w2 ⟨rfl, hb2⟩
  replace hp2 := hp2.below hb2 hp2.lt
  replace hu2 := hu2.below hb2 hu2.lt
  replace hbb := below_then hbb hb2
  clear hb2 x0 x1 x2 x3
  obtain ⟨x0, x1, x2, x3⟩ := hp2.c4
  go_wp2_with fail
  refine (HT.out _).mono ?_; rintro e w3 ⟨rfl, hb3⟩
  replace hp2 := hp2.below hb3 hp2.lt
  replace hu2 := hu2.below hb3 hu2.lt
  replace hbb := below_then hbb hb3
  clear hb3 x0 x1 x2 x3
  obtain ⟨x0, x1, x2, x3⟩ := hp2.c4
  obtain ⟨y0, y1, y2, y3⟩ := hu2.c4
  go_wp2_with fail
  go_ret
  exact ⟨rfl, hbb⟩
end Go.Proofs.Ythbjkibclbgjoaa
