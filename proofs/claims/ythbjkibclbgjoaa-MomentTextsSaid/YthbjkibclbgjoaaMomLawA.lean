/- Times: the law of texts. -/
import Derived.Test.YthbjkibclbgjoaaMomAwake
namespace Go.Proofs.Ythbjkibclbgjoaa
open Go.RowKit

set_option maxHeartbeats 1000000 in
theorem walk_MomentTexts (k d n o : Int) (_ : (Lit.int .i64 k).wf = true) (_ : (Lit.int .i64 d).wf = true) (_ : (Lit.int .i64 n).wf = true) (_ : (Lit.int .i64 o).wf = true) (w : World) :
    Calls Try.prog 3 #[.agg #[.int .i64 k, .int .i64 d, .int .i64 n, .int .i64 o]] w fun e w' => e = .returned (.bool true) ∧ Below w.heap.size w w' := by
  have HV := Lib.hid (valid_any k d n o)
  have HR := Lib.hid (rvalid_any k d n o)
  have HT := Lib.hid (text_any k d n o)
  have HS := Lib.hid (rtext_any k d n o)
  have HA := Lib.hid mom_awake
  generalize Mom.str (Mom.txt k d n o) = s at *
  generalize decide (Mom.Ok k d n o) = v at *
  have hp := Whole.new w 23 #[.int .i64 k, .int .i64 d, .int .i64 n, .int .i64 o]
  have hbb := (Below.refl w.heap.size w).alloc (Nat.le_refl _) (.cells #[.int .i64 k, .int .i64 d, .int .i64 n, .int .i64 o] 23)
  have hz := hp.lt
  obtain ⟨x0, x1, x2, x3⟩ := hp.c4
  cases v
  all_goals
    go_enter Try.func3, Try.ntmps3
    go_wp2_with fail
    go_region_held3 (fun W => W.cell? ⟨w.heap.size, 0, none⟩ = some (.int .i64 k) ∧ W.cell? ⟨w.heap.size, 1, none⟩ = some (.int .i64 d) ∧ W.cell? ⟨w.heap.size, 2, none⟩ = some (.int .i64 n) ∧ W.cell? ⟨w.heap.size, 3, none⟩ = some (.int .i64 o) ∧ w.heap.size < W.heap.size ∧ Below w.heap.size w W) (first | exact ⟨x0, x1, x2, x3, hz, hbb.drew⟩ | exact keep_time (by assumption) (by assumption)) (first | (go_at_call 12; refine (HV.out _).mono ?_; rintro e w2 ⟨rfl, hb2⟩) | (go_at_call 13; refine (HR.out _).mono ?_; rintro e w3 ⟨rfl, hb3⟩) | (go_at_call 14; refine (HT.out _).mono ?_; rintro e w4 ⟨rfl, hb4⟩) | (go_at_call 15; refine (HS.out _).mono ?_; rintro e w5 ⟨rfl, hb5⟩) | (go_at_call 16; refine (HA.out _).mono ?_; rintro e w6 ⟨rfl, hb6⟩))
    go_wp2
    go_ret
    exact ⟨rfl, sixth (by assumption)⟩
end Go.Proofs.Ythbjkibclbgjoaa
