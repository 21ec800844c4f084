/- Times: the law of comparisons. -/
import Derived.Test.YthbjkibclbgjoaaMomCmpR
namespace Go.Proofs.Ythbjkibclbgjoaa
open Go.RowKit

set_option maxHeartbeats 2000000 in
theorem walk_MomentCompares (k d n o q p r s : Int) (_ : (Lit.int .i64 k).wf = true) (_ : (Lit.int .i64 d).wf = true) (_ : (Lit.int .i64 n).wf = true) (_ : (Lit.int .i64 o).wf = true) (_ : (Lit.int .i64 q).wf = true) (_ : (Lit.int .i64 p).wf = true) (_ : (Lit.int .i64 r).wf = true) (_ : (Lit.int .i64 s).wf = true) (w : World) :
    Calls Try.prog 10 #[.agg #[.int .i64 k, .int .i64 d, .int .i64 n, .int .i64 o], .agg #[.int .i64 q, .int .i64 p, .int .i64 r, .int .i64 s]] w fun e w' => e = .returned (.bool true) ∧ Below w.heap.size w w' := by
  have HV := Lib.hid (rvalid_any k d n o)
  have HW := Lib.hid (rvalid_any q p r s)
  have HA := Lib.hid mom_awake
  have K := BK.new w k d n o q p r s
  obtain ⟨⟨x0, x1, x2, x3⟩, y0, y1, y2, y3⟩ := K.cells
  by_cases h : Mom.Ok k d n o
  case neg =>
    rw [decide_eq_false h] at HV
    clear h
    go_enter Try.func10, Try.ntmps10
    go_wp2_with fail
    refine (HV.out _).mono ?_; rintro e w1 ⟨rfl, hb1⟩
    replace K := K.call hb1
    clear hb1 x0 x1 x2 x3 y0 y1 y2 y3
    go_wp2_with fail
    refine (HA.out _).mono ?_; rintro e w2 ⟨rfl, hb2⟩
    go_wp2_with fail
    go_ret
    exact ⟨rfl, below_then K.below hb2⟩
  rw [decide_eq_true h] at HV
  by_cases h' : Mom.Ok q p r s
  case neg =>
    rw [decide_eq_false h'] at HW
    clear h h'
    go_enter Try.func10, Try.ntmps10
    go_wp2_with fail
    refine (HV.out _).mono ?_; rintro e w1 ⟨rfl, hb1⟩
    replace K := K.call hb1
    clear hb1 x0 x1 x2 x3 y0 y1 y2 y3
    obtain ⟨⟨x0, x1, x2, x3⟩, y0, y1, y2, y3⟩ := K.cells
    go_wp2_with fail
    refine (HW.out _).mono ?_; rintro e w2 ⟨rfl, hb2⟩
    replace K := K.call hb2
    clear hb2 x0 x1 x2 x3 y0 y1 y2 y3
    go_wp2_with fail
    refine (HA.out _).mono ?_; rintro e w3 ⟨rfl, hb3⟩
    go_wp2_with fail
    go_ret
    exact ⟨rfl, below_then K.below hb3⟩
  rw [decide_eq_true h'] at HW
  have H1 := Lib.hid (cmpT_ok h h')
  have H2 := Lib.hid (rcmpT_ok h h')
  have H3 := Lib.hid (equalT_ok h h')
  have H4 := Lib.hid (requalT_ok h h')
  clear h h'
  generalize Mom.cmp ⟨k, d, n, o⟩ ⟨q, p, r, s⟩ = C at *
  obtain ⟨b, hb⟩ : ∃ b, decide (Mom.same ⟨k, d, n, o⟩ ⟨q, p, r, s⟩) = b := ⟨_, rfl⟩
  rw [hb] at H3 H4
  clear hb
  cases b
  all_goals
    go_enter Try.func10, Try.ntmps10
    go_wp2_with fail
    refine (HV.out _).mono ?_; rintro e w1 ⟨rfl, hb1⟩
    replace K := K.call hb1
    clear hb1 x0 x1 x2 x3 y0 y1 y2 y3
    obtain ⟨⟨x0, x1, x2, x3⟩, y0, y1, y2, y3⟩ := K.cells
    go_wp2_with fail
    refine (HW.out _).mono ?_; rintro e w2 ⟨rfl, hb2⟩
    replace K := K.call hb2
    clear hb2 x0 x1 x2 x3 y0 y1 y2 y3
    obtain ⟨⟨x0, x1, x2, x3⟩, y0, y1, y2, y3⟩ := K.cells
    go_upto_region 3 with fail
    go_region_held3 (fun W => W.cell? ⟨w.heap.size, 0, none⟩ = some (.int .i64 k) ∧ W.cell? ⟨w.heap.size, 1, none⟩ = some (.int .i64 d) ∧ W.cell? ⟨w.heap.size, 2, none⟩ = some (.int .i64 n) ∧ W.cell? ⟨w.heap.size, 3, none⟩ = some (.int .i64 o) ∧ W.cell? ⟨w.heap.size + 1, 0, none⟩ = some (.int .i64 q) ∧ W.cell? ⟨w.heap.size + 1, 1, none⟩ = some (.int .i64 p) ∧ W.cell? ⟨w.heap.size + 1, 2, none⟩ = some (.int .i64 r) ∧ W.cell? ⟨w.heap.size + 1, 3, none⟩ = some (.int .i64 s) ∧ w.heap.size + 1 < W.heap.size ∧ Below w.heap.size w W) (first | exact ⟨x0, x1, x2, x3, y0, y1, y2, y3, K.lt, K.below.drew⟩ | exact keep_two (by assumption) (by assumption)) (first | (go_at_call 28; refine (H1.out _).mono ?_; rintro e w2 ⟨rfl, hb2⟩) | (go_at_call 29; refine (H2.out _).mono ?_; rintro e w3 ⟨rfl, hb3⟩) | (go_at_call 27; refine (H3.out _).mono ?_; rintro e w4 ⟨rfl, hb4⟩) | (go_at_call 30; refine (H4.out _).mono ?_; rintro e w5 ⟨rfl, hb5⟩) | (go_at_call 16; refine (HA.out _).mono ?_; rintro e w6 ⟨rfl, hb6⟩))
    go_wp2
    go_ret
    exact ⟨rfl, tenth (by assumption)⟩
end Go.Proofs.Ythbjkibclbgjoaa
