/- Times: Cmp and Equal of the reference. -/
import Derived.Test.YthbjkibclbgjoaaMomCmpB
import Derived.Test.YthbjkibclbgjoaaMomSplit
import Derived.Deep.RegionHeld3
namespace Go.Proofs.Ythbjkibclbgjoaa
open Go.RowKit

set_option maxHeartbeats 1000000 in
theorem sign_any (x y : Int) (w : World) : Calls Try.prog 53 #[.int .i64 x, .int .i64 y] w fun e w' => e = .returned (.int .i64 (Mom.sg x y)) ∧ w = w' := by
  unfold Mom.sg
  by_cases h : x < y
  · rw [if_pos h]
    go_enter Try.func53, Try.ntmps53
    go_wp2
    go_ret
    exact ⟨rfl, rfl⟩
  rw [if_neg h]
  by_cases h2 : y < x
  · rw [if_pos h2]
    go_enter Try.func53, Try.ntmps53
    go_wp2
    go_ret
    exact ⟨rfl, rfl⟩
  rw [if_neg h2]
  go_enter Try.func53, Try.ntmps53
  go_wp2
  go_ret
  exact ⟨rfl, rfl⟩

set_option maxHeartbeats 2000000 in
theorem requalT_ok {k d n o q p r s : Int} (h : Mom.Ok k d n o) (h' : Mom.Ok q p r s) (w : World) :
    Calls Try.prog 30 #[.agg #[.int .i64 k, .int .i64 d, .int .i64 n, .int .i64 o], .agg #[.int .i64 q, .int .i64 p, .int .i64 r, .int .i64 s]] w fun e w' => e = .returned (.bool (decide (Mom.same ⟨k, d, n, o⟩ ⟨q, p, r, s⟩))) ∧ Below w.heap.size w w' := by
  have K := BK.new w k d n o q p r s
  obtain ⟨⟨x0, x1, x2, x3⟩, y0, y1, y2, y3⟩ := K.cells
  have H1 := Lib.hid (rmoment_ok h)
  have H2 := Lib.hid (rmoment_ok h')
  clear h h'
  go_enter Try.func30, Try.ntmps30
  go_wp2_with fail
  refine (H1.out _).mono ?_; rintro e w1 ⟨rfl, hb1⟩
  replace K := K.call hb1
  clear hb1 x0 x1 x2 x3 y0 y1 y2 y3
  obtain ⟨⟨x0, x1, x2, x3⟩, y0, y1, y2, y3⟩ := K.cells
  go_wp2_with fail
  refine (H2.out _).mono ?_; rintro e w2 ⟨rfl, hb2⟩
  replace K := K.call hb2
  clear hb2 x0 x1 x2 x3 y0 y1 y2 y3
  obtain ⟨⟨x0, x1, x2, x3⟩, y0, y1, y2, y3⟩ := K.cells
  go_wp2_with fail
  all_goals
    go_ret
    refine ⟨congrArg (fun b => Ending.returned (Value.bool b)) ?_, K.below⟩
    rw [Bool.eq_iff_iff]
    unfold Mom.same
    simp [*]

theorem keep_two_alloc {w W : World} {k d n o q p r s : Int} (ob : Obj) (h : (W.cell? ⟨w.heap.size, 0, none⟩ = some (.int .i64 k) ∧ W.cell? ⟨w.heap.size, 1, none⟩ = some (.int .i64 d) ∧ W.cell? ⟨w.heap.size, 2, none⟩ = some (.int .i64 n) ∧ W.cell? ⟨w.heap.size, 3, none⟩ = some (.int .i64 o) ∧ W.cell? ⟨w.heap.size + 1, 0, none⟩ = some (.int .i64 q) ∧ W.cell? ⟨w.heap.size + 1, 1, none⟩ = some (.int .i64 p) ∧ W.cell? ⟨w.heap.size + 1, 2, none⟩ = some (.int .i64 r) ∧ W.cell? ⟨w.heap.size + 1, 3, none⟩ = some (.int .i64 s) ∧ w.heap.size + 1 < W.heap.size ∧ Below w.heap.size w W)) : ((W.alloc ob).cell? ⟨w.heap.size, 0, none⟩ = some (.int .i64 k) ∧ (W.alloc ob).cell? ⟨w.heap.size, 1, none⟩ = some (.int .i64 d) ∧ (W.alloc ob).cell? ⟨w.heap.size, 2, none⟩ = some (.int .i64 n) ∧ (W.alloc ob).cell? ⟨w.heap.size, 3, none⟩ = some (.int .i64 o) ∧ (W.alloc ob).cell? ⟨w.heap.size + 1, 0, none⟩ = some (.int .i64 q) ∧ (W.alloc ob).cell? ⟨w.heap.size + 1, 1, none⟩ = some (.int .i64 p) ∧ (W.alloc ob).cell? ⟨w.heap.size + 1, 2, none⟩ = some (.int .i64 r) ∧ (W.alloc ob).cell? ⟨w.heap.size + 1, 3, none⟩ = some (.int .i64 s) ∧ w.heap.size + 1 < (W.alloc ob).heap.size ∧ Below w.heap.size w (W.alloc ob)) :=
  keep_two ((Below.refl _ _).alloc (Nat.le_refl _) ob) h

set_option maxHeartbeats 2000000 in
theorem rcmpT_ok {k d n o q p r s : Int} (h : Mom.Ok k d n o) (h' : Mom.Ok q p r s) (w : World) :
    Calls Try.prog 29 #[.agg #[.int .i64 k, .int .i64 d, .int .i64 n, .int .i64 o], .agg #[.int .i64 q, .int .i64 p, .int .i64 r, .int .i64 s]] w fun e w' => e = .returned (.int .i64 (Mom.cmp ⟨k, d, n, o⟩ ⟨q, p, r, s⟩)) ∧ Below w.heap.size w w' := by
  have K := BK.new w k d n o q p r s
  obtain ⟨⟨x0, x1, x2, x3⟩, y0, y1, y2, y3⟩ := K.cells
  have H1 := Lib.hid (rmoment_ok h)
  have H2 := Lib.hid (rmoment_ok h')
  clear h h'
  unfold Mom.cmp Mom.sg2
  dsimp only
  generalize Mom.mD d n o = A at *
  generalize Mom.mN n o = B at *
  generalize Mom.mD p r s = C at *
  generalize Mom.mN r s = D at *
  obtain ⟨E0, hE0⟩ : ∃ e, Mom.sg k q = e := ⟨_, rfl⟩
  obtain ⟨E1, hE1⟩ : ∃ e, Mom.sg A C = e := ⟨_, rfl⟩
  obtain ⟨E2, hE2⟩ : ∃ e, Mom.sg B D = e := ⟨_, rfl⟩
  obtain ⟨E3, hE3⟩ : ∃ e, Mom.sg o s = e := ⟨_, rfl⟩
  rw [hE0, hE1, hE2, hE3]
  obtain ⟨R, hR⟩ : ∃ r, (if E0 ≠ 0 then E0 else if (if E1 ≠ 0 then E1 else E2) ≠ 0 then (if E1 ≠ 0 then E1 else E2) else E3) = r := ⟨_, rfl⟩
  rw [hR]
  have HR := Lib.hid hR
  clear hR
  have X0 := Lib.hid hE0
  have X1 := Lib.hid hE1
  have X2 := Lib.hid hE2
  have X3 := Lib.hid hE3
  clear hE0 hE1 hE2 hE3
  have HS := Lib.hid sign_any
  go_enter Try.func29, Try.ntmps29
  go_wp2_with fail
  refine (H1.out _).mono ?_; rintro e w1 ⟨rfl, hb1⟩
  replace K := K.call hb1
  clear hb1 x0 x1 x2 x3 y0 y1 y2 y3
  obtain ⟨⟨x0, x1, x2, x3⟩, y0, y1, y2, y3⟩ := K.cells
  go_wp2_with fail
  refine (H2.out _).mono ?_; rintro e w2 ⟨rfl, hb2⟩
  replace K := K.call hb2
  clear hb2 x0 x1 x2 x3 y0 y1 y2 y3
  obtain ⟨⟨x0, x1, x2, x3⟩, y0, y1, y2, y3⟩ := K.cells
  go_upto_region 3 with fail
  go_region_held3 (fun W => W.cell? ⟨w.heap.size, 0, none⟩ = some (.int .i64 k) ∧ W.cell? ⟨w.heap.size, 1, none⟩ = some (.int .i64 d) ∧ W.cell? ⟨w.heap.size, 2, none⟩ = some (.int .i64 n) ∧ W.cell? ⟨w.heap.size, 3, none⟩ = some (.int .i64 o) ∧ W.cell? ⟨w.heap.size + 1, 0, none⟩ = some (.int .i64 q) ∧ W.cell? ⟨w.heap.size + 1, 1, none⟩ = some (.int .i64 p) ∧ W.cell? ⟨w.heap.size + 1, 2, none⟩ = some (.int .i64 r) ∧ W.cell? ⟨w.heap.size + 1, 3, none⟩ = some (.int .i64 s) ∧ w.heap.size + 1 < W.heap.size ∧ Below w.heap.size w W) (first | exact ⟨x0, x1, x2, x3, y0, y1, y2, y3, K.lt, K.below.drew⟩ | (with_reducible assumption) | exact keep_two_alloc _ (by assumption)) (first | (go_at_call 53; refine (HS.out _ _ _).mono ?_; rintro e w3 ⟨rfl, rfl⟩) | fail)
  rw [X0.out, X1.out, X2.out, X3.out]
  have hW := World.alloc_heap_new w2 (.cells #[.int .i64 (E0), .int .i64 (E1), .int .i64 (E2), .int .i64 (E3)] 3)
  have hE : Whole (w2.alloc (.cells #[.int .i64 (E0), .int .i64 (E1), .int .i64 (E2), .int .i64 (E3)] 3)).drew w2.heap.size 3 #[.int .i64 (E0), .int .i64 (E1), .int .i64 (E2), .int .i64 (E3)] := hW
  have hbf : Below w.heap.size w (w2.alloc (.cells #[.int .i64 (E0), .int .i64 (E1), .int .i64 (E2), .int .i64 (E3)] 3)).drew := (K.below.alloc K.below.size _).drew
  clear hW
  generalize (w2.alloc (.cells #[.int .i64 (E0), .int .i64 (E1), .int .i64 (E2), .int .i64 (E3)] 3)).drew = Wf at *
  obtain ⟨g0, g1, g2, g3⟩ := hE.c4
  clear x0 x1 x2 x3 y0 y1 y2 y3
  go_wp2_with fail
  go_loop [10, 39] (fun _ i => ∃ j : Nat, i = .int .i64 j ∧ j ≤ 4 ∧ (0 < j → E0 = 0) ∧ (1 < j → E1 = 0) ∧ (2 < j → E2 = 0) ∧ (3 < j → E3 = 0)) (fun _ i => (4 - intOf i).toNat)
  case atStart => exact ⟨0, rfl, by omega, by omega, by omega, by omega, by omega⟩
  case round =>
    obtain ⟨j, rfl, hj, z0, z1, z2, z3⟩ := hrel
    have hcase : j = 0 ∨ j = 1 ∨ j = 2 ∨ j = 3 ∨ j = 4 := by omega
    have Z0 := Lib.hid z0
    have Z1 := Lib.hid z1
    have Z2 := Lib.hid z2
    have Z3 := Lib.hid z3
    clear z0 z1 z2 z3
    rcases hcase with rfl | rfl | rfl | rfl | rfl
    · by_cases c : E0 = 0
      · have t1 : (E0 != 0) = false := by simpa using c
        have C := Lib.hid c
        clear c
        go_wp2
        go_round
        case rel => exact ⟨1, rfl, by omega, fun _ => C.out, by omega, by omega, by omega⟩
        case measure => simp [intOf]
      · have t1 : (E0 != 0) = true := by simpa using c
        have C := Lib.hid c
        clear c
        go_wp2
        go_ret
        exact ⟨ret_int (by rw [← HR.out, if_pos C.out]), hbf⟩
    · by_cases c : E1 = 0
      · have t1 : (E1 != 0) = false := by simpa using c
        have C := Lib.hid c
        clear c
        go_wp2
        go_round
        case rel => exact ⟨2, rfl, by omega, fun _ => Z0.out (by omega), fun _ => C.out, by omega, by omega⟩
        case measure => simp [intOf]
      · have t1 : (E1 != 0) = true := by simpa using c
        have C := Lib.hid c
        clear c
        go_wp2
        go_ret
        exact ⟨ret_int (by rw [← HR.out, if_neg (show ¬ E0 ≠ 0 from fun h => h (Z0.out (by omega))), if_pos (show (if E1 ≠ 0 then E1 else E2) ≠ 0 by rw [if_pos C.out]; exact C.out), if_pos C.out]), hbf⟩
    · by_cases c : E2 = 0
      · have t1 : (E2 != 0) = false := by simpa using c
        have C := Lib.hid c
        clear c
        go_wp2
        go_round
        case rel => exact ⟨3, rfl, by omega, fun _ => Z0.out (by omega), fun _ => Z1.out (by omega), fun _ => C.out, by omega⟩
        case measure => simp [intOf]
      · have t1 : (E2 != 0) = true := by simpa using c
        have C := Lib.hid c
        clear c
        go_wp2
        go_ret
        exact ⟨ret_int (by rw [← HR.out, if_neg (show ¬ E0 ≠ 0 from fun h => h (Z0.out (by omega))), if_neg (show ¬ E1 ≠ 0 from fun h => h (Z1.out (by omega))), if_pos C.out]), hbf⟩
    · by_cases c : E3 = 0
      · have t1 : (E3 != 0) = false := by simpa using c
        have C := Lib.hid c
        clear c
        go_wp2
        go_round
        case rel => exact ⟨4, rfl, by omega, fun _ => Z0.out (by omega), fun _ => Z1.out (by omega), fun _ => Z2.out (by omega), fun _ => C.out⟩
        case measure => simp [intOf]
      · have t1 : (E3 != 0) = true := by simpa using c
        have C := Lib.hid c
        clear c
        go_wp2
        go_ret
        exact ⟨ret_int (by rw [← HR.out, if_neg (show ¬ E0 ≠ 0 from fun h => h (Z0.out (by omega))), if_neg (show ¬ E1 ≠ 0 from fun h => h (Z1.out (by omega))), if_neg (show ¬ E2 ≠ 0 from fun h => h (Z2.out (by omega)))]), hbf⟩
    · go_wp2
      go_ret
      exact ⟨ret_int (by rw [← HR.out, if_neg (show ¬ E0 ≠ 0 from fun h => h (Z0.out (by omega))), if_neg (show ¬ E1 ≠ 0 from fun h => h (Z1.out (by omega))), if_neg (show ¬ E2 ≠ 0 from fun h => h (Z2.out (by omega)))]; exact (Z3.out (by omega)).symm), hbf⟩
end Go.Proofs.Ythbjkibclbgjoaa
