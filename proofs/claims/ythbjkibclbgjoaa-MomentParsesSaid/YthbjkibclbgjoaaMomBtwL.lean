/- Times: the law of what lies between (printed by gen_mombtwl.py). -/
import Derived.Test.YthbjkibclbgjoaaMomBtw
namespace Go.Proofs.Ythbjkibclbgjoaa
open Go.RowKit

def Mom.btw (t u : Tm) : Int × Int × Int :=
  if ¬ (Ok t.k t.d t.n t.o ∧ Ok u.k u.d u.n u.o) then (0, 0, 1) else if t.k ≠ u.k then (0, 0, 6) else (btD t u, btN t u, 0)
def Mom.bt3 (x : Int × Int × Int) : Value := .tuple #[.int .i64 x.1, .int .i64 x.2.1, .int .i64 x.2.2]

set_option maxHeartbeats 1000000 in
theorem between_any (t u : Mom.Tm) (w : World) :
    Calls Try.prog 19 #[Mom.ag t, Mom.ag u] w fun e w' => e = .returned (Mom.bt3 (Mom.btw t u)) ∧ Below w.heap.size w w' := by
  obtain ⟨k, d, n, o⟩ := t
  obtain ⟨q, p, r, s⟩ := u
  unfold Mom.btw
  by_cases hh : Mom.Ok k d n o ∧ Mom.Ok q p r s
  · rw [if_neg (fun g => g hh)]
    obtain ⟨h, h'⟩ := hh
    by_cases hk : k = q
    · rw [if_neg (show ¬ k ≠ q from fun g => g hk)]
      exact between_ok h h' hk w
    · rw [if_pos (show k ≠ q from hk)]
      have HV := Lib.hid (valid_any k d n o)
      have HW := Lib.hid (valid_any q p r s)
      rw [decide_eq_true h] at HV
      rw [decide_eq_true h'] at HW
      have t1 : (k != q) = true := by simpa using hk
      clear h h' hk
      unfold Mom.ag Mom.bt3
      dsimp only
      have K := BK.new w k d n o q p r s
      obtain ⟨⟨x0, x1, x2, x3⟩, y0, y1, y2, y3⟩ := K.cells
      go_enter Try.func19, Try.ntmps19
      go_wp2_with fail
      refine (HV.out _).mono ?_; rintro e w1 ⟨rfl, hb⟩
      replace K := K.call hb
      clear hb x0 x1 x2 x3 y0 y1 y2 y3
      obtain ⟨⟨x0, x1, x2, x3⟩, y0, y1, y2, y3⟩ := K.cells
      go_wp2_with fail
      refine (HW.out _).mono ?_; rintro e w2 ⟨rfl, hb⟩
      replace K := K.call hb
      clear hb x0 x1 x2 x3 y0 y1 y2 y3
      obtain ⟨⟨x0, x1, x2, x3⟩, y0, y1, y2, y3⟩ := K.cells
      go_wp2_with fail
      go_ret3
      exact ⟨rfl, K.below⟩
  · rw [if_pos hh]
    unfold Mom.ag Mom.bt3
    dsimp only
    have K := BK.new w k d n o q p r s
    obtain ⟨⟨x0, x1, x2, x3⟩, y0, y1, y2, y3⟩ := K.cells
    have HV := Lib.hid (valid_any k d n o)
    by_cases h : Mom.Ok k d n o
    · have HW := Lib.hid (valid_any q p r s)
      rw [decide_eq_true h] at HV
      rw [decide_eq_false (fun g => hh ⟨h, g⟩)] at HW
      clear h hh
      go_enter Try.func19, Try.ntmps19
      go_wp2_with fail
      refine (HV.out _).mono ?_; rintro e w1 ⟨rfl, hb⟩
      replace K := K.call hb
      clear hb x0 x1 x2 x3 y0 y1 y2 y3
      obtain ⟨⟨x0, x1, x2, x3⟩, y0, y1, y2, y3⟩ := K.cells
      go_wp2_with fail
      refine (HW.out _).mono ?_; rintro e w2 ⟨rfl, hb⟩
      replace K := K.call hb
      clear hb x0 x1 x2 x3 y0 y1 y2 y3
      go_wp2_with fail
      go_ret3
      exact ⟨rfl, K.below⟩
    · rw [decide_eq_false h] at HV
      clear h hh
      go_enter Try.func19, Try.ntmps19
      go_wp2_with fail
      refine (HV.out _).mono ?_; rintro e w1 ⟨rfl, hb⟩
      replace K := K.call hb
      clear hb x0 x1 x2 x3 y0 y1 y2 y3
      go_wp2_with fail
      go_ret3
      exact ⟨rfl, K.below⟩

set_option maxHeartbeats 1000000 in
theorem rbetween_ok {k d n o q p r s : Int} (h : Mom.Ok k d n o) (h' : Mom.Ok q p r s) (hk : k = q) (w : World) :
    Calls Try.prog 20 #[.agg #[.int .i64 k, .int .i64 d, .int .i64 n, .int .i64 o], .agg #[.int .i64 q, .int .i64 p, .int .i64 r, .int .i64 s]] w fun e w' => e = .returned (.tuple #[.int .i64 (Mom.btD ⟨k, d, n, o⟩ ⟨q, p, r, s⟩), .int .i64 (Mom.btN ⟨k, d, n, o⟩ ⟨q, p, r, s⟩), .int .i64 0]) ∧ Below w.heap.size w w' := by
  subst hk
  have HV := Lib.hid (rvalid_any k d n o)
  have HW := Lib.hid (rvalid_any k p r s)
  rw [decide_eq_true h] at HV
  rw [decide_eq_true h'] at HW
  have H1 := Lib.hid (rmoment_ok h)
  have H2 := Lib.hid (rmoment_ok h')
  have b1 := Mom.ok_mom h
  have b2 := Mom.ok_mom h'
  have HC := Lib.hid (split_any (Mom.mD p r s - Mom.mD d n o) (Mom.mN r s - Mom.mN n o) (by omega) (by omega))
  clear h h'
  obtain ⟨_, a1, a2, a3, a4⟩ := b1
  obtain ⟨_, a5, a6, a7, a8⟩ := b2
  unfold Mom.btD Mom.btN
  dsimp only
  generalize Mom.mD d n o = A at *
  generalize Mom.mN n o = B at *
  generalize Mom.mD p r s = C at *
  generalize Mom.mN r s = D at *
  have K := BK.new w k d n o k p r s
  obtain ⟨⟨x0, x1, x2, x3⟩, y0, y1, y2, y3⟩ := K.cells
  go_enter Try.func20, Try.ntmps20
  go_wp2_with fail
  refine (HV.out _).mono ?_; rintro e w1 ⟨rfl, hb⟩
  replace K := K.call hb
  clear hb x0 x1 x2 x3 y0 y1 y2 y3
  obtain ⟨⟨x0, x1, x2, x3⟩, y0, y1, y2, y3⟩ := K.cells
  go_wp2_with fail
  refine (HW.out _).mono ?_; rintro e w2 ⟨rfl, hb⟩
  replace K := K.call hb
  clear hb x0 x1 x2 x3 y0 y1 y2 y3
  obtain ⟨⟨x0, x1, x2, x3⟩, y0, y1, y2, y3⟩ := K.cells
  go_wp2_with fail
  refine (H1.out _).mono ?_; rintro e w3 ⟨rfl, hb⟩
  replace K := K.call hb
  clear hb x0 x1 x2 x3 y0 y1 y2 y3
  obtain ⟨⟨x0, x1, x2, x3⟩, y0, y1, y2, y3⟩ := K.cells
  go_wp2_with fail
  refine (H2.out _).mono ?_; rintro e w4 ⟨rfl, hb⟩
  replace K := K.call hb
  clear hb x0 x1 x2 x3 y0 y1 y2 y3
  obtain ⟨⟨x0, x1, x2, x3⟩, y0, y1, y2, y3⟩ := K.cells
  go_wp2_with fail
  refine (HC.out _).mono ?_; rintro e w5 ⟨rfl, rfl⟩
  go_wp2_with fail
  go_ret3
  exact ⟨rfl, K.below⟩

set_option maxHeartbeats 1000000 in
theorem rbetween_any (t u : Mom.Tm) (w : World) :
    Calls Try.prog 20 #[Mom.ag t, Mom.ag u] w fun e w' => e = .returned (Mom.bt3 (Mom.btw t u)) ∧ Below w.heap.size w w' := by
  obtain ⟨k, d, n, o⟩ := t
  obtain ⟨q, p, r, s⟩ := u
  unfold Mom.btw
  by_cases hh : Mom.Ok k d n o ∧ Mom.Ok q p r s
  · rw [if_neg (fun g => g hh)]
    obtain ⟨h, h'⟩ := hh
    by_cases hk : k = q
    · rw [if_neg (show ¬ k ≠ q from fun g => g hk)]
      exact rbetween_ok h h' hk w
    · rw [if_pos (show k ≠ q from hk)]
      have HV := Lib.hid (rvalid_any k d n o)
      have HW := Lib.hid (rvalid_any q p r s)
      rw [decide_eq_true h] at HV
      rw [decide_eq_true h'] at HW
      have t1 : (k != q) = true := by simpa using hk
      clear h h' hk
      unfold Mom.ag Mom.bt3
      dsimp only
      have K := BK.new w k d n o q p r s
      obtain ⟨⟨x0, x1, x2, x3⟩, y0, y1, y2, y3⟩ := K.cells
      go_enter Try.func20, Try.ntmps20
      go_wp2_with fail
      refine (HV.out _).mono ?_; rintro e w1 ⟨rfl, hb⟩
      replace K := K.call hb
      clear hb x0 x1 x2 x3 y0 y1 y2 y3
      obtain ⟨⟨x0, x1, x2, x3⟩, y0, y1, y2, y3⟩ := K.cells
      go_wp2_with fail
      refine (HW.out _).mono ?_; rintro e w2 ⟨rfl, hb⟩
      replace K := K.call hb
      clear hb x0 x1 x2 x3 y0 y1 y2 y3
      obtain ⟨⟨x0, x1, x2, x3⟩, y0, y1, y2, y3⟩ := K.cells
      go_wp2_with fail
      go_ret3
      exact ⟨rfl, K.below⟩
  · rw [if_pos hh]
    unfold Mom.ag Mom.bt3
    dsimp only
    have K := BK.new w k d n o q p r s
    obtain ⟨⟨x0, x1, x2, x3⟩, y0, y1, y2, y3⟩ := K.cells
    have HV := Lib.hid (rvalid_any k d n o)
    by_cases h : Mom.Ok k d n o
    · have HW := Lib.hid (rvalid_any q p r s)
      rw [decide_eq_true h] at HV
      rw [decide_eq_false (fun g => hh ⟨h, g⟩)] at HW
      clear h hh
      go_enter Try.func20, Try.ntmps20
      go_wp2_with fail
      refine (HV.out _).mono ?_; rintro e w1 ⟨rfl, hb⟩
      replace K := K.call hb
      clear hb x0 x1 x2 x3 y0 y1 y2 y3
      obtain ⟨⟨x0, x1, x2, x3⟩, y0, y1, y2, y3⟩ := K.cells
      go_wp2_with fail
      refine (HW.out _).mono ?_; rintro e w2 ⟨rfl, hb⟩
      replace K := K.call hb
      clear hb x0 x1 x2 x3 y0 y1 y2 y3
      go_wp2_with fail
      go_ret3
      exact ⟨rfl, K.below⟩
    · rw [decide_eq_false h] at HV
      clear h hh
      go_enter Try.func20, Try.ntmps20
      go_wp2_with fail
      refine (HV.out _).mono ?_; rintro e w1 ⟨rfl, hb⟩
      replace K := K.call hb
      clear hb x0 x1 x2 x3 y0 y1 y2 y3
      go_wp2_with fail
      go_ret3
      exact ⟨rfl, K.below⟩

set_option maxHeartbeats 1000000 in
theorem walk_MomentBetween (k d n o q p r s : Int) (_ : (Lit.int .i64 k).wf = true) (_ : (Lit.int .i64 d).wf = true) (_ : (Lit.int .i64 n).wf = true) (_ : (Lit.int .i64 o).wf = true) (_ : (Lit.int .i64 q).wf = true) (_ : (Lit.int .i64 p).wf = true) (_ : (Lit.int .i64 r).wf = true) (_ : (Lit.int .i64 s).wf = true) (w : World) :
    Calls Try.prog 6 #[.agg #[.int .i64 k, .int .i64 d, .int .i64 n, .int .i64 o], .agg #[.int .i64 q, .int .i64 p, .int .i64 r, .int .i64 s]] w fun e w' => e = .returned (.bool true) ∧ Below w.heap.size w w' := by
  have H1 := Lib.hid (between_any ⟨k, d, n, o⟩ ⟨q, p, r, s⟩)
  have H2 := Lib.hid (rbetween_any ⟨k, d, n, o⟩ ⟨q, p, r, s⟩)
  have HA := Lib.hid mom_awake
  generalize Mom.btw ⟨k, d, n, o⟩ ⟨q, p, r, s⟩ = X at *
  obtain ⟨A, B, C⟩ := X
  unfold Mom.bt3 Mom.ag at H1 H2
  dsimp only at H1 H2
  have K := BK.new w k d n o q p r s
  obtain ⟨⟨x0, x1, x2, x3⟩, y0, y1, y2, y3⟩ := K.cells
  go_enter Try.func6, Try.ntmps6
  go_wp2_with fail
  refine (H1.out _).mono ?_; rintro e w1 ⟨rfl, hb⟩
  replace K := K.call hb
  clear hb x0 x1 x2 x3 y0 y1 y2 y3
  obtain ⟨⟨x0, x1, x2, x3⟩, y0, y1, y2, y3⟩ := K.cells
  go_wp2_with fail
  refine (H2.out _).mono ?_; rintro e w2 ⟨rfl, hb⟩
  replace K := K.call hb
  clear hb x0 x1 x2 x3 y0 y1 y2 y3
  go_wp2_with fail
  refine (HA.out _).mono ?_; rintro e w3 ⟨rfl, hb⟩
  go_wp2_with fail
  go_ret
  exact ⟨rfl, below_then K.below hb⟩
end Go.Proofs.Ythbjkibclbgjoaa
