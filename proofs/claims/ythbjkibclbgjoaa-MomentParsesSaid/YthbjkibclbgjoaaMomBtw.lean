/- Times: what lies between two of them, in the program. -/
import Derived.Test.YthbjkibclbgjoaaMomCmpR
import Derived.Deep.DeepCutAuto
namespace Go.Proofs.Ythbjkibclbgjoaa
open Go.RowKit

theorem Whole.at {W : World} {n : Nat} (t : TypeId) (cs : Array Value) (h : n = W.heap.size) : Whole (W.alloc (.cells cs t)) n t cs := h ▸ Whole.new W t cs
theorem BK.all {w W : World} {k d n o q p r s : Int} (h : BK w k d n o q p r s W) : (W.cell? ⟨w.heap.size, 0, none⟩ = some (.int .i64 k) ∧ W.cell? ⟨w.heap.size, 1, none⟩ = some (.int .i64 d) ∧ W.cell? ⟨w.heap.size, 2, none⟩ = some (.int .i64 n) ∧ W.cell? ⟨w.heap.size, 3, none⟩ = some (.int .i64 o) ∧ W.cell? ⟨w.heap.size + 1, 0, none⟩ = some (.int .i64 q) ∧ W.cell? ⟨w.heap.size + 1, 1, none⟩ = some (.int .i64 p) ∧ W.cell? ⟨w.heap.size + 1, 2, none⟩ = some (.int .i64 r) ∧ W.cell? ⟨w.heap.size + 1, 3, none⟩ = some (.int .i64 s) ∧ w.heap.size + 1 < W.heap.size ∧ Below w.heap.size w W) :=
  ⟨h.hp.c4.1, h.hp.c4.2.1, h.hp.c4.2.2.1, h.hp.c4.2.2.2, h.hq.c4.1, h.hq.c4.2.1, h.hq.c4.2.2.1, h.hq.c4.2.2.2, h.lt, h.below⟩
def Mom.btD (t u : Tm) : Int := Mom.dD (mD u.d u.n u.o - mD t.d t.n t.o) (mN u.n u.o - mN t.n t.o)
def Mom.btN (t u : Tm) : Int := Mom.dN (mN u.n u.o - mN t.n t.o)

set_option maxHeartbeats 4000000 in
theorem between_ok {k d n o q p r s : Int} (h : Mom.Ok k d n o) (h' : Mom.Ok q p r s) (hk : k = q) (w : World) :
    Calls Try.prog 19 #[.agg #[.int .i64 k, .int .i64 d, .int .i64 n, .int .i64 o], .agg #[.int .i64 q, .int .i64 p, .int .i64 r, .int .i64 s]] w fun e w' => e = .returned (.tuple #[.int .i64 (Mom.btD ⟨k, d, n, o⟩ ⟨q, p, r, s⟩), .int .i64 (Mom.btN ⟨k, d, n, o⟩ ⟨q, p, r, s⟩), .int .i64 0]) ∧ Below w.heap.size w w' := by
  subst hk
  have HV := Lib.hid (valid_any k d n o)
  have HW := Lib.hid (valid_any k p r s)
  rw [decide_eq_true h] at HV
  rw [decide_eq_true h'] at HW
  have HM : Hid (∀ (k d n o : Int), Hid (Mom.Ok k d n o) → ∀ w, Calls Try.prog 47 #[.agg #[.int .i64 k, .int .i64 d, .int .i64 n, .int .i64 o]] w fun e w' => e = .returned (.agg #[.int .i64 (Mom.mD d n o), .int .i64 (Mom.mN n o)]) ∧ w' = ((w.alloc (.cells #[.int .i64 k, .int .i64 d, .int .i64 n, .int .i64 o] 23)).alloc (.cells #[.int .i64 (Mom.mD d n o), .int .i64 (Mom.mN n o)] 73)).alloc (.cells #[.int .i64 (Mom.mD d n o), .int .i64 (Mom.mN n o)] 73)) := Lib.hid (fun k d n o h w => moment_world h.out w)
  have hm1 := Lib.hid h
  have hm2 := Lib.hid h'
  have b1 := Mom.ok_mom h
  have b2 := Mom.ok_mom h'
  have HC := Lib.hid (carry_world (Mom.mD p r s - Mom.mD d n o) (Mom.mN r s - Mom.mN n o) (by omega) (by unfold Mom.i64; omega))
  clear h h'
  obtain ⟨_, a1, a2, a3, a4⟩ := b1
  obtain ⟨_, a5, a6, a7, a8⟩ := b2
  unfold Mom.btD Mom.btN
  dsimp only
  have K := BK.new w k d n o k p r s
  obtain ⟨⟨x0, x1, x2, x3⟩, y0, y1, y2, y3⟩ := K.cells
  go_enter Try.func19, Try.ntmps19
  go_wp2_with fail
  refine (HV.out _).mono ?_; rintro e w1 ⟨rfl, hb1⟩
  replace K := K.call hb1
  clear hb1 x0 x1 x2 x3 y0 y1 y2 y3
  obtain ⟨⟨x0, x1, x2, x3⟩, y0, y1, y2, y3⟩ := K.cells
  go_wp2_with fail
  refine (HW.out _).mono ?_; rintro e w2 ⟨rfl, hb2⟩
  replace K := K.call hb2
  clear hb2 x0 x1 x2 x3 y0 y1 y2 y3
  obtain ⟨⟨x0, x1, x2, x3⟩, y0, y1, y2, y3⟩ := K.cells
  go_upto_region 5 with fail
  go_cut [7, 8] (fun s7 s8 wx => ∃ b7 b8 : Nat, s7 = .pointer (some ⟨b7, 0, none⟩) ∧ s8 = .pointer (some ⟨b8, 0, none⟩) ∧ Whole wx b7 73 #[.int .i64 (Mom.mD d n o), .int .i64 (Mom.mN n o)] ∧ Whole wx b8 73 #[.int .i64 (Mom.mD p r s), .int .i64 (Mom.mN r s)] ∧ Below w.heap.size w wx)
  case first =>
    go_region_held3 (fun W => W.cell? ⟨w.heap.size, 0, none⟩ = some (.int .i64 k) ∧ W.cell? ⟨w.heap.size, 1, none⟩ = some (.int .i64 d) ∧ W.cell? ⟨w.heap.size, 2, none⟩ = some (.int .i64 n) ∧ W.cell? ⟨w.heap.size, 3, none⟩ = some (.int .i64 o) ∧ W.cell? ⟨w.heap.size + 1, 0, none⟩ = some (.int .i64 k) ∧ W.cell? ⟨w.heap.size + 1, 1, none⟩ = some (.int .i64 p) ∧ W.cell? ⟨w.heap.size + 1, 2, none⟩ = some (.int .i64 r) ∧ W.cell? ⟨w.heap.size + 1, 3, none⟩ = some (.int .i64 s) ∧ w.heap.size + 1 < W.heap.size ∧ Below w.heap.size w W) ((refine BK.all ?_; repeat (first | with_reducible exact K | with_reducible apply BK.drew | with_reducible apply BK.alloc))) (first | (go_at_call 47; refine (HM.out _ _ _ _ (by assumption) _).mono ?_; rintro e w3 ⟨rfl, rfl⟩) | fail)
    all_goals
      go_wp2_with fail
      go_meet
      refine ⟨_, _, rfl, rfl, ?_, ?_, BK.below (by repeat (first | with_reducible exact K | with_reducible apply BK.drew | with_reducible apply BK.alloc))⟩
      · repeat (first | ((with_reducible refine Whole.at _ _ ?_); (simp; done)) | with_reducible apply Whole.drew | with_reducible apply Whole.alloc)
      · repeat (first | ((with_reducible refine Whole.at _ _ ?_); (simp; done)) | with_reducible apply Whole.drew | with_reducible apply Whole.alloc)
  case rest =>
    obtain ⟨b7, b8, rfl, rfl, hA, hB, hbb⟩ := hcut
    have p0 := hA.c0
    have p1 := hA.c1
    have q0 := hB.c0
    have q1 := hB.c1
    clear x0 x1 x2 x3 y0 y1 y2 y3
    unfold Mom.sp at HC
    go_wp2_with fail
    refine (HC.out _).mono ?_; rintro e w3 ⟨rfl, rfl⟩
    go_wp2_with fail
    go_quiet (fail)
    go_wp2
    go_ret3
    refine ⟨rfl, ?_⟩
    have := (hbb.alloc hbb.size (.cells #[.int .i64 (Mom.dD (Mom.mD p r s - Mom.mD d n o) (Mom.mN r s - Mom.mN n o)), .int .i64 (Mom.dN (Mom.mN r s - Mom.mN n o))] 73)).alloc (Nat.le_trans hbb.size (by simp)) (.cells #[.int .i64 (Mom.dD (Mom.mD p r s - Mom.mD d n o) (Mom.mN r s - Mom.mN n o)), .int .i64 (Mom.dN (Mom.mN r s - Mom.mN n o))] 73)
    exact ⟨this.os, this.tape, this.output, this.size, this.block⟩
end Go.Proofs.Ythbjkibclbgjoaa
