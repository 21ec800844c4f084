/- Times: Cmp and Equal of the program. -/
import Derived.Test.YthbjkibclbgjoaaMomCmp
import Derived.Deep.RegionHeld3
import Derived.Deep.QuietTactic
import Derived.BigQuiet
namespace Go.Proofs.Ythbjkibclbgjoaa
open Go.RowKit

/-- Two times, kept. -/
structure BK (w : World) (k d n o q p r s : Int) (W : World) : Prop where
  hp : Whole W w.heap.size 23 #[.int .i64 k, .int .i64 d, .int .i64 n, .int .i64 o]
  hq : Whole W (w.heap.size + 1) 23 #[.int .i64 q, .int .i64 p, .int .i64 r, .int .i64 s]
  below : Below w.heap.size w W
theorem BK.new (w : World) (k d n o q p r s : Int) : BK w k d n o q p r s ((w.alloc (.cells #[.int .i64 k, .int .i64 d, .int .i64 n, .int .i64 o] 23)).alloc (.cells #[.int .i64 q, .int .i64 p, .int .i64 r, .int .i64 s] 23)) := by
  refine ⟨(Whole.new w _ _).alloc _, ?_, ((Below.refl w.heap.size w).alloc (Nat.le_refl _) _).alloc (by simp) _⟩
  have := Whole.new (w.alloc (.cells #[.int .i64 k, .int .i64 d, .int .i64 n, .int .i64 o] 23)) 23 #[.int .i64 q, .int .i64 p, .int .i64 r, .int .i64 s]
  rwa [World.size_alloc] at this
section
variable {w W W' : World} {k d n o q p r s : Int}
theorem BK.call (h : BK w k d n o q p r s W) (hb : Below W.heap.size W W') : BK w k d n o q p r s W' := ⟨h.hp.below hb h.hp.lt, h.hq.below hb h.hq.lt, below_then h.below hb⟩
theorem BK.step {n0 : Nat} {X : World} (hb : Below n0 X W') (hn : n0 = X.heap.size) (h : BK w k d n o q p r s X) : BK w k d n o q p r s W' := h.call (hn ▸ hb)
theorem BK.lt (h : BK w k d n o q p r s W) : w.heap.size + 1 < W.heap.size := h.hq.lt
theorem BK.drew (h : BK w k d n o q p r s W) : BK w k d n o q p r s W.drew := ⟨h.hp, h.hq, h.below.drew⟩
theorem BK.alloc (h : BK w k d n o q p r s W) (ob : Obj) : BK w k d n o q p r s (W.alloc ob) := ⟨h.hp.alloc _, h.hq.alloc _, h.below.alloc h.below.size _⟩
theorem BK.set (h : BK w k d n o q p r s W) (b i : Nat) (v : Value) (hb : w.heap.size + 1 < b) : BK w k d n o q p r s (W.setCell ⟨b, i, none⟩ v) := ⟨h.hp.far (by simp; omega) _, h.hq.far (by simp; omega) _, h.below.setCell (by simp; omega) _⟩
theorem BK.cells (h : BK w k d n o q p r s W) : (W.cell? ⟨w.heap.size, 0, none⟩ = some (.int .i64 k) ∧ W.cell? ⟨w.heap.size, 1, none⟩ = some (.int .i64 d) ∧ W.cell? ⟨w.heap.size, 2, none⟩ = some (.int .i64 n) ∧ W.cell? ⟨w.heap.size, 3, none⟩ = some (.int .i64 o)) ∧
    (W.cell? ⟨w.heap.size + 1, 0, none⟩ = some (.int .i64 q) ∧ W.cell? ⟨w.heap.size + 1, 1, none⟩ = some (.int .i64 p) ∧ W.cell? ⟨w.heap.size + 1, 2, none⟩ = some (.int .i64 r) ∧ W.cell? ⟨w.heap.size + 1, 3, none⟩ = some (.int .i64 s)) := ⟨h.hp.c4, h.hq.c4⟩
end

theorem keep_two {w W W' : World} {k d n o q p r s : Int} (hb : Below W.heap.size W W') (h : (W.cell? ⟨w.heap.size, 0, none⟩ = some (.int .i64 k) ∧ W.cell? ⟨w.heap.size, 1, none⟩ = some (.int .i64 d) ∧ W.cell? ⟨w.heap.size, 2, none⟩ = some (.int .i64 n) ∧ W.cell? ⟨w.heap.size, 3, none⟩ = some (.int .i64 o) ∧ W.cell? ⟨w.heap.size + 1, 0, none⟩ = some (.int .i64 q) ∧ W.cell? ⟨w.heap.size + 1, 1, none⟩ = some (.int .i64 p) ∧ W.cell? ⟨w.heap.size + 1, 2, none⟩ = some (.int .i64 r) ∧ W.cell? ⟨w.heap.size + 1, 3, none⟩ = some (.int .i64 s) ∧ w.heap.size + 1 < W.heap.size ∧ Below w.heap.size w W)) : (W'.cell? ⟨w.heap.size, 0, none⟩ = some (.int .i64 k) ∧ W'.cell? ⟨w.heap.size, 1, none⟩ = some (.int .i64 d) ∧ W'.cell? ⟨w.heap.size, 2, none⟩ = some (.int .i64 n) ∧ W'.cell? ⟨w.heap.size, 3, none⟩ = some (.int .i64 o) ∧ W'.cell? ⟨w.heap.size + 1, 0, none⟩ = some (.int .i64 q) ∧ W'.cell? ⟨w.heap.size + 1, 1, none⟩ = some (.int .i64 p) ∧ W'.cell? ⟨w.heap.size + 1, 2, none⟩ = some (.int .i64 r) ∧ W'.cell? ⟨w.heap.size + 1, 3, none⟩ = some (.int .i64 s) ∧ w.heap.size + 1 < W'.heap.size ∧ Below w.heap.size w W') := by
  obtain ⟨x0, x1, x2, x3, y0, y1, y2, y3, hz, hbb⟩ := h
  have g : ∀ i, W'.cell? ⟨w.heap.size, i, none⟩ = W.cell? ⟨w.heap.size, i, none⟩ := fun i => hb.cell (p := ⟨w.heap.size, i, none⟩) (Nat.lt_trans (Nat.lt_succ_self _) hz)
  have g' : ∀ i, W'.cell? ⟨w.heap.size + 1, i, none⟩ = W.cell? ⟨w.heap.size + 1, i, none⟩ := fun i => hb.cell (p := ⟨w.heap.size + 1, i, none⟩) hz
  exact ⟨(g 0).trans x0, (g 1).trans x1, (g 2).trans x2, (g 3).trans x3, (g' 0).trans y0, (g' 1).trans y1, (g' 2).trans y2, (g' 3).trans y3, Nat.lt_of_lt_of_le hz hb.size, below_then hbb hb⟩
theorem tenth {A B C D E F G H I J : Prop} (h : A ∧ B ∧ C ∧ D ∧ E ∧ F ∧ G ∧ H ∧ I ∧ J) : J := h.2.2.2.2.2.2.2.2.2

theorem Mom.cmp_eq {t u : Mom.Tm} (h : (t.k, t.d, t.n, t.o) = (u.k, u.d, u.n, u.o)) : Mom.cmp t u = 0 := by
  obtain ⟨k, d, n, o⟩ := t
  obtain ⟨q, p, r, s⟩ := u
  simp only [Prod.mk.injEq] at h
  obtain ⟨rfl, rfl, rfl, rfl⟩ := h
  unfold Mom.cmp
  simp only [Mom.sg_self, Mom.sg2_self]
  simp

set_option maxHeartbeats 2000000 in
theorem cmpT_ok {k d n o q p r s : Int} (h : Mom.Ok k d n o) (h' : Mom.Ok q p r s) (w : World) :
    Calls Try.prog 28 #[.agg #[.int .i64 k, .int .i64 d, .int .i64 n, .int .i64 o], .agg #[.int .i64 q, .int .i64 p, .int .i64 r, .int .i64 s]] w fun e w' => e = .returned (.int .i64 (Mom.cmp ⟨k, d, n, o⟩ ⟨q, p, r, s⟩)) ∧ Below w.heap.size w w' := by
  have K := BK.new w k d n o q p r s
  have lt := K.lt
  obtain ⟨⟨x0, x1, x2, x3⟩, y0, y1, y2, y3⟩ := K.cells
  by_cases he : (k, d, n, o) = (q, p, r, s)
  · have q1 : ∀ W, (binOp .eql 23 (.agg #[.int .i64 k, .int .i64 d, .int .i64 n, .int .i64 o]) (.agg #[.int .i64 q, .int .i64 p, .int .i64 r, .int .i64 s])).run Try.prog W = .ok (.bool true) W := fun W => by rw [time_eql, decide_eq_true he]
    rw [Mom.cmp_eq he]
    clear he h h'
    go_enter Try.func28, Try.ntmps28
    go_wp2_with fail
    go_ret
    exact ⟨rfl, K.below⟩
  have q1 : ∀ W, (binOp .eql 23 (.agg #[.int .i64 k, .int .i64 d, .int .i64 n, .int .i64 o]) (.agg #[.int .i64 q, .int .i64 p, .int .i64 r, .int .i64 s])).run Try.prog W = .ok (.bool false) W := fun W => by rw [time_eql, decide_eq_false he]
  clear he
  unfold Mom.cmp
  dsimp only
  have H1 := Lib.hid (compare_any k q)
  by_cases c1 : Mom.sg k q ≠ 0
  · rw [if_pos c1]
    have t1 : (Mom.sg k q != 0) = true := by simpa using c1
    clear c1 h h'
    generalize Mom.sg k q = S at *
    go_enter Try.func28, Try.ntmps28
    go_wp2_with fail
    refine (H1.out _).mono ?_; rintro e w1 ⟨rfl, rfl⟩
    go_wp2_with fail
    go_ret
    exact ⟨rfl, K.below⟩
  rw [if_neg c1]
  have t1 : (Mom.sg k q != 0) = false := by simpa using c1
  clear c1
  have HM : Hid (∀ (k d n o : Int), Hid (Mom.Ok k d n o) → ∀ w, Calls Try.prog 47 #[.agg #[.int .i64 k, .int .i64 d, .int .i64 n, .int .i64 o]] w fun e w' => e = .returned (.agg #[.int .i64 (Mom.mD d n o), .int .i64 (Mom.mN n o)]) ∧ Below w.heap.size w w') := Lib.hid (fun k d n o h w => moment_ok h.out w)
  have hm1 := Lib.hid h
  have hm2 := Lib.hid h'
  clear h h'
  have HC := Lib.hid compare2_any
  have H2 := Lib.hid (compare_any o s)
  by_cases c2 : Mom.sg2 (Mom.mD d n o) (Mom.mN n o) (Mom.mD p r s) (Mom.mN r s) ≠ 0
  · rw [if_pos c2]
    have t2 : (Mom.sg2 (Mom.mD d n o) (Mom.mN n o) (Mom.mD p r s) (Mom.mN r s) != 0) = true := by simpa using c2
    clear c2
    generalize Mom.sg k q = S at *
    go_enter Try.func28, Try.ntmps28
    go_wp2_with fail
    refine (H1.out _).mono ?_; rintro e w1 ⟨rfl, rfl⟩
    go_upto_region 6 with fail
    go_region_held3 (fun W => W.cell? ⟨w.heap.size, 0, none⟩ = some (.int .i64 k) ∧ W.cell? ⟨w.heap.size, 1, none⟩ = some (.int .i64 d) ∧ W.cell? ⟨w.heap.size, 2, none⟩ = some (.int .i64 n) ∧ W.cell? ⟨w.heap.size, 3, none⟩ = some (.int .i64 o) ∧ W.cell? ⟨w.heap.size + 1, 0, none⟩ = some (.int .i64 q) ∧ W.cell? ⟨w.heap.size + 1, 1, none⟩ = some (.int .i64 p) ∧ W.cell? ⟨w.heap.size + 1, 2, none⟩ = some (.int .i64 r) ∧ W.cell? ⟨w.heap.size + 1, 3, none⟩ = some (.int .i64 s) ∧ w.heap.size + 1 < W.heap.size ∧ Below w.heap.size w W) (first | exact ⟨x0, x1, x2, x3, y0, y1, y2, y3, lt, K.below.drew⟩ | exact keep_two (by assumption) (by assumption)) (first | (go_at_call 47; refine (HM.out _ _ _ _ (by assumption) _).mono ?_; rintro e w2 ⟨rfl, hb2⟩) | (go_at_call 52; refine (HC.out _ _ _ _ _).mono ?_; rintro e w3 ⟨rfl, hb3⟩))
    go_wp2
    go_ret
    exact ⟨rfl, tenth (by assumption)⟩
  rw [if_neg c2]
  have t2 : (Mom.sg2 (Mom.mD d n o) (Mom.mN n o) (Mom.mD p r s) (Mom.mN r s) != 0) = false := by simpa using c2
  clear c2
  generalize Mom.sg k q = S at *
  generalize Mom.sg o s = R at *
  go_enter Try.func28, Try.ntmps28
  go_wp2_with fail
  refine (H1.out _).mono ?_; rintro e w1 ⟨rfl, rfl⟩
  go_upto_region 6 with fail
  go_region_held3 (fun W => W.cell? ⟨w.heap.size, 0, none⟩ = some (.int .i64 k) ∧ W.cell? ⟨w.heap.size, 1, none⟩ = some (.int .i64 d) ∧ W.cell? ⟨w.heap.size, 2, none⟩ = some (.int .i64 n) ∧ W.cell? ⟨w.heap.size, 3, none⟩ = some (.int .i64 o) ∧ W.cell? ⟨w.heap.size + 1, 0, none⟩ = some (.int .i64 q) ∧ W.cell? ⟨w.heap.size + 1, 1, none⟩ = some (.int .i64 p) ∧ W.cell? ⟨w.heap.size + 1, 2, none⟩ = some (.int .i64 r) ∧ W.cell? ⟨w.heap.size + 1, 3, none⟩ = some (.int .i64 s) ∧ w.heap.size + 1 < W.heap.size ∧ Below w.heap.size w W) (first | exact ⟨x0, x1, x2, x3, y0, y1, y2, y3, lt, K.below.drew⟩ | exact keep_two (by assumption) (by assumption)) (first | (go_at_call 47; refine (HM.out _ _ _ _ (by assumption) _).mono ?_; rintro e w2 ⟨rfl, hb2⟩) | (go_at_call 52; refine (HC.out _ _ _ _ _).mono ?_; rintro e w3 ⟨rfl, hb3⟩))
  go_wp2_with fail
  refine (H2.out _).mono ?_; rintro e w4 ⟨rfl, rfl⟩
  go_wp2_with fail
  go_ret
  exact ⟨rfl, tenth (by assumption)⟩

set_option maxHeartbeats 2000000 in
theorem equalT_ok {k d n o q p r s : Int} (h : Mom.Ok k d n o) (h' : Mom.Ok q p r s) (w : World) :
    Calls Try.prog 27 #[.agg #[.int .i64 k, .int .i64 d, .int .i64 n, .int .i64 o], .agg #[.int .i64 q, .int .i64 p, .int .i64 r, .int .i64 s]] w fun e w' => e = .returned (.bool (decide (Mom.same ⟨k, d, n, o⟩ ⟨q, p, r, s⟩))) ∧ Below w.heap.size w w' := by
  have K := BK.new w k d n o q p r s
  have lt := K.lt
  obtain ⟨⟨x0, x1, x2, x3⟩, y0, y1, y2, y3⟩ := K.cells
  have HM : Hid (∀ (k d n o : Int), Hid (Mom.Ok k d n o) → ∀ w, Calls Try.prog 47 #[.agg #[.int .i64 k, .int .i64 d, .int .i64 n, .int .i64 o]] w fun e w' => e = .returned (.agg #[.int .i64 (Mom.mD d n o), .int .i64 (Mom.mN n o)]) ∧ Below w.heap.size w w') := Lib.hid (fun k d n o h w => moment_ok h.out w)
  have hm1 := Lib.hid h
  have hm2 := Lib.hid h'
  clear h h'
  by_cases he : k = q
  · have q1 : ∀ W, (binOp .eql 73 (.agg #[.int .i64 (Mom.mD d n o), .int .i64 (Mom.mN n o)]) (.agg #[.int .i64 (Mom.mD p r s), .int .i64 (Mom.mN r s)])).run Try.prog W = .ok (.bool (decide (Mom.same ⟨k, d, n, o⟩ ⟨q, p, r, s⟩))) W := fun W => by
      rw [span_eql]
      congr 2
      rw [decide_eq_decide, Prod.mk.injEq]
      unfold Mom.same
      simp [he]
    have t1 : (k == q) = true := beq_iff_eq.2 he
    clear he
    generalize decide (Mom.same ⟨k, d, n, o⟩ ⟨q, p, r, s⟩) = b at *
    go_enter Try.func27, Try.ntmps27
    go_upto_region 1 with fail
    go_region_held3 (fun W => W.cell? ⟨w.heap.size, 0, none⟩ = some (.int .i64 k) ∧ W.cell? ⟨w.heap.size, 1, none⟩ = some (.int .i64 d) ∧ W.cell? ⟨w.heap.size, 2, none⟩ = some (.int .i64 n) ∧ W.cell? ⟨w.heap.size, 3, none⟩ = some (.int .i64 o) ∧ W.cell? ⟨w.heap.size + 1, 0, none⟩ = some (.int .i64 q) ∧ W.cell? ⟨w.heap.size + 1, 1, none⟩ = some (.int .i64 p) ∧ W.cell? ⟨w.heap.size + 1, 2, none⟩ = some (.int .i64 r) ∧ W.cell? ⟨w.heap.size + 1, 3, none⟩ = some (.int .i64 s) ∧ w.heap.size + 1 < W.heap.size ∧ Below w.heap.size w W) (first | exact ⟨x0, x1, x2, x3, y0, y1, y2, y3, lt, K.below.drew⟩ | exact keep_two (by assumption) (by assumption)) (first | (go_at_call 47; refine (HM.out _ _ _ _ (by assumption) _).mono ?_; rintro e w2 ⟨rfl, hb2⟩) | fail)
    go_wp2
    go_ret
    exact ⟨rfl, tenth (by assumption)⟩
  · rw [decide_eq_false (show ¬ Mom.same ⟨k, d, n, o⟩ ⟨q, p, r, s⟩ from fun g => he g.1)]
    have t1 : (k == q) = false := beq_eq_false_iff_ne.2 he
    clear he
    go_enter Try.func27, Try.ntmps27
    go_upto_region 1 with fail
    go_quiet (fail)
    go_wp2
    go_ret
    exact ⟨rfl, K.below.os, K.below.tape, K.below.output, K.below.size, K.below.block⟩
end Go.Proofs.Ythbjkibclbgjoaa
