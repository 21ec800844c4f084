/- Times: UTC; the law of zones. -/
import Derived.Test.YthbjkibclbgjoaaMomZone
namespace Go.Proofs.Ythbjkibclbgjoaa
open Go.RowKit

set_option maxHeartbeats 1000000 in
theorem utc_any (t : Mom.Tm) (w : World) :
    Calls Try.prog 21 #[Mom.ag t] w fun e w' => e = .returned (.tuple #[Mom.ag (Mom.zone t 0).1, .int .i64 (Mom.zone t 0).2]) ∧ Below w.heap.size w w' := by
  have HZ := Lib.hid (zone_any t 0)
  generalize Mom.zone t 0 = Z at *
  obtain ⟨⟨a, b, c, g⟩, r⟩ := Z
  obtain ⟨k, d, n, o⟩ := t
  have K := ZK.new w ⟨k, d, n, o⟩
  unfold Mom.ag at HZ ⊢
  dsimp only at HZ ⊢
  obtain ⟨x0, x1, x2, x3⟩ := K.cells
  dsimp only at x0 x1 x2 x3
  go_enter Try.func21, Try.ntmps21
  go_wp2_with fail
  refine (HZ.out _).mono ?_; rintro e w1 ⟨rfl, hb1⟩
  replace K := K.call hb1
  clear hb1 x0 x1 x2 x3
  obtain ⟨z0, z1, z2, z3⟩ := K.rcells
  have zf := K.res.frozen
  obtain ⟨hfin, hbf⟩ := K.put ⟨a, b, c, g⟩
  unfold putT at hfin hbf
  dsimp only at hfin hbf
  go_wp2_with fail
  exact bodyPost_ret (v := .tuple #[.agg #[.int .i64 a, .int .i64 b, .int .i64 c, .int .i64 g], .int .i64 r]) (by simp [results, Try.results21, go_sem, hfin.c4]) rfl ⟨rfl, hbf⟩

set_option maxHeartbeats 1000000 in
theorem rutc_any (t : Mom.Tm) (w : World) :
    Calls Try.prog 22 #[Mom.ag t] w fun e w' => e = .returned (.tuple #[Mom.ag (Mom.zone t 0).1, .int .i64 (Mom.zone t 0).2]) ∧ Below w.heap.size w w' := by
  have HZ := Lib.hid (rzone_any t 0)
  generalize Mom.zone t 0 = Z at *
  obtain ⟨⟨a, b, c, g⟩, r⟩ := Z
  obtain ⟨k, d, n, o⟩ := t
  have K := ZK.new w ⟨k, d, n, o⟩
  unfold Mom.ag at HZ ⊢
  dsimp only at HZ ⊢
  obtain ⟨x0, x1, x2, x3⟩ := K.cells
  dsimp only at x0 x1 x2 x3
  go_enter Try.func22, Try.ntmps22
  go_wp2_with fail
  refine (HZ.out _).mono ?_; rintro e w1 ⟨rfl, hb1⟩
  replace K := K.call hb1
  clear hb1 x0 x1 x2 x3
  obtain ⟨z0, z1, z2, z3⟩ := K.rcells
  have zf := K.res.frozen
  obtain ⟨hfin, hbf⟩ := K.put ⟨a, b, c, g⟩
  unfold putT at hfin hbf
  dsimp only at hfin hbf
  go_wp2_with fail
  exact bodyPost_ret (v := .tuple #[.agg #[.int .i64 a, .int .i64 b, .int .i64 c, .int .i64 g], .int .i64 r]) (by simp [results, Try.results22, go_sem, hfin.c4]) rfl ⟨rfl, hbf⟩

set_option maxHeartbeats 1000000 in
theorem walk_MomentZones (k d n o f : Int) (_ : (Lit.int .i64 k).wf = true) (_ : (Lit.int .i64 d).wf = true) (_ : (Lit.int .i64 n).wf = true) (_ : (Lit.int .i64 o).wf = true) (_ : (Lit.int .i64 f).wf = true) (w : World) :
    Calls Try.prog 7 #[.agg #[.int .i64 k, .int .i64 d, .int .i64 n, .int .i64 o], .int .i64 f] w fun e w' => e = .returned (.bool true) ∧ Below w.heap.size w w' := by
  have H1 := Lib.hid (utc_any ⟨k, d, n, o⟩)
  have H2 := Lib.hid (rutc_any ⟨k, d, n, o⟩)
  have H3 := Lib.hid (zone_any ⟨k, d, n, o⟩ f)
  have H4 := Lib.hid (rzone_any ⟨k, d, n, o⟩ f)
  generalize Mom.zone ⟨k, d, n, o⟩ 0 = Z at *
  generalize Mom.zone ⟨k, d, n, o⟩ f = Y at *
  obtain ⟨⟨a, b, c, g⟩, r⟩ := Z
  obtain ⟨⟨p, q, u, v⟩, s⟩ := Y
  unfold Mom.ag at H1 H2 H3 H4
  dsimp only at H1 H2 H3 H4
  have q1 : ∀ W, (binOp .eql 23 (.agg #[.int .i64 a, .int .i64 b, .int .i64 c, .int .i64 g]) (.agg #[.int .i64 a, .int .i64 b, .int .i64 c, .int .i64 g])).run Try.prog W = .ok (.bool true) W := fun W => by rw [time_eql, decide_eq_true rfl]
  have q2 : ∀ W, (binOp .eql 23 (.agg #[.int .i64 p, .int .i64 q, .int .i64 u, .int .i64 v]) (.agg #[.int .i64 p, .int .i64 q, .int .i64 u, .int .i64 v])).run Try.prog W = .ok (.bool true) W := fun W => by rw [time_eql, decide_eq_true rfl]
  have hp := Whole.new w 23 #[.int .i64 k, .int .i64 d, .int .i64 n, .int .i64 o]
  have hbb := (Below.refl w.heap.size w).alloc (Nat.le_refl _) (.cells #[.int .i64 k, .int .i64 d, .int .i64 n, .int .i64 o] 23)
  go_enter Try.func7, Try.ntmps7
  go_wp2_with fail
  refine (H1.out _).mono ?_; rintro e w1 ⟨rfl, hb1⟩
  replace hp := hp.below hb1 hp.lt
  replace hbb := below_then hbb hb1
  clear hb1
  replace hp := hp.alloc (.cells #[.int .i64 a, .int .i64 b, .int .i64 c, .int .i64 g] 23)
  have hu := Whole.new w1 23 #[.int .i64 a, .int .i64 b, .int .i64 c, .int .i64 g]
  replace hbb := hbb.alloc hbb.size (.cells #[.int .i64 a, .int .i64 b, .int .i64 c, .int .i64 g] 23)
  obtain ⟨x0, x1, x2, x3⟩ := hp.c4
  go_wp2_with fail
  refine (H2.out _).mono ?_; rintro e w2 ⟨rfl, hb2⟩
  replace hp := hp.below hb2 hp.lt
  replace hu := hu.below hb2 hu.lt
  replace hbb := below_then hbb hb2
  clear hb2 x0 x1 x2 x3
  replace hp := hp.alloc (.cells #[.int .i64 a, .int .i64 b, .int .i64 c, .int .i64 g] 23)
  replace hu := hu.alloc (.cells #[.int .i64 a, .int .i64 b, .int .i64 c, .int .i64 g] 23)
  have hv := Whole.new w2 23 #[.int .i64 a, .int .i64 b, .int .i64 c, .int .i64 g]
  replace hbb := hbb.alloc hbb.size (.cells #[.int .i64 a, .int .i64 b, .int .i64 c, .int .i64 g] 23)
  obtain ⟨x0, x1, x2, x3⟩ := hp.c4
  go_wp2_with fail
  refine (H3.out _).mono ?_; rintro e w3 ⟨rfl, hb3⟩
  replace hp := hp.below hb3 hp.lt
  replace hu := hu.below hb3 hu.lt
  replace hv := hv.below hb3 hv.lt
  replace hbb := below_then hbb hb3
  clear hb3 x0 x1 x2 x3
  replace hp := hp.alloc (.cells #[.int .i64 p, .int .i64 q, .int .i64 u, .int .i64 v] 23)
  replace hu := hu.alloc (.cells #[.int .i64 p, .int .i64 q, .int .i64 u, .int .i64 v] 23)
  replace hv := hv.alloc (.cells #[.int .i64 p, .int .i64 q, .int .i64 u, .int .i64 v] 23)
  have hx := Whole.new w3 23 #[.int .i64 p, .int .i64 q, .int .i64 u, .int .i64 v]
  replace hbb := hbb.alloc hbb.size (.cells #[.int .i64 p, .int .i64 q, .int .i64 u, .int .i64 v] 23)
  obtain ⟨x0, x1, x2, x3⟩ := hp.c4
  go_wp2_with fail
  refine (H4.out _).mono ?_; rintro e w4 ⟨rfl, hb4⟩
  replace hu := hu.below hb4 hu.lt
  replace hv := hv.below hb4 hv.lt
  replace hx := hx.below hb4 hx.lt
  replace hbb := below_then hbb hb4
  clear hb4 x0 x1 x2 x3 hp
  replace hu := hu.alloc (.cells #[.int .i64 p, .int .i64 q, .int .i64 u, .int .i64 v] 23)
  replace hv := hv.alloc (.cells #[.int .i64 p, .int .i64 q, .int .i64 u, .int .i64 v] 23)
  replace hx := hx.alloc (.cells #[.int .i64 p, .int .i64 q, .int .i64 u, .int .i64 v] 23)
  replace hbb := hbb.alloc hbb.size (.cells #[.int .i64 p, .int .i64 q, .int .i64 u, .int .i64 v] 23)
  obtain ⟨u0, u1, u2, u3⟩ := hu.c4
  obtain ⟨v0, v1, v2, v3⟩ := hv.c4
  obtain ⟨x0, x1, x2, x3⟩ := hx.c4
  go_wp2_with fail
  refine (mom_awake _).mono ?_; rintro e w5 ⟨rfl, hb5⟩
  go_wp2_with fail
  go_ret
  exact ⟨rfl, below_then hbb hb5⟩
end Go.Proofs.Ythbjkibclbgjoaa
