/- Decimals: the law of Make. -/
import Derived.Test.YtcnfgcdbjofihaaDoorDecLives
import Derived.OpenShut
namespace Go.Proofs.YtcnfgcdbjofihaaDoor
open Go.RowKit

theorem keep_three {B C D : Nat} {w W W' : World} {n n' n'' : Bool} {x y z : ByteArray} {e e' e'' : Int} (hb : Below W.heap.size W W') (h : W.cell? ⟨B, 0, none⟩ = some (.bool n) ∧ W.cell? ⟨B, 1, none⟩ = some (.string x) ∧ W.cell? ⟨B, 2, none⟩ = some (.int .i64 e) ∧ W.cell? ⟨C, 0, none⟩ = some (.bool n') ∧ W.cell? ⟨C, 1, none⟩ = some (.string y) ∧ W.cell? ⟨C, 2, none⟩ = some (.int .i64 e') ∧ W.cell? ⟨D, 0, none⟩ = some (.bool n'') ∧ W.cell? ⟨D, 1, none⟩ = some (.string z) ∧ W.cell? ⟨D, 2, none⟩ = some (.int .i64 e'') ∧ B < W.heap.size ∧ C < W.heap.size ∧ D < W.heap.size ∧ Below w.heap.size w W) :
    W'.cell? ⟨B, 0, none⟩ = some (.bool n) ∧ W'.cell? ⟨B, 1, none⟩ = some (.string x) ∧ W'.cell? ⟨B, 2, none⟩ = some (.int .i64 e) ∧ W'.cell? ⟨C, 0, none⟩ = some (.bool n') ∧ W'.cell? ⟨C, 1, none⟩ = some (.string y) ∧ W'.cell? ⟨C, 2, none⟩ = some (.int .i64 e') ∧ W'.cell? ⟨D, 0, none⟩ = some (.bool n'') ∧ W'.cell? ⟨D, 1, none⟩ = some (.string z) ∧ W'.cell? ⟨D, 2, none⟩ = some (.int .i64 e'') ∧ B < W'.heap.size ∧ C < W'.heap.size ∧ D < W'.heap.size ∧ Below w.heap.size w W' := by
  obtain ⟨x0, x1, x2, y0, y1, y2, z0, z1, z2, hB, hC, hD, hbb⟩ := h
  have g : ∀ i, W'.cell? ⟨B, i, none⟩ = W.cell? ⟨B, i, none⟩ := fun i => hb.cell (p := ⟨B, i, none⟩) hB
  have g' : ∀ i, W'.cell? ⟨C, i, none⟩ = W.cell? ⟨C, i, none⟩ := fun i => hb.cell (p := ⟨C, i, none⟩) hC
  have g'' : ∀ i, W'.cell? ⟨D, i, none⟩ = W.cell? ⟨D, i, none⟩ := fun i => hb.cell (p := ⟨D, i, none⟩) hD
  exact ⟨(g 0).trans x0, (g 1).trans x1, (g 2).trans x2, (g' 0).trans y0, (g' 1).trans y1, (g' 2).trans y2, (g'' 0).trans z0, (g'' 1).trans z1, (g'' 2).trans z2, Nat.lt_of_lt_of_le hB hb.size, Nat.lt_of_lt_of_le hC hb.size, Nat.lt_of_lt_of_le hD hb.size, below_then hbb hb⟩
theorem thirteenth {A B C D E F G H I J K L M : Prop} (h : A ∧ B ∧ C ∧ D ∧ E ∧ F ∧ G ∧ H ∧ I ∧ J ∧ K ∧ L ∧ M) : M := h.2.2.2.2.2.2.2.2.2.2.2.2

set_option maxHeartbeats 4000000 in
set_option maxRecDepth 100000 in
theorem walk_DecimalMakes (neg : Bool) (s : ByteArray) (dn : Bool) (ds : ByteArray) (de : Int) (_ : s.size ≤ maxLen) (hds : ds.size ≤ maxLen) (hde : (Lit.int .i64 de).wf = true) (w : World) :
    Calls Tryd.prog 3 #[.bool neg, .string s, .agg #[.bool dn, .string ds, .int .i64 de]] w fun e w' => e = .returned (.bool true) ∧ Below w.heap.size w w' := by
  have HL := Lib.hid dec_lives
  obtain ⟨h1, h2⟩ := bounds_i64 hde
  clear hde
  have K := B1.new w dn ds de
  by_cases hl : s.size ≤ 1000
  case neg =>
    have d1 : decide (1000 < (s.size : Int)) = true := decide_eq_true (by omega)
    clear hl hds h1 h2
    go_enter Tryd.func3, Tryd.ntmps3
    go_wp2_with fail
    refine (HL.out _).mono ?_; rintro _ w1 ⟨rfl, hb1⟩
    replace K := K.call hb1
    go_wp2
    go_ret
    exact ⟨rfl, K.below⟩
  have d1 : decide (1000 < (s.size : Int)) = false := decide_eq_false (by omega)
  have HM := Lib.hid (fun w => make_any neg (x := s) (by omega) de w)
  have HN := Lib.hid (fun w => rmake_any neg (x := s) (by omega) de h1 h2 w)
  have HV := Lib.hid (fun w => dvalid_any dn hds de w)
  have HW := Lib.hid (fun w => rdvalid_any dn hds de w)
  generalize decide (Dec.vd dn ds de) = v at *
  generalize Dec.makeR neg s de = R at *
  obtain ⟨⟨rg, rm, re⟩, rr⟩ := R
  unfold Dec.ag at *
  dsimp only at *
  generalize Dig.st rm = q at *
  have q1 : ∀ W, (binOp .eql 23 (.agg #[.bool rg, .string q, .int .i64 re]) (.agg #[.bool rg, .string q, .int .i64 re])).run Tryd.prog W = .ok (.bool true) W := fun W => by rw [dec_eql, decide_eq_true rfl]
  clear hl h1 h2 hds
  obtain ⟨x0, x1, x2, _⟩ := K.all
  cases v
  all_goals
    go_enter Tryd.func3, Tryd.ntmps3
    go_wp2_with fail
    refine (HM.out _).mono ?_; rintro _ w1 ⟨rfl, hb1⟩
    replace K := K.call hb1
    have P7 := Whole.new w1 23 #[.bool rg, .string q, .int .i64 re]
    have K5 := K.one.alloc (.cells #[.bool rg, .string q, .int .i64 re] 23)
    have hbb := K.below.alloc K.below.size (.cells #[.bool rg, .string q, .int .i64 re] 23)
    clear K hb1 x0 x1 x2
    obtain ⟨x0, x1, x2⟩ := K5.c3
    go_wp2_with fail
    refine (HN.out _).mono ?_; rintro _ w2 ⟨rfl, hb2⟩
    replace K5 := (K5.below hb2 K5.lt).alloc (.cells #[.bool rg, .string q, .int .i64 re] 23)
    replace P7 := (P7.below hb2 P7.lt).alloc (.cells #[.bool rg, .string q, .int .i64 re] 23)
    have P9 := Whole.new w2 23 #[.bool rg, .string q, .int .i64 re]
    replace hbb := (below_then hbb hb2).alloc (below_then hbb hb2).size (.cells #[.bool rg, .string q, .int .i64 re] 23)
    clear hb2 x0 x1 x2
    have k5 := K5.lt
    have k7 := P7.lt
    have k9 := P9.lt
    obtain ⟨x0, x1, x2⟩ := K5.c3
    obtain ⟨y0, y1, y2⟩ := P7.c3
    obtain ⟨z0, z1, z2⟩ := P9.c3
    go_upto_region 5 with fail
    go_region_held3 (fun W => W.cell? ⟨w.heap.size, 0, none⟩ = some (.bool dn) ∧ W.cell? ⟨w.heap.size, 1, none⟩ = some (.string ds) ∧ W.cell? ⟨w.heap.size, 2, none⟩ = some (.int .i64 de) ∧ W.cell? ⟨w1.heap.size, 0, none⟩ = some (.bool rg) ∧ W.cell? ⟨w1.heap.size, 1, none⟩ = some (.string q) ∧ W.cell? ⟨w1.heap.size, 2, none⟩ = some (.int .i64 re) ∧ W.cell? ⟨w2.heap.size, 0, none⟩ = some (.bool rg) ∧ W.cell? ⟨w2.heap.size, 1, none⟩ = some (.string q) ∧ W.cell? ⟨w2.heap.size, 2, none⟩ = some (.int .i64 re) ∧ w.heap.size < W.heap.size ∧ w1.heap.size < W.heap.size ∧ w2.heap.size < W.heap.size ∧ Below w.heap.size w W) (first | exact ⟨x0, x1, x2, y0, y1, y2, z0, z1, z2, k5, k7, k9, hbb.drew⟩ | exact keep_three (by assumption) (by assumption)) (first | (go_at_call 16; refine (HV.out _).mono ?_; rintro e w3 ⟨rfl, hb3⟩) | (go_at_call 17; refine (HW.out _).mono ?_; rintro e w4 ⟨rfl, hb4⟩) | (go_at_call 13; refine (HL.out _).mono ?_; rintro e w6 ⟨rfl, hb6⟩))
    go_wp2
    go_ret
    exact ⟨rfl, thirteenth (by assumption)⟩
end Go.Proofs.YtcnfgcdbjofihaaDoor
