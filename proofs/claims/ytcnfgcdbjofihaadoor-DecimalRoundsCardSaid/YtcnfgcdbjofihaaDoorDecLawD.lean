/- Decimals: the law of rounded quotients. -/
import Derived.Test.YtcnfgcdbjofihaaDoorDecRound
import Derived.Test.YtcnfgcdbjofihaaDoorDecLawS
namespace Go.Proofs.YtcnfgcdbjofihaaDoor
open Go.RowKit

set_option maxHeartbeats 8000000 in
set_option maxRecDepth 100000 in
theorem walk_DecimalRounds (an : Bool) (sa : ByteArray) (ae : Int) (bn : Bool) (sb : ByteArray) (be pl mode : Int) (hsa : sa.size ≤ maxLen) (_ : (Lit.int .i64 ae).wf = true) (hsb : sb.size ≤ maxLen) (_ : (Lit.int .i64 be).wf = true) (_ : (Lit.int .i64 pl).wf = true) (_ : (Lit.int .i64 mode).wf = true) (w : World) :
    Calls Tryd.prog 10 #[.agg #[.bool an, .string sa, .int .i64 ae], .agg #[.bool bn, .string sb, .int .i64 be], .agg #[.int .i64 pl, .int .i64 mode]] w fun e w' => e = .returned (.bool true) ∧ Below w.heap.size w w' := by
  have HL := Lib.hid dec_lives
  have K := B2.new w an sa ae bn sb be
  have P0 := K.one.alloc (.cells #[.int .i64 pl, .int .i64 mode] 53)
  have P1 := K.two.alloc (.cells #[.int .i64 pl, .int .i64 mode] 53)
  have PA := Whole.new ((w.alloc (.cells #[.bool an, .string sa, .int .i64 ae] 23)).alloc (.cells #[.bool bn, .string sb, .int .i64 be] 23)) 53 #[.int .i64 pl, .int .i64 mode]
  rw [show ((w.alloc (.cells #[.bool an, .string sa, .int .i64 ae] 23)).alloc (.cells #[.bool bn, .string sb, .int .i64 be] 23)).heap.size = w.heap.size + 1 + 1 by simp] at PA
  have hbb := K.below.alloc K.below.size (.cells #[.int .i64 pl, .int .i64 mode] 53)
  clear K
  obtain ⟨c00, c01, c02⟩ := P0.c3
  obtain ⟨c10, c11, c12⟩ := P1.c3
  by_cases va : Dec.vd an sa ae
  case neg =>
    have VA := Lib.hid (fun w => rdvalid_no hsa va w)
    clear va hsa hsb PA
    go_enter Tryd.func10, Tryd.ntmps10
    go_wp2_with fail
    refine (VA.out _).mono ?_; rintro _ w1 ⟨rfl, hb1⟩
    clear c00 c01 c02 c10 c11 c12
    replace P0 := (P0.below hb1 P0.lt)
    replace P1 := (P1.below hb1 P1.lt)
    replace hbb := below_then hbb hb1
    clear hb1
    obtain ⟨c00, c01, c02⟩ := P0.c3
    obtain ⟨c10, c11, c12⟩ := P1.c3
    go_wp2_with fail
    refine (HL.out _).mono ?_; rintro _ w2 ⟨rfl, hb2⟩
    clear c00 c01 c02 c10 c11 c12
    replace P0 := (P0.below hb2 P0.lt)
    replace P1 := (P1.below hb2 P1.lt)
    replace hbb := below_then hbb hb2
    clear hb2
    obtain ⟨c00, c01, c02⟩ := P0.c3
    obtain ⟨c10, c11, c12⟩ := P1.c3
    go_wp2
    go_ret
    exact ⟨rfl, hbb⟩
  have VA := Lib.hid (fun w => rdvalid_yes hsa va w)
  by_cases vb : Dec.vd bn sb be
  case neg =>
    have VB := Lib.hid (fun w => rdvalid_no hsb vb w)
    clear va vb hsa hsb PA
    go_enter Tryd.func10, Tryd.ntmps10
    go_wp2_with fail
    refine (VA.out _).mono ?_; rintro _ w1 ⟨rfl, hb1⟩
    clear c00 c01 c02 c10 c11 c12
    replace P0 := (P0.below hb1 P0.lt)
    replace P1 := (P1.below hb1 P1.lt)
    replace hbb := below_then hbb hb1
    clear hb1
    obtain ⟨c00, c01, c02⟩ := P0.c3
    obtain ⟨c10, c11, c12⟩ := P1.c3
    go_wp2_with fail
    refine (VB.out _).mono ?_; rintro _ w2 ⟨rfl, hb2⟩
    clear c00 c01 c02 c10 c11 c12
    replace P0 := (P0.below hb2 P0.lt)
    replace P1 := (P1.below hb2 P1.lt)
    replace hbb := below_then hbb hb2
    clear hb2
    obtain ⟨c00, c01, c02⟩ := P0.c3
    obtain ⟨c10, c11, c12⟩ := P1.c3
    go_wp2_with fail
    refine (HL.out _).mono ?_; rintro _ w3 ⟨rfl, hb3⟩
    clear c00 c01 c02 c10 c11 c12
    replace P0 := (P0.below hb3 P0.lt)
    replace P1 := (P1.below hb3 P1.lt)
    replace hbb := below_then hbb hb3
    clear hb3
    obtain ⟨c00, c01, c02⟩ := P0.c3
    obtain ⟨c10, c11, c12⟩ := P1.c3
    go_wp2
    go_ret
    exact ⟨rfl, hbb⟩
  have VB := Lib.hid (fun w => rdvalid_yes hsb vb w)
  obtain ⟨am, ham, oa⟩ := Dec.of_vd va
  obtain ⟨bm, hbm, ob⟩ := Dec.of_vd vb
  obtain ⟨R1, hR1⟩ : ∃ R, Dec.quoR ⟨an, am, ae⟩ ⟨bn, bm, be⟩ pl mode = R := ⟨_, rfl⟩
  obtain ⟨R2, hR2⟩ : ∃ R, Dec.roundR ⟨an, am, ae⟩ pl mode = R := ⟨_, rfl⟩
  obtain ⟨⟨rg, rm, re⟩, rr⟩ := R1
  obtain ⟨⟨tg, tm, te⟩, tr⟩ := R2
  obtain ⟨q1, hq1⟩ : ∃ q, Dig.st rm = q := ⟨_, rfl⟩
  obtain ⟨q2, hq2⟩ : ∃ q, Dig.st tm = q := ⟨_, rfl⟩
  have HA := Lib.hid (fun w => dquo_leaf oa ob pl mode hR1 ham hbm hq1 w)
  have HRA := Lib.hid (fun w => rquo2_leaf oa ob pl mode hR1 ham hbm hq1 w)
  have HS := Lib.hid (fun w => dround_leaf oa pl mode hR2 ham hq2 w)
  have HRS := Lib.hid (fun w => rround_leaf oa pl mode hR2 ham hq2 w)
  have E1 := dec_same rg q1 re
  have E2 := dec_same tg q2 te
  clear va vb hsa hsb ham hbm oa ob hR1 hR2 hq1 hq2
  have g0 := PA.c0
  have g1 := PA.c1
  go_enter Tryd.func10, Tryd.ntmps10
  go_wp2_with fail
  refine (VA.out _).mono ?_; rintro _ w1 ⟨rfl, hb1⟩
  clear c00 c01 c02 c10 c11 c12
  clear g0 g1
  replace P0 := (P0.below hb1 P0.lt)
  replace P1 := (P1.below hb1 P1.lt)
  replace PA := (PA.below hb1 PA.lt)
  replace hbb := below_then hbb hb1
  clear hb1
  obtain ⟨c00, c01, c02⟩ := P0.c3
  obtain ⟨c10, c11, c12⟩ := P1.c3
  have g0 := PA.c0
  have g1 := PA.c1
  go_wp2_with fail
  refine (VB.out _).mono ?_; rintro _ w2 ⟨rfl, hb2⟩
  clear c00 c01 c02 c10 c11 c12
  clear g0 g1
  replace P0 := (P0.below hb2 P0.lt)
  replace P1 := (P1.below hb2 P1.lt)
  replace PA := (PA.below hb2 PA.lt)
  replace hbb := below_then hbb hb2
  clear hb2
  obtain ⟨c00, c01, c02⟩ := P0.c3
  obtain ⟨c10, c11, c12⟩ := P1.c3
  have g0 := PA.c0
  have g1 := PA.c1
  clear VA VB
  go_wp2_with fail
  refine (HA.out _).mono ?_; rintro _ w3 ⟨rfl, hb3⟩
  clear c00 c01 c02 c10 c11 c12
  clear g0 g1
  replace P0 := (P0.below hb3 P0.lt).alloc (.cells #[.bool rg, .string q1, .int .i64 re] 23)
  replace P1 := (P1.below hb3 P1.lt).alloc (.cells #[.bool rg, .string q1, .int .i64 re] 23)
  replace PA := (PA.below hb3 PA.lt).alloc (.cells #[.bool rg, .string q1, .int .i64 re] 23)
  have P2 := Whole.new w3 23 #[.bool rg, .string q1, .int .i64 re]
  replace hbb := (below_then hbb hb3).alloc (below_then hbb hb3).size (.cells #[.bool rg, .string q1, .int .i64 re] 23)
  clear hb3
  obtain ⟨c00, c01, c02⟩ := P0.c3
  obtain ⟨c10, c11, c12⟩ := P1.c3
  obtain ⟨c20, c21, c22⟩ := P2.c3
  have g0 := PA.c0
  have g1 := PA.c1
  go_wp2_with fail
  refine (HS.out _).mono ?_; rintro _ w4 ⟨rfl, hb4⟩
  clear c00 c01 c02 c10 c11 c12 c20 c21 c22
  clear g0 g1
  replace P0 := (P0.below hb4 P0.lt).alloc (.cells #[.bool tg, .string q2, .int .i64 te] 23)
  replace P1 := (P1.below hb4 P1.lt).alloc (.cells #[.bool tg, .string q2, .int .i64 te] 23)
  replace P2 := (P2.below hb4 P2.lt).alloc (.cells #[.bool tg, .string q2, .int .i64 te] 23)
  replace PA := (PA.below hb4 PA.lt).alloc (.cells #[.bool tg, .string q2, .int .i64 te] 23)
  have P3 := Whole.new w4 23 #[.bool tg, .string q2, .int .i64 te]
  replace hbb := (below_then hbb hb4).alloc (below_then hbb hb4).size (.cells #[.bool tg, .string q2, .int .i64 te] 23)
  clear hb4
  obtain ⟨c00, c01, c02⟩ := P0.c3
  obtain ⟨c10, c11, c12⟩ := P1.c3
  obtain ⟨c20, c21, c22⟩ := P2.c3
  obtain ⟨c30, c31, c32⟩ := P3.c3
  have g0 := PA.c0
  have g1 := PA.c1
  go_wp2_with fail
  refine (HRA.out _).mono ?_; rintro _ w5 ⟨rfl, hb5⟩
  clear c00 c01 c02 c10 c11 c12 c20 c21 c22 c30 c31 c32
  clear g0 g1
  replace P0 := (P0.below hb5 P0.lt).alloc (.cells #[.bool rg, .string q1, .int .i64 re] 23)
  replace P1 := (P1.below hb5 P1.lt).alloc (.cells #[.bool rg, .string q1, .int .i64 re] 23)
  replace P2 := (P2.below hb5 P2.lt).alloc (.cells #[.bool rg, .string q1, .int .i64 re] 23)
  replace P3 := (P3.below hb5 P3.lt).alloc (.cells #[.bool rg, .string q1, .int .i64 re] 23)
  replace PA := (PA.below hb5 PA.lt).alloc (.cells #[.bool rg, .string q1, .int .i64 re] 23)
  have P4 := Whole.new w5 23 #[.bool rg, .string q1, .int .i64 re]
  replace hbb := (below_then hbb hb5).alloc (below_then hbb hb5).size (.cells #[.bool rg, .string q1, .int .i64 re] 23)
  clear hb5
  obtain ⟨c00, c01, c02⟩ := P0.c3
  obtain ⟨c10, c11, c12⟩ := P1.c3
  obtain ⟨c20, c21, c22⟩ := P2.c3
  obtain ⟨c30, c31, c32⟩ := P3.c3
  obtain ⟨c40, c41, c42⟩ := P4.c3
  have g0 := PA.c0
  have g1 := PA.c1
  go_wp2_with fail
  refine (HRS.out _).mono ?_; rintro _ w6 ⟨rfl, hb6⟩
  clear c00 c01 c02 c10 c11 c12 c20 c21 c22 c30 c31 c32 c40 c41 c42
  clear g0 g1
  replace P0 := (P0.below hb6 P0.lt).alloc (.cells #[.bool tg, .string q2, .int .i64 te] 23)
  replace P1 := (P1.below hb6 P1.lt).alloc (.cells #[.bool tg, .string q2, .int .i64 te] 23)
  replace P2 := (P2.below hb6 P2.lt).alloc (.cells #[.bool tg, .string q2, .int .i64 te] 23)
  replace P3 := (P3.below hb6 P3.lt).alloc (.cells #[.bool tg, .string q2, .int .i64 te] 23)
  replace P4 := (P4.below hb6 P4.lt).alloc (.cells #[.bool tg, .string q2, .int .i64 te] 23)
  replace PA := (PA.below hb6 PA.lt).alloc (.cells #[.bool tg, .string q2, .int .i64 te] 23)
  have P5 := Whole.new w6 23 #[.bool tg, .string q2, .int .i64 te]
  replace hbb := (below_then hbb hb6).alloc (below_then hbb hb6).size (.cells #[.bool tg, .string q2, .int .i64 te] 23)
  clear hb6
  obtain ⟨c00, c01, c02⟩ := P0.c3
  obtain ⟨c10, c11, c12⟩ := P1.c3
  obtain ⟨c20, c21, c22⟩ := P2.c3
  obtain ⟨c30, c31, c32⟩ := P3.c3
  obtain ⟨c40, c41, c42⟩ := P4.c3
  obtain ⟨c50, c51, c52⟩ := P5.c3
  have g0 := PA.c0
  have g1 := PA.c1
  clear HA HS HRA HRS
  go_wp2_with fail
  refine (HL.out _).mono ?_; rintro _ w7 ⟨rfl, hb7⟩
  clear c00 c01 c02 c10 c11 c12 c20 c21 c22 c30 c31 c32 c40 c41 c42 c50 c51 c52
  clear g0 g1
  replace P0 := (P0.below hb7 P0.lt)
  replace P1 := (P1.below hb7 P1.lt)
  replace P2 := (P2.below hb7 P2.lt)
  replace P3 := (P3.below hb7 P3.lt)
  replace P4 := (P4.below hb7 P4.lt)
  replace P5 := (P5.below hb7 P5.lt)
  replace PA := (PA.below hb7 PA.lt)
  replace hbb := below_then hbb hb7
  clear hb7
  obtain ⟨c00, c01, c02⟩ := P0.c3
  obtain ⟨c10, c11, c12⟩ := P1.c3
  obtain ⟨c20, c21, c22⟩ := P2.c3
  obtain ⟨c30, c31, c32⟩ := P3.c3
  obtain ⟨c40, c41, c42⟩ := P4.c3
  obtain ⟨c50, c51, c52⟩ := P5.c3
  have g0 := PA.c0
  have g1 := PA.c1
  go_wp2
  go_ret
  exact ⟨rfl, hbb⟩
end Go.Proofs.YtcnfgcdbjofihaaDoor
