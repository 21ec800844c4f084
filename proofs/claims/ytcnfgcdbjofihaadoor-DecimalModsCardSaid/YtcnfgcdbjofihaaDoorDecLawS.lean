/- Decimals: the law of sums. -/
import Derived.Test.YtcnfgcdbjofihaaDoorDecRefC
import Derived.Test.YtcnfgcdbjofihaaDoorDecLawO
namespace Go.Proofs.YtcnfgcdbjofihaaDoor
open Go.RowKit

structure K6 (w W : World) (B0 B1 B2 B3 B4 B5 : Nat) (n0 : Bool) (s0 : ByteArray) (e0 : Int) (n1 : Bool) (s1 : ByteArray) (e1 : Int) (n2 : Bool) (s2 : ByteArray) (e2 : Int) (n3 : Bool) (s3 : ByteArray) (e3 : Int) (n4 : Bool) (s4 : ByteArray) (e4 : Int) (n5 : Bool) (s5 : ByteArray) (e5 : Int) : Prop where
  p0 : Whole W B0 23 #[.bool n0, .string s0, .int .i64 e0]
  p1 : Whole W B1 23 #[.bool n1, .string s1, .int .i64 e1]
  p2 : Whole W B2 23 #[.bool n2, .string s2, .int .i64 e2]
  p3 : Whole W B3 23 #[.bool n3, .string s3, .int .i64 e3]
  p4 : Whole W B4 23 #[.bool n4, .string s4, .int .i64 e4]
  p5 : Whole W B5 23 #[.bool n5, .string s5, .int .i64 e5]
  below : Below w.heap.size w W
theorem K6.full {w W : World} {B0 B1 B2 B3 B4 B5 : Nat} {n0 : Bool} {s0 : ByteArray} {e0 : Int} {n1 : Bool} {s1 : ByteArray} {e1 : Int} {n2 : Bool} {s2 : ByteArray} {e2 : Int} {n3 : Bool} {s3 : ByteArray} {e3 : Int} {n4 : Bool} {s4 : ByteArray} {e4 : Int} {n5 : Bool} {s5 : ByteArray} {e5 : Int} (h : K6 w W B0 B1 B2 B3 B4 B5 n0 s0 e0 n1 s1 e1 n2 s2 e2 n3 s3 e3 n4 s4 e4 n5 s5 e5) : W.cell? ⟨B0, 0, none⟩ = some (.bool n0) ∧ W.cell? ⟨B0, 1, none⟩ = some (.string s0) ∧ W.cell? ⟨B0, 2, none⟩ = some (.int .i64 e0) ∧ W.cell? ⟨B1, 0, none⟩ = some (.bool n1) ∧ W.cell? ⟨B1, 1, none⟩ = some (.string s1) ∧ W.cell? ⟨B1, 2, none⟩ = some (.int .i64 e1) ∧ W.cell? ⟨B2, 0, none⟩ = some (.bool n2) ∧ W.cell? ⟨B2, 1, none⟩ = some (.string s2) ∧ W.cell? ⟨B2, 2, none⟩ = some (.int .i64 e2) ∧ W.cell? ⟨B3, 0, none⟩ = some (.bool n3) ∧ W.cell? ⟨B3, 1, none⟩ = some (.string s3) ∧ W.cell? ⟨B3, 2, none⟩ = some (.int .i64 e3) ∧ W.cell? ⟨B4, 0, none⟩ = some (.bool n4) ∧ W.cell? ⟨B4, 1, none⟩ = some (.string s4) ∧ W.cell? ⟨B4, 2, none⟩ = some (.int .i64 e4) ∧ W.cell? ⟨B5, 0, none⟩ = some (.bool n5) ∧ W.cell? ⟨B5, 1, none⟩ = some (.string s5) ∧ W.cell? ⟨B5, 2, none⟩ = some (.int .i64 e5) ∧ K6 w W B0 B1 B2 B3 B4 B5 n0 s0 e0 n1 s1 e1 n2 s2 e2 n3 s3 e3 n4 s4 e4 n5 s5 e5 := ⟨h.p0.c3.1, h.p0.c3.2.1, h.p0.c3.2.2, h.p1.c3.1, h.p1.c3.2.1, h.p1.c3.2.2, h.p2.c3.1, h.p2.c3.2.1, h.p2.c3.2.2, h.p3.c3.1, h.p3.c3.2.1, h.p3.c3.2.2, h.p4.c3.1, h.p4.c3.2.1, h.p4.c3.2.2, h.p5.c3.1, h.p5.c3.2.1, h.p5.c3.2.2, h⟩
theorem K6.call {w W W' : World} {B0 B1 B2 B3 B4 B5 : Nat} {n0 : Bool} {s0 : ByteArray} {e0 : Int} {n1 : Bool} {s1 : ByteArray} {e1 : Int} {n2 : Bool} {s2 : ByteArray} {e2 : Int} {n3 : Bool} {s3 : ByteArray} {e3 : Int} {n4 : Bool} {s4 : ByteArray} {e4 : Int} {n5 : Bool} {s5 : ByteArray} {e5 : Int} (h : K6 w W B0 B1 B2 B3 B4 B5 n0 s0 e0 n1 s1 e1 n2 s2 e2 n3 s3 e3 n4 s4 e4 n5 s5 e5) (hb : Below W.heap.size W W') : K6 w W' B0 B1 B2 B3 B4 B5 n0 s0 e0 n1 s1 e1 n2 s2 e2 n3 s3 e3 n4 s4 e4 n5 s5 e5 := ⟨h.p0.below hb h.p0.lt, h.p1.below hb h.p1.lt, h.p2.below hb h.p2.lt, h.p3.below hb h.p3.lt, h.p4.below hb h.p4.lt, h.p5.below hb h.p5.lt, below_then h.below hb⟩
theorem K6.drew {w W : World} {B0 B1 B2 B3 B4 B5 : Nat} {n0 : Bool} {s0 : ByteArray} {e0 : Int} {n1 : Bool} {s1 : ByteArray} {e1 : Int} {n2 : Bool} {s2 : ByteArray} {e2 : Int} {n3 : Bool} {s3 : ByteArray} {e3 : Int} {n4 : Bool} {s4 : ByteArray} {e4 : Int} {n5 : Bool} {s5 : ByteArray} {e5 : Int} (h : K6 w W B0 B1 B2 B3 B4 B5 n0 s0 e0 n1 s1 e1 n2 s2 e2 n3 s3 e3 n4 s4 e4 n5 s5 e5) : K6 w W.drew B0 B1 B2 B3 B4 B5 n0 s0 e0 n1 s1 e1 n2 s2 e2 n3 s3 e3 n4 s4 e4 n5 s5 e5 := ⟨h.p0.drew, h.p1.drew, h.p2.drew, h.p3.drew, h.p4.drew, h.p5.drew, h.below.drew⟩
theorem K6.last {w W : World} {B0 B1 B2 B3 B4 B5 : Nat} {n0 : Bool} {s0 : ByteArray} {e0 : Int} {n1 : Bool} {s1 : ByteArray} {e1 : Int} {n2 : Bool} {s2 : ByteArray} {e2 : Int} {n3 : Bool} {s3 : ByteArray} {e3 : Int} {n4 : Bool} {s4 : ByteArray} {e4 : Int} {n5 : Bool} {s5 : ByteArray} {e5 : Int} (h : W.cell? ⟨B0, 0, none⟩ = some (.bool n0) ∧ W.cell? ⟨B0, 1, none⟩ = some (.string s0) ∧ W.cell? ⟨B0, 2, none⟩ = some (.int .i64 e0) ∧ W.cell? ⟨B1, 0, none⟩ = some (.bool n1) ∧ W.cell? ⟨B1, 1, none⟩ = some (.string s1) ∧ W.cell? ⟨B1, 2, none⟩ = some (.int .i64 e1) ∧ W.cell? ⟨B2, 0, none⟩ = some (.bool n2) ∧ W.cell? ⟨B2, 1, none⟩ = some (.string s2) ∧ W.cell? ⟨B2, 2, none⟩ = some (.int .i64 e2) ∧ W.cell? ⟨B3, 0, none⟩ = some (.bool n3) ∧ W.cell? ⟨B3, 1, none⟩ = some (.string s3) ∧ W.cell? ⟨B3, 2, none⟩ = some (.int .i64 e3) ∧ W.cell? ⟨B4, 0, none⟩ = some (.bool n4) ∧ W.cell? ⟨B4, 1, none⟩ = some (.string s4) ∧ W.cell? ⟨B4, 2, none⟩ = some (.int .i64 e4) ∧ W.cell? ⟨B5, 0, none⟩ = some (.bool n5) ∧ W.cell? ⟨B5, 1, none⟩ = some (.string s5) ∧ W.cell? ⟨B5, 2, none⟩ = some (.int .i64 e5) ∧ K6 w W B0 B1 B2 B3 B4 B5 n0 s0 e0 n1 s1 e1 n2 s2 e2 n3 s3 e3 n4 s4 e4 n5 s5 e5) : K6 w W B0 B1 B2 B3 B4 B5 n0 s0 e0 n1 s1 e1 n2 s2 e2 n3 s3 e3 n4 s4 e4 n5 s5 e5 := h.2.2.2.2.2.2.2.2.2.2.2.2.2.2.2.2.2.2
theorem K6.keep {w W W' : World} {B0 B1 B2 B3 B4 B5 : Nat} {n0 : Bool} {s0 : ByteArray} {e0 : Int} {n1 : Bool} {s1 : ByteArray} {e1 : Int} {n2 : Bool} {s2 : ByteArray} {e2 : Int} {n3 : Bool} {s3 : ByteArray} {e3 : Int} {n4 : Bool} {s4 : ByteArray} {e4 : Int} {n5 : Bool} {s5 : ByteArray} {e5 : Int} (hb : Below W.heap.size W W') (h : W.cell? ⟨B0, 0, none⟩ = some (.bool n0) ∧ W.cell? ⟨B0, 1, none⟩ = some (.string s0) ∧ W.cell? ⟨B0, 2, none⟩ = some (.int .i64 e0) ∧ W.cell? ⟨B1, 0, none⟩ = some (.bool n1) ∧ W.cell? ⟨B1, 1, none⟩ = some (.string s1) ∧ W.cell? ⟨B1, 2, none⟩ = some (.int .i64 e1) ∧ W.cell? ⟨B2, 0, none⟩ = some (.bool n2) ∧ W.cell? ⟨B2, 1, none⟩ = some (.string s2) ∧ W.cell? ⟨B2, 2, none⟩ = some (.int .i64 e2) ∧ W.cell? ⟨B3, 0, none⟩ = some (.bool n3) ∧ W.cell? ⟨B3, 1, none⟩ = some (.string s3) ∧ W.cell? ⟨B3, 2, none⟩ = some (.int .i64 e3) ∧ W.cell? ⟨B4, 0, none⟩ = some (.bool n4) ∧ W.cell? ⟨B4, 1, none⟩ = some (.string s4) ∧ W.cell? ⟨B4, 2, none⟩ = some (.int .i64 e4) ∧ W.cell? ⟨B5, 0, none⟩ = some (.bool n5) ∧ W.cell? ⟨B5, 1, none⟩ = some (.string s5) ∧ W.cell? ⟨B5, 2, none⟩ = some (.int .i64 e5) ∧ K6 w W B0 B1 B2 B3 B4 B5 n0 s0 e0 n1 s1 e1 n2 s2 e2 n3 s3 e3 n4 s4 e4 n5 s5 e5) : W'.cell? ⟨B0, 0, none⟩ = some (.bool n0) ∧ W'.cell? ⟨B0, 1, none⟩ = some (.string s0) ∧ W'.cell? ⟨B0, 2, none⟩ = some (.int .i64 e0) ∧ W'.cell? ⟨B1, 0, none⟩ = some (.bool n1) ∧ W'.cell? ⟨B1, 1, none⟩ = some (.string s1) ∧ W'.cell? ⟨B1, 2, none⟩ = some (.int .i64 e1) ∧ W'.cell? ⟨B2, 0, none⟩ = some (.bool n2) ∧ W'.cell? ⟨B2, 1, none⟩ = some (.string s2) ∧ W'.cell? ⟨B2, 2, none⟩ = some (.int .i64 e2) ∧ W'.cell? ⟨B3, 0, none⟩ = some (.bool n3) ∧ W'.cell? ⟨B3, 1, none⟩ = some (.string s3) ∧ W'.cell? ⟨B3, 2, none⟩ = some (.int .i64 e3) ∧ W'.cell? ⟨B4, 0, none⟩ = some (.bool n4) ∧ W'.cell? ⟨B4, 1, none⟩ = some (.string s4) ∧ W'.cell? ⟨B4, 2, none⟩ = some (.int .i64 e4) ∧ W'.cell? ⟨B5, 0, none⟩ = some (.bool n5) ∧ W'.cell? ⟨B5, 1, none⟩ = some (.string s5) ∧ W'.cell? ⟨B5, 2, none⟩ = some (.int .i64 e5) ∧ K6 w W' B0 B1 B2 B3 B4 B5 n0 s0 e0 n1 s1 e1 n2 s2 e2 n3 s3 e3 n4 s4 e4 n5 s5 e5 := ((K6.last h).call hb).full
theorem rsum_leaf {n n' rg : Bool} {m m' rm : Nat} {e e' re rr : Int} (ha : Dec.ok ⟨n, m, e⟩) (hb : Dec.ok ⟨n', m', e'⟩) (hk : Dec.addR ⟨n, m, e⟩ ⟨n', m', e'⟩ = (⟨rg, rm, re⟩, rr)) {x y q : ByteArray} (hx : Dig.st m = x) (hy : Dig.st m' = y) (hq : Dig.st rm = q) (w : World) :
    Calls Tryd.prog 25 #[.agg #[.bool n, .string x, .int .i64 e], .agg #[.bool n', .string y, .int .i64 e']] w fun r w' => r = .returned (.tuple #[.agg #[.bool rg, .string q, .int .i64 re], .int .i64 rr]) ∧ Below w.heap.size w w' := by
  have := radd_leaf ha hb hk hq w
  unfold Dec.ag at this
  dsimp only at this
  rwa [hx, hy] at this
theorem diff_leaf {n n' rg : Bool} {m m' rm : Nat} {e e' re rr : Int} (ha : Dec.ok ⟨n, m, e⟩) (hb : Dec.ok ⟨n', m', e'⟩) (hk : Dec.addR ⟨n, m, e⟩ (Dec.negR ⟨n', m', e'⟩) = (⟨rg, rm, re⟩, rr)) {x y q : ByteArray} (hx : Dig.st m = x) (hy : Dig.st m' = y) (hq : Dig.st rm = q) (w : World) :
    Calls Tryd.prog 24 #[.agg #[.bool n, .string x, .int .i64 e], .agg #[.bool n', .string y, .int .i64 e']] w fun r w' => r = .returned (.tuple #[.agg #[.bool rg, .string q, .int .i64 re], .int .i64 rr]) ∧ Below w.heap.size w w' := by
  have := dsub_any ha hb w
  rw [hk] at this
  unfold Dec.ag at this
  dsimp only at this
  rwa [hx, hy, hq] at this
theorem rdiff_leaf {n n' rg : Bool} {m m' rm : Nat} {e e' re rr : Int} (ha : Dec.ok ⟨n, m, e⟩) (hb : Dec.ok ⟨n', m', e'⟩) (hk : Dec.addR ⟨n, m, e⟩ (Dec.negR ⟨n', m', e'⟩) = (⟨rg, rm, re⟩, rr)) {x y q : ByteArray} (hx : Dig.st m = x) (hy : Dig.st m' = y) (hq : Dig.st rm = q) (w : World) :
    Calls Tryd.prog 26 #[.agg #[.bool n, .string x, .int .i64 e], .agg #[.bool n', .string y, .int .i64 e']] w fun r w' => r = .returned (.tuple #[.agg #[.bool rg, .string q, .int .i64 re], .int .i64 rr]) ∧ Below w.heap.size w w' := by
  have := rsub_any ha hb w
  rw [hk] at this
  unfold Dec.ag at this
  dsimp only at this
  rwa [hx, hy, hq] at this
theorem rcmp_leaf {n n' : Bool} {m m' : Nat} {e e' : Int} {k : Int} (ha : Dec.ok ⟨n, m, e⟩) (hb : Dec.ok ⟨n', m', e'⟩) (hk : Dec.cmpR ⟨n, m, e⟩ ⟨n', m', e'⟩ = k) {x y : ByteArray} (hx : Dig.st m = x) (hy : Dig.st m' = y) (w : World) :
    Calls Tryd.prog 27 #[.agg #[.bool n, .string x, .int .i64 e], .agg #[.bool n', .string y, .int .i64 e']] w fun r w' => r = .returned (.int .i64 k) ∧ Below w.heap.size w w' := by
  have := rorder_any ha hb w
  unfold Dec.ag at this
  dsimp only at this
  rwa [hk, hx, hy] at this
theorem dec_same (n : Bool) (x : ByteArray) (e : Int) (W : World) : (binOp .eql 23 (.agg #[.bool n, .string x, .int .i64 e]) (.agg #[.bool n, .string x, .int .i64 e])).run Tryd.prog W = .ok (.bool true) W := by rw [dec_eql, decide_eq_true rfl]

set_option maxHeartbeats 8000000 in
set_option maxRecDepth 100000 in
theorem walk_DecimalSums (an : Bool) (sa : ByteArray) (ae : Int) (bn : Bool) (sb : ByteArray) (be : Int) (hsa : sa.size ≤ maxLen) (_ : (Lit.int .i64 ae).wf = true) (hsb : sb.size ≤ maxLen) (_ : (Lit.int .i64 be).wf = true) (w : World) :
    Calls Tryd.prog 7 #[.agg #[.bool an, .string sa, .int .i64 ae], .agg #[.bool bn, .string sb, .int .i64 be]] w fun e w' => e = .returned (.bool true) ∧ Below w.heap.size w w' := by
  have HL := Lib.hid dec_lives
  have K := B2.new w an sa ae bn sb be
  have P0 := K.one
  have P1 := K.two
  have hbb := K.below
  clear K
  obtain ⟨c00, c01, c02⟩ := P0.c3
  obtain ⟨c10, c11, c12⟩ := P1.c3
  by_cases va : Dec.vd an sa ae
  case neg =>
    have VA := Lib.hid (fun w => rdvalid_no hsa va w)
    clear va hsa hsb
    go_enter Tryd.func7, Tryd.ntmps7
    go_wp2_with fail
    refine (VA.out _).mono ?_; rintro _ w1 ⟨rfl, hb1⟩
    clear c00 c01 c02 c10 c11 c12
    replace P0 := (P0.below hb1 P0.lt)
    replace P1 := (P1.below hb1 P1.lt)
    replace hbb := below_then hbb hb1
    clear hb1
    obtain ⟨c00, c01, c02⟩ := P0.c3
    obtain ⟨c10, c11, c12⟩ := P1.c3
    go_wp2_with fail
    refine (HL.out _).mono ?_; rintro _ w2 ⟨rfl, hb2⟩
    clear c00 c01 c02 c10 c11 c12
    replace P0 := (P0.below hb2 P0.lt)
    replace P1 := (P1.below hb2 P1.lt)
    replace hbb := below_then hbb hb2
    clear hb2
    obtain ⟨c00, c01, c02⟩ := P0.c3
    obtain ⟨c10, c11, c12⟩ := P1.c3
    go_wp2
    go_ret
    exact ⟨rfl, hbb⟩
  have VA := Lib.hid (fun w => rdvalid_yes hsa va w)
  by_cases vb : Dec.vd bn sb be
  case neg =>
    have VB := Lib.hid (fun w => rdvalid_no hsb vb w)
    clear va vb hsa hsb
    go_enter Tryd.func7, Tryd.ntmps7
    go_wp2_with fail
    refine (VA.out _).mono ?_; rintro _ w1 ⟨rfl, hb1⟩
    clear c00 c01 c02 c10 c11 c12
    replace P0 := (P0.below hb1 P0.lt)
    replace P1 := (P1.below hb1 P1.lt)
    replace hbb := below_then hbb hb1
    clear hb1
    obtain ⟨c00, c01, c02⟩ := P0.c3
    obtain ⟨c10, c11, c12⟩ := P1.c3
    go_wp2_with fail
    refine (VB.out _).mono ?_; rintro _ w2 ⟨rfl, hb2⟩
    clear c00 c01 c02 c10 c11 c12
    replace P0 := (P0.below hb2 P0.lt)
    replace P1 := (P1.below hb2 P1.lt)
    replace hbb := below_then hbb hb2
    clear hb2
    obtain ⟨c00, c01, c02⟩ := P0.c3
    obtain ⟨c10, c11, c12⟩ := P1.c3
    go_wp2_with fail
    refine (HL.out _).mono ?_; rintro _ w3 ⟨rfl, hb3⟩
    clear c00 c01 c02 c10 c11 c12
    replace P0 := (P0.below hb3 P0.lt)
    replace P1 := (P1.below hb3 P1.lt)
    replace hbb := below_then hbb hb3
    clear hb3
    obtain ⟨c00, c01, c02⟩ := P0.c3
    obtain ⟨c10, c11, c12⟩ := P1.c3
    go_wp2
    go_ret
    exact ⟨rfl, hbb⟩
  have VB := Lib.hid (fun w => rdvalid_yes hsb vb w)
  obtain ⟨am, ham, oa⟩ := Dec.of_vd va
  obtain ⟨bm, hbm, ob⟩ := Dec.of_vd vb
  obtain ⟨k, hk⟩ : ∃ n, Dec.cmpR ⟨an, am, ae⟩ ⟨bn, bm, be⟩ = n := ⟨_, rfl⟩
  obtain ⟨R1, hR1⟩ : ∃ R, Dec.addR ⟨an, am, ae⟩ ⟨bn, bm, be⟩ = R := ⟨_, rfl⟩
  obtain ⟨R2, hR2⟩ : ∃ R, Dec.addR ⟨an, am, ae⟩ (Dec.negR ⟨bn, bm, be⟩) = R := ⟨_, rfl⟩
  obtain ⟨⟨rg, rm, re⟩, rr⟩ := R1
  obtain ⟨⟨tg, tm, te⟩, tr⟩ := R2
  obtain ⟨q1, hq1⟩ : ∃ q, Dig.st rm = q := ⟨_, rfl⟩
  obtain ⟨q2, hq2⟩ : ∃ q, Dig.st tm = q := ⟨_, rfl⟩
  have HA := Lib.hid (fun w => sum_leaf oa ob hR1 ham hbm hq1 w)
  have HRA := Lib.hid (fun w => rsum_leaf oa ob hR1 ham hbm hq1 w)
  have HS := Lib.hid (fun w => diff_leaf oa ob hR2 ham hbm hq2 w)
  have HRS := Lib.hid (fun w => rdiff_leaf oa ob hR2 ham hbm hq2 w)
  have HC := Lib.hid (fun w => cmp_leaf oa ob hk ham hbm w)
  have HRC := Lib.hid (fun w => rcmp_leaf oa ob hk ham hbm w)
  have E1 := dec_same rg q1 re
  have E2 := dec_same tg q2 te
  clear va vb hsa hsb ham hbm oa ob hk hR1 hR2 hq1 hq2
  go_enter Tryd.func7, Tryd.ntmps7
  go_wp2_with fail
  refine (VA.out _).mono ?_; rintro _ w1 ⟨rfl, hb1⟩
  clear c00 c01 c02 c10 c11 c12
  replace P0 := (P0.below hb1 P0.lt)
  replace P1 := (P1.below hb1 P1.lt)
  replace hbb := below_then hbb hb1
  clear hb1
  obtain ⟨c00, c01, c02⟩ := P0.c3
  obtain ⟨c10, c11, c12⟩ := P1.c3
  go_wp2_with fail
  refine (VB.out _).mono ?_; rintro _ w2 ⟨rfl, hb2⟩
  clear c00 c01 c02 c10 c11 c12
  replace P0 := (P0.below hb2 P0.lt)
  replace P1 := (P1.below hb2 P1.lt)
  replace hbb := below_then hbb hb2
  clear hb2
  obtain ⟨c00, c01, c02⟩ := P0.c3
  obtain ⟨c10, c11, c12⟩ := P1.c3
  clear VA VB
  go_wp2_with fail
  refine (HA.out _).mono ?_; rintro _ w3 ⟨rfl, hb3⟩
  clear c00 c01 c02 c10 c11 c12
  replace P0 := (P0.below hb3 P0.lt).alloc (.cells #[.bool rg, .string q1, .int .i64 re] 23)
  replace P1 := (P1.below hb3 P1.lt).alloc (.cells #[.bool rg, .string q1, .int .i64 re] 23)
  have P2 := Whole.new w3 23 #[.bool rg, .string q1, .int .i64 re]
  replace hbb := (below_then hbb hb3).alloc (below_then hbb hb3).size (.cells #[.bool rg, .string q1, .int .i64 re] 23)
  clear hb3
  obtain ⟨c00, c01, c02⟩ := P0.c3
  obtain ⟨c10, c11, c12⟩ := P1.c3
  obtain ⟨c20, c21, c22⟩ := P2.c3
  go_wp2_with fail
  refine (HS.out _).mono ?_; rintro _ w4 ⟨rfl, hb4⟩
  clear c00 c01 c02 c10 c11 c12 c20 c21 c22
  replace P0 := (P0.below hb4 P0.lt).alloc (.cells #[.bool tg, .string q2, .int .i64 te] 23)
  replace P1 := (P1.below hb4 P1.lt).alloc (.cells #[.bool tg, .string q2, .int .i64 te] 23)
  replace P2 := (P2.below hb4 P2.lt).alloc (.cells #[.bool tg, .string q2, .int .i64 te] 23)
  have P3 := Whole.new w4 23 #[.bool tg, .string q2, .int .i64 te]
  replace hbb := (below_then hbb hb4).alloc (below_then hbb hb4).size (.cells #[.bool tg, .string q2, .int .i64 te] 23)
  clear hb4
  obtain ⟨c00, c01, c02⟩ := P0.c3
  obtain ⟨c10, c11, c12⟩ := P1.c3
  obtain ⟨c20, c21, c22⟩ := P2.c3
  obtain ⟨c30, c31, c32⟩ := P3.c3
  go_wp2_with fail
  refine (HRA.out _).mono ?_; rintro _ w5 ⟨rfl, hb5⟩
  clear c00 c01 c02 c10 c11 c12 c20 c21 c22 c30 c31 c32
  replace P0 := (P0.below hb5 P0.lt).alloc (.cells #[.bool rg, .string q1, .int .i64 re] 23)
  replace P1 := (P1.below hb5 P1.lt).alloc (.cells #[.bool rg, .string q1, .int .i64 re] 23)
  replace P2 := (P2.below hb5 P2.lt).alloc (.cells #[.bool rg, .string q1, .int .i64 re] 23)
  replace P3 := (P3.below hb5 P3.lt).alloc (.cells #[.bool rg, .string q1, .int .i64 re] 23)
  have P4 := Whole.new w5 23 #[.bool rg, .string q1, .int .i64 re]
  replace hbb := (below_then hbb hb5).alloc (below_then hbb hb5).size (.cells #[.bool rg, .string q1, .int .i64 re] 23)
  clear hb5
  obtain ⟨c00, c01, c02⟩ := P0.c3
  obtain ⟨c10, c11, c12⟩ := P1.c3
  obtain ⟨c20, c21, c22⟩ := P2.c3
  obtain ⟨c30, c31, c32⟩ := P3.c3
  obtain ⟨c40, c41, c42⟩ := P4.c3
  go_wp2_with fail
  refine (HRS.out _).mono ?_; rintro _ w6 ⟨rfl, hb6⟩
  clear c00 c01 c02 c10 c11 c12 c20 c21 c22 c30 c31 c32 c40 c41 c42
  replace P0 := (P0.below hb6 P0.lt).alloc (.cells #[.bool tg, .string q2, .int .i64 te] 23)
  replace P1 := (P1.below hb6 P1.lt).alloc (.cells #[.bool tg, .string q2, .int .i64 te] 23)
  replace P2 := (P2.below hb6 P2.lt).alloc (.cells #[.bool tg, .string q2, .int .i64 te] 23)
  replace P3 := (P3.below hb6 P3.lt).alloc (.cells #[.bool tg, .string q2, .int .i64 te] 23)
  replace P4 := (P4.below hb6 P4.lt).alloc (.cells #[.bool tg, .string q2, .int .i64 te] 23)
  have P5 := Whole.new w6 23 #[.bool tg, .string q2, .int .i64 te]
  replace hbb := (below_then hbb hb6).alloc (below_then hbb hb6).size (.cells #[.bool tg, .string q2, .int .i64 te] 23)
  clear hb6
  obtain ⟨c00, c01, c02⟩ := P0.c3
  obtain ⟨c10, c11, c12⟩ := P1.c3
  obtain ⟨c20, c21, c22⟩ := P2.c3
  obtain ⟨c30, c31, c32⟩ := P3.c3
  obtain ⟨c40, c41, c42⟩ := P4.c3
  obtain ⟨c50, c51, c52⟩ := P5.c3
  clear HA HS HRA HRS
  have K := K6.mk P0 P1 P2 P3 P4 P5 hbb
  clear P0 P1 P2 P3 P4 P5 hbb
  go_upto_region 7 with fail
  go_region_held3 (fun W => W.cell? ⟨w.heap.size, 0, none⟩ = some (.bool an) ∧ W.cell? ⟨w.heap.size, 1, none⟩ = some (.string sa) ∧ W.cell? ⟨w.heap.size, 2, none⟩ = some (.int .i64 ae) ∧ W.cell? ⟨w.heap.size + 1, 0, none⟩ = some (.bool bn) ∧ W.cell? ⟨w.heap.size + 1, 1, none⟩ = some (.string sb) ∧ W.cell? ⟨w.heap.size + 1, 2, none⟩ = some (.int .i64 be) ∧ W.cell? ⟨w3.heap.size, 0, none⟩ = some (.bool rg) ∧ W.cell? ⟨w3.heap.size, 1, none⟩ = some (.string q1) ∧ W.cell? ⟨w3.heap.size, 2, none⟩ = some (.int .i64 re) ∧ W.cell? ⟨w4.heap.size, 0, none⟩ = some (.bool tg) ∧ W.cell? ⟨w4.heap.size, 1, none⟩ = some (.string q2) ∧ W.cell? ⟨w4.heap.size, 2, none⟩ = some (.int .i64 te) ∧ W.cell? ⟨w5.heap.size, 0, none⟩ = some (.bool rg) ∧ W.cell? ⟨w5.heap.size, 1, none⟩ = some (.string q1) ∧ W.cell? ⟨w5.heap.size, 2, none⟩ = some (.int .i64 re) ∧ W.cell? ⟨w6.heap.size, 0, none⟩ = some (.bool tg) ∧ W.cell? ⟨w6.heap.size, 1, none⟩ = some (.string q2) ∧ W.cell? ⟨w6.heap.size, 2, none⟩ = some (.int .i64 te) ∧ K6 w W (w.heap.size) (w.heap.size + 1) (w3.heap.size) (w4.heap.size) (w5.heap.size) (w6.heap.size) an sa ae bn sb be rg q1 re tg q2 te rg q1 re tg q2 te) (first | exact K.drew.full | exact K6.keep (by assumption) (by assumption)) (first | (go_at_call 22; refine (HC.out _).mono ?_; rintro _ w8 ⟨rfl, hb8⟩) | (go_at_call 27; refine (HRC.out _).mono ?_; rintro _ w9 ⟨rfl, hb9⟩) | (go_at_call 13; refine (HL.out _).mono ?_; rintro e w10 ⟨rfl, hb10⟩))
  all_goals
    rename_i kept
    go_wp2
    go_ret
    exact ⟨rfl, (K6.last kept).below⟩
end Go.Proofs.YtcnfgcdbjofihaaDoor
