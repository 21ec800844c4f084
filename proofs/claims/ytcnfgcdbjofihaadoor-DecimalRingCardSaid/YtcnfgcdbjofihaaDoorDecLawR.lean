/- Decimals: the laws of a ring. -/
import Derived.Test.YtcnfgcdbjofihaaDoorDecMul
import Derived.Test.YtcnfgcdbjofihaaDoorDecLawO
namespace Go.Proofs.YtcnfgcdbjofihaaDoor
open Go.RowKit

theorem prod_leaf {n n' rg : Bool} {m m' rm : Nat} {e e' re rr : Int} (ha : Dec.ok ⟨n, m, e⟩) (hb : Dec.ok ⟨n', m', e'⟩) (hk : Dec.mulR ⟨n, m, e⟩ ⟨n', m', e'⟩ = (⟨rg, rm, re⟩, rr)) {x y q : ByteArray} (hx : Dig.st m = x) (hy : Dig.st m' = y) (hq : Dig.st rm = q) (w : World) :
    Calls Tryd.prog 46 #[.agg #[.bool n, .string x, .int .i64 e], .agg #[.bool n', .string y, .int .i64 e']] w fun r w' => r = .returned (.tuple #[.agg #[.bool rg, .string q, .int .i64 re], .int .i64 rr]) ∧ Below w.heap.size w w' := by
  have := dmul_any ha hb w
  rw [hk] at this
  unfold Dec.ag at this
  dsimp only at this
  rwa [hx, hy, hq] at this
theorem quot_leaf {n n' rg : Bool} {m m' rm : Nat} {e e' re rr : Int} (ha : Dec.ok ⟨n, m, e⟩) (hb : Dec.ok ⟨n', m', e'⟩) (hk : Dec.divR ⟨n, m, e⟩ ⟨n', m', e'⟩ = (⟨rg, rm, re⟩, rr)) {x y q : ByteArray} (hx : Dig.st m = x) (hy : Dig.st m' = y) (hq : Dig.st rm = q) (w : World) :
    Calls Tryd.prog 47 #[.agg #[.bool n, .string x, .int .i64 e], .agg #[.bool n', .string y, .int .i64 e']] w fun r w' => r = .returned (.tuple #[.agg #[.bool rg, .string q, .int .i64 re], .int .i64 rr]) ∧ Below w.heap.size w w' := by
  have := ddiv_any ha hb w
  rw [hk] at this
  unfold Dec.ag at this
  dsimp only at this
  rwa [hx, hy, hq] at this
theorem minus_leaf {n n' rg : Bool} {m m' rm : Nat} {e e' re rr : Int} (ha : Dec.ok ⟨n, m, e⟩) (hb : Dec.ok ⟨n', m', e'⟩) (hk : Dec.addR ⟨n, m, e⟩ (Dec.negR ⟨n', m', e'⟩) = (⟨rg, rm, re⟩, rr)) {x y q : ByteArray} (hx : Dig.st m = x) (hy : Dig.st m' = y) (hq : Dig.st rm = q) (w : World) :
    Calls Tryd.prog 24 #[.agg #[.bool n, .string x, .int .i64 e], .agg #[.bool n', .string y, .int .i64 e']] w fun r w' => r = .returned (.tuple #[.agg #[.bool rg, .string q, .int .i64 re], .int .i64 rr]) ∧ Below w.heap.size w w' := by
  have := dsub_any ha hb w
  rw [hk] at this
  unfold Dec.ag at this
  dsimp only at this
  rwa [hx, hy, hq] at this
theorem dec_neq (n : Bool) (x : ByteArray) (e : Int) (W : World) : (binOp .neq 23 (.agg #[.bool n, .string x, .int .i64 e]) (.agg #[.bool n, .string x, .int .i64 e])).run Tryd.prog W = .ok (.bool false) W := by simp [go_sem]
theorem Dec.split {R : Dec.Dc × Int} (hR : Dec.ok R.1) : ∃ (g : Bool) (m : Nat) (e r : Int) (q : ByteArray), R = (⟨g, m, e⟩, r) ∧ Dig.st m = q ∧ Dec.ok ⟨g, m, e⟩ := ⟨R.1.neg, R.1.m, R.1.e, R.2, _, rfl, rfl, hR⟩
theorem Dec.div_ok {a b : Dec.Dc} (ha : Dec.ok a) (hb : Dec.ok b) : Dec.ok (Dec.divR a b).1 := by
  obtain ⟨a1, a2, a3, _⟩ := Dec.ok_all ha
  obtain ⟨b1, b2, b3, _⟩ := Dec.ok_all hb
  unfold Dec.divR
  split
  · exact Dec.ok_z0
  · split
    · exact Dec.ok_z0
    · exact Dec.norm_ok _ _ (by omega)
theorem Dec.same_st {g g' : Bool} {m m' : Nat} {e e' r : Int} {q q' : ByteArray} (h : ((⟨g, m, e⟩, r) : Dec.Dc × Int) = (⟨g', m', e'⟩, 0)) (hq : Dig.st m = q) (hq' : Dig.st m' = q') : g = g' ∧ q = q' ∧ e = e' ∧ r = 0 := by
  simp only [Prod.mk.injEq, Dec.Dc.mk.injEq] at h
  exact ⟨h.1.1, by rw [← hq, ← hq', h.1.2.1], h.1.2.2, h.2⟩

set_option maxHeartbeats 8000000 in
set_option maxRecDepth 100000 in
theorem walk_DecimalRing (an : Bool) (sa : ByteArray) (ae : Int) (bn : Bool) (sb : ByteArray) (be : Int) (cn : Bool) (sc : ByteArray) (ce : Int) (hsa : sa.size ≤ maxLen) (_ : (Lit.int .i64 ae).wf = true) (hsb : sb.size ≤ maxLen) (_ : (Lit.int .i64 be).wf = true) (hsc : sc.size ≤ maxLen) (_ : (Lit.int .i64 ce).wf = true) (w : World) :
    Calls Tryd.prog 12 #[.agg #[.bool an, .string sa, .int .i64 ae, .bool bn, .string sb, .int .i64 be, .bool cn, .string sc, .int .i64 ce]] w fun e w' => e = .returned (.bool true) ∧ Below w.heap.size w w' := by
  have HL := Lib.hid dec_lives
  have Z := Whole.new w 36 #[.bool an, .string sa, .int .i64 ae, .bool bn, .string sb, .int .i64 be, .bool cn, .string sc, .int .i64 ce]
  have x0 := Z.cell 0
  have x1 := Z.cell 1
  have x2 := Z.cell 2
  have x3 := Z.cell 3
  have x4 := Z.cell 4
  have x5 := Z.cell 5
  have x6 := Z.cell 6
  have x7 := Z.cell 7
  have x8 := Z.cell 8
  have HSA := Lib.hid hsa
  have HSB := Lib.hid hsb
  have HSC := Lib.hid hsc
  clear hsa hsb hsc
  go_enter Tryd.func12, Tryd.ntmps12
  go_upto_region 1 with fail
  go_cut [3, 4, 5] (fun t3 t4 t5 wx => ∃ B1 B2 B3 : Nat, t3 = .pointer (some ⟨B1, 0, none⟩) ∧ t4 = .pointer (some ⟨B2, 0, none⟩) ∧ t5 = .pointer (some ⟨B3, 0, none⟩) ∧ T3 w wx B1 B2 B3 an sa ae bn sb be cn sc ce)
  case first =>
    as_aux_lemma =>
    go_region
    all_goals
      clear x0 x1 x2 x3 x4 x5 x6 x7 x8 Z
      go_wp2_with fail
      go_meet
      refine ⟨_, _, _, rfl, rfl, rfl, T3.drew ?_⟩
      constructor
      · first | exact three1 (by simp) | exact three2 (by simp) | exact three3 (by simp)
      · first | exact three1 (by simp) | exact three2 (by simp) | exact three3 (by simp)
      · first | exact three1 (by simp) | exact three2 (by simp) | exact three3 (by simp)
      · exact ((((Below.refl w.heap.size w).alloc (Nat.le_refl _) _).alloc (by simp) _).alloc (by simp; omega) _).alloc (by simp; omega) _
  case rest =>
  obtain ⟨B1, B2, B3, rfl, rfl, rfl, K⟩ := hcut
  clear x0 x1 x2 x3 x4 x5 x6 x7 x8 Z
  have P0 := K.one
  have P1 := K.two
  have P2 := K.three
  have hbb := K.below
  clear K
  obtain ⟨c00, c01, c02⟩ := P0.c3
  obtain ⟨c10, c11, c12⟩ := P1.c3
  obtain ⟨c20, c21, c22⟩ := P2.c3
  by_cases va : Dec.vd an sa ae
  case neg =>
    have VA := Lib.hid (fun w => rdvalid_no HSA.out va w)
    clear va
    go_wp2_with fail
    refine (VA.out _).mono ?_; rintro _ w1 ⟨rfl, hb1⟩
    clear c00 c01 c02 c10 c11 c12 c20 c21 c22
    replace P0 := (P0.below hb1 P0.lt)
    replace P1 := (P1.below hb1 P1.lt)
    replace P2 := (P2.below hb1 P2.lt)
    replace hbb := below_then hbb hb1
    clear hb1
    obtain ⟨c00, c01, c02⟩ := P0.c3
    obtain ⟨c10, c11, c12⟩ := P1.c3
    obtain ⟨c20, c21, c22⟩ := P2.c3
    go_wp2_with fail
    refine (HL.out _).mono ?_; rintro _ w2 ⟨rfl, hb2⟩
    clear c00 c01 c02 c10 c11 c12 c20 c21 c22
    replace P0 := (P0.below hb2 P0.lt)
    replace P1 := (P1.below hb2 P1.lt)
    replace P2 := (P2.below hb2 P2.lt)
    replace hbb := below_then hbb hb2
    clear hb2
    obtain ⟨c00, c01, c02⟩ := P0.c3
    obtain ⟨c10, c11, c12⟩ := P1.c3
    obtain ⟨c20, c21, c22⟩ := P2.c3
    go_wp2
    go_ret
    exact ⟨rfl, hbb⟩
  have VA := Lib.hid (fun w => rdvalid_yes HSA.out va w)
  by_cases vb : Dec.vd bn sb be
  case neg =>
    have VB := Lib.hid (fun w => rdvalid_no HSB.out vb w)
    clear va vb
    go_wp2_with fail
    refine (VA.out _).mono ?_; rintro _ w1 ⟨rfl, hb1⟩
    clear c00 c01 c02 c10 c11 c12 c20 c21 c22
    replace P0 := (P0.below hb1 P0.lt)
    replace P1 := (P1.below hb1 P1.lt)
    replace P2 := (P2.below hb1 P2.lt)
    replace hbb := below_then hbb hb1
    clear hb1
    obtain ⟨c00, c01, c02⟩ := P0.c3
    obtain ⟨c10, c11, c12⟩ := P1.c3
    obtain ⟨c20, c21, c22⟩ := P2.c3
    go_wp2_with fail
    refine (VB.out _).mono ?_; rintro _ w2 ⟨rfl, hb2⟩
    clear c00 c01 c02 c10 c11 c12 c20 c21 c22
    replace P0 := (P0.below hb2 P0.lt)
    replace P1 := (P1.below hb2 P1.lt)
    replace P2 := (P2.below hb2 P2.lt)
    replace hbb := below_then hbb hb2
    clear hb2
    obtain ⟨c00, c01, c02⟩ := P0.c3
    obtain ⟨c10, c11, c12⟩ := P1.c3
    obtain ⟨c20, c21, c22⟩ := P2.c3
    go_wp2_with fail
    refine (HL.out _).mono ?_; rintro _ w3 ⟨rfl, hb3⟩
    clear c00 c01 c02 c10 c11 c12 c20 c21 c22
    replace P0 := (P0.below hb3 P0.lt)
    replace P1 := (P1.below hb3 P1.lt)
    replace P2 := (P2.below hb3 P2.lt)
    replace hbb := below_then hbb hb3
    clear hb3
    obtain ⟨c00, c01, c02⟩ := P0.c3
    obtain ⟨c10, c11, c12⟩ := P1.c3
    obtain ⟨c20, c21, c22⟩ := P2.c3
    go_wp2
    go_ret
    exact ⟨rfl, hbb⟩
  have VB := Lib.hid (fun w => rdvalid_yes HSB.out vb w)
  by_cases vc : Dec.vd cn sc ce
  case neg =>
    have VC := Lib.hid (fun w => rdvalid_no HSC.out vc w)
    clear va vb vc
    go_wp2_with fail
    refine (VA.out _).mono ?_; rintro _ w1 ⟨rfl, hb1⟩
    clear c00 c01 c02 c10 c11 c12 c20 c21 c22
    replace P0 := (P0.below hb1 P0.lt)
    replace P1 := (P1.below hb1 P1.lt)
    replace P2 := (P2.below hb1 P2.lt)
    replace hbb := below_then hbb hb1
    clear hb1
    obtain ⟨c00, c01, c02⟩ := P0.c3
    obtain ⟨c10, c11, c12⟩ := P1.c3
    obtain ⟨c20, c21, c22⟩ := P2.c3
    go_wp2_with fail
    refine (VB.out _).mono ?_; rintro _ w2 ⟨rfl, hb2⟩
    clear c00 c01 c02 c10 c11 c12 c20 c21 c22
    replace P0 := (P0.below hb2 P0.lt)
    replace P1 := (P1.below hb2 P1.lt)
    replace P2 := (P2.below hb2 P2.lt)
    replace hbb := below_then hbb hb2
    clear hb2
    obtain ⟨c00, c01, c02⟩ := P0.c3
    obtain ⟨c10, c11, c12⟩ := P1.c3
    obtain ⟨c20, c21, c22⟩ := P2.c3
    go_wp2_with fail
    refine (VC.out _).mono ?_; rintro _ w3 ⟨rfl, hb3⟩
    clear c00 c01 c02 c10 c11 c12 c20 c21 c22
    replace P0 := (P0.below hb3 P0.lt)
    replace P1 := (P1.below hb3 P1.lt)
    replace P2 := (P2.below hb3 P2.lt)
    replace hbb := below_then hbb hb3
    clear hb3
    obtain ⟨c00, c01, c02⟩ := P0.c3
    obtain ⟨c10, c11, c12⟩ := P1.c3
    obtain ⟨c20, c21, c22⟩ := P2.c3
    go_wp2_with fail
    refine (HL.out _).mono ?_; rintro _ w4 ⟨rfl, hb4⟩
    clear c00 c01 c02 c10 c11 c12 c20 c21 c22
    replace P0 := (P0.below hb4 P0.lt)
    replace P1 := (P1.below hb4 P1.lt)
    replace P2 := (P2.below hb4 P2.lt)
    replace hbb := below_then hbb hb4
    clear hb4
    obtain ⟨c00, c01, c02⟩ := P0.c3
    obtain ⟨c10, c11, c12⟩ := P1.c3
    obtain ⟨c20, c21, c22⟩ := P2.c3
    go_wp2
    go_ret
    exact ⟨rfl, hbb⟩
  have VC := Lib.hid (fun w => rdvalid_yes HSC.out vc w)
  obtain ⟨am, ham, oa⟩ := Dec.of_vd va
  obtain ⟨bm, hbm, ob⟩ := Dec.of_vd vb
  obtain ⟨cm, hcm, oc⟩ := Dec.of_vd vc
  clear va vb vc HSA HSB HSC
  have HCZ : Hid (cm = 0 ∨ (cm ≠ 0 ∧ sc.toList.isEmpty = false)) := Lib.hid (by
    by_cases h : cm = 0
    · exact Or.inl h
    · exact Or.inr ⟨h, by rw [← hcm]; exact Dig.some_of (Dec.st_pos h)⟩)
  obtain ⟨g1, m1, z1, r1, q1, hR1, hq1, o1⟩ := Dec.split (Dec.add_ok oa ob)
  have hRb : Dec.addR ⟨bn, bm, be⟩ ⟨an, am, ae⟩ = (⟨g1, m1, z1⟩, r1) := by rw [Dec.add_comm' ob oa, hR1]
  obtain ⟨g2, m2, z2, r2, q2, hR2, hq2, o2⟩ := Dec.split (Dec.add_ok o1 (Dec.neg_ok ob))
  obtain ⟨g3, m3, z3, r3, q3, hR3, hq3, o3⟩ := Dec.split (Dec.add_ok ob oc)
  obtain ⟨g4, m4, z4, r4, q4, hR4, hq4, o4⟩ := Dec.split (Dec.add_ok o1 oc)
  obtain ⟨g5, m5, z5, r5, q5, hR5, hq5, o5⟩ := Dec.split (Dec.add_ok oa o3)
  obtain ⟨g6, m6, z6, r6, q6, hR6, hq6, o6⟩ := Dec.split (Dec.mul_ok _ _ o1 oc)
  obtain ⟨g7, m7, z7, r7, q7, hR7, hq7, o7⟩ := Dec.split (Dec.mul_ok _ _ oa oc)
  obtain ⟨g8, m8, z8, r8, q8, hR8, hq8, o8⟩ := Dec.split (Dec.mul_ok _ _ oc ob)
  obtain ⟨g9, m9, z9, r9, q9, hR9, hq9, o9⟩ := Dec.split (Dec.add_ok o7 o8)
  obtain ⟨g10, m10, z10, r10, q10, hR10, hq10, o10⟩ := Dec.split (Dec.div_ok o7 oc)
  have HB : Hid (r1 = 0 → g2 = an ∧ q2 = sa ∧ z2 = ae ∧ r2 = 0) := Lib.hid (fun h => Dec.same_st (by
    rw [← hR2]
    have := Dec.sub_back oa ob (by rw [hR1]; exact h)
    rwa [hR1] at this) hq2 ham)
  have HAS : Hid (r1 = 0 → r3 = 0 → r4 = 0 → g5 = g4 ∧ q5 = q4 ∧ z5 = z4 ∧ r5 = 0) := Lib.hid (fun h1 h3 h4 => Dec.same_st (by
    rw [← hR5]
    have := Dec.add_assoc' oa ob oc (by rw [hR1]; exact h1) (by rw [hR3]; exact h3) (by rw [hR1, hR4]; exact h4)
    rwa [hR1, hR3, hR4] at this) hq5 hq4)
  have HDI : Hid (r1 = 0 → r6 = 0 → r7 = 0 → r8 = 0 → g9 = g6 ∧ q9 = q6 ∧ z9 = z6 ∧ r9 = 0) := Lib.hid (fun h1 h6 h7 h8 => Dec.same_st (by
    rw [← hR9]
    have := Dec.mul_dist oa ob oc (by rw [hR1]; exact h1) (by rw [hR1, hR6]; exact h6) (by rw [hR7]; exact h7) (by rw [hR8]; exact h8)
    rwa [hR1, hR6, hR7, hR8] at this) hq9 hq6)
  have HQU : Hid (r7 = 0 → cm ≠ 0 → g10 = an ∧ q10 = sa ∧ z10 = ae ∧ r10 = 0) := Lib.hid (fun h7 h0 => Dec.same_st (by
    rw [← hR10]
    have := Dec.div_mul oa oc h0 (by rw [hR7]; exact h7)
    rwa [hR7] at this) hq10 ham)
  have HS1 := Lib.hid (fun w => sum_leaf oa ob hR1 ham hbm hq1 w)
  have HSB := Lib.hid (fun w => sum_leaf ob oa hRb hbm ham hq1 w)
  have HS2 := Lib.hid (fun w => minus_leaf o1 ob hR2 hq1 hbm hq2 w)
  have HS3 := Lib.hid (fun w => sum_leaf ob oc hR3 hbm hcm hq3 w)
  have HS4 := Lib.hid (fun w => sum_leaf o1 oc hR4 hq1 hcm hq4 w)
  have HS5 := Lib.hid (fun w => sum_leaf oa o3 hR5 ham hq3 hq5 w)
  have HS6 := Lib.hid (fun w => prod_leaf o1 oc hR6 hq1 hcm hq6 w)
  have HS7 := Lib.hid (fun w => prod_leaf oa oc hR7 ham hcm hq7 w)
  have HS8 := Lib.hid (fun w => prod_leaf oc ob hR8 hcm hbm hq8 w)
  have HS9 := Lib.hid (fun w => sum_leaf o7 o8 hR9 hq7 hq8 hq9 w)
  have HS10 := Lib.hid (fun w => quot_leaf o7 oc hR10 hq7 hcm hq10 w)
  have HCE : Hid (cm = 0 → sc = ⟨#[]⟩) := Lib.hid (fun h => by rw [← hcm, h, Dec.st0])
  clear ham hbm hcm oa ob oc hRb hR1 hR2 hR3 hR4 hR5 hR6 hR7 hR8 hR9 hR10 o1 o2 o3 o4 o5 o6 o7 o8 o9 o10 hq1 hq2 hq3 hq4 hq5 hq6 hq7 hq8 hq9 hq10
  go_wp2_with fail
  refine (VA.out _).mono ?_; rintro _ w1 ⟨rfl, hb1⟩
  clear c00 c01 c02 c10 c11 c12 c20 c21 c22
  replace P0 := (P0.below hb1 P0.lt)
  replace P1 := (P1.below hb1 P1.lt)
  replace P2 := (P2.below hb1 P2.lt)
  replace hbb := below_then hbb hb1
  clear hb1
  obtain ⟨c00, c01, c02⟩ := P0.c3
  obtain ⟨c10, c11, c12⟩ := P1.c3
  obtain ⟨c20, c21, c22⟩ := P2.c3
  go_wp2_with fail
  refine (VB.out _).mono ?_; rintro _ w2 ⟨rfl, hb2⟩
  clear c00 c01 c02 c10 c11 c12 c20 c21 c22
  replace P0 := (P0.below hb2 P0.lt)
  replace P1 := (P1.below hb2 P1.lt)
  replace P2 := (P2.below hb2 P2.lt)
  replace hbb := below_then hbb hb2
  clear hb2
  obtain ⟨c00, c01, c02⟩ := P0.c3
  obtain ⟨c10, c11, c12⟩ := P1.c3
  obtain ⟨c20, c21, c22⟩ := P2.c3
  go_wp2_with fail
  refine (VC.out _).mono ?_; rintro _ w3 ⟨rfl, hb3⟩
  clear c00 c01 c02 c10 c11 c12 c20 c21 c22
  replace P0 := (P0.below hb3 P0.lt)
  replace P1 := (P1.below hb3 P1.lt)
  replace P2 := (P2.below hb3 P2.lt)
  replace hbb := below_then hbb hb3
  clear hb3
  obtain ⟨c00, c01, c02⟩ := P0.c3
  obtain ⟨c10, c11, c12⟩ := P1.c3
  obtain ⟨c20, c21, c22⟩ := P2.c3
  clear VA VB VC
  go_wp2_with fail
  refine (HS1.out _).mono ?_; rintro _ w4 ⟨rfl, hb4⟩
  clear c00 c01 c02 c10 c11 c12 c20 c21 c22
  replace P0 := (P0.below hb4 P0.lt).alloc (.cells #[.bool g1, .string q1, .int .i64 z1] 23)
  replace P1 := (P1.below hb4 P1.lt).alloc (.cells #[.bool g1, .string q1, .int .i64 z1] 23)
  replace P2 := (P2.below hb4 P2.lt).alloc (.cells #[.bool g1, .string q1, .int .i64 z1] 23)
  have P3 := Whole.new w4 23 #[.bool g1, .string q1, .int .i64 z1]
  replace hbb := (below_then hbb hb4).alloc (below_then hbb hb4).size (.cells #[.bool g1, .string q1, .int .i64 z1] 23)
  clear hb4
  obtain ⟨c00, c01, c02⟩ := P0.c3
  obtain ⟨c10, c11, c12⟩ := P1.c3
  obtain ⟨c20, c21, c22⟩ := P2.c3
  obtain ⟨c30, c31, c32⟩ := P3.c3
  go_wp2_with fail
  refine (HSB.out _).mono ?_; rintro _ w5 ⟨rfl, hb5⟩
  clear c00 c01 c02 c10 c11 c12 c20 c21 c22 c30 c31 c32
  replace P0 := (P0.below hb5 P0.lt).alloc (.cells #[.bool g1, .string q1, .int .i64 z1] 23)
  replace P1 := (P1.below hb5 P1.lt).alloc (.cells #[.bool g1, .string q1, .int .i64 z1] 23)
  replace P2 := (P2.below hb5 P2.lt).alloc (.cells #[.bool g1, .string q1, .int .i64 z1] 23)
  replace P3 := (P3.below hb5 P3.lt).alloc (.cells #[.bool g1, .string q1, .int .i64 z1] 23)
  have P4 := Whole.new w5 23 #[.bool g1, .string q1, .int .i64 z1]
  replace hbb := (below_then hbb hb5).alloc (below_then hbb hb5).size (.cells #[.bool g1, .string q1, .int .i64 z1] 23)
  clear hb5
  obtain ⟨c00, c01, c02⟩ := P0.c3
  obtain ⟨c10, c11, c12⟩ := P1.c3
  obtain ⟨c20, c21, c22⟩ := P2.c3
  obtain ⟨c30, c31, c32⟩ := P3.c3
  obtain ⟨c40, c41, c42⟩ := P4.c3
  clear HS1 HSB
  go_upto_region 6 with fail
  go_cut [67] (fun t wx => t = .bool false ∧ wx = w5.alloc (.cells #[.bool g1, .string q1, .int .i64 z1] 23))
  case first =>
    as_aux_lemma =>
    have E := dec_neq g1 q1 z1
    go_wp2_with fail
    go_meet
    exact ⟨rfl, rfl⟩
  case rest =>
  obtain ⟨rfl, rfl⟩ := hcut
  as_aux_lemma =>
  clear c40 c41 c42 P4
  go_wp2_with fail
  refine (HS2.out _).mono ?_; rintro _ w6 ⟨rfl, hb6⟩
  clear c00 c01 c02 c10 c11 c12 c20 c21 c22 c30 c31 c32
  replace P0 := (P0.below hb6 P0.lt).alloc (.cells #[.bool g2, .string q2, .int .i64 z2] 23)
  replace P1 := (P1.below hb6 P1.lt).alloc (.cells #[.bool g2, .string q2, .int .i64 z2] 23)
  replace P2 := (P2.below hb6 P2.lt).alloc (.cells #[.bool g2, .string q2, .int .i64 z2] 23)
  replace P3 := (P3.below hb6 P3.lt).alloc (.cells #[.bool g2, .string q2, .int .i64 z2] 23)
  have P5 := Whole.new w6 23 #[.bool g2, .string q2, .int .i64 z2]
  replace hbb := (below_then hbb hb6).alloc (below_then hbb hb6).size (.cells #[.bool g2, .string q2, .int .i64 z2] 23)
  clear hb6
  obtain ⟨c00, c01, c02⟩ := P0.c3
  obtain ⟨c10, c11, c12⟩ := P1.c3
  obtain ⟨c20, c21, c22⟩ := P2.c3
  obtain ⟨c30, c31, c32⟩ := P3.c3
  obtain ⟨c50, c51, c52⟩ := P5.c3
  go_upto_region 9 with fail
  go_cut [84] (fun t wx => t = .bool false ∧ wx = w6.alloc (.cells #[.bool g2, .string q2, .int .i64 z2] 23))
  case first =>
    as_aux_lemma =>
    by_cases hr1 : r1 = 0
    case neg =>
      have dr1 : (r1 == 0) = false := by simpa using hr1
      clear hr1
      go_wp2_with fail
      go_meet
      exact ⟨rfl, rfl⟩
    obtain ⟨rfl, rfl, rfl, rfl⟩ := HB.out hr1
    have E := dec_neq g2 q2 z2
    subst hr1
    go_wp2_with fail
    go_meet
    exact ⟨rfl, rfl⟩
  case rest =>
  obtain ⟨rfl, rfl⟩ := hcut
  as_aux_lemma =>
  clear c50 c51 c52 P5
  clear HB HS2
  go_wp2_with fail
  refine (HS3.out _).mono ?_; rintro _ w7 ⟨rfl, hb7⟩
  clear c00 c01 c02 c10 c11 c12 c20 c21 c22 c30 c31 c32
  replace P0 := (P0.below hb7 P0.lt).alloc (.cells #[.bool g3, .string q3, .int .i64 z3] 23)
  replace P1 := (P1.below hb7 P1.lt).alloc (.cells #[.bool g3, .string q3, .int .i64 z3] 23)
  replace P2 := (P2.below hb7 P2.lt).alloc (.cells #[.bool g3, .string q3, .int .i64 z3] 23)
  replace P3 := (P3.below hb7 P3.lt).alloc (.cells #[.bool g3, .string q3, .int .i64 z3] 23)
  have P6 := Whole.new w7 23 #[.bool g3, .string q3, .int .i64 z3]
  replace hbb := (below_then hbb hb7).alloc (below_then hbb hb7).size (.cells #[.bool g3, .string q3, .int .i64 z3] 23)
  clear hb7
  obtain ⟨c00, c01, c02⟩ := P0.c3
  obtain ⟨c10, c11, c12⟩ := P1.c3
  obtain ⟨c20, c21, c22⟩ := P2.c3
  obtain ⟨c30, c31, c32⟩ := P3.c3
  obtain ⟨c60, c61, c62⟩ := P6.c3
  go_wp2_with fail
  refine (HS4.out _).mono ?_; rintro _ w8 ⟨rfl, hb8⟩
  clear c00 c01 c02 c10 c11 c12 c20 c21 c22 c30 c31 c32 c60 c61 c62
  replace P0 := (P0.below hb8 P0.lt).alloc (.cells #[.bool g4, .string q4, .int .i64 z4] 23)
  replace P1 := (P1.below hb8 P1.lt).alloc (.cells #[.bool g4, .string q4, .int .i64 z4] 23)
  replace P2 := (P2.below hb8 P2.lt).alloc (.cells #[.bool g4, .string q4, .int .i64 z4] 23)
  replace P3 := (P3.below hb8 P3.lt).alloc (.cells #[.bool g4, .string q4, .int .i64 z4] 23)
  replace P6 := (P6.below hb8 P6.lt).alloc (.cells #[.bool g4, .string q4, .int .i64 z4] 23)
  have P7 := Whole.new w8 23 #[.bool g4, .string q4, .int .i64 z4]
  replace hbb := (below_then hbb hb8).alloc (below_then hbb hb8).size (.cells #[.bool g4, .string q4, .int .i64 z4] 23)
  clear hb8
  obtain ⟨c00, c01, c02⟩ := P0.c3
  obtain ⟨c10, c11, c12⟩ := P1.c3
  obtain ⟨c20, c21, c22⟩ := P2.c3
  obtain ⟨c30, c31, c32⟩ := P3.c3
  obtain ⟨c60, c61, c62⟩ := P6.c3
  obtain ⟨c70, c71, c72⟩ := P7.c3
  go_wp2_with fail
  refine (HS5.out _).mono ?_; rintro _ w9 ⟨rfl, hb9⟩
  clear c00 c01 c02 c10 c11 c12 c20 c21 c22 c30 c31 c32 c60 c61 c62 c70 c71 c72
  replace P0 := (P0.below hb9 P0.lt).alloc (.cells #[.bool g5, .string q5, .int .i64 z5] 23)
  replace P1 := (P1.below hb9 P1.lt).alloc (.cells #[.bool g5, .string q5, .int .i64 z5] 23)
  replace P2 := (P2.below hb9 P2.lt).alloc (.cells #[.bool g5, .string q5, .int .i64 z5] 23)
  replace P3 := (P3.below hb9 P3.lt).alloc (.cells #[.bool g5, .string q5, .int .i64 z5] 23)
  replace P6 := (P6.below hb9 P6.lt).alloc (.cells #[.bool g5, .string q5, .int .i64 z5] 23)
  replace P7 := (P7.below hb9 P7.lt).alloc (.cells #[.bool g5, .string q5, .int .i64 z5] 23)
  have P8 := Whole.new w9 23 #[.bool g5, .string q5, .int .i64 z5]
  replace hbb := (below_then hbb hb9).alloc (below_then hbb hb9).size (.cells #[.bool g5, .string q5, .int .i64 z5] 23)
  clear hb9
  obtain ⟨c00, c01, c02⟩ := P0.c3
  obtain ⟨c10, c11, c12⟩ := P1.c3
  obtain ⟨c20, c21, c22⟩ := P2.c3
  obtain ⟨c30, c31, c32⟩ := P3.c3
  obtain ⟨c60, c61, c62⟩ := P6.c3
  obtain ⟨c70, c71, c72⟩ := P7.c3
  obtain ⟨c80, c81, c82⟩ := P8.c3
  go_upto_region 14 with fail
  go_cut [121] (fun t wx => t = .bool false ∧ wx = w9.alloc (.cells #[.bool g5, .string q5, .int .i64 z5] 23))
  case first =>
    as_aux_lemma =>
    by_cases hr1 : r1 = 0
    case neg =>
      have dr1 : (r1 == 0) = false := by simpa using hr1
      clear hr1
      go_wp2_with fail
      go_meet
      exact ⟨rfl, rfl⟩
    by_cases hr3 : r3 = 0
    case neg =>
      have dr3 : (r3 == 0) = false := by simpa using hr3
      subst hr1
      clear hr3
      go_wp2_with fail
      go_meet
      exact ⟨rfl, rfl⟩
    by_cases hr4 : r4 = 0
    case neg =>
      have dr4 : (r4 == 0) = false := by simpa using hr4
      subst hr1 hr3
      clear hr4
      go_wp2_with fail
      go_meet
      exact ⟨rfl, rfl⟩
    obtain ⟨rfl, rfl, rfl, rfl⟩ := HAS.out hr1 hr3 hr4
    have E := dec_neq g5 q5 z5
    subst hr1 hr3 hr4
    go_wp2_with fail
    go_meet
    exact ⟨rfl, rfl⟩
  case rest =>
  obtain ⟨rfl, rfl⟩ := hcut
  as_aux_lemma =>
  clear c60 c61 c62 P6
  clear c70 c71 c72 P7
  clear c80 c81 c82 P8
  clear HAS HS3 HS4 HS5
  go_wp2_with fail
  refine (HS6.out _).mono ?_; rintro _ w10 ⟨rfl, hb10⟩
  clear c00 c01 c02 c10 c11 c12 c20 c21 c22 c30 c31 c32
  replace P0 := (P0.below hb10 P0.lt).alloc (.cells #[.bool g6, .string q6, .int .i64 z6] 23)
  replace P1 := (P1.below hb10 P1.lt).alloc (.cells #[.bool g6, .string q6, .int .i64 z6] 23)
  replace P2 := (P2.below hb10 P2.lt).alloc (.cells #[.bool g6, .string q6, .int .i64 z6] 23)
  replace P3 := (P3.below hb10 P3.lt).alloc (.cells #[.bool g6, .string q6, .int .i64 z6] 23)
  have P9 := Whole.new w10 23 #[.bool g6, .string q6, .int .i64 z6]
  replace hbb := (below_then hbb hb10).alloc (below_then hbb hb10).size (.cells #[.bool g6, .string q6, .int .i64 z6] 23)
  clear hb10
  obtain ⟨c00, c01, c02⟩ := P0.c3
  obtain ⟨c10, c11, c12⟩ := P1.c3
  obtain ⟨c20, c21, c22⟩ := P2.c3
  obtain ⟨c30, c31, c32⟩ := P3.c3
  obtain ⟨c90, c91, c92⟩ := P9.c3
  go_wp2_with fail
  refine (HS7.out _).mono ?_; rintro _ w11 ⟨rfl, hb11⟩
  clear c00 c01 c02 c10 c11 c12 c20 c21 c22 c30 c31 c32 c90 c91 c92
  replace P0 := (P0.below hb11 P0.lt).alloc (.cells #[.bool g7, .string q7, .int .i64 z7] 23)
  replace P1 := (P1.below hb11 P1.lt).alloc (.cells #[.bool g7, .string q7, .int .i64 z7] 23)
  replace P2 := (P2.below hb11 P2.lt).alloc (.cells #[.bool g7, .string q7, .int .i64 z7] 23)
  replace P3 := (P3.below hb11 P3.lt).alloc (.cells #[.bool g7, .string q7, .int .i64 z7] 23)
  replace P9 := (P9.below hb11 P9.lt).alloc (.cells #[.bool g7, .string q7, .int .i64 z7] 23)
  have P10 := Whole.new w11 23 #[.bool g7, .string q7, .int .i64 z7]
  replace hbb := (below_then hbb hb11).alloc (below_then hbb hb11).size (.cells #[.bool g7, .string q7, .int .i64 z7] 23)
  clear hb11
  obtain ⟨c00, c01, c02⟩ := P0.c3
  obtain ⟨c10, c11, c12⟩ := P1.c3
  obtain ⟨c20, c21, c22⟩ := P2.c3
  obtain ⟨c30, c31, c32⟩ := P3.c3
  obtain ⟨c90, c91, c92⟩ := P9.c3
  obtain ⟨c100, c101, c102⟩ := P10.c3
  go_wp2_with fail
  refine (HS8.out _).mono ?_; rintro _ w12 ⟨rfl, hb12⟩
  clear c00 c01 c02 c10 c11 c12 c20 c21 c22 c30 c31 c32 c90 c91 c92 c100 c101 c102
  replace P0 := (P0.below hb12 P0.lt).alloc (.cells #[.bool g8, .string q8, .int .i64 z8] 23)
  replace P1 := (P1.below hb12 P1.lt).alloc (.cells #[.bool g8, .string q8, .int .i64 z8] 23)
  replace P2 := (P2.below hb12 P2.lt).alloc (.cells #[.bool g8, .string q8, .int .i64 z8] 23)
  replace P3 := (P3.below hb12 P3.lt).alloc (.cells #[.bool g8, .string q8, .int .i64 z8] 23)
  replace P9 := (P9.below hb12 P9.lt).alloc (.cells #[.bool g8, .string q8, .int .i64 z8] 23)
  replace P10 := (P10.below hb12 P10.lt).alloc (.cells #[.bool g8, .string q8, .int .i64 z8] 23)
  have P11 := Whole.new w12 23 #[.bool g8, .string q8, .int .i64 z8]
  replace hbb := (below_then hbb hb12).alloc (below_then hbb hb12).size (.cells #[.bool g8, .string q8, .int .i64 z8] 23)
  clear hb12
  obtain ⟨c00, c01, c02⟩ := P0.c3
  obtain ⟨c10, c11, c12⟩ := P1.c3
  obtain ⟨c20, c21, c22⟩ := P2.c3
  obtain ⟨c30, c31, c32⟩ := P3.c3
  obtain ⟨c90, c91, c92⟩ := P9.c3
  obtain ⟨c100, c101, c102⟩ := P10.c3
  obtain ⟨c110, c111, c112⟩ := P11.c3
  go_wp2_with fail
  refine (HS9.out _).mono ?_; rintro _ w13 ⟨rfl, hb13⟩
  clear c00 c01 c02 c10 c11 c12 c20 c21 c22 c30 c31 c32 c90 c91 c92 c100 c101 c102 c110 c111 c112
  replace P0 := (P0.below hb13 P0.lt).alloc (.cells #[.bool g9, .string q9, .int .i64 z9] 23)
  replace P1 := (P1.below hb13 P1.lt).alloc (.cells #[.bool g9, .string q9, .int .i64 z9] 23)
  replace P2 := (P2.below hb13 P2.lt).alloc (.cells #[.bool g9, .string q9, .int .i64 z9] 23)
  replace P3 := (P3.below hb13 P3.lt).alloc (.cells #[.bool g9, .string q9, .int .i64 z9] 23)
  replace P9 := (P9.below hb13 P9.lt).alloc (.cells #[.bool g9, .string q9, .int .i64 z9] 23)
  replace P10 := (P10.below hb13 P10.lt).alloc (.cells #[.bool g9, .string q9, .int .i64 z9] 23)
  replace P11 := (P11.below hb13 P11.lt).alloc (.cells #[.bool g9, .string q9, .int .i64 z9] 23)
  have P12 := Whole.new w13 23 #[.bool g9, .string q9, .int .i64 z9]
  replace hbb := (below_then hbb hb13).alloc (below_then hbb hb13).size (.cells #[.bool g9, .string q9, .int .i64 z9] 23)
  clear hb13
  obtain ⟨c00, c01, c02⟩ := P0.c3
  obtain ⟨c10, c11, c12⟩ := P1.c3
  obtain ⟨c20, c21, c22⟩ := P2.c3
  obtain ⟨c30, c31, c32⟩ := P3.c3
  obtain ⟨c90, c91, c92⟩ := P9.c3
  obtain ⟨c100, c101, c102⟩ := P10.c3
  obtain ⟨c110, c111, c112⟩ := P11.c3
  obtain ⟨c120, c121, c122⟩ := P12.c3
  go_upto_region 20 with fail
  go_cut [168] (fun t wx => t = .bool false ∧ wx = w13.alloc (.cells #[.bool g9, .string q9, .int .i64 z9] 23))
  case first =>
    as_aux_lemma =>
    by_cases hr1 : r1 = 0
    case neg =>
      have dr1 : (r1 == 0) = false := by simpa using hr1
      clear hr1
      go_wp2_with fail
      go_meet
      exact ⟨rfl, rfl⟩
    by_cases hr6 : r6 = 0
    case neg =>
      have dr6 : (r6 == 0) = false := by simpa using hr6
      subst hr1
      clear hr6
      go_wp2_with fail
      go_meet
      exact ⟨rfl, rfl⟩
    by_cases hr7 : r7 = 0
    case neg =>
      have dr7 : (r7 == 0) = false := by simpa using hr7
      subst hr1 hr6
      clear hr7
      go_wp2_with fail
      go_meet
      exact ⟨rfl, rfl⟩
    by_cases hr8 : r8 = 0
    case neg =>
      have dr8 : (r8 == 0) = false := by simpa using hr8
      subst hr1 hr6 hr7
      clear hr8
      go_wp2_with fail
      go_meet
      exact ⟨rfl, rfl⟩
    obtain ⟨rfl, rfl, rfl, rfl⟩ := HDI.out hr1 hr6 hr7 hr8
    have E := dec_neq g9 q9 z9
    subst hr1 hr6 hr7 hr8
    go_wp2_with fail
    go_meet
    exact ⟨rfl, rfl⟩
  case rest =>
  obtain ⟨rfl, rfl⟩ := hcut
  as_aux_lemma =>
  clear c90 c91 c92 P9
  clear c110 c111 c112 P11
  clear c120 c121 c122 P12
  clear HDI HS6 HS7 HS8 HS9
  go_wp2_with fail
  refine (HS10.out _).mono ?_; rintro _ w14 ⟨rfl, hb14⟩
  clear c00 c01 c02 c10 c11 c12 c20 c21 c22 c30 c31 c32 c100 c101 c102
  replace P0 := (P0.below hb14 P0.lt).alloc (.cells #[.bool g10, .string q10, .int .i64 z10] 23)
  replace P1 := (P1.below hb14 P1.lt).alloc (.cells #[.bool g10, .string q10, .int .i64 z10] 23)
  replace P2 := (P2.below hb14 P2.lt).alloc (.cells #[.bool g10, .string q10, .int .i64 z10] 23)
  replace P3 := (P3.below hb14 P3.lt).alloc (.cells #[.bool g10, .string q10, .int .i64 z10] 23)
  replace P10 := (P10.below hb14 P10.lt).alloc (.cells #[.bool g10, .string q10, .int .i64 z10] 23)
  have P13 := Whole.new w14 23 #[.bool g10, .string q10, .int .i64 z10]
  replace hbb := (below_then hbb hb14).alloc (below_then hbb hb14).size (.cells #[.bool g10, .string q10, .int .i64 z10] 23)
  clear hb14
  obtain ⟨c00, c01, c02⟩ := P0.c3
  obtain ⟨c10, c11, c12⟩ := P1.c3
  obtain ⟨c20, c21, c22⟩ := P2.c3
  obtain ⟨c30, c31, c32⟩ := P3.c3
  obtain ⟨c100, c101, c102⟩ := P10.c3
  obtain ⟨c130, c131, c132⟩ := P13.c3
  go_upto_region 23 with fail
  go_cut [190] (fun t wx => t = .bool false ∧ wx = w14.alloc (.cells #[.bool g10, .string q10, .int .i64 z10] 23))
  case first =>
    as_aux_lemma =>
    by_cases hr7 : r7 = 0
    case neg =>
      have dr7 : (r7 == 0) = false := by simpa using hr7
      clear hr7
      go_wp2_with fail
      go_meet
      exact ⟨rfl, rfl⟩
    rcases HCZ.out with h0 | ⟨h0, hse⟩
    · obtain rfl := HCE.out h0
      subst hr7
      go_wp2_with fail
      go_meet
      exact ⟨rfl, rfl⟩
    · obtain ⟨rfl, rfl, rfl, rfl⟩ := HQU.out hr7 h0
      have E := dec_neq g10 q10 z10
      subst hr7
      clear h0
      go_wp2_with fail
      go_meet
      exact ⟨rfl, rfl⟩
  case rest =>
  obtain ⟨rfl, rfl⟩ := hcut
  as_aux_lemma =>
  clear c100 c101 c102 P10
  clear c130 c131 c132 P13
  go_wp2_with fail
  refine (HL.out _).mono ?_; rintro _ w15 ⟨rfl, hb15⟩
  clear c00 c01 c02 c10 c11 c12 c20 c21 c22 c30 c31 c32
  replace P0 := (P0.below hb15 P0.lt)
  replace P1 := (P1.below hb15 P1.lt)
  replace P2 := (P2.below hb15 P2.lt)
  replace P3 := (P3.below hb15 P3.lt)
  replace hbb := below_then hbb hb15
  clear hb15
  obtain ⟨c00, c01, c02⟩ := P0.c3
  obtain ⟨c10, c11, c12⟩ := P1.c3
  obtain ⟨c20, c21, c22⟩ := P2.c3
  obtain ⟨c30, c31, c32⟩ := P3.c3
  go_wp2
  go_ret
  exact ⟨rfl, hbb⟩
end Go.Proofs.YtcnfgcdbjofihaaDoor
