/- Decimals: the law of order. -/
import Derived.Test.YtcnfgcdbjofihaaDoorDecT3
import Derived.Test.YtcnfgcdbjofihaaDoorDecLives
namespace Go.Proofs.YtcnfgcdbjofihaaDoor
open Go.RowKit

theorem rdvalid_no {n : Bool} {s : ByteArray} {e : Int} (hs : s.size ≤ maxLen) (h : ¬ Dec.vd n s e) (w : World) : Calls Tryd.prog 17 #[.agg #[.bool n, .string s, .int .i64 e]] w fun r w' => r = .returned (.bool false) ∧ Below w.heap.size w w' := by
  have := rdvalid_any n hs e w
  rwa [decide_eq_false h] at this
theorem rdvalid_yes {n : Bool} {s : ByteArray} {e : Int} (hs : s.size ≤ maxLen) (h : Dec.vd n s e) (w : World) : Calls Tryd.prog 17 #[.agg #[.bool n, .string s, .int .i64 e]] w fun r w' => r = .returned (.bool true) ∧ Below w.heap.size w w' := by
  have := rdvalid_any n hs e w
  rwa [decide_eq_true h] at this
theorem Dec.ag_ne {n n' : Bool} {m m' : Nat} {e e' : Int} (h : ¬ (⟨n, m, e⟩ : Dec.Dc) = ⟨n', m', e'⟩) : decide ((n, Dig.st m, e) = (n', Dig.st m', e')) = false := by
  refine decide_eq_false (fun k => h ?_)
  simp only [Prod.mk.injEq] at k
  rw [k.1, Dig.st_inj k.2.1, k.2.2]
theorem cmp_leaf {n n' : Bool} {m m' : Nat} {e e' : Int} {k : Int} (ha : Dec.ok ⟨n, m, e⟩) (hb : Dec.ok ⟨n', m', e'⟩) (hk : Dec.cmpR ⟨n, m, e⟩ ⟨n', m', e'⟩ = k) {x y : ByteArray} (hx : Dig.st m = x) (hy : Dig.st m' = y) (w : World) :
    Calls Tryd.prog 22 #[.agg #[.bool n, .string x, .int .i64 e], .agg #[.bool n', .string y, .int .i64 e']] w fun r w' => r = .returned (.int .i64 k) ∧ Below w.heap.size w w' := by
  have := order_any ha hb w
  unfold Dec.ag at this
  dsimp only at this
  rwa [hk, hx, hy] at this
theorem sum_leaf {n n' rg : Bool} {m m' rm : Nat} {e e' re rr : Int} (ha : Dec.ok ⟨n, m, e⟩) (hb : Dec.ok ⟨n', m', e'⟩) (hk : Dec.addR ⟨n, m, e⟩ ⟨n', m', e'⟩ = (⟨rg, rm, re⟩, rr)) {x y q : ByteArray} (hx : Dig.st m = x) (hy : Dig.st m' = y) (hq : Dig.st rm = q) (w : World) :
    Calls Tryd.prog 23 #[.agg #[.bool n, .string x, .int .i64 e], .agg #[.bool n', .string y, .int .i64 e']] w fun r w' => r = .returned (.tuple #[.agg #[.bool rg, .string q, .int .i64 re], .int .i64 rr]) ∧ Below w.heap.size w w' := by
  have := add_leaf ha hb hk hq w
  unfold Dec.ag at this
  dsimp only at this
  rwa [hx, hy] at this

set_option maxHeartbeats 8000000 in
set_option maxRecDepth 100000 in
theorem walk_DecimalOrder (an : Bool) (sa : ByteArray) (ae : Int) (bn : Bool) (sb : ByteArray) (be : Int) (cn : Bool) (sc : ByteArray) (ce : Int) (hsa : sa.size ≤ maxLen) (_ : (Lit.int .i64 ae).wf = true) (hsb : sb.size ≤ maxLen) (_ : (Lit.int .i64 be).wf = true) (hsc : sc.size ≤ maxLen) (_ : (Lit.int .i64 ce).wf = true) (w : World) :
    Calls Tryd.prog 6 #[.agg #[.bool an, .string sa, .int .i64 ae, .bool bn, .string sb, .int .i64 be, .bool cn, .string sc, .int .i64 ce]] w fun e w' => e = .returned (.bool true) ∧ Below w.heap.size w w' := by
  have HL := Lib.hid dec_lives
  have Z := Whole.new w 36 #[.bool an, .string sa, .int .i64 ae, .bool bn, .string sb, .int .i64 be, .bool cn, .string sc, .int .i64 ce]
  have x0 := Z.cell 0
  have x1 := Z.cell 1
  have x2 := Z.cell 2
  have x3 := Z.cell 3
  have x4 := Z.cell 4
  have x5 := Z.cell 5
  have x6 := Z.cell 6
  have x7 := Z.cell 7
  have x8 := Z.cell 8
  have HSA := Lib.hid hsa
  have HSB := Lib.hid hsb
  have HSC := Lib.hid hsc
  clear hsa hsb hsc
  go_enter Tryd.func6, Tryd.ntmps6
  go_upto_region 1 with fail
  go_cut [3, 4, 5] (fun t3 t4 t5 wx => ∃ B1 B2 B3 : Nat, t3 = .pointer (some ⟨B1, 0, none⟩) ∧ t4 = .pointer (some ⟨B2, 0, none⟩) ∧ t5 = .pointer (some ⟨B3, 0, none⟩) ∧ T3 w wx B1 B2 B3 an sa ae bn sb be cn sc ce)
  case first =>
    go_region
    all_goals
      clear x0 x1 x2 x3 x4 x5 x6 x7 x8 Z
      go_wp2_with fail
      go_meet
      refine ⟨_, _, _, rfl, rfl, rfl, T3.drew ?_⟩
      constructor
      · first | exact three1 (by simp) | exact three2 (by simp) | exact three3 (by simp)
      · first | exact three1 (by simp) | exact three2 (by simp) | exact three3 (by simp)
      · first | exact three1 (by simp) | exact three2 (by simp) | exact three3 (by simp)
      · exact ((((Below.refl w.heap.size w).alloc (Nat.le_refl _) _).alloc (by simp) _).alloc (by simp; omega) _).alloc (by simp; omega) _
  case rest =>
  obtain ⟨B1, B2, B3, rfl, rfl, rfl, K⟩ := hcut
  clear x0 x1 x2 x3 x4 x5 x6 x7 x8 Z
  obtain ⟨⟨x0, x1, x2⟩, ⟨y0, y1, y2⟩, z0, z1, z2⟩ := K.cells
  by_cases va : Dec.vd an sa ae
  case neg =>
    have VA := Lib.hid (fun w => rdvalid_no HSA.out va w)
    clear va
    go_wp2_with fail
    refine (VA.out _).mono ?_; rintro _ w1 ⟨rfl, hb1⟩
    replace K := K.call hb1
    skip
    clear hb1 x0 x1 x2 y0 y1 y2 z0 z1 z2
    obtain ⟨⟨x0, x1, x2⟩, ⟨y0, y1, y2⟩, z0, z1, z2⟩ := K.cells
    go_wp2_with fail
    refine (HL.out _).mono ?_; rintro _ w2 ⟨rfl, hb2⟩
    replace K := K.call hb2
    skip
    clear hb2 x0 x1 x2 y0 y1 y2 z0 z1 z2
    obtain ⟨⟨x0, x1, x2⟩, ⟨y0, y1, y2⟩, z0, z1, z2⟩ := K.cells
    go_wp2
    go_ret
    exact ⟨rfl, K.below⟩
  have VA := Lib.hid (fun w => rdvalid_yes HSA.out va w)
  by_cases vb : Dec.vd bn sb be
  case neg =>
    have VB := Lib.hid (fun w => rdvalid_no HSB.out vb w)
    clear va vb
    go_wp2_with fail
    refine (VA.out _).mono ?_; rintro _ w1 ⟨rfl, hb1⟩
    replace K := K.call hb1
    skip
    clear hb1 x0 x1 x2 y0 y1 y2 z0 z1 z2
    obtain ⟨⟨x0, x1, x2⟩, ⟨y0, y1, y2⟩, z0, z1, z2⟩ := K.cells
    go_wp2_with fail
    refine (VB.out _).mono ?_; rintro _ w2 ⟨rfl, hb2⟩
    replace K := K.call hb2
    skip
    clear hb2 x0 x1 x2 y0 y1 y2 z0 z1 z2
    obtain ⟨⟨x0, x1, x2⟩, ⟨y0, y1, y2⟩, z0, z1, z2⟩ := K.cells
    go_wp2_with fail
    refine (HL.out _).mono ?_; rintro _ w3 ⟨rfl, hb3⟩
    replace K := K.call hb3
    skip
    clear hb3 x0 x1 x2 y0 y1 y2 z0 z1 z2
    obtain ⟨⟨x0, x1, x2⟩, ⟨y0, y1, y2⟩, z0, z1, z2⟩ := K.cells
    go_wp2
    go_ret
    exact ⟨rfl, K.below⟩
  have VB := Lib.hid (fun w => rdvalid_yes HSB.out vb w)
  by_cases vc : Dec.vd cn sc ce
  case neg =>
    have VC := Lib.hid (fun w => rdvalid_no HSC.out vc w)
    clear va vb vc
    go_wp2_with fail
    refine (VA.out _).mono ?_; rintro _ w1 ⟨rfl, hb1⟩
    replace K := K.call hb1
    skip
    clear hb1 x0 x1 x2 y0 y1 y2 z0 z1 z2
    obtain ⟨⟨x0, x1, x2⟩, ⟨y0, y1, y2⟩, z0, z1, z2⟩ := K.cells
    go_wp2_with fail
    refine (VB.out _).mono ?_; rintro _ w2 ⟨rfl, hb2⟩
    replace K := K.call hb2
    skip
    clear hb2 x0 x1 x2 y0 y1 y2 z0 z1 z2
    obtain ⟨⟨x0, x1, x2⟩, ⟨y0, y1, y2⟩, z0, z1, z2⟩ := K.cells
    go_wp2_with fail
    refine (VC.out _).mono ?_; rintro _ w3 ⟨rfl, hb3⟩
    replace K := K.call hb3
    skip
    clear hb3 x0 x1 x2 y0 y1 y2 z0 z1 z2
    obtain ⟨⟨x0, x1, x2⟩, ⟨y0, y1, y2⟩, z0, z1, z2⟩ := K.cells
    go_wp2_with fail
    refine (HL.out _).mono ?_; rintro _ w4 ⟨rfl, hb4⟩
    replace K := K.call hb4
    skip
    clear hb4 x0 x1 x2 y0 y1 y2 z0 z1 z2
    obtain ⟨⟨x0, x1, x2⟩, ⟨y0, y1, y2⟩, z0, z1, z2⟩ := K.cells
    go_wp2
    go_ret
    exact ⟨rfl, K.below⟩
  have VC := Lib.hid (fun w => rdvalid_yes HSC.out vc w)
  obtain ⟨am, ham, oa⟩ := Dec.of_vd va
  obtain ⟨bm, hbm, ob⟩ := Dec.of_vd vb
  obtain ⟨cm, hcm, oc⟩ := Dec.of_vd vc
  obtain ⟨n, hn⟩ : ∃ n, Dec.cmpR ⟨an, am, ae⟩ ⟨bn, bm, be⟩ = n := ⟨_, rfl⟩
  obtain ⟨m, hm⟩ : ∃ n, Dec.cmpR ⟨bn, bm, be⟩ ⟨cn, cm, ce⟩ = n := ⟨_, rfl⟩
  obtain ⟨k, hk⟩ : ∃ n, Dec.cmpR ⟨an, am, ae⟩ ⟨cn, cm, ce⟩ = n := ⟨_, rfl⟩
  have hnr := Dec.cmp_range ⟨an, am, ae⟩ ⟨bn, bm, be⟩
  rw [hn] at hnr
  have HTR : Hid (n ≤ 0 → m ≤ 0 → k ≤ 0) := Lib.hid (fun h1 h2 => by rw [← hk]; exact Dec.cmp_trans oa ob oc (by rw [hn]; exact h1) (by rw [hm]; exact h2))
  have HAB := Lib.hid (fun w => cmp_leaf oa ob hn ham hbm w)
  have HBA := Lib.hid (fun w => cmp_leaf (k := -n) ob oa (by rw [Dec.cmp_swap oa ob, hn]) hbm ham w)
  have HBC := Lib.hid (fun w => cmp_leaf ob oc hm hbm hcm w)
  have HAC := Lib.hid (fun w => cmp_leaf oa oc hk ham hcm w)
  have HQ : Hid (∀ W, (binOp .eql 23 (.agg #[.bool an, .string sa, .int .i64 ae]) (.agg #[.bool bn, .string sb, .int .i64 be])).run Tryd.prog W = .ok (.bool (n == 0)) W) := Lib.hid (fun W => by
    rw [dec_eql]
    by_cases h0 : n = 0
    · have := (Dec.cmp_eq oa ob).1 (hn.trans h0)
      simp only [Dec.Dc.mk.injEq] at this
      rw [decide_eq_true (by rw [this.1, ← ham, ← hbm, this.2.1, this.2.2]), h0]
      rfl
    · rw [← ham, ← hbm, Dec.ag_ne (fun h => h0 (by rw [← hn]; exact (Dec.cmp_eq oa ob).2 h))]
      have : (n == 0) = false := by simpa using h0
      rw [this])
  obtain ⟨R1, hR1⟩ : ∃ R, Dec.addR ⟨an, am, ae⟩ ⟨cn, cm, ce⟩ = R := ⟨_, rfl⟩
  obtain ⟨R2, hR2⟩ : ∃ R, Dec.addR ⟨bn, bm, be⟩ ⟨cn, cm, ce⟩ = R := ⟨_, rfl⟩
  have o1 := Dec.add_ok oa oc
  have o2 := Dec.add_ok ob oc
  rw [hR1] at o1
  rw [hR2] at o2
  obtain ⟨⟨rg, rm, re⟩, rr⟩ := R1
  obtain ⟨⟨tg, tm, te⟩, tr⟩ := R2
  dsimp only at o1 o2
  obtain ⟨q1, hq1⟩ : ∃ q, Dig.st rm = q := ⟨_, rfl⟩
  obtain ⟨q2, hq2⟩ : ∃ q, Dig.st tm = q := ⟨_, rfl⟩
  have HS1 := Lib.hid (fun w => sum_leaf oa oc hR1 ham hcm hq1 w)
  have HS2 := Lib.hid (fun w => sum_leaf ob oc hR2 hbm hcm hq2 w)
  have HXY : Hid (rr = 0 → tr = 0 → ∀ w, Calls Tryd.prog 22 #[.agg #[.bool rg, .string q1, .int .i64 re], .agg #[.bool tg, .string q2, .int .i64 te]] w fun r w' => r = .returned (.int .i64 n) ∧ Below w.heap.size w w') := Lib.hid (fun h1 h2 w => cmp_leaf o1 o2 (by
    have := Dec.cmp_add oa ob oc (by rw [hR1]; exact h1) (by rw [hR2]; exact h2)
    rw [hR1, hR2] at this
    rw [this, hn]) hq1 hq2 w)
  clear va vb vc ham hbm hcm oa ob oc hn hm hk hR1 hR2 o1 o2 hq1 hq2
  go_wp2_with fail
  refine (VA.out _).mono ?_; rintro _ w1 ⟨rfl, hb1⟩
  replace K := K.call hb1
  skip
  clear hb1 x0 x1 x2 y0 y1 y2 z0 z1 z2
  obtain ⟨⟨x0, x1, x2⟩, ⟨y0, y1, y2⟩, z0, z1, z2⟩ := K.cells
  go_wp2_with fail
  refine (VB.out _).mono ?_; rintro _ w2 ⟨rfl, hb2⟩
  replace K := K.call hb2
  skip
  clear hb2 x0 x1 x2 y0 y1 y2 z0 z1 z2
  obtain ⟨⟨x0, x1, x2⟩, ⟨y0, y1, y2⟩, z0, z1, z2⟩ := K.cells
  go_wp2_with fail
  refine (VC.out _).mono ?_; rintro _ w3 ⟨rfl, hb3⟩
  replace K := K.call hb3
  skip
  clear hb3 x0 x1 x2 y0 y1 y2 z0 z1 z2
  obtain ⟨⟨x0, x1, x2⟩, ⟨y0, y1, y2⟩, z0, z1, z2⟩ := K.cells
  clear VA VB VC
  go_wp2_with fail
  refine (HAB.out _).mono ?_; rintro _ w4 ⟨rfl, hb4⟩
  replace K := K.call hb4
  skip
  clear hb4 x0 x1 x2 y0 y1 y2 z0 z1 z2
  obtain ⟨⟨x0, x1, x2⟩, ⟨y0, y1, y2⟩, z0, z1, z2⟩ := K.cells
  go_upto_region 5 with fail
  go_cut [63] (fun t wx => t = .bool false ∧ T3 w wx B1 B2 B3 an sa ae bn sb be cn sc ce)
  case first =>
    clear HS1 HS2 HXY HL
    have hq := HQ.out
    rcases (by omega : n = -1 ∨ n = 0 ∨ n = 1) with rfl | rfl | rfl
    · clear HQ
      rw [show ((-1 : Int) == 0) = false from rfl] at hq
      by_cases h2 : m ≤ 0
      · have h3 := HTR.out (by omega) h2
        have d1 : decide (m ≤ 0) = true := decide_eq_true h2
        have d2 : decide (0 < k) = false := decide_eq_false (by omega)
        clear h2 h3
        go_wp2_with fail
        refine (HBA.out _).mono ?_; rintro _ w5 ⟨rfl, hb5⟩
        replace K := K.call hb5
        skip
        clear hb5 x0 x1 x2 y0 y1 y2 z0 z1 z2
        obtain ⟨⟨x0, x1, x2⟩, ⟨y0, y1, y2⟩, z0, z1, z2⟩ := K.cells
        go_wp2_with fail
        refine (HBC.out _).mono ?_; rintro _ w6 ⟨rfl, hb6⟩
        replace K := K.call hb6
        skip
        clear hb6 x0 x1 x2 y0 y1 y2 z0 z1 z2
        obtain ⟨⟨x0, x1, x2⟩, ⟨y0, y1, y2⟩, z0, z1, z2⟩ := K.cells
        go_wp2_with fail
        refine (HAC.out _).mono ?_; rintro _ w7 ⟨rfl, hb7⟩
        replace K := K.call hb7
        skip
        clear hb7 x0 x1 x2 y0 y1 y2 z0 z1 z2
        obtain ⟨⟨x0, x1, x2⟩, ⟨y0, y1, y2⟩, z0, z1, z2⟩ := K.cells
        go_wp2_with fail
        go_meet
        exact ⟨rfl, K⟩
      · have d1 : decide (m ≤ 0) = false := decide_eq_false h2
        clear h2
        go_wp2_with fail
        refine (HBA.out _).mono ?_; rintro _ w5 ⟨rfl, hb5⟩
        replace K := K.call hb5
        skip
        clear hb5 x0 x1 x2 y0 y1 y2 z0 z1 z2
        obtain ⟨⟨x0, x1, x2⟩, ⟨y0, y1, y2⟩, z0, z1, z2⟩ := K.cells
        go_wp2_with fail
        refine (HBC.out _).mono ?_; rintro _ w6 ⟨rfl, hb6⟩
        replace K := K.call hb6
        skip
        clear hb6 x0 x1 x2 y0 y1 y2 z0 z1 z2
        obtain ⟨⟨x0, x1, x2⟩, ⟨y0, y1, y2⟩, z0, z1, z2⟩ := K.cells
        go_wp2_with fail
        go_meet
        exact ⟨rfl, K⟩
    · clear HQ
      rw [show ((0 : Int) == 0) = true from rfl] at hq
      by_cases h2 : m ≤ 0
      · have h3 := HTR.out (by omega) h2
        have d1 : decide (m ≤ 0) = true := decide_eq_true h2
        have d2 : decide (0 < k) = false := decide_eq_false (by omega)
        clear h2 h3
        go_wp2_with fail
        refine (HBA.out _).mono ?_; rintro _ w5 ⟨rfl, hb5⟩
        replace K := K.call hb5
        skip
        clear hb5 x0 x1 x2 y0 y1 y2 z0 z1 z2
        obtain ⟨⟨x0, x1, x2⟩, ⟨y0, y1, y2⟩, z0, z1, z2⟩ := K.cells
        go_wp2_with fail
        refine (HBC.out _).mono ?_; rintro _ w6 ⟨rfl, hb6⟩
        replace K := K.call hb6
        skip
        clear hb6 x0 x1 x2 y0 y1 y2 z0 z1 z2
        obtain ⟨⟨x0, x1, x2⟩, ⟨y0, y1, y2⟩, z0, z1, z2⟩ := K.cells
        go_wp2_with fail
        refine (HAC.out _).mono ?_; rintro _ w7 ⟨rfl, hb7⟩
        replace K := K.call hb7
        skip
        clear hb7 x0 x1 x2 y0 y1 y2 z0 z1 z2
        obtain ⟨⟨x0, x1, x2⟩, ⟨y0, y1, y2⟩, z0, z1, z2⟩ := K.cells
        go_wp2_with fail
        go_meet
        exact ⟨rfl, K⟩
      · have d1 : decide (m ≤ 0) = false := decide_eq_false h2
        clear h2
        go_wp2_with fail
        refine (HBA.out _).mono ?_; rintro _ w5 ⟨rfl, hb5⟩
        replace K := K.call hb5
        skip
        clear hb5 x0 x1 x2 y0 y1 y2 z0 z1 z2
        obtain ⟨⟨x0, x1, x2⟩, ⟨y0, y1, y2⟩, z0, z1, z2⟩ := K.cells
        go_wp2_with fail
        refine (HBC.out _).mono ?_; rintro _ w6 ⟨rfl, hb6⟩
        replace K := K.call hb6
        skip
        clear hb6 x0 x1 x2 y0 y1 y2 z0 z1 z2
        obtain ⟨⟨x0, x1, x2⟩, ⟨y0, y1, y2⟩, z0, z1, z2⟩ := K.cells
        go_wp2_with fail
        go_meet
        exact ⟨rfl, K⟩
    · clear HQ
      rw [show ((1 : Int) == 0) = false from rfl] at hq
      go_wp2_with fail
      refine (HBA.out _).mono ?_; rintro _ w5 ⟨rfl, hb5⟩
      replace K := K.call hb5
      skip
      clear hb5 x0 x1 x2 y0 y1 y2 z0 z1 z2
      obtain ⟨⟨x0, x1, x2⟩, ⟨y0, y1, y2⟩, z0, z1, z2⟩ := K.cells
      go_wp2_with fail
      go_meet
      exact ⟨rfl, K⟩
  case rest =>
  obtain ⟨rfl, K⟩ := hcut
  clear x0 x1 x2 y0 y1 y2 z0 z1 z2 HAB HBA HBC HAC HQ HTR
  obtain ⟨⟨x0, x1, x2⟩, ⟨y0, y1, y2⟩, z0, z1, z2⟩ := K.cells
  go_wp2_with fail
  refine (HS1.out _).mono ?_; rintro _ w5 ⟨rfl, hb5⟩
  replace K := K.call hb5
  replace K := K.alloc (.cells #[.bool rg, .string q1, .int .i64 re] 23); have P := Whole.new w5 23 #[.bool rg, .string q1, .int .i64 re]
  clear hb5 x0 x1 x2 y0 y1 y2 z0 z1 z2
  obtain ⟨⟨x0, x1, x2⟩, ⟨y0, y1, y2⟩, z0, z1, z2⟩ := K.cells
  go_wp2_with fail
  refine (HS2.out _).mono ?_; rintro _ w6 ⟨rfl, hb6⟩
  replace K := K.call hb6
  replace K := K.alloc (.cells #[.bool tg, .string q2, .int .i64 te] 23); replace P := (P.below hb6 P.lt).alloc (.cells #[.bool tg, .string q2, .int .i64 te] 23); have Q := Whole.new w6 23 #[.bool tg, .string q2, .int .i64 te]
  clear hb6 x0 x1 x2 y0 y1 y2 z0 z1 z2
  obtain ⟨⟨x0, x1, x2⟩, ⟨y0, y1, y2⟩, z0, z1, z2⟩ := K.cells
  clear HS1 HS2
  obtain ⟨u0, u1, u2⟩ := P.c3
  obtain ⟨v0, v1, v2⟩ := Q.c3
  by_cases h1 : rr = 0
  case neg =>
    have d1 : (rr != 0) = true := by simpa using h1
    clear h1 HXY hnr
    go_wp2_with fail
    refine (HL.out _).mono ?_; rintro _ w7 ⟨rfl, hb7⟩
    replace K := K.call hb7
    skip
    clear hb7 x0 x1 x2 y0 y1 y2 z0 z1 z2
    obtain ⟨⟨x0, x1, x2⟩, ⟨y0, y1, y2⟩, z0, z1, z2⟩ := K.cells
    go_wp2
    go_ret
    exact ⟨rfl, K.below⟩
  by_cases h2 : tr = 0
  case neg =>
    have d2 : (tr != 0) = true := by simpa using h2
    subst h1
    clear h2 HXY hnr
    go_wp2_with fail
    refine (HL.out _).mono ?_; rintro _ w7 ⟨rfl, hb7⟩
    replace K := K.call hb7
    skip
    clear hb7 x0 x1 x2 y0 y1 y2 z0 z1 z2
    obtain ⟨⟨x0, x1, x2⟩, ⟨y0, y1, y2⟩, z0, z1, z2⟩ := K.cells
    go_wp2
    go_ret
    exact ⟨rfl, K.below⟩
  have HC := Lib.hid (HXY.out h1 h2)
  subst h1 h2
  clear HXY
  go_wp2_with fail
  refine (HC.out _).mono ?_; rintro _ w7 ⟨rfl, hb7⟩
  replace K := K.call hb7
  skip
  clear hb7 x0 x1 x2 y0 y1 y2 z0 z1 z2
  obtain ⟨⟨x0, x1, x2⟩, ⟨y0, y1, y2⟩, z0, z1, z2⟩ := K.cells
  go_wp2_with fail
  refine (HL.out _).mono ?_; rintro _ w8 ⟨rfl, hb8⟩
  replace K := K.call hb8
  skip
  clear hb8 x0 x1 x2 y0 y1 y2 z0 z1 z2
  obtain ⟨⟨x0, x1, x2⟩, ⟨y0, y1, y2⟩, z0, z1, z2⟩ := K.cells
  go_wp2
  go_ret
  exact ⟨rfl, K.below⟩
end Go.Proofs.YtcnfgcdbjofihaaDoor
