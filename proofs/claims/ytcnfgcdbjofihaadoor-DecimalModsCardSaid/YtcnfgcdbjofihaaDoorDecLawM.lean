/- Decimals: the law of remainders and of sums of lists. -/
import Derived.Test.YtcnfgcdbjofihaaDoorDecMod
import Derived.Test.YtcnfgcdbjofihaaDoorDecSumR
import Derived.Test.YtcnfgcdbjofihaaDoorDecLawS
namespace Go.Proofs.YtcnfgcdbjofihaaDoor
open Go.RowKit

theorem dmod_leaf {n n' rg : Bool} {m m' rm : Nat} {e e' re rr : Int} (ha : Dec.ok ⟨n, m, e⟩) (hb : Dec.ok ⟨n', m', e'⟩) (hk : Dec.modR ⟨n, m, e⟩ ⟨n', m', e'⟩ = (⟨rg, rm, re⟩, rr)) {x y q : ByteArray} (hx : Dig.st m = x) (hy : Dig.st m' = y) (hq : Dig.st rm = q) (w : World) :
    Calls Tryd.prog 28 #[.agg #[.bool n, .string x, .int .i64 e], .agg #[.bool n', .string y, .int .i64 e']] w fun r w' => r = .returned (.tuple #[.agg #[.bool rg, .string q, .int .i64 re], .int .i64 rr]) ∧ Below w.heap.size w w' := by
  have := dmod_any ha hb w
  rw [hk] at this
  unfold Dec.ag at this
  dsimp only at this
  rwa [hx, hy, hq] at this
theorem rmod_leaf {n n' rg : Bool} {m m' rm : Nat} {e e' re rr : Int} (ha : Dec.ok ⟨n, m, e⟩) (hb : Dec.ok ⟨n', m', e'⟩) (hk : Dec.modR ⟨n, m, e⟩ ⟨n', m', e'⟩ = (⟨rg, rm, re⟩, rr)) {x y q : ByteArray} (hx : Dig.st m = x) (hy : Dig.st m' = y) (hq : Dig.st rm = q) (w : World) :
    Calls Tryd.prog 30 #[.agg #[.bool n, .string x, .int .i64 e], .agg #[.bool n', .string y, .int .i64 e']] w fun r w' => r = .returned (.tuple #[.agg #[.bool rg, .string q, .int .i64 re], .int .i64 rr]) ∧ Below w.heap.size w w' := by
  have := rmod_any ha hb w
  rw [hk] at this
  unfold Dec.ag at this
  dsimp only at this
  rwa [hx, hy, hq] at this
theorem dsum_leaf {b o n c : Nat} {D : Nat → Dec.Dc} (hD : ∀ i, i < n → Dec.ok (D i)) {w : World} (hL : Dec.Lst w b o n D) (hb : b < w.heap.size) (hn : n ≤ 20) {rg : Bool} {rm : Nat} {re rr : Int} (hk : Dec.accR D n = (⟨rg, rm, re⟩, rr)) {q : ByteArray} (hq : Dig.st rm = q) (W : World) (hW : Below w.heap.size w W) :
    Calls Tryd.prog 29 #[.slice (some ⟨b, o, none⟩) n c] W fun r w' => r = .returned (.tuple #[.agg #[.bool rg, .string q, .int .i64 re], .int .i64 rr]) ∧ Below W.heap.size W w' := by
  have := dsum_some (c := c) hD W (hL.below hW hb) (Nat.lt_of_lt_of_le hb hW.size) hn
  rw [hk] at this
  unfold Dec.ag at this
  dsimp only at this
  rwa [hq] at this
theorem rsum_leaf2 {b o n c : Nat} {D : Nat → Dec.Dc} (hD : ∀ i, i < n → Dec.ok (D i)) {w : World} (hL : Dec.Lst w b o n D) (hb : b < w.heap.size) (hn : n ≤ 20) {rg : Bool} {rm : Nat} {re rr : Int} (hk : Dec.accR D n = (⟨rg, rm, re⟩, rr)) {q : ByteArray} (hq : Dig.st rm = q) (W : World) (hW : Below w.heap.size w W) :
    Calls Tryd.prog 31 #[.slice (some ⟨b, o, none⟩) n c] W fun r w' => r = .returned (.tuple #[.agg #[.bool rg, .string q, .int .i64 re], .int .i64 rr]) ∧ Below W.heap.size W w' := by
  have := rsum_some (c := c) hD W (hL.below hW hb) (Nat.lt_of_lt_of_le hb hW.size) hn
  rw [hk] at this
  unfold Dec.ag at this
  dsimp only at this
  rwa [hq] at this
namespace Dec
/-- A list of what may be decimals, in memory. -/
def Raw (W : World) (b o n : Nat) (N : Nat → Bool) (S : Nat → ByteArray) (E : Nat → Int) : Prop := ∀ i, i < n → W.cell? ⟨b, o + i * 3, none⟩ = some (.bool (N i)) ∧ W.cell? ⟨b, o + i * 3 + 1, none⟩ = some (.string (S i)) ∧ W.cell? ⟨b, o + i * 3 + 2, none⟩ = some (.int .i64 (E i))
theorem Raw.below {W W' : World} {b o n : Nat} {N : Nat → Bool} {S : Nat → ByteArray} {E : Nat → Int} (h : Raw W b o n N S E) (hb : Below W.heap.size W W') (hlt : b < W.heap.size) : Raw W' b o n N S E := fun i hi => by
  obtain ⟨h1, h2, h3⟩ := h i hi
  exact ⟨(hb.cell hlt).trans h1, (hb.cell hlt).trans h2, (hb.cell hlt).trans h3⟩
def lst (N : Nat → Bool) (S : Nat → ByteArray) (E : Nat → Int) (i : Nat) : Dc := ⟨N i, Dig.V (S i), E i⟩
theorem lst_ok {N : Nat → Bool} {S : Nat → ByteArray} {E : Nat → Int} {i : Nat} (h : vd (N i) (S i) (E i)) : ok (lst N S E i) ∧ Dig.st (lst N S E i).m = S i := by
  obtain ⟨m, hm, ho⟩ := of_vd h
  unfold lst
  dsimp only
  rw [← hm, Dig.V_st]
  exact ⟨ho, rfl⟩
theorem Raw.lst {W : World} {b o n : Nat} {N : Nat → Bool} {S : Nat → ByteArray} {E : Nat → Int} (h : Raw W b o n N S E) (hv : ∀ i, i < n → vd (N i) (S i) (E i)) : Lst W b o n (lst N S E) := fun i hi => by
  obtain ⟨h1, h2, h3⟩ := h i hi
  exact ⟨h1, by rw [(lst_ok (hv i hi)).2]; exact h2, h3⟩
end Dec

set_option maxHeartbeats 4000000 in
set_option maxRecDepth 100000 in
theorem walk_some (an : Bool) (sa : ByteArray) (ae : Int) (bn : Bool) (sb : ByteArray) (be : Int) (hsa : sa.size ≤ maxLen) (hsb : sb.size ≤ maxLen) (w : World) {b o n c : Nat} {N : Nat → Bool} {S : Nat → ByteArray} {E : Nat → Int} (hb : b < w.heap.size) (hL : Dec.Raw w b o n N S E) (hS : ∀ i, i < n → (S i).size ≤ maxLen) :
    Calls Tryd.prog 8 #[.agg #[.bool an, .string sa, .int .i64 ae], .agg #[.bool bn, .string sb, .int .i64 be], .slice (some ⟨b, o, none⟩) n c] w fun e w' => e = .returned (.bool true) ∧ Below w.heap.size w w' := by
  have HL := Lib.hid dec_lives
  have K := B2.new w an sa ae bn sb be
  have P0 := K.one
  have P1 := K.two
  have hbb := K.below
  clear K
  obtain ⟨c00, c01, c02⟩ := P0.c3
  obtain ⟨c10, c11, c12⟩ := P1.c3
  have HS := Lib.hid hS
  have HR := Lib.hid hL
  have HBW := Lib.hid hb
  clear hS hL hb
  by_cases va : Dec.vd an sa ae
  case neg =>
    have VA := Lib.hid (fun w => rdvalid_no hsa va w)
    clear va hsa hsb
    go_enter Tryd.func8, Tryd.ntmps8
    go_wp2_with fail
    refine (VA.out _).mono ?_; rintro _ w1 ⟨rfl, hb1⟩
    clear c00 c01 c02 c10 c11 c12
    replace P0 := (P0.below hb1 P0.lt)
    replace P1 := (P1.below hb1 P1.lt)
    replace hbb := below_then hbb hb1
    clear hb1
    obtain ⟨c00, c01, c02⟩ := P0.c3
    obtain ⟨c10, c11, c12⟩ := P1.c3
    go_wp2_with fail
    refine (HL.out _).mono ?_; rintro _ w2 ⟨rfl, hb2⟩
    clear c00 c01 c02 c10 c11 c12
    replace P0 := (P0.below hb2 P0.lt)
    replace P1 := (P1.below hb2 P1.lt)
    replace hbb := below_then hbb hb2
    clear hb2
    obtain ⟨c00, c01, c02⟩ := P0.c3
    obtain ⟨c10, c11, c12⟩ := P1.c3
    go_wp2
    go_ret
    exact ⟨rfl, hbb⟩
  have VA := Lib.hid (fun w => rdvalid_yes hsa va w)
  by_cases vb : Dec.vd bn sb be
  case neg =>
    have VB := Lib.hid (fun w => rdvalid_no hsb vb w)
    clear va vb hsa hsb
    go_enter Tryd.func8, Tryd.ntmps8
    go_wp2_with fail
    refine (VA.out _).mono ?_; rintro _ w1 ⟨rfl, hb1⟩
    clear c00 c01 c02 c10 c11 c12
    replace P0 := (P0.below hb1 P0.lt)
    replace P1 := (P1.below hb1 P1.lt)
    replace hbb := below_then hbb hb1
    clear hb1
    obtain ⟨c00, c01, c02⟩ := P0.c3
    obtain ⟨c10, c11, c12⟩ := P1.c3
    go_wp2_with fail
    refine (VB.out _).mono ?_; rintro _ w2 ⟨rfl, hb2⟩
    clear c00 c01 c02 c10 c11 c12
    replace P0 := (P0.below hb2 P0.lt)
    replace P1 := (P1.below hb2 P1.lt)
    replace hbb := below_then hbb hb2
    clear hb2
    obtain ⟨c00, c01, c02⟩ := P0.c3
    obtain ⟨c10, c11, c12⟩ := P1.c3
    go_wp2_with fail
    refine (HL.out _).mono ?_; rintro _ w3 ⟨rfl, hb3⟩
    clear c00 c01 c02 c10 c11 c12
    replace P0 := (P0.below hb3 P0.lt)
    replace P1 := (P1.below hb3 P1.lt)
    replace hbb := below_then hbb hb3
    clear hb3
    obtain ⟨c00, c01, c02⟩ := P0.c3
    obtain ⟨c10, c11, c12⟩ := P1.c3
    go_wp2
    go_ret
    exact ⟨rfl, hbb⟩
  have VB := Lib.hid (fun w => rdvalid_yes hsb vb w)
  by_cases hn : n ≤ 20
  case neg =>
    have d1 : decide (20 < (n : Int)) = true := decide_eq_true (by omega)
    have d2 : decide (20 < n) = true := decide_eq_true (by omega)
    clear va vb hsa hsb hn
    go_enter Tryd.func8, Tryd.ntmps8
    go_wp2_with fail
    refine (VA.out _).mono ?_; rintro _ w1 ⟨rfl, hb1⟩
    clear c00 c01 c02 c10 c11 c12
    replace P0 := (P0.below hb1 P0.lt)
    replace P1 := (P1.below hb1 P1.lt)
    replace hbb := below_then hbb hb1
    clear hb1
    obtain ⟨c00, c01, c02⟩ := P0.c3
    obtain ⟨c10, c11, c12⟩ := P1.c3
    go_wp2_with fail
    refine (VB.out _).mono ?_; rintro _ w2 ⟨rfl, hb2⟩
    clear c00 c01 c02 c10 c11 c12
    replace P0 := (P0.below hb2 P0.lt)
    replace P1 := (P1.below hb2 P1.lt)
    replace hbb := below_then hbb hb2
    clear hb2
    obtain ⟨c00, c01, c02⟩ := P0.c3
    obtain ⟨c10, c11, c12⟩ := P1.c3
    go_wp2_with fail
    refine (HL.out _).mono ?_; rintro _ w3 ⟨rfl, hb3⟩
    clear c00 c01 c02 c10 c11 c12
    replace P0 := (P0.below hb3 P0.lt)
    replace P1 := (P1.below hb3 P1.lt)
    replace hbb := below_then hbb hb3
    clear hb3
    obtain ⟨c00, c01, c02⟩ := P0.c3
    obtain ⟨c10, c11, c12⟩ := P1.c3
    go_wp2
    go_ret
    exact ⟨rfl, hbb⟩
  have d1 : decide (20 < (n : Int)) = false := decide_eq_false (by omega)
  have d2 : decide (20 < n) = false := decide_eq_false (by omega)
  have hn0 : (0 : Int) ≤ n := by omega
  have hn20 : (n : Int) ≤ 20 := by omega
  have HN := Lib.hid hn
  clear hn
  obtain ⟨am, ham, oa⟩ := Dec.of_vd va
  obtain ⟨bm, hbm, ob⟩ := Dec.of_vd vb
  obtain ⟨R1, hR1⟩ : ∃ R, Dec.modR ⟨an, am, ae⟩ ⟨bn, bm, be⟩ = R := ⟨_, rfl⟩
  obtain ⟨⟨rg, rm, re⟩, rr⟩ := R1
  obtain ⟨q1, hq1⟩ : ∃ q, Dig.st rm = q := ⟨_, rfl⟩
  have HA := Lib.hid (fun w => dmod_leaf oa ob hR1 ham hbm hq1 w)
  have HRA := Lib.hid (fun w => rmod_leaf oa ob hR1 ham hbm hq1 w)
  have E1 := Lib.hid (dec_same rg q1 re)
  clear va vb hsa hsb ham hbm oa ob hR1 hq1
  go_enter Tryd.func8, Tryd.ntmps8
  go_wp2_with fail
  refine (VA.out _).mono ?_; rintro _ w1 ⟨rfl, hb1⟩
  clear c00 c01 c02 c10 c11 c12
  replace P0 := (P0.below hb1 P0.lt)
  replace P1 := (P1.below hb1 P1.lt)
  replace hbb := below_then hbb hb1
  clear hb1
  obtain ⟨c00, c01, c02⟩ := P0.c3
  obtain ⟨c10, c11, c12⟩ := P1.c3
  go_wp2_with fail
  refine (VB.out _).mono ?_; rintro _ w2 ⟨rfl, hb2⟩
  clear c00 c01 c02 c10 c11 c12
  replace P0 := (P0.below hb2 P0.lt)
  replace P1 := (P1.below hb2 P1.lt)
  replace hbb := below_then hbb hb2
  clear hb2
  obtain ⟨c00, c01, c02⟩ := P0.c3
  obtain ⟨c10, c11, c12⟩ := P1.c3
  clear VA VB
  clear c00 c01 c02 c10 c11 c12
  go_wp2_with fail
  go_loopw [7] (fun i wr => ∃ k : Nat, k ≤ n ∧ i = .int .i64 k ∧ Hid (∀ j, j < k → Dec.vd (N j) (S j) (E j)) ∧ Whole wr w.heap.size 23 #[.bool an, .string sa, .int .i64 ae] ∧ Whole wr (w.heap.size + 1) 23 #[.bool bn, .string sb, .int .i64 be] ∧ Below w.heap.size w wr) (fun i _ => n - (intOf i).toNat)
  case atStart => exact ⟨0, by omega, rfl, Lib.hid (fun j hj => absurd hj (by omega)), P0, P1, hbb⟩
  case round =>
    clear P0 P1 hbb
    obtain ⟨k, hk, rfl, HV, P0, P1, hbb⟩ := hrel
    have hk0 : (0 : Int) ≤ k := by omega
    obtain ⟨c00, c01, c02⟩ := P0.c3
    obtain ⟨c10, c11, c12⟩ := P1.c3
    by_cases hkn : k < n
    · have hki2 : (k : Int) < n := by omega
      obtain ⟨l0, l1, l2⟩ := (HR.out.below hbb HBW.out) k hkn
      have hsz := HS.out k hkn
      have HVS := Lib.hid (fun (h : Dec.vd (N k) (S k) (E k)) j (hj : j < k + 1) => by
        rcases Nat.lt_or_ge j k with g | g
        · exact HV.out j g
        · rw [show j = k by omega]; exact h)
      obtain ⟨ln, hln⟩ : ∃ x, N k = x := ⟨_, rfl⟩
      obtain ⟨ls, hls⟩ : ∃ x, S k = x := ⟨_, rfl⟩
      obtain ⟨le, hle⟩ : ∃ x, E k = x := ⟨_, rfl⟩
      rw [hln, hls, hle] at HVS
      rw [hln] at l0
      rw [hls] at l1 hsz
      rw [hle] at l2
      clear hln hls hle
      by_cases hv : Dec.vd ln ls le
      · have VC := Lib.hid (fun w => rdvalid_yes hsz hv w)
        have HV2 := Lib.hid (HVS.out hv)
        clear hsz hv HVS HA HRA E1 HL
        go_wp2_with fail
        refine (VC.out _).mono ?_; rintro _ w9 ⟨rfl, hb9⟩
        replace P0 := P0.below hb9 P0.lt
        replace P1 := P1.below hb9 P1.lt
        replace hbb := below_then hbb hb9
        clear hb9 l0 l1 l2 c00 c01 c02 c10 c11 c12 VC
        go_wp2_with fail
        go_roundw
        case rel => exact ⟨k + 1, by omega, by go_num, HV2, P0, P1, hbb⟩
        case measure => simp [intOf]; omega
      · have VC := Lib.hid (fun w => rdvalid_no hsz hv w)
        clear hsz hv HVS HA HRA E1
        go_wp2_with fail
        refine (VC.out _).mono ?_; rintro _ w9 ⟨rfl, hb9⟩
        replace hbb := below_then hbb hb9
        clear hb9 l0 l1 l2 c00 c01 c02 c10 c11 c12 VC
        go_wp2_with fail
        refine (HL.out _).mono ?_; rintro _ w10 ⟨rfl, hb10⟩
        replace hbb := below_then hbb hb10
        go_wp2
        go_ret
        exact ⟨rfl, hbb⟩
    · obtain rfl : k = n := by omega
      have hd : decide ((k : Int) < k) = false := decide_eq_false (by omega)
      have hok : ∀ i, i < k → Dec.ok (Dec.lst N S E i) := fun i hi => (Dec.lst_ok (HV.out i hi)).1
      have hlst := HR.out.lst HV.out
      obtain ⟨R2, hR2⟩ : ∃ R, Dec.accR (Dec.lst N S E) k = R := ⟨_, rfl⟩
      obtain ⟨⟨tg, tm, te⟩, tr⟩ := R2
      obtain ⟨q2, hq2⟩ : ∃ q, Dig.st tm = q := ⟨_, rfl⟩
      have HSU := Lib.hid (fun W hW => dsum_leaf (c := c) hok hlst HBW.out HN.out hR2 hq2 W hW)
      have HRS := Lib.hid (fun W hW => rsum_leaf2 (c := c) hok hlst HBW.out HN.out hR2 hq2 W hW)
      have E2 := dec_same tg q2 te
      have e1 := E1.out
      clear E1 hok hlst hR2 hq2 HR HS HV hkn
      go_wp2_with fail
      refine (HA.out _).mono ?_; rintro _ w11 ⟨rfl, hb11⟩
      clear c00 c01 c02 c10 c11 c12
      replace P0 := (P0.below hb11 P0.lt).alloc (.cells #[.bool rg, .string q1, .int .i64 re] 23)
      replace P1 := (P1.below hb11 P1.lt).alloc (.cells #[.bool rg, .string q1, .int .i64 re] 23)
      have P2 := Whole.new w11 23 #[.bool rg, .string q1, .int .i64 re]
      replace hbb := (below_then hbb hb11).alloc (below_then hbb hb11).size (.cells #[.bool rg, .string q1, .int .i64 re] 23)
      clear hb11
      obtain ⟨c00, c01, c02⟩ := P0.c3
      obtain ⟨c10, c11, c12⟩ := P1.c3
      obtain ⟨c20, c21, c22⟩ := P2.c3
      go_wp2_with fail
      refine (HSU.out _ hbb).mono ?_; rintro _ w12 ⟨rfl, hb12⟩
      clear c00 c01 c02 c10 c11 c12 c20 c21 c22
      replace P0 := (P0.below hb12 P0.lt).alloc (.cells #[.bool tg, .string q2, .int .i64 te] 23)
      replace P1 := (P1.below hb12 P1.lt).alloc (.cells #[.bool tg, .string q2, .int .i64 te] 23)
      replace P2 := (P2.below hb12 P2.lt).alloc (.cells #[.bool tg, .string q2, .int .i64 te] 23)
      have P3 := Whole.new w12 23 #[.bool tg, .string q2, .int .i64 te]
      replace hbb := (below_then hbb hb12).alloc (below_then hbb hb12).size (.cells #[.bool tg, .string q2, .int .i64 te] 23)
      clear hb12
      obtain ⟨c00, c01, c02⟩ := P0.c3
      obtain ⟨c10, c11, c12⟩ := P1.c3
      obtain ⟨c20, c21, c22⟩ := P2.c3
      obtain ⟨c30, c31, c32⟩ := P3.c3
      go_wp2_with fail
      refine (HRA.out _).mono ?_; rintro _ w13 ⟨rfl, hb13⟩
      clear c00 c01 c02 c10 c11 c12 c20 c21 c22 c30 c31 c32
      replace P0 := (P0.below hb13 P0.lt).alloc (.cells #[.bool rg, .string q1, .int .i64 re] 23)
      replace P1 := (P1.below hb13 P1.lt).alloc (.cells #[.bool rg, .string q1, .int .i64 re] 23)
      replace P2 := (P2.below hb13 P2.lt).alloc (.cells #[.bool rg, .string q1, .int .i64 re] 23)
      replace P3 := (P3.below hb13 P3.lt).alloc (.cells #[.bool rg, .string q1, .int .i64 re] 23)
      have P4 := Whole.new w13 23 #[.bool rg, .string q1, .int .i64 re]
      replace hbb := (below_then hbb hb13).alloc (below_then hbb hb13).size (.cells #[.bool rg, .string q1, .int .i64 re] 23)
      clear hb13
      obtain ⟨c00, c01, c02⟩ := P0.c3
      obtain ⟨c10, c11, c12⟩ := P1.c3
      obtain ⟨c20, c21, c22⟩ := P2.c3
      obtain ⟨c30, c31, c32⟩ := P3.c3
      obtain ⟨c40, c41, c42⟩ := P4.c3
      go_wp2_with fail
      refine (HRS.out _ hbb).mono ?_; rintro _ w14 ⟨rfl, hb14⟩
      clear c00 c01 c02 c10 c11 c12 c20 c21 c22 c30 c31 c32 c40 c41 c42
      replace P0 := (P0.below hb14 P0.lt).alloc (.cells #[.bool tg, .string q2, .int .i64 te] 23)
      replace P1 := (P1.below hb14 P1.lt).alloc (.cells #[.bool tg, .string q2, .int .i64 te] 23)
      replace P2 := (P2.below hb14 P2.lt).alloc (.cells #[.bool tg, .string q2, .int .i64 te] 23)
      replace P3 := (P3.below hb14 P3.lt).alloc (.cells #[.bool tg, .string q2, .int .i64 te] 23)
      replace P4 := (P4.below hb14 P4.lt).alloc (.cells #[.bool tg, .string q2, .int .i64 te] 23)
      have P5 := Whole.new w14 23 #[.bool tg, .string q2, .int .i64 te]
      replace hbb := (below_then hbb hb14).alloc (below_then hbb hb14).size (.cells #[.bool tg, .string q2, .int .i64 te] 23)
      clear hb14
      obtain ⟨c00, c01, c02⟩ := P0.c3
      obtain ⟨c10, c11, c12⟩ := P1.c3
      obtain ⟨c20, c21, c22⟩ := P2.c3
      obtain ⟨c30, c31, c32⟩ := P3.c3
      obtain ⟨c40, c41, c42⟩ := P4.c3
      obtain ⟨c50, c51, c52⟩ := P5.c3
      clear HA HSU HRA HRS
      go_wp2_with fail
      refine (HL.out _).mono ?_; rintro _ w15 ⟨rfl, hb15⟩
      clear c00 c01 c02 c10 c11 c12 c20 c21 c22 c30 c31 c32 c40 c41 c42 c50 c51 c52
      replace P0 := (P0.below hb15 P0.lt)
      replace P1 := (P1.below hb15 P1.lt)
      replace P2 := (P2.below hb15 P2.lt)
      replace P3 := (P3.below hb15 P3.lt)
      replace P4 := (P4.below hb15 P4.lt)
      replace P5 := (P5.below hb15 P5.lt)
      replace hbb := below_then hbb hb15
      clear hb15
      obtain ⟨c00, c01, c02⟩ := P0.c3
      obtain ⟨c10, c11, c12⟩ := P1.c3
      obtain ⟨c20, c21, c22⟩ := P2.c3
      obtain ⟨c30, c31, c32⟩ := P3.c3
      obtain ⟨c40, c41, c42⟩ := P4.c3
      obtain ⟨c50, c51, c52⟩ := P5.c3
      go_wp2
      go_ret
      exact ⟨rfl, hbb⟩
set_option maxHeartbeats 4000000 in
set_option maxRecDepth 100000 in
theorem walk_nil (an : Bool) (sa : ByteArray) (ae : Int) (bn : Bool) (sb : ByteArray) (be : Int) (hsa : sa.size ≤ maxLen) (hsb : sb.size ≤ maxLen) (w : World) (a : Option Addr) (c : Nat) :
    Calls Tryd.prog 8 #[.agg #[.bool an, .string sa, .int .i64 ae], .agg #[.bool bn, .string sb, .int .i64 be], .slice a 0 c] w fun e w' => e = .returned (.bool true) ∧ Below w.heap.size w w' := by
  have HL := Lib.hid dec_lives
  have K := B2.new w an sa ae bn sb be
  have P0 := K.one
  have P1 := K.two
  have hbb := K.below
  clear K
  obtain ⟨c00, c01, c02⟩ := P0.c3
  obtain ⟨c10, c11, c12⟩ := P1.c3
  by_cases va : Dec.vd an sa ae
  case neg =>
    have VA := Lib.hid (fun w => rdvalid_no hsa va w)
    clear va hsa hsb
    go_enter Tryd.func8, Tryd.ntmps8
    go_wp2_with fail
    refine (VA.out _).mono ?_; rintro _ w1 ⟨rfl, hb1⟩
    clear c00 c01 c02 c10 c11 c12
    replace P0 := (P0.below hb1 P0.lt)
    replace P1 := (P1.below hb1 P1.lt)
    replace hbb := below_then hbb hb1
    clear hb1
    obtain ⟨c00, c01, c02⟩ := P0.c3
    obtain ⟨c10, c11, c12⟩ := P1.c3
    go_wp2_with fail
    refine (HL.out _).mono ?_; rintro _ w2 ⟨rfl, hb2⟩
    clear c00 c01 c02 c10 c11 c12
    replace P0 := (P0.below hb2 P0.lt)
    replace P1 := (P1.below hb2 P1.lt)
    replace hbb := below_then hbb hb2
    clear hb2
    obtain ⟨c00, c01, c02⟩ := P0.c3
    obtain ⟨c10, c11, c12⟩ := P1.c3
    go_wp2
    go_ret
    exact ⟨rfl, hbb⟩
  have VA := Lib.hid (fun w => rdvalid_yes hsa va w)
  by_cases vb : Dec.vd bn sb be
  case neg =>
    have VB := Lib.hid (fun w => rdvalid_no hsb vb w)
    clear va vb hsa hsb
    go_enter Tryd.func8, Tryd.ntmps8
    go_wp2_with fail
    refine (VA.out _).mono ?_; rintro _ w1 ⟨rfl, hb1⟩
    clear c00 c01 c02 c10 c11 c12
    replace P0 := (P0.below hb1 P0.lt)
    replace P1 := (P1.below hb1 P1.lt)
    replace hbb := below_then hbb hb1
    clear hb1
    obtain ⟨c00, c01, c02⟩ := P0.c3
    obtain ⟨c10, c11, c12⟩ := P1.c3
    go_wp2_with fail
    refine (VB.out _).mono ?_; rintro _ w2 ⟨rfl, hb2⟩
    clear c00 c01 c02 c10 c11 c12
    replace P0 := (P0.below hb2 P0.lt)
    replace P1 := (P1.below hb2 P1.lt)
    replace hbb := below_then hbb hb2
    clear hb2
    obtain ⟨c00, c01, c02⟩ := P0.c3
    obtain ⟨c10, c11, c12⟩ := P1.c3
    go_wp2_with fail
    refine (HL.out _).mono ?_; rintro _ w3 ⟨rfl, hb3⟩
    clear c00 c01 c02 c10 c11 c12
    replace P0 := (P0.below hb3 P0.lt)
    replace P1 := (P1.below hb3 P1.lt)
    replace hbb := below_then hbb hb3
    clear hb3
    obtain ⟨c00, c01, c02⟩ := P0.c3
    obtain ⟨c10, c11, c12⟩ := P1.c3
    go_wp2
    go_ret
    exact ⟨rfl, hbb⟩
  have VB := Lib.hid (fun w => rdvalid_yes hsb vb w)
  obtain ⟨am, ham, oa⟩ := Dec.of_vd va
  obtain ⟨bm, hbm, ob⟩ := Dec.of_vd vb
  obtain ⟨R1, hR1⟩ : ∃ R, Dec.modR ⟨an, am, ae⟩ ⟨bn, bm, be⟩ = R := ⟨_, rfl⟩
  obtain ⟨⟨rg, rm, re⟩, rr⟩ := R1
  obtain ⟨q1, hq1⟩ : ∃ q, Dig.st rm = q := ⟨_, rfl⟩
  have HA := Lib.hid (fun w => dmod_leaf oa ob hR1 ham hbm hq1 w)
  have HRA := Lib.hid (fun w => rmod_leaf oa ob hR1 ham hbm hq1 w)
  have E1 := Lib.hid (dec_same rg q1 re)
  clear va vb hsa hsb ham hbm oa ob hR1 hq1
  go_enter Tryd.func8, Tryd.ntmps8
  go_wp2_with fail
  refine (VA.out _).mono ?_; rintro _ w1 ⟨rfl, hb1⟩
  clear c00 c01 c02 c10 c11 c12
  replace P0 := (P0.below hb1 P0.lt)
  replace P1 := (P1.below hb1 P1.lt)
  replace hbb := below_then hbb hb1
  clear hb1
  obtain ⟨c00, c01, c02⟩ := P0.c3
  obtain ⟨c10, c11, c12⟩ := P1.c3
  go_wp2_with fail
  refine (VB.out _).mono ?_; rintro _ w2 ⟨rfl, hb2⟩
  clear c00 c01 c02 c10 c11 c12
  replace P0 := (P0.below hb2 P0.lt)
  replace P1 := (P1.below hb2 P1.lt)
  replace hbb := below_then hbb hb2
  clear hb2
  obtain ⟨c00, c01, c02⟩ := P0.c3
  obtain ⟨c10, c11, c12⟩ := P1.c3
  clear VA VB
  clear c00 c01 c02 c10 c11 c12
  go_wp2_with fail
  go_loopw [7] (fun i wr => i = .int .i64 0 ∧ Whole wr w.heap.size 23 #[.bool an, .string sa, .int .i64 ae] ∧ Whole wr (w.heap.size + 1) 23 #[.bool bn, .string sb, .int .i64 be] ∧ Below w.heap.size w wr) (fun i _ => (intOf i).toNat)
  case atStart => exact ⟨rfl, P0, P1, hbb⟩
  case round =>
    clear P0 P1 hbb
    obtain ⟨rfl, P0, P1, hbb⟩ := hrel
    have HSU := Lib.hid (dsum_nil a c)
    have HRS := Lib.hid (rsum_nil a c)
    have E2 := dec_same false ⟨#[]⟩ 0
    have e1 := E1.out
    clear E1
    obtain ⟨c00, c01, c02⟩ := P0.c3
    obtain ⟨c10, c11, c12⟩ := P1.c3
    go_wp2_with fail
    refine (HA.out _).mono ?_; rintro _ w11 ⟨rfl, hb11⟩
    clear c00 c01 c02 c10 c11 c12
    replace P0 := (P0.below hb11 P0.lt).alloc (.cells #[.bool rg, .string q1, .int .i64 re] 23)
    replace P1 := (P1.below hb11 P1.lt).alloc (.cells #[.bool rg, .string q1, .int .i64 re] 23)
    have P2 := Whole.new w11 23 #[.bool rg, .string q1, .int .i64 re]
    replace hbb := (below_then hbb hb11).alloc (below_then hbb hb11).size (.cells #[.bool rg, .string q1, .int .i64 re] 23)
    clear hb11
    obtain ⟨c00, c01, c02⟩ := P0.c3
    obtain ⟨c10, c11, c12⟩ := P1.c3
    obtain ⟨c20, c21, c22⟩ := P2.c3
    go_wp2_with fail
    refine (HSU.out _).mono ?_; rintro _ w12 ⟨rfl, hb12⟩
    clear c00 c01 c02 c10 c11 c12 c20 c21 c22
    replace P0 := (P0.below hb12 P0.lt).alloc (.cells #[.bool false, .string ⟨#[]⟩, .int .i64 0] 23)
    replace P1 := (P1.below hb12 P1.lt).alloc (.cells #[.bool false, .string ⟨#[]⟩, .int .i64 0] 23)
    replace P2 := (P2.below hb12 P2.lt).alloc (.cells #[.bool false, .string ⟨#[]⟩, .int .i64 0] 23)
    have P3 := Whole.new w12 23 #[.bool false, .string ⟨#[]⟩, .int .i64 0]
    replace hbb := (below_then hbb hb12).alloc (below_then hbb hb12).size (.cells #[.bool false, .string ⟨#[]⟩, .int .i64 0] 23)
    clear hb12
    obtain ⟨c00, c01, c02⟩ := P0.c3
    obtain ⟨c10, c11, c12⟩ := P1.c3
    obtain ⟨c20, c21, c22⟩ := P2.c3
    obtain ⟨c30, c31, c32⟩ := P3.c3
    go_wp2_with fail
    refine (HRA.out _).mono ?_; rintro _ w13 ⟨rfl, hb13⟩
    clear c00 c01 c02 c10 c11 c12 c20 c21 c22 c30 c31 c32
    replace P0 := (P0.below hb13 P0.lt).alloc (.cells #[.bool rg, .string q1, .int .i64 re] 23)
    replace P1 := (P1.below hb13 P1.lt).alloc (.cells #[.bool rg, .string q1, .int .i64 re] 23)
    replace P2 := (P2.below hb13 P2.lt).alloc (.cells #[.bool rg, .string q1, .int .i64 re] 23)
    replace P3 := (P3.below hb13 P3.lt).alloc (.cells #[.bool rg, .string q1, .int .i64 re] 23)
    have P4 := Whole.new w13 23 #[.bool rg, .string q1, .int .i64 re]
    replace hbb := (below_then hbb hb13).alloc (below_then hbb hb13).size (.cells #[.bool rg, .string q1, .int .i64 re] 23)
    clear hb13
    obtain ⟨c00, c01, c02⟩ := P0.c3
    obtain ⟨c10, c11, c12⟩ := P1.c3
    obtain ⟨c20, c21, c22⟩ := P2.c3
    obtain ⟨c30, c31, c32⟩ := P3.c3
    obtain ⟨c40, c41, c42⟩ := P4.c3
    go_wp2_with fail
    refine (HRS.out _).mono ?_; rintro _ w14 ⟨rfl, hb14⟩
    clear c00 c01 c02 c10 c11 c12 c20 c21 c22 c30 c31 c32 c40 c41 c42
    replace P0 := (P0.below hb14 P0.lt).alloc (.cells #[.bool false, .string ⟨#[]⟩, .int .i64 0] 23)
    replace P1 := (P1.below hb14 P1.lt).alloc (.cells #[.bool false, .string ⟨#[]⟩, .int .i64 0] 23)
    replace P2 := (P2.below hb14 P2.lt).alloc (.cells #[.bool false, .string ⟨#[]⟩, .int .i64 0] 23)
    replace P3 := (P3.below hb14 P3.lt).alloc (.cells #[.bool false, .string ⟨#[]⟩, .int .i64 0] 23)
    replace P4 := (P4.below hb14 P4.lt).alloc (.cells #[.bool false, .string ⟨#[]⟩, .int .i64 0] 23)
    have P5 := Whole.new w14 23 #[.bool false, .string ⟨#[]⟩, .int .i64 0]
    replace hbb := (below_then hbb hb14).alloc (below_then hbb hb14).size (.cells #[.bool false, .string ⟨#[]⟩, .int .i64 0] 23)
    clear hb14
    obtain ⟨c00, c01, c02⟩ := P0.c3
    obtain ⟨c10, c11, c12⟩ := P1.c3
    obtain ⟨c20, c21, c22⟩ := P2.c3
    obtain ⟨c30, c31, c32⟩ := P3.c3
    obtain ⟨c40, c41, c42⟩ := P4.c3
    obtain ⟨c50, c51, c52⟩ := P5.c3
    clear HA HSU HRA HRS
    go_wp2_with fail
    refine (HL.out _).mono ?_; rintro _ w15 ⟨rfl, hb15⟩
    clear c00 c01 c02 c10 c11 c12 c20 c21 c22 c30 c31 c32 c40 c41 c42 c50 c51 c52
    replace P0 := (P0.below hb15 P0.lt)
    replace P1 := (P1.below hb15 P1.lt)
    replace P2 := (P2.below hb15 P2.lt)
    replace P3 := (P3.below hb15 P3.lt)
    replace P4 := (P4.below hb15 P4.lt)
    replace P5 := (P5.below hb15 P5.lt)
    replace hbb := below_then hbb hb15
    clear hb15
    obtain ⟨c00, c01, c02⟩ := P0.c3
    obtain ⟨c10, c11, c12⟩ := P1.c3
    obtain ⟨c20, c21, c22⟩ := P2.c3
    obtain ⟨c30, c31, c32⟩ := P3.c3
    obtain ⟨c40, c41, c42⟩ := P4.c3
    obtain ⟨c50, c51, c52⟩ := P5.c3
    go_wp2
    go_ret
    exact ⟨rfl, hbb⟩
end Go.Proofs.YtcnfgcdbjofihaaDoor
