/- Decimals: the law of ints. -/
import Derived.Test.YtcnfgcdbjofihaaDoorDecFJ
import Derived.Test.YtcnfgcdbjofihaaDoorDecLawS
import Derived.OpenShut
import Derived.Test.YtcnfgcdbjofihaaDoorBase
namespace Go.Proofs.YtcnfgcdbjofihaaDoor
open Go.RowKit

structure K2 (w W : World) (B0 B1 : Nat) (n0 : Bool) (s0 : ByteArray) (e0 : Int) (n1 : Bool) (s1 : ByteArray) (e1 : Int) : Prop where
  p0 : Whole W B0 23 #[.bool n0, .string s0, .int .i64 e0]
  p1 : Whole W B1 23 #[.bool n1, .string s1, .int .i64 e1]
  below : Below w.heap.size w W
theorem K2.full {w W : World} {B0 B1 : Nat} {n0 : Bool} {s0 : ByteArray} {e0 : Int} {n1 : Bool} {s1 : ByteArray} {e1 : Int} (h : K2 w W B0 B1 n0 s0 e0 n1 s1 e1) : W.cell? ⟨B0, 0, none⟩ = some (.bool n0) ∧ W.cell? ⟨B0, 1, none⟩ = some (.string s0) ∧ W.cell? ⟨B0, 2, none⟩ = some (.int .i64 e0) ∧ W.cell? ⟨B1, 0, none⟩ = some (.bool n1) ∧ W.cell? ⟨B1, 1, none⟩ = some (.string s1) ∧ W.cell? ⟨B1, 2, none⟩ = some (.int .i64 e1) ∧ K2 w W B0 B1 n0 s0 e0 n1 s1 e1 := ⟨h.p0.c3.1, h.p0.c3.2.1, h.p0.c3.2.2, h.p1.c3.1, h.p1.c3.2.1, h.p1.c3.2.2, h⟩
theorem K2.call {w W W' : World} {B0 B1 : Nat} {n0 : Bool} {s0 : ByteArray} {e0 : Int} {n1 : Bool} {s1 : ByteArray} {e1 : Int} (h : K2 w W B0 B1 n0 s0 e0 n1 s1 e1) (hb : Below W.heap.size W W') : K2 w W' B0 B1 n0 s0 e0 n1 s1 e1 := ⟨h.p0.below hb h.p0.lt, h.p1.below hb h.p1.lt, below_then h.below hb⟩
theorem K2.drew {w W : World} {B0 B1 : Nat} {n0 : Bool} {s0 : ByteArray} {e0 : Int} {n1 : Bool} {s1 : ByteArray} {e1 : Int} (h : K2 w W B0 B1 n0 s0 e0 n1 s1 e1) : K2 w W.drew B0 B1 n0 s0 e0 n1 s1 e1 := ⟨h.p0.drew, h.p1.drew, h.below.drew⟩
theorem K2.last {w W : World} {B0 B1 : Nat} {n0 : Bool} {s0 : ByteArray} {e0 : Int} {n1 : Bool} {s1 : ByteArray} {e1 : Int} (h : W.cell? ⟨B0, 0, none⟩ = some (.bool n0) ∧ W.cell? ⟨B0, 1, none⟩ = some (.string s0) ∧ W.cell? ⟨B0, 2, none⟩ = some (.int .i64 e0) ∧ W.cell? ⟨B1, 0, none⟩ = some (.bool n1) ∧ W.cell? ⟨B1, 1, none⟩ = some (.string s1) ∧ W.cell? ⟨B1, 2, none⟩ = some (.int .i64 e1) ∧ K2 w W B0 B1 n0 s0 e0 n1 s1 e1) : K2 w W B0 B1 n0 s0 e0 n1 s1 e1 := h.2.2.2.2.2.2
theorem K2.keep {w W W' : World} {B0 B1 : Nat} {n0 : Bool} {s0 : ByteArray} {e0 : Int} {n1 : Bool} {s1 : ByteArray} {e1 : Int} (hb : Below W.heap.size W W') (h : W.cell? ⟨B0, 0, none⟩ = some (.bool n0) ∧ W.cell? ⟨B0, 1, none⟩ = some (.string s0) ∧ W.cell? ⟨B0, 2, none⟩ = some (.int .i64 e0) ∧ W.cell? ⟨B1, 0, none⟩ = some (.bool n1) ∧ W.cell? ⟨B1, 1, none⟩ = some (.string s1) ∧ W.cell? ⟨B1, 2, none⟩ = some (.int .i64 e1) ∧ K2 w W B0 B1 n0 s0 e0 n1 s1 e1) : W'.cell? ⟨B0, 0, none⟩ = some (.bool n0) ∧ W'.cell? ⟨B0, 1, none⟩ = some (.string s0) ∧ W'.cell? ⟨B0, 2, none⟩ = some (.int .i64 e0) ∧ W'.cell? ⟨B1, 0, none⟩ = some (.bool n1) ∧ W'.cell? ⟨B1, 1, none⟩ = some (.string s1) ∧ W'.cell? ⟨B1, 2, none⟩ = some (.int .i64 e1) ∧ K2 w W' B0 B1 n0 s0 e0 n1 s1 e1 := ((K2.last h).call hb).full
theorem dec_neq0 (n : Bool) (x : ByteArray) (e : Int) (W : World) : (binOp .neq 23 (.agg #[.bool n, .string x, .int .i64 e]) (.agg #[.bool n, .string x, .int .i64 e])).run Tryd.prog W = .ok (.bool false) W := by simp [go_sem]
namespace Dec
theorem to_fi {n : Int} (h1 : -9223372036854775808 ≤ n) (h2 : n ≤ 9223372036854775807) : toR (fiR n) = (n, 0) ∧ ok (fiR n) := by
  have hok : ok (fiR n) := norm_ok _ _ (by omega)
  refine ⟨?_, hok⟩
  unfold fiR
  have hN : n.natAbs ≤ 9223372036854775808 := by omega
  have hsz := int_size hN
  obtain ⟨N, hN1⟩ : ∃ N, n.natAbs = N := ⟨_, rfl⟩
  rw [hN1] at hN hsz ⊢
  by_cases h0 : N = 0
  · have : n = 0 := by omega
    subst this
    rw [h0, norm_zero]
    unfold toR z0
    dsimp only
    rw [if_neg (by decide), st0, if_neg (by decide)]
    rfl
  · have hz := (tz_all N).1
    have hc := cut_mul N
    have hcz := cut_pos h0
    have hcl : cut N < Dig.big 120 := Nat.lt_of_le_of_lt (Nat.div_le_self _ _) ((Dig.st_size N 120).1 (by omega))
    have hs := st_len10 hcz (tz N)
    rw [hc] at hs
    unfold normR
    rw [if_neg h0, if_neg (by rintro (k | k | k); omega; omega; exact k hcl)]
    unfold toR
    dsimp only
    generalize tz N = z at *
    have e : (0 + (z : Int)).toNat = z := by omega
    rw [if_neg (by omega), if_neg (by omega), e, hc]
    unfold lim63
    by_cases hneg : n < 0
    · rw [decide_eq_true hneg]
      by_cases hl : N < 9223372036854775808
      · rw [if_pos hl, if_pos rfl]
        congr 1
        omega
      · rw [if_neg hl, if_pos ⟨rfl, by omega⟩]
        congr 1
        omega
    · rw [decide_eq_false hneg, if_pos (by omega), if_neg (by decide)]
      congr 1
      omega
end Dec

set_option maxHeartbeats 8000000 in
set_option maxRecDepth 100000 in
theorem walk_DecimalInts (n : Int) (an : Bool) (sa : ByteArray) (ae : Int) (hn : (Lit.int .i64 n).wf = true) (hsa : sa.size ≤ maxLen) (_ : (Lit.int .i64 ae).wf = true) (w : World) :
    Calls Tryd.prog 9 #[.int .i64 n, .agg #[.bool an, .string sa, .int .i64 ae]] w fun e w' => e = .returned (.bool true) ∧ Below w.heap.size w w' := by
  have HL := Lib.hid dec_lives
  obtain ⟨h1, h2⟩ := bounds_i64 hn
  clear hn
  have K := B1.new w an sa ae
  have P0 := K.one
  have hbb := K.below
  clear K
  obtain ⟨c00, c01, c02⟩ := P0.c3
  obtain ⟨t1, t2⟩ := Dec.to_fi h1 h2
  have HF := Lib.hid (fun w => fi_any h1 h2 w)
  have HRF := Lib.hid (fun w => rfi_any h1 h2 w)
  have HT := Lib.hid (fun w => dti_any t2 w)
  rw [t1] at HT
  generalize Dec.fiR n = X at *
  obtain ⟨fg, fm, fe⟩ := X
  unfold Dec.ag at HF HRF HT
  dsimp only at HF HRF HT
  obtain ⟨fq, hfq⟩ : ∃ q, Dig.st fm = q := ⟨_, rfl⟩
  rw [hfq] at HF HRF HT
  have E := dec_neq0 fg fq fe
  clear t1 t2 hfq
  go_enter Tryd.func9, Tryd.ntmps9
  go_wp2_with fail
  refine (HF.out _).mono ?_; rintro _ w1 ⟨rfl, hb1⟩
  clear c00 c01 c02
  replace P0 := (P0.below hb1 P0.lt).alloc (.cells #[.bool fg, .string fq, .int .i64 fe] 23)
  have P1 := Whole.new w1 23 #[.bool fg, .string fq, .int .i64 fe]
  replace hbb := (below_then hbb hb1).alloc (below_then hbb hb1).size (.cells #[.bool fg, .string fq, .int .i64 fe] 23)
  clear hb1
  obtain ⟨c00, c01, c02⟩ := P0.c3
  obtain ⟨c10, c11, c12⟩ := P1.c3
  go_wp2_with fail
  refine (HT.out _).mono ?_; rintro _ w2 ⟨rfl, hb2⟩
  clear c00 c01 c02 c10 c11 c12
  replace P0 := (P0.below hb2 P0.lt)
  replace P1 := (P1.below hb2 P1.lt)
  replace hbb := below_then hbb hb2
  clear hb2
  obtain ⟨c00, c01, c02⟩ := P0.c3
  obtain ⟨c10, c11, c12⟩ := P1.c3
  clear HF HT
  have K := K2.mk P0 P1 hbb
  clear P0 P1 hbb
  go_upto_region 3 with fail
  go_region_held3 (fun W => W.cell? ⟨w.heap.size, 0, none⟩ = some (.bool an) ∧ W.cell? ⟨w.heap.size, 1, none⟩ = some (.string sa) ∧ W.cell? ⟨w.heap.size, 2, none⟩ = some (.int .i64 ae) ∧ W.cell? ⟨w1.heap.size, 0, none⟩ = some (.bool fg) ∧ W.cell? ⟨w1.heap.size, 1, none⟩ = some (.string fq) ∧ W.cell? ⟨w1.heap.size, 2, none⟩ = some (.int .i64 fe) ∧ K2 w W (w.heap.size) (w1.heap.size) an sa ae fg fq fe) (first | exact K.drew.full | exact K2.keep (by assumption) (by assumption)) (first | (go_at_call 34; refine (HRF.out _).mono ?_; rintro _ w8 ⟨rfl, hb8⟩) | fail)
  clear K c00 c01 c02 c10 c11 c12 HRF E
  rename_i kept
  have K := K2.last kept
  clear kept
  have P0 := K.p0
  have P1 := K.p1
  have hbb := K.below
  clear K
  obtain ⟨c00, c01, c02⟩ := P0.c3
  obtain ⟨c10, c11, c12⟩ := P1.c3
  by_cases va : Dec.vd an sa ae
  case neg =>
    have VA := Lib.hid (fun w => rdvalid_no hsa va w)
    clear va hsa
    go_wp2_with fail
    refine (VA.out _).mono ?_; rintro _ w21 ⟨rfl, hb21⟩
    clear c00 c01 c02 c10 c11 c12
    replace P0 := (P0.below hb21 P0.lt)
    replace P1 := (P1.below hb21 P1.lt)
    replace hbb := below_then hbb hb21
    clear hb21
    obtain ⟨c00, c01, c02⟩ := P0.c3
    obtain ⟨c10, c11, c12⟩ := P1.c3
    go_wp2_with fail
    refine (HL.out _).mono ?_; rintro _ w22 ⟨rfl, hb22⟩
    clear c00 c01 c02 c10 c11 c12
    replace P0 := (P0.below hb22 P0.lt)
    replace P1 := (P1.below hb22 P1.lt)
    replace hbb := below_then hbb hb22
    clear hb22
    obtain ⟨c00, c01, c02⟩ := P0.c3
    obtain ⟨c10, c11, c12⟩ := P1.c3
    go_wp2
    go_ret
    exact ⟨rfl, hbb⟩
  have VA := Lib.hid (fun w => rdvalid_yes hsa va w)
  obtain ⟨am, ham, oa⟩ := Dec.of_vd va
  have HI := Lib.hid (fun w => dti_any oa w)
  have HRI := Lib.hid (fun w => rti_any oa w)
  have HN := Lib.hid (fun w => dneg_any ⟨an, am, ae⟩ w)
  have HRN := Lib.hid (fun w => rneg_any ⟨an, am, ae⟩ w)
  generalize Dec.toR ⟨an, am, ae⟩ = R at *
  obtain ⟨ri, rj⟩ := R
  generalize Dec.negR ⟨an, am, ae⟩ = Y at *
  obtain ⟨ng, nm, ne⟩ := Y
  unfold Dec.ag at HI HRI HN HRN
  dsimp only at HI HRI HN HRN
  rw [ham] at HI HRI HN HRN
  generalize Dig.st nm = nq at *
  obtain ⟨b, hb⟩ : ∃ b, decide (0 ≤ ae) = b := ⟨_, rfl⟩
  have HW := Lib.hid (fun w => whole_any an sa ae hb w)
  have HRW := Lib.hid (fun w => rwhole_any an sa ae hb w)
  have HA := Lib.hid (fun w => dabs_any an sa ae w)
  have HRA := Lib.hid (fun w => rabs_any an sa ae w)
  have E1 := dec_same ng nq ne
  have E2 := dec_same false sa ae
  clear va hsa ham oa hb
  go_wp2_with fail
  refine (VA.out _).mono ?_; rintro _ w21 ⟨rfl, hb21⟩
  clear c00 c01 c02 c10 c11 c12
  replace P0 := (P0.below hb21 P0.lt)
  replace P1 := (P1.below hb21 P1.lt)
  replace hbb := below_then hbb hb21
  clear hb21
  obtain ⟨c00, c01, c02⟩ := P0.c3
  obtain ⟨c10, c11, c12⟩ := P1.c3
  go_wp2_with fail
  refine (HI.out _).mono ?_; rintro _ w22 ⟨rfl, hb22⟩
  clear c00 c01 c02 c10 c11 c12
  replace P0 := (P0.below hb22 P0.lt)
  replace P1 := (P1.below hb22 P1.lt)
  replace hbb := below_then hbb hb22
  clear hb22
  obtain ⟨c00, c01, c02⟩ := P0.c3
  obtain ⟨c10, c11, c12⟩ := P1.c3
  go_wp2_with fail
  refine (HRI.out _).mono ?_; rintro _ w23 ⟨rfl, hb23⟩
  clear c00 c01 c02 c10 c11 c12
  replace P0 := (P0.below hb23 P0.lt)
  replace P1 := (P1.below hb23 P1.lt)
  replace hbb := below_then hbb hb23
  clear hb23
  obtain ⟨c00, c01, c02⟩ := P0.c3
  obtain ⟨c10, c11, c12⟩ := P1.c3
  clear VA HI HRI
  have K := K2.mk P0 P1 hbb
  clear P0 P1 hbb
  go_upto_region 9 with fail
  go_region_held3 (fun W => W.cell? ⟨w.heap.size, 0, none⟩ = some (.bool an) ∧ W.cell? ⟨w.heap.size, 1, none⟩ = some (.string sa) ∧ W.cell? ⟨w.heap.size, 2, none⟩ = some (.int .i64 ae) ∧ W.cell? ⟨w1.heap.size, 0, none⟩ = some (.bool fg) ∧ W.cell? ⟨w1.heap.size, 1, none⟩ = some (.string fq) ∧ W.cell? ⟨w1.heap.size, 2, none⟩ = some (.int .i64 fe) ∧ K2 w W (w.heap.size) (w1.heap.size) an sa ae fg fq fe) (first | exact K.drew.full | exact K2.keep (by assumption) (by assumption)) (first | (go_at_call 36; refine (HW.out _).mono ?_; rintro _ w40 ⟨rfl, hb40⟩) | (go_at_call 37; refine (HRW.out _).mono ?_; rintro _ w41 ⟨rfl, hb41⟩) | (go_at_call 38; refine (HN.out _).mono ?_; rintro _ w42 ⟨rfl, hb42⟩) | (go_at_call 39; refine (HRN.out _).mono ?_; rintro _ w43 ⟨rfl, hb43⟩) | (go_at_call 40; refine (HA.out _).mono ?_; rintro _ w44 ⟨rfl, hb44⟩) | (go_at_call 41; refine (HRA.out _).mono ?_; rintro _ w45 ⟨rfl, hb45⟩) | (go_at_call 13; refine (HL.out _).mono ?_; rintro _ w46 ⟨rfl, hb46⟩))
  all_goals
    rename_i kept
    go_wp2
    go_ret
    exact ⟨rfl, (K2.last kept).below⟩
end Go.Proofs.YtcnfgcdbjofihaaDoor
