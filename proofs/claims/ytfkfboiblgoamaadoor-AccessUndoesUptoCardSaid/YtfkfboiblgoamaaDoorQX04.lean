/- Laid together for a claim: VtArm, VtLawU. -/
import Derived.Test.YtfkfboiblgoamaaDoorQX01
import Derived.Test.YtfkfboiblgoamaaDoorQX02
import Derived.Test.YtfkfboiblgoamaaDoorQX03
import Derived.Test.YtfkfboiblgoamaaDoorQI07
import Derived.Test.YtfkfboiblgoamaaDoorQB18
import Derived.Test.YtfkfboiblgoamaaDoorQB17
/- access.Remove, walked. -/
namespace Go.Proofs.YtfkfboiblgoamaaDoor
open Go.RowKit
set_option linter.unusedSimpArgs false
set_option linter.unusedVariables false

set_option maxHeartbeats 8000000 in
set_option maxRecDepth 100000 in
theorem arem_bad {T : Vt} {p : Pth} {top : Nat} {w : World} (hT : T.In w top) (hp : p.In w top) (ht : top ≤ w.heap.size) (h : pathB p.S p.n = false) :
    Calls Tryd.prog 18 #[.agg T.h.cells, .slice p.a p.n p.c] w (ResOut (.z, 1) top w) := by
  have hb0 := ((Below.refl w.heap.size w).alloc (Nat.le_refl _) (.cells T.h.cells 30)).alloc (by simp) (.cells Vh.zero.cells 30)
  have P := (Whole.new w 30 T.h.cells).alloc (.cells Vh.zero.cells 30)
  have Q := Whole.new (w.alloc (.cells T.h.cells 30)) 30 Vh.zero.cells
  rw [World.size_alloc] at Q
  have HV := Lib.hid (fun (w1 : World) (hb : Below w.heap.size w w1) => pvalid_any (Pth.In.below hp (hb.mono ht)) (Nat.le_trans ht hb.size))
  have HE : Hid (∀ w', Below w.heap.size w w' → ResOut ((.z, 1) : Vt × Int) top w (.returned (.tuple #[.agg Vh.zero.cells, .int .i64 1])) w') := Lib.hid fun w' hb => res_of (X := .z) rfl (Vt.z_in _ _) (Vt.z_off _) (fun q => absurd q (by decide)) (fun _ => rfl) hb
  rw [h] at HV
  clear h
  clear hT hp
  simp only [Vh.cells, Vh.zero] at hb0 P Q ⊢
  go_enter Tryd.func18, Tryd.ntmps18
  go_wp2_with fail
  refine (HV.out _ hb0).mono ?_; rintro _ w1 ⟨rfl, hb1⟩
  have g1 := below_then hb0 hb1
  have P1 := P.below hb1 P.lt
  have Q1 := Q.below hb1 Q.lt
  clear P Q hb0 hb1
  have hone := Lib.hid (vh_all Vh.zero)
  go_wp2_with (refine wpList_store_row rfl 30 _ _ rfl (w.heap.size + 1) Vh.zero.cells rfl rfl 30 _ Q1 vh_row rfl hone.out ?_)
  exact bodyPost_ret (v := .tuple #[.agg Vh.zero.cells, .int .i64 1]) (ret_val2 (p := 4) (q := 5) rfl rfl (Whole.setRow Q1 Vh.zero.cells)) rfl (HE.out _ (below_setRow g1 (by omega) _))

set_option maxHeartbeats 8000000 in
set_option maxRecDepth 100000 in
theorem arem_nil {T : Vt} {p : Pth} {top : Nat} {w : World} (hT : T.In w top) (hp : p.In w top) (ht : top ≤ w.heap.size) (h : pathB p.S p.n = true) (h0 : p.n = 0) :
    Calls Tryd.prog 18 #[.agg T.h.cells, .slice p.a p.n p.c] w (ResOut (.z, 1) top w) := by
  have hb0 := ((Below.refl w.heap.size w).alloc (Nat.le_refl _) (.cells T.h.cells 30)).alloc (by simp) (.cells Vh.zero.cells 30)
  have P := (Whole.new w 30 T.h.cells).alloc (.cells Vh.zero.cells 30)
  have Q := Whole.new (w.alloc (.cells T.h.cells 30)) 30 Vh.zero.cells
  rw [World.size_alloc] at Q
  have HV := Lib.hid (fun (w1 : World) (hb : Below w.heap.size w w1) => pvalid_any (Pth.In.below hp (hb.mono ht)) (Nat.le_trans ht hb.size))
  have HE : Hid (∀ w', Below w.heap.size w w' → ResOut ((.z, 1) : Vt × Int) top w (.returned (.tuple #[.agg Vh.zero.cells, .int .i64 1])) w') := Lib.hid fun w' hb => res_of (X := .z) rfl (Vt.z_in _ _) (Vt.z_off _) (fun q => absurd q (by decide)) (fun _ => rfl) hb
  rw [h, h0] at HV
  rw [h0]
  clear h h0
  clear hT hp
  simp only [Vh.cells, Vh.zero] at hb0 P Q ⊢
  go_enter Tryd.func18, Tryd.ntmps18
  go_wp2_with fail
  refine (HV.out _ hb0).mono ?_; rintro _ w1 ⟨rfl, hb1⟩
  have g1 := below_then hb0 hb1
  have P1 := P.below hb1 P.lt
  have Q1 := Q.below hb1 Q.lt
  clear P Q hb0 hb1
  have hone := Lib.hid (vh_all Vh.zero)
  go_wp2_with (refine wpList_store_row rfl 30 _ _ rfl (w.heap.size + 1) Vh.zero.cells rfl rfl 30 _ Q1 vh_row rfl hone.out ?_)
  exact bodyPost_ret (v := .tuple #[.agg Vh.zero.cells, .int .i64 1]) (ret_val2 (p := 4) (q := 5) rfl rfl (Whole.setRow Q1 Vh.zero.cells)) rfl (HE.out _ (below_setRow g1 (by omega) _))

set_option maxHeartbeats 8000000 in
set_option maxRecDepth 100000 in
theorem arem_at {T : Vt} {p : Pth} {top : Nat} {w : World} (hT : T.In w top) (hp : p.In w top) (ht : top ≤ w.heap.size) (h : pathB p.S p.n = true) {m : Nat} (h0 : p.n = m + 1) (h2 : (T.atN p.S (m + 1)).2 ≠ 0) :
    Calls Tryd.prog 18 #[.agg T.h.cells, .slice p.a p.n p.c] w (ResOut (.z, (T.atN p.S (m + 1)).2) top w) := by
  have hb0 := ((Below.refl w.heap.size w).alloc (Nat.le_refl _) (.cells T.h.cells 30)).alloc (by simp) (.cells Vh.zero.cells 30)
  have P := (Whole.new w 30 T.h.cells).alloc (.cells Vh.zero.cells 30)
  have Q := Whole.new (w.alloc (.cells T.h.cells 30)) 30 Vh.zero.cells
  rw [World.size_alloc] at Q
  have HV := Lib.hid (fun (w1 : World) (hb : Below w.heap.size w w1) => pvalid_any (Pth.In.below hp (hb.mono ht)) (Nat.le_trans ht hb.size))
  have HAt := Lib.hid (fun (w1 : World) (hb : Below w.heap.size w w1) => at_any (Vt.In.below (hb.mono ht) hT) (Pth.In.below hp (hb.mono ht)) (Nat.le_trans ht hb.size))
  have HE : Hid (∀ w', Below w.heap.size w w' → ResOut ((.z, (T.atN p.S (m + 1)).2) : Vt × Int) top w (.returned (.tuple #[.agg Vh.zero.cells, .int .i64 (T.atN p.S (m + 1)).2])) w') := Lib.hid fun w' hb => res_of (X := .z) rfl (Vt.z_in _ _) (Vt.z_off _) (fun q => absurd q h2) (fun _ => rfl) hb
  rw [h] at HV
  have e2 : T.get p.S p.n = (.nil, (T.atN p.S (m + 1)).2) := by rw [h0]; unfold Vt.get; rw [if_neg h2]
  rw [e2] at HAt
  rw [h0] at HAt HV ⊢
  have z1 : ((T.atN p.S (m + 1)).2 == 0) = false := beq_eq_false_iff_ne.2 h2
  have z2 : ((T.atN p.S (m + 1)).2 != 0) = true := bne_iff_ne.2 h2
  have n1 : ((m : Int) + 1 == 0) = false := beq_eq_false_iff_ne.2 (by omega)
  have n2 : (((m + 1 : Nat) : Int) == 0) = false := beq_eq_false_iff_ne.2 (by omega)
  have n3 : (m + 1 == 0) = false := beq_eq_false_iff_ne.2 (by omega)
  clear hT hp h h0 e2 h2
  generalize (T.atN p.S (m + 1)).2 = E at *
  rw [show (Vt.nil).h = Vh.zero from rfl] at HAt
  simp only [Vh.cells, Vh.zero] at hb0 P Q HAt ⊢
  go_enter Tryd.func18, Tryd.ntmps18
  go_wp2_with fail
  refine (HV.out _ hb0).mono ?_; rintro _ w1 ⟨rfl, hb1⟩
  have g1 := below_then hb0 hb1
  have P1 := P.below hb1 P.lt
  have Q1 := Q.below hb1 Q.lt
  clear P Q hb0 hb1
  obtain ⟨c0, c1, c2, c3, c4, c5, c6, c7, c8, c9, c10, c11, c12⟩ := Whole.c13 (h := T.h) P1
  go_wp2_with fail
  refine (HAt.out _ g1).mono ?_; rintro _ w2 ⟨rfl, hb2⟩
  have g2 := below_then g1 hb2
  have hq1 := Q1.lt
  have Q2 := Whole.below Q1 hb2 hq1
  have hs2 := hb2.size
  have gA := g2.alloc g2.size (.cells Vh.zero.cells 30)
  have QA := Q2.alloc (.cells Vh.zero.cells 30)
  clear c0 c1 c2 c3 c4 c5 c6 c7 c8 c9 c10 c11 c12 P1 Q1 g1 hb2 g2 Q2
  simp only [Vh.cells, Vh.zero] at gA QA
  have hone := Lib.hid (vh_all Vh.zero)
  go_wp2_with (refine wpList_store_row rfl 30 _ _ rfl (w.heap.size + 1) Vh.zero.cells rfl rfl 30 _ QA vh_row rfl hone.out ?_)
  exact bodyPost_ret (v := .tuple #[.agg Vh.zero.cells, .int .i64 E]) (ret_val2 (p := 4) (q := 5) rfl rfl (Whole.setRow QA Vh.zero.cells)) rfl (HE.out _ (below_setRow gA (by omega) _))

set_option maxHeartbeats 8000000 in
set_option maxRecDepth 100000 in
theorem arem_ok {T : Vt} {p : Pth} {top : Nat} {w : World} (hT : T.In w top) (hp : p.In w top) (ht : top ≤ w.heap.size) (hu : T.upto 48) (h : pathB p.S p.n = true) {m : Nat} (h0 : p.n = m + 1) (h2 : (T.atN p.S (m + 1)).2 = 0) :
    Calls Tryd.prog 18 #[.agg T.h.cells, .slice p.a p.n p.c] w (ResOut (Vt.chg (fun U => U.wo (p.S m)) m p.S T, 0) top w) := by
  have hb0 := ((Below.refl w.heap.size w).alloc (Nat.le_refl _) (.cells T.h.cells 30)).alloc (by simp) (.cells Vh.zero.cells 30)
  have P := (Whole.new w 30 T.h.cells).alloc (.cells Vh.zero.cells 30)
  have Q := Whole.new (w.alloc (.cells T.h.cells 30)) 30 Vh.zero.cells
  rw [World.size_alloc] at Q
  have HV := Lib.hid (fun (w1 : World) (hb : Below w.heap.size w w1) => pvalid_any (Pth.In.below hp (hb.mono ht)) (Nat.le_trans ht hb.size))
  have HAt := Lib.hid (fun (w1 : World) (hb : Below w.heap.size w w1) => at_any (Vt.In.below (hb.mono ht) hT) (Pth.In.below hp (hb.mono ht)) (Nat.le_trans ht hb.size))
  have hlen : m + 1 ≤ 48 := by have := (pathB_ok h).1; omega
  obtain ⟨U, hU⟩ : ∃ U, T.get p.S p.n = (U, 0) := ⟨(T.atN p.S (m + 1)).1, by rw [h0]; unfold Vt.get; rw [if_pos h2]; exact Prod.ext rfl h2⟩
  rw [hU] at HAt
  obtain ⟨a, n, c, b, o, S⟩ := p
  dsimp only at h0 h2 h HAt HV ⊢
  subst h0
  obtain ⟨e, hbt⟩ := hp.1 (Nat.succ_pos _)
  dsimp only at e hbt
  subst e
  have hcap : m + 1 ≤ c := hp.2.1.2.1
  have hsn : w64 (S m).n := (hp.2.2 m (Nat.lt_succ_self m)).2.n
  have HP := Lib.hid (fun (w1 : World) (hb : Below w.heap.size w w1) => ((hp.2.2 m (Nat.lt_succ_self m)).1.below (hb.mono ht) hbt : LiesAt w1 b (o + m * 3) (S m).cells))
  have HC := Lib.hid (fun (w5 : World) (cb : Nat) (hb : Below w.heap.size w w5) (hcb : cb < w5.heap.size) (hS : LiesAt w5 cb 0 (S m).cells) =>
    VtChgRm.any (rm_ok hcb hsn hS (Nat.le_refl _)) (Nat.le_refl _) m ⟨some ⟨b, o, none⟩, m, c, b, o, S⟩ T w5 rfl (Below.refl _ _) ((Vt.In.below (hb.mono ht) hT).up (Nat.le_trans ht hb.size))
      (Pth.In.up ⟨fun _ => ⟨rfl, hbt⟩, ⟨Nat.le_of_succ_le hp.2.1.1, Nat.le_of_succ_le hcap, hp.2.1.2.2⟩, fun i hi => (Pth.In.below hp (hb.mono ht)).2.2 i (Nat.lt_succ_of_lt hi)⟩ (Nat.le_trans ht hb.size)) (Vt.atN_le h2 (Nat.le_succ m)) (Vt.atN_find h2 (Nat.lt_succ_self m)))
  have HCo := Lib.hid (fun (Z : Vt) (w1 : World) (hZ : Z.In w1 w1.heap.size) (hs : Z.Same (Vt.chg (fun U => U.wo (S m)) m S T)) => copy_any hZ (Nat.le_refl _) (Vt.upto_le (Vt.upto_same hs (Vt.upto_chg (fun _ _ q => Vt.upto_wo q) (Vt.atN_le h2 (Nat.le_succ m)) hu)) (by decide)))
  obtain ⟨V, hV⟩ : ∃ V, Vt.chg (fun U => U.wo (S m)) m S T = V := ⟨_, rfl⟩
  rw [hV] at HC HCo ⊢
  have HE : Hid (∀ (Z : Vt) w', Z.In w' w'.heap.size → Z.Off (w.heap.size ≤ ·) → Z.Same V → Below w.heap.size w w' → ResOut (V, 0) top w (.returned (.tuple #[.agg Z.h.cells, .int .i64 0])) w') := Lib.hid fun Z w' h1 h3 h4 hb => res_of (X := Z) rfl h1 (h3.mono fun _ q => .inr q) (fun _ => h4) (fun q => absurd rfl q) hb
  have hsl := slice_head Tryd.underlying31 elem_path stp_size (b := b) (o := o) (n := m + 1) (c := c) (i := m) (Nat.le_of_succ_le hcap) (by omega)
  rw [h] at HV
  clear hV hT hp h h2 hU hu hsn
  have n1 : ((m : Int) + 1 == 0) = false := beq_eq_false_iff_ne.2 (by omega)
  have n2 : (((m + 1 : Nat) : Int) == 0) = false := beq_eq_false_iff_ne.2 (by omega)
  have n3 : (m + 1 == 0) = false := beq_eq_false_iff_ne.2 (by omega)
  have m1 : (0 : Int) ≤ m := by omega
  have m2 : (m : Int) ≤ 47 := by omega
  have m3 : (m : Int) < ((m + 1 : Nat) : Int) := by omega
  have m4 : (m : Int) < (m : Int) + 1 := by omega
  have m5 : (m : Int) ≤ (c : Int) := by omega
  have hwr : IntKind.i64.wrap (m : Int) = (m : Int) := by rw [IntKind.wrap_i64]; omega
  simp only [Vh.cells, Vh.zero] at hb0 P Q HAt HC ⊢
  go_enter Tryd.func18, Tryd.ntmps18
  go_wp2_with fail
  refine (HV.out _ hb0).mono ?_; rintro _ w1 ⟨rfl, hb1⟩
  have g1 := below_then hb0 hb1
  have P1 := P.below hb1 P.lt
  have Q1 := Q.below hb1 Q.lt
  clear P Q hb0 hb1
  obtain ⟨c0, c1, c2, c3, c4, c5, c6, c7, c8, c9, c10, c11, c12⟩ := Whole.c13 (h := T.h) P1
  go_wp2_with fail
  refine (HAt.out _ g1).mono ?_; rintro _ w2 ⟨rfl, hb2⟩
  have g2 := below_then g1 hb2
  have hq1 := Q1.lt
  have Q2 := Whole.below Q1 hb2 hq1
  have P2 := Whole.below P1 hb2 P1.lt
  have hs2 := hb2.size
  have gA := g2.alloc g2.size (.cells U.h.cells 30)
  have QA := Q2.alloc (.cells U.h.cells 30)
  have PA := P2.alloc (.cells U.h.cells 30)
  clear c0 c1 c2 c3 c4 c5 c6 c7 c8 c9 c10 c11 c12 P1 Q1 g1 hb2 g2 Q2 P2
  simp only [Vh.cells, Vh.zero] at gA QA PA
  go_wp2_with fail
  generalize w2.alloc (.cells #[.int .i64 U.h.k, .bool U.h.b, .bool U.h.n, .string U.h.d, .int .i64 U.h.e, .int .i64 U.h.tk, .int .i64 U.h.td, .int .i64 U.h.tn, .int .i64 U.h.tz, .string U.h.x, .slice U.h.ba U.h.bn U.h.bc, .slice U.h.la U.h.ln U.h.lc, .slice U.h.fa U.h.fn U.h.fc] 30) = w3 at *
  refine wp_region_held_drew (S := fun W => Whole W w.heap.size 30 T.h.cells ∧ LiesAt W b (o + m * 3) (S m).cells ∧ Below w.heap.size w W) (by kernel_rfl) ⟨Whole.drew PA, HP.out _ (Below.drew gA), Below.drew gA⟩ (fun hS => ?_)
  refine wpAnyH_take (i := 0) (v := ?v0x1) rfl (by kernel_rfl) (by kernel_rfl) (by kernel_rfl) (fun _ _ _ h => h) (Or.inl ⟨by rfl, ?hy0x1⟩) hS ?rest0x1
  case hy0x1 => (intro wS hSw; go_simp; (try with_reducible rfl))
  case rest0x1 =>
  simp only [Act.put, List.getElem_toArray, List.getElem_cons_zero, List.getElem_cons_succ, List.setIfInBounds_toArray, List.set_cons_zero, List.set_cons_succ]
  refine wpAnyH_take (i := 1) (v := ?v1x2) rfl (by kernel_rfl) (by kernel_rfl) (by kernel_rfl) (fun _ _ _ h => h) (Or.inl ⟨by rfl, ?hy1x2⟩) hS ?rest1x2
  case hy1x2 => (intro wS hSw; go_simp; (try with_reducible rfl))
  case rest1x2 =>
  simp only [Act.put, List.getElem_toArray, List.getElem_cons_zero, List.getElem_cons_succ, List.setIfInBounds_toArray, List.set_cons_zero, List.set_cons_succ]
  refine wpAnyH_take (i := 2) (v := ?v2x3) rfl (by kernel_rfl) (by kernel_rfl) (by kernel_rfl) (fun _ _ _ h => h) (Or.inl ⟨by rfl, ?hy2x3⟩) hS ?rest2x3
  case hy2x3 => (intro wS hSw; go_simp; (try with_reducible rfl))
  case rest2x3 =>
  simp only [Act.put, List.getElem_toArray, List.getElem_cons_zero, List.getElem_cons_succ, List.setIfInBounds_toArray, List.set_cons_zero, List.set_cons_succ]
  refine wpAnyH_take (i := 3) (v := ?v3x4) rfl (by kernel_rfl) (by kernel_rfl) (by kernel_rfl) (fun _ _ _ h => h) (Or.inl ⟨by rfl, ?hy3x4⟩) hS ?rest3x4
  case hy3x4 => (intro wS hSw; go_simp; (try with_reducible rfl))
  case rest3x4 =>
  simp only [Act.put, List.getElem_toArray, List.getElem_cons_zero, List.getElem_cons_succ, List.setIfInBounds_toArray, List.set_cons_zero, List.set_cons_succ]
  refine wpAnyH_take (i := 4) (v := ?v4x5) rfl (by kernel_rfl) (by kernel_rfl) (by kernel_rfl) (fun _ _ _ h => h) (Or.inl ⟨by rfl, ?hy4x5⟩) hS ?rest4x5
  case hy4x5 => (intro wS hSw; go_simp; (try with_reducible rfl))
  case rest4x5 =>
  simp only [Act.put, List.getElem_toArray, List.getElem_cons_zero, List.getElem_cons_succ, List.setIfInBounds_toArray, List.set_cons_zero, List.set_cons_succ]
  refine wpAnyH_take (i := 5) (v := ?v5x6) rfl (by kernel_rfl) (by kernel_rfl) (by kernel_rfl) (fun _ _ _ h => h) (Or.inl ⟨by rfl, ?hy5x6⟩) hS ?rest5x6
  case hy5x6 => (intro wS hSw; go_simp; (try with_reducible rfl))
  case rest5x6 =>
  simp only [Act.put, List.getElem_toArray, List.getElem_cons_zero, List.getElem_cons_succ, List.setIfInBounds_toArray, List.set_cons_zero, List.set_cons_succ]
  refine wpAnyH_take (i := 6) (v := ?v6x7) rfl (by kernel_rfl) (by kernel_rfl) (by kernel_rfl) (fun _ _ _ h => h) (Or.inl ⟨by rfl, ?hy6x7⟩) hS ?rest6x7
  case hy6x7 => (intro wS hSw; go_simp; (try with_reducible rfl))
  case rest6x7 =>
  simp only [Act.put, List.getElem_toArray, List.getElem_cons_zero, List.getElem_cons_succ, List.setIfInBounds_toArray, List.set_cons_zero, List.set_cons_succ]
  refine wpAnyH_take (i := 7) (v := ?v7x8) rfl (by kernel_rfl) (by kernel_rfl) (by kernel_rfl) (fun _ _ _ h => h) (Or.inl ⟨by rfl, ?hy7x8⟩) hS ?rest7x8
  case hy7x8 => (intro wS hSw; go_simp; (try with_reducible rfl))
  case rest7x8 =>
  simp only [Act.put, List.getElem_toArray, List.getElem_cons_zero, List.getElem_cons_succ, List.setIfInBounds_toArray, List.set_cons_zero, List.set_cons_succ]
  refine wpAnyH_take (i := 8) (v := ?v8x9) rfl (by kernel_rfl) (by kernel_rfl) (by kernel_rfl) (fun _ _ _ h => h) (Or.inl ⟨by rfl, ?hy8x9⟩) hS ?rest8x9
  case hy8x9 => (intro wS hSw; go_simp; (try with_reducible rfl))
  case rest8x9 =>
  simp only [Act.put, List.getElem_toArray, List.getElem_cons_zero, List.getElem_cons_succ, List.setIfInBounds_toArray, List.set_cons_zero, List.set_cons_succ]
  refine wpAnyH_take (i := 9) (v := ?v9x10) rfl (by kernel_rfl) (by kernel_rfl) (by kernel_rfl) (fun _ _ _ h => h) (Or.inl ⟨by rfl, ?hy9x10⟩) hS ?rest9x10
  case hy9x10 => (intro wS hSw; go_simp; (try with_reducible rfl))
  case rest9x10 =>
  simp only [Act.put, List.getElem_toArray, List.getElem_cons_zero, List.getElem_cons_succ, List.setIfInBounds_toArray, List.set_cons_zero, List.set_cons_succ]
  refine wpAnyH_take (i := 10) (v := ?v10x11) rfl (by kernel_rfl) (by kernel_rfl) (by kernel_rfl) (fun _ _ _ h => h) (Or.inl ⟨by rfl, ?hy10x11⟩) hS ?rest10x11
  case hy10x11 => (intro wS hSw; obtain ⟨-, Pz, -⟩ := hSw; obtain ⟨s0, s1, s2⟩ := Pz.s3; go_simp; (try with_reducible rfl))
  case rest10x11 =>
  simp only [Act.put, List.getElem_toArray, List.getElem_cons_zero, List.getElem_cons_succ, List.setIfInBounds_toArray, List.set_cons_zero, List.set_cons_succ]
  have g3 := Below.drew gA
  have Q3 := Whole.drew QA
  have P3 := Whole.drew PA
  clear gA QA PA hsl
  generalize w3.drew = w4 at *
  have hq3 := Q3.lt
  refine wpAnyH_ready (rs := [11]) (by kernel_rfl) (by simp) ?_
  refine AllReadyH.cons rfl (fun KK hK => ?_) AllReadyH.nil
  go_simp
  have q1 := (Below.refl w4.heap.size w4).alloc (Nat.le_refl _) (.cells #[.bool false, .string ⟨#[]⟩, .int .i64 0] 50)
  have Y4 := Whole.new w4 50 #[.bool false, .string ⟨#[]⟩, .int .i64 0]
  have g4 := below_then g3 q1
  have Q4 := Whole.below Q3 q1 Q3.lt
  have P4 := Whole.below P3 q1 P3.lt
  clear q1
  refine hK.out _ _ ⟨P4, HP.out _ g4, g4⟩ (fun hS4 => ?_)
  clear hK KK
  try simp only [Act.put, List.getElem_toArray, List.getElem_cons_zero, List.getElem_cons_succ, List.setIfInBounds_toArray, List.set_cons_zero, List.set_cons_succ]
  refine wpAnyH_ready (rs := [12]) (by kernel_rfl) (by simp) ?_
  refine AllReadyH.cons rfl (fun KK hK => ?_) AllReadyH.nil
  go_simp
  refine hK.out _ _ hS4 (fun hS5 => ?_)
  clear hK KK
  try simp only [Act.put, List.getElem_toArray, List.getElem_cons_zero, List.getElem_cons_succ, List.setIfInBounds_toArray, List.set_cons_zero, List.set_cons_succ]
  refine wpAnyH_ready (rs := [13]) (by kernel_rfl) (by simp) ?_
  refine AllReadyH.cons rfl (fun KK hK => ?_) AllReadyH.nil
  rw [if_pos (by rfl)]
  refine wp_store_row 50 _ _ rfl (w4.heap.size) #[.bool (S m).ix, .string (S m).key, .int .i64 (S m).n] rfl rfl 50 _ Y4 stp_size rfl (by simp [Value.oneCell']) ?_
  have g5 := below_setRow g4 (show w.heap.size ≤ w4.heap.size from g3.size) #[.bool (S m).ix, .string (S m).key, .int .i64 (S m).n]
  have Y5 : Whole _ w4.heap.size 50 (S m).cells := Whole.setRow Y4 #[.bool (S m).ix, .string (S m).key, .int .i64 (S m).n]
  have P5 := Whole.farRow (B' := w4.heap.size) P4 (by omega) #[.bool (S m).ix, .string (S m).key, .int .i64 (S m).n]
  have Q5 := Whole.farRow (B' := w4.heap.size) Q4 (by omega) #[.bool (S m).ix, .string (S m).key, .int .i64 (S m).n]
  obtain ⟨w5, hw5⟩ : ∃ w5, (w4.alloc (.cells #[.bool false, .string ⟨#[]⟩, .int .i64 0] 50)).setRow w4.heap.size #[.bool (S m).ix, .string (S m).key, .int .i64 (S m).n] = w5 := ⟨_, rfl⟩
  rw [hw5] at g5 Y5 P5 Q5 ⊢
  clear hw5
  refine hK.out _ _ ⟨P5, HP.out _ g5, g5⟩ (fun hS6 => ?_)
  clear hK KK
  try simp only [Act.put, List.getElem_toArray, List.getElem_cons_zero, List.getElem_cons_succ, List.setIfInBounds_toArray, List.set_cons_zero, List.set_cons_succ]
  refine wpAnyH_done (by kernel_rfl) ?_ _
  clear hS hS4 hS5 hS6 g3 g4 P3 P4 Q3 Q4 Y4
  obtain ⟨c0, c1, c2, c3, c4, c5, c6, c7, c8, c9, c10, c11, c12⟩ := Whole.c13 (h := T.h) P5
  have hy5 := Y5.lt
  have hq5 := Q5.lt
  go_wp2_with fail
  refine (HC.out w5 w4.heap.size g5 hy5 (fun j hj => by rw [Nat.zero_add]; exact Y5.cell j)).mono ?_
  rintro _ w6 ⟨Z, rfl, hZ, -, hZs, hb6⟩
  have g6 := below_then g5 hb6
  have Q6 := Whole.below Q5 hb6 hq5
  have hs6 := hb6.size
  have gB := g6.alloc g6.size (.cells Z.h.cells 30)
  have QB := Q6.alloc (.cells Z.h.cells 30)
  have ZB := Whole.new w6 30 Z.h.cells
  have HZ := Lib.hid (hZ.later ((Below.refl _ w6).alloc (Nat.le_refl _) (.cells Z.h.cells 30)))
  have HZs := Lib.hid hZs
  clear hZ hZs hb6 g5 P5 Q5 Y5 g6 Q6 hy5 c0 c1 c2 c3 c4 c5 c6 c7 c8 c9 c10 c11 c12
  simp only [Vh.cells] at gB QB ZB HZ HCo
  obtain ⟨c0, c1, c2, c3, c4, c5, c6, c7, c8, c9, c10, c11, c12⟩ := Whole.c13 (h := Z.h) ZB
  go_wp2_with fail
  refine (HCo.out Z _ HZ.out HZs.out).mono ?_
  rintro _ w7 ⟨X, rfl, hX, hXo, hXs, hb7⟩
  have g7 := below_then gB hb7
  have hqB := QB.lt
  have Q7 := Whole.below QB hb7 hqB
  have hzB := gB.size
  have hone := Lib.hid (vh_all X.h)
  have hX2 := Lib.hid (hX.stays hXo (W' := w7.setRow (w.heap.size + 1) X.h.cells) (fun b hb => setRow_other _ _ _ _ (by have h1 : _ ≤ b := hb; omega)) (by rw [size_setRow]; exact Nat.le_refl _))
  have hXo2 := Lib.hid (hXo.mono (S' := (w.heap.size ≤ ·)) fun b hb => Nat.le_trans hzB hb)
  have hXs2 := Lib.hid (hXs.trans HZs.out)
  clear hX hXo hXs hb7 gB QB ZB HZ HZs HCo c0 c1 c2 c3 c4 c5 c6 c7 c8 c9 c10 c11 c12
  go_wp2_with (refine wpList_store_row rfl 30 _ _ rfl (w.heap.size + 1) X.h.cells rfl rfl 30 _ Q7 vh_row rfl hone.out ?_)
  exact bodyPost_ret (v := .tuple #[.agg X.h.cells, .int .i64 0]) (ret_val2 (p := 4) (q := 5) rfl rfl (Whole.setRow Q7 X.h.cells)) rfl (HE.out X _ hX2.out hXo2.out hXs2.out (below_setRow g7 (by omega) _))

theorem arem_any {T : Vt} {p : Pth} {top : Nat} {w : World} (hT : T.In w top) (hp : p.In w top) (ht : top ≤ w.heap.size) (hu : T.upto 48) :
    Calls Tryd.prog 18 #[.agg T.h.cells, .slice p.a p.n p.c] w (ResOut (T.remV p.S p.n) top w) := by
  cases h : pathB p.S p.n with
  | false => rw [remV_bad (.inl h)]; exact arem_bad hT hp ht h
  | true =>
    cases hn : p.n with
    | zero => rw [remV_bad (.inr rfl), ← hn]; exact arem_nil hT hp ht h hn
    | succ m =>
      by_cases h2 : (T.atN p.S (m + 1)).2 = 0
      · rw [remV_ok (by rw [← hn]; exact h) h2, ← hn]; exact arem_ok hT hp ht hu h hn h2
      · rw [remV_at (by rw [← hn]; exact h) h2, ← hn]; rw [show (T.atN p.S p.n).2 = (T.atN p.S (m + 1)).2 by rw [hn]]; exact arem_at hT hp ht h hn h2
end Go.Proofs.YtfkfboiblgoamaaDoor
/- The law of Insert, Get and Remove, walked. -/
namespace Go.Proofs.YtfkfboiblgoamaaDoor
open Go.RowKit
set_option linter.unusedSimpArgs false
set_option linter.unusedVariables false

set_option maxHeartbeats 8000000 in
set_option maxRecDepth 100000 in
theorem undo_v (W : World) (T : Vt) (hT : T.In W W.heap.size) (p : Pth) (hp : p.In W W.heap.size) (X0 : Vt) (hXT : X0.In W W.heap.size) (hB : vldB T = false) :
    Calls Tryd.prog 6 #[.agg T.h.cells, .slice p.a p.n p.c, .agg X0.h.cells] W fun e W' => e = .returned (.bool true) ∧ Below W.heap.size W W' := by
  have hb0 := ((Below.refl W.heap.size W).alloc (Nat.le_refl _) (.cells T.h.cells 30)).alloc (by simp) (.cells X0.h.cells 30)
  have P := (Whole.new W 30 T.h.cells).alloc (.cells X0.h.cells 30)
  have XX := Whole.new (W.alloc (.cells T.h.cells 30)) 30 X0.h.cells
  rw [World.size_alloc] at XX
  have HV := Lib.hid (fun (w1 : World) (hb : Below W.heap.size W w1) => lvalid_any (Vt.In.below hb hT) hb.size)
  have HVx := Lib.hid (fun (w1 : World) (hb : Below W.heap.size W w1) => lvalid_any (Vt.In.below hb hXT) hb.size)
  rw [hB] at HV
  clear hT hp hXT hB HVx
  simp only [Vh.cells] at hb0 HV ⊢
  go_enter Tryd.func6, Tryd.ntmps6
  go_wp2_with fail
  refine (HV.out _ hb0).mono ?_; rintro _ w1 ⟨rfl, hb1⟩
  go_wp2
  go_ret
  exact ⟨rfl, below_then hb0 hb1⟩

set_option maxHeartbeats 8000000 in
set_option maxRecDepth 100000 in
theorem undo_x (W : World) (T : Vt) (hT : T.In W W.heap.size) (p : Pth) (hp : p.In W W.heap.size) (X0 : Vt) (hXT : X0.In W W.heap.size) (hB : vldB T = true) (hBx : vldB X0 = false) :
    Calls Tryd.prog 6 #[.agg T.h.cells, .slice p.a p.n p.c, .agg X0.h.cells] W fun e W' => e = .returned (.bool true) ∧ Below W.heap.size W W' := by
  have hb0 := ((Below.refl W.heap.size W).alloc (Nat.le_refl _) (.cells T.h.cells 30)).alloc (by simp) (.cells X0.h.cells 30)
  have P := (Whole.new W 30 T.h.cells).alloc (.cells X0.h.cells 30)
  have XX := Whole.new (W.alloc (.cells T.h.cells 30)) 30 X0.h.cells
  rw [World.size_alloc] at XX
  have HV := Lib.hid (fun (w1 : World) (hb : Below W.heap.size W w1) => lvalid_any (Vt.In.below hb hT) hb.size)
  have HVx := Lib.hid (fun (w1 : World) (hb : Below W.heap.size W w1) => lvalid_any (Vt.In.below hb hXT) hb.size)
  rw [hB] at HV
  rw [hBx] at HVx
  clear hT hp hXT hB hBx
  simp only [Vh.cells] at hb0 HV HVx XX ⊢
  go_enter Tryd.func6, Tryd.ntmps6
  go_wp2_with fail
  refine (HV.out _ hb0).mono ?_; rintro _ w0 ⟨rfl, hb1⟩
  have g0 := below_then hb0 hb1
  have P0 := Whole.below P hb1 (Whole.lt P)
  have Xq := Whole.below XX hb1 (Whole.lt XX)
  clear P XX hb0 hb1
  obtain ⟨x0, x1, x2, x3, x4, x5, x6, x7, x8, x9, x10, x11, x12⟩ := Whole.c13 (h := X0.h) Xq
  go_wp2_with fail
  refine (HVx.out _ g0).mono ?_; rintro _ w2 ⟨rfl, hb2⟩
  clear x0 x1 x2 x3 x4 x5 x6 x7 x8 x9 x10 x11 x12
  go_wp2
  go_ret
  exact ⟨rfl, below_then g0 hb2⟩

set_option maxHeartbeats 8000000 in
set_option maxRecDepth 100000 in
theorem undo_e (W : World) (T : Vt) (hT : T.In W W.heap.size) (p : Pth) (hp : p.In W W.heap.size) (X0 : Vt) (hXT : X0.In W W.heap.size) (hB : vldB T = true) (hBx : vldB X0 = true) (hE : (T.insV p.S p.n X0).2 ≠ 0) :
    Calls Tryd.prog 6 #[.agg T.h.cells, .slice p.a p.n p.c, .agg X0.h.cells] W fun e W' => e = .returned (.bool true) ∧ Below W.heap.size W W' := by
  have hb0 := ((Below.refl W.heap.size W).alloc (Nat.le_refl _) (.cells T.h.cells 30)).alloc (by simp) (.cells X0.h.cells 30)
  have P := (Whole.new W 30 T.h.cells).alloc (.cells X0.h.cells 30)
  have XX := Whole.new (W.alloc (.cells T.h.cells 30)) 30 X0.h.cells
  rw [World.size_alloc] at XX
  have HV := Lib.hid (fun (w1 : World) (hb : Below W.heap.size W w1) => lvalid_any (Vt.In.below hb hT) hb.size)
  have HVx := Lib.hid (fun (w1 : World) (hb : Below W.heap.size W w1) => lvalid_any (Vt.In.below hb hXT) hb.size)
  rw [hB] at HV
  rw [hBx] at HVx
  obtain ⟨hg, hu, hsz⟩ := valid_parts hT.whole hB
  have hsz : T.size ≤ 65536 := by omega
  have HG := Lib.hid (fun (w1 : World) (hb : Below W.heap.size W w1) => ains_any (Vt.In.below hb hT) (Vt.In.below hb hXT) (Pth.In.below hp hb) hb.size hg hu hsz)
  have HR := Lib.hid (fun (w1 : World) (hb : Below W.heap.size W w1) => rins_any (Vt.In.below hb hT) (Vt.In.below hb hXT) (Pth.In.below hp hb) hb.size hg hsz)
  obtain ⟨R, hR⟩ : ∃ R, T.insV p.S p.n X0 = R := ⟨_, rfl⟩
  rw [hR] at HG HR hE
  have e1 : (R.2 == 0) = false := beq_eq_false_iff_ne.2 hE
  have e2 : (R.2 != 0) = true := bne_iff_ne.2 hE
  clear hR hT hp hB hBx hu hg hsz hXT hE
  simp only [Vh.cells] at hb0 HV HVx XX HR HG ⊢
  go_enter Tryd.func6, Tryd.ntmps6
  go_wp2_with fail
  refine (HV.out _ hb0).mono ?_; rintro _ w0 ⟨rfl, hb1⟩
  have g0 := below_then hb0 hb1
  have P0 := Whole.below P hb1 (Whole.lt P)
  have Xq := Whole.below XX hb1 (Whole.lt XX)
  clear P XX hb0 hb1
  obtain ⟨x0, x1, x2, x3, x4, x5, x6, x7, x8, x9, x10, x11, x12⟩ := Whole.c13 (h := X0.h) Xq
  go_wp2_with fail
  refine (HVx.out _ g0).mono ?_; rintro _ w1 ⟨rfl, hb1⟩
  have g1 := below_then g0 hb1
  have P1 := Whole.below P0 hb1 (Whole.lt P0)
  have X1 := Whole.below Xq hb1 (Whole.lt Xq)
  clear g0 P0 Xq hb1 x0 x1 x2 x3 x4 x5 x6 x7 x8 x9 x10 x11 x12
  obtain ⟨c0, c1, c2, c3, c4, c5, c6, c7, c8, c9, c10, c11, c12⟩ := Whole.c13 (h := T.h) P1
  obtain ⟨x0, x1, x2, x3, x4, x5, x6, x7, x8, x9, x10, x11, x12⟩ := Whole.c13 (h := X0.h) X1
  go_wp2_with fail
  refine (HG.out _ g1).mono ?_; rintro _ w2 ⟨A, rfl, hA, -, hA0, -, hb2⟩
  have g2 := below_then g1 hb2
  have P2 := (P1.below hb2 P1.lt).alloc (.cells A.h.cells 30)
  have X2 := (X1.below hb2 X1.lt).alloc (.cells A.h.cells 30)
  have gA := g2.alloc g2.size (.cells A.h.cells 30)
  have AB := Whole.new w2 30 A.h.cells
  have HA := Lib.hid (hA.later ((Below.refl _ w2).alloc (Nat.le_refl _) (.cells A.h.cells 30)))
  have HA0 := Lib.hid hA0
  clear c0 c1 c2 c3 c4 c5 c6 c7 c8 c9 c10 c11 c12 x0 x1 x2 x3 x4 x5 x6 x7 x8 x9 x10 x11 x12 hA0 hA P1 X1 HV HVx HG g1 g2 hb2
  have q1 := P2.lt
  have q2 := AB.lt
  have q3 := X2.lt
  obtain ⟨c0, c1, c2, c3, c4, c5, c6, c7, c8, c9, c10, c11, c12⟩ := Whole.c13 (h := T.h) P2
  obtain ⟨x0, x1, x2, x3, x4, x5, x6, x7, x8, x9, x10, x11, x12⟩ := Whole.c13 (h := X0.h) X2
  simp only [Vh.cells] at gA AB HA P2 X2 q1 q2 q3 c0 c1 c2 c3 c4 c5 c6 c7 c8 c9 c10 c11 c12 x0 x1 x2 x3 x4 x5 x6 x7 x8 x9 x10 x11 x12
  go_wp2_with fail
  refine (HR.out _ gA).mono ?_; rintro _ w3 ⟨U, rfl, hU, -, -, -, hb3⟩
  clear c0 c1 c2 c3 c4 c5 c6 c7 c8 c9 c10 c11 c12 x0 x1 x2 x3 x4 x5 x6 x7 x8 x9 x10 x11 x12
  have g3 := below_then gA hb3
  have P3 := (P2.below hb3 q1).alloc (.cells U.h.cells 30)
  have A3 := (AB.below hb3 q2).alloc (.cells U.h.cells 30)
  have X3 := (X2.below hb3 q3).alloc (.cells U.h.cells 30)
  have gB := g3.alloc g3.size (.cells U.h.cells 30)
  have HA3 := Lib.hid (HA.out.later (hb3.alloc hb3.size (.cells U.h.cells 30)))
  clear HR HA g3 gA hb3 P2 X2 AB hU q1 q2 q3
  simp only [Vh.cells] at gB HA3
  go_wp2
  go_ret
  exact ⟨rfl, gB⟩

set_option maxHeartbeats 8000000 in
set_option maxRecDepth 100000 in
theorem undo_ok (W : World) (T : Vt) (hT : T.In W W.heap.size) (p : Pth) (hp : p.In W W.heap.size) (X0 : Vt) (hXT : X0.In W W.heap.size) (hB : vldB T = true) (hBx : vldB X0 = true) {m : Nat} (hn : p.n = m + 1) (hPB : pathB p.S (m + 1) = true) (hE : (T.insV p.S (m + 1) X0).2 = 0) :
    Calls Tryd.prog 6 #[.agg T.h.cells, .slice p.a p.n p.c, .agg X0.h.cells] W fun e W' => e = .returned (.bool true) ∧ Below W.heap.size W W' := by
  have hb0 := ((Below.refl W.heap.size W).alloc (Nat.le_refl _) (.cells T.h.cells 30)).alloc (by simp) (.cells X0.h.cells 30)
  have P := (Whole.new W 30 T.h.cells).alloc (.cells X0.h.cells 30)
  have XX := Whole.new (W.alloc (.cells T.h.cells 30)) 30 X0.h.cells
  rw [World.size_alloc] at XX
  have HV := Lib.hid (fun (w1 : World) (hb : Below W.heap.size W w1) => lvalid_any (Vt.In.below hb hT) hb.size)
  have HVx := Lib.hid (fun (w1 : World) (hb : Below W.heap.size W w1) => lvalid_any (Vt.In.below hb hXT) hb.size)
  rw [hB] at HV
  rw [hBx] at HVx
  obtain ⟨hg, hu, hsz⟩ := valid_parts hT.whole hB
  have hsz : T.size ≤ 65536 := by omega
  have HG := Lib.hid (fun (w1 : World) (hb : Below W.heap.size W w1) => ains_any (Vt.In.below hb hT) (Vt.In.below hb hXT) (Pth.In.below hp hb) hb.size hg hu hsz)
  have HR := Lib.hid (fun (w1 : World) (hb : Below W.heap.size W w1) => rins_any (Vt.In.below hb hT) (Vt.In.below hb hXT) (Pth.In.below hp hb) hb.size hg hsz)
  have HU := Lib.hid (fun (A : Vt) (hA : A.Same (T.insV p.S (m + 1) X0).1) => undo_parts hT.whole hPB hE hA)
  have HGt := Lib.hid (fun (A : Vt) (w1 : World) (hb : Below W.heap.size W w1) (hA : A.In w1 w1.heap.size) (hu : A.upto 48) => aget_any hA ((Pth.In.below hp hb).up hb.size) (Nat.le_refl _) hu)
  have HRm := Lib.hid (fun (A : Vt) (w1 : World) (hb : Below W.heap.size W w1) (hA : A.In w1 w1.heap.size) (hu : A.upto 48) => arem_any hA ((Pth.In.below hp hb).up hb.size) (Nat.le_refl _) hu)
  have HSx := Lib.hid (fun (Y : Vt) (w1 : World) (hb : Below W.heap.size W w1) (hY : Y.In w1 w1.heap.size) => same_any X0 Y w1.heap.size w1 ((Vt.In.below hb hXT).up hb.size) hY (Nat.le_refl _))
  have HSv := Lib.hid (fun (Y : Vt) (w1 : World) (hb : Below W.heap.size W w1) (hY : Y.In w1 w1.heap.size) => same_any T Y w1.heap.size w1 ((Vt.In.below hb hT).up hb.size) hY (Nat.le_refl _))
  rw [hn] at HG HR HGt HRm ⊢
  have HGV : Hid (∀ A : Vt, (A.atN p.S (m + 1)).2 = 0 → A.getV p.S (m + 1) = A.atN p.S (m + 1)) := Lib.hid fun A q => by rw [get_val hPB]; unfold Vt.get; rw [if_pos q]
  obtain ⟨R, hR⟩ : ∃ R, T.insV p.S (m + 1) X0 = R := ⟨_, rfl⟩
  rw [hR] at HG HR hE HU
  obtain ⟨R1, R2⟩ := R
  dsimp only at hE HG HR HU
  subst hE
  clear hR hT hp hB hBx hu hg hsz hXT hn hPB
  simp only [Vh.cells] at hb0 HV HVx XX HR HG HGt HRm HSx HSv ⊢
  go_enter Tryd.func6, Tryd.ntmps6
  go_wp2_with fail
  refine (HV.out _ hb0).mono ?_; rintro _ w0 ⟨rfl, hb1⟩
  have g0 := below_then hb0 hb1
  have P0 := Whole.below P hb1 (Whole.lt P)
  have Xq := Whole.below XX hb1 (Whole.lt XX)
  clear P XX hb0 hb1
  obtain ⟨x0, x1, x2, x3, x4, x5, x6, x7, x8, x9, x10, x11, x12⟩ := Whole.c13 (h := X0.h) Xq
  go_wp2_with fail
  refine (HVx.out _ g0).mono ?_; rintro _ w1 ⟨rfl, hb1⟩
  have g1 := below_then g0 hb1
  have P1 := Whole.below P0 hb1 (Whole.lt P0)
  have X1 := Whole.below Xq hb1 (Whole.lt Xq)
  clear g0 P0 Xq hb1 x0 x1 x2 x3 x4 x5 x6 x7 x8 x9 x10 x11 x12
  obtain ⟨c0, c1, c2, c3, c4, c5, c6, c7, c8, c9, c10, c11, c12⟩ := Whole.c13 (h := T.h) P1
  obtain ⟨x0, x1, x2, x3, x4, x5, x6, x7, x8, x9, x10, x11, x12⟩ := Whole.c13 (h := X0.h) X1
  go_wp2_with fail
  refine (HG.out _ g1).mono ?_; rintro _ w2 ⟨A, rfl, hA, -, hA0, -, hb2⟩
  have g2 := below_then g1 hb2
  have P2 := (P1.below hb2 P1.lt).alloc (.cells A.h.cells 30)
  have X2 := (X1.below hb2 X1.lt).alloc (.cells A.h.cells 30)
  have gA := g2.alloc g2.size (.cells A.h.cells 30)
  have AB := Whole.new w2 30 A.h.cells
  have HA := Lib.hid (hA.later ((Below.refl _ w2).alloc (Nat.le_refl _) (.cells A.h.cells 30)))
  have HA0 := Lib.hid hA0
  clear c0 c1 c2 c3 c4 c5 c6 c7 c8 c9 c10 c11 c12 x0 x1 x2 x3 x4 x5 x6 x7 x8 x9 x10 x11 x12 hA0 hA P1 X1 HV HVx HG g1 g2 hb2
  have q1 := P2.lt
  have q2 := AB.lt
  have q3 := X2.lt
  obtain ⟨c0, c1, c2, c3, c4, c5, c6, c7, c8, c9, c10, c11, c12⟩ := Whole.c13 (h := T.h) P2
  obtain ⟨x0, x1, x2, x3, x4, x5, x6, x7, x8, x9, x10, x11, x12⟩ := Whole.c13 (h := X0.h) X2
  simp only [Vh.cells] at gA AB HA P2 X2 q1 q2 q3 c0 c1 c2 c3 c4 c5 c6 c7 c8 c9 c10 c11 c12 x0 x1 x2 x3 x4 x5 x6 x7 x8 x9 x10 x11 x12
  go_wp2_with fail
  refine (HR.out _ gA).mono ?_; rintro _ w3 ⟨U, rfl, hU, -, -, -, hb3⟩
  clear c0 c1 c2 c3 c4 c5 c6 c7 c8 c9 c10 c11 c12 x0 x1 x2 x3 x4 x5 x6 x7 x8 x9 x10 x11 x12
  have g3 := below_then gA hb3
  have P3 := (P2.below hb3 q1).alloc (.cells U.h.cells 30)
  have A3 := (AB.below hb3 q2).alloc (.cells U.h.cells 30)
  have X3 := (X2.below hb3 q3).alloc (.cells U.h.cells 30)
  have gB := g3.alloc g3.size (.cells U.h.cells 30)
  have HA3 := Lib.hid (HA.out.later (hb3.alloc hb3.size (.cells U.h.cells 30)))
  clear HR HA g3 gA hb3 P2 X2 AB hU q1 q2 q3
  simp only [Vh.cells] at gB HA3
  obtain ⟨hAu, ha1, ha2, hr1, hr2⟩ := HU.out A (HA0.out (by trivial))
  have hG := Lib.hid (HGt.out A _ gB HA3.out hAu)
  unfold GetOut at hG
  rw [HGV.out A ha1, ha1] at hG
  have hAu' := Lib.hid hAu
  have HX2 := Lib.hid ha2
  have HT2 := Lib.hid hr2
  have HR1 := Lib.hid hr1
  clear hAu ha1 ha2 hr1 hr2 HU HGt HGV HA0
  have q1 := P3.lt
  have q2 := A3.lt
  have q3 := X3.lt
  obtain ⟨c0, c1, c2, c3, c4, c5, c6, c7, c8, c9, c10, c11, c12⟩ := Whole.c13 (h := A.h) A3
  simp only [Vh.cells] at gB A3 P3 X3 q1 q2 q3 hG HRm c0 c1 c2 c3 c4 c5 c6 c7 c8 c9 c10 c11 c12
  go_wp2_with fail
  refine hG.out.mono ?_; rintro _ w4 ⟨Y, rfl, hY, hY0, -, hb4⟩
  clear c0 c1 c2 c3 c4 c5 c6 c7 c8 c9 c10 c11 c12
  have g4 := below_then gB hb4
  have P4 := (P3.below hb4 q1).alloc (.cells Y.h.cells 30)
  have A4 := (A3.below hb4 q2).alloc (.cells Y.h.cells 30)
  have X4 := (X3.below hb4 q3).alloc (.cells Y.h.cells 30)
  have YB := Whole.new w4 30 Y.h.cells
  have gC := g4.alloc g4.size (.cells Y.h.cells 30)
  have HA4 := Lib.hid (HA3.out.later (hb4.alloc hb4.size (.cells Y.h.cells 30)))
  have HY := Lib.hid (hY.later ((Below.refl _ w4).alloc (Nat.le_refl _) (.cells Y.h.cells 30)))
  have HYs := Lib.hid ((hY0 (by trivial)).trans HX2.out)
  clear hY hY0 hb4 g4 gB P3 A3 X3 HA3 q1 q2 q3 hG HX2
  have q1 := P4.lt
  have q2 := A4.lt
  have q3 := X4.lt
  have q4 := YB.lt
  obtain ⟨c0, c1, c2, c3, c4, c5, c6, c7, c8, c9, c10, c11, c12⟩ := Whole.c13 (h := A.h) A4
  simp only [Vh.cells] at gC A4 P4 X4 YB q1 q2 q3 q4 HA4 HY c0 c1 c2 c3 c4 c5 c6 c7 c8 c9 c10 c11 c12
  have HRr := Lib.hid (HRm.out A _ gC HA4.out hAu'.out)
  unfold ResOut at HRr
  rw [HR1.out] at HRr
  clear HRm HR1 hAu'
  go_wp2_with fail
  refine HRr.out.mono ?_; rintro _ w5 ⟨B, rfl, hB, -, hB0, -, hb5⟩
  clear c0 c1 c2 c3 c4 c5 c6 c7 c8 c9 c10 c11 c12
  have g5 := below_then gC hb5
  have P5 := (P4.below hb5 q1).alloc (.cells B.h.cells 30)
  have X5 := (X4.below hb5 q3).alloc (.cells B.h.cells 30)
  have Y5 := (YB.below hb5 q4).alloc (.cells B.h.cells 30)
  have BB := Whole.new w5 30 B.h.cells
  have gD := g5.alloc g5.size (.cells B.h.cells 30)
  have HY5 := Lib.hid (HY.out.later (hb5.alloc hb5.size (.cells B.h.cells 30)))
  have HB5 := Lib.hid (hB.later ((Below.refl _ w5).alloc (Nat.le_refl _) (.cells B.h.cells 30)))
  have HBs := Lib.hid ((hB0 (by trivial)).trans HT2.out)
  clear hB hB0 hb5 g5 gC P4 A4 X4 YB HA4 HY HRr HT2 q1 q2 q3 q4
  have q1 := P5.lt
  have q4 := BB.lt
  simp only [Vh.cells] at gD P5 X5 Y5 BB q1 q4 HY5 HB5
  have HS1 := Lib.hid (HSx.out Y _ gD HY5.out)
  rw [sameB_iff.2 HYs.out.symm] at HS1
  clear HSx HYs HY5
  obtain ⟨x0, x1, x2, x3, x4, x5, x6, x7, x8, x9, x10, x11, x12⟩ := Whole.c13 (h := X0.h) X5
  obtain ⟨y0, y1, y2, y3, y4, y5, y6, y7, y8, y9, y10, y11, y12⟩ := Whole.c13 (h := Y.h) Y5
  try simp only [Vh.cells] at HS1 HSv x0 x1 x2 x3 x4 x5 x6 x7 x8 x9 x10 x11 x12 y0 y1 y2 y3 y4 y5 y6 y7 y8 y9 y10 y11 y12
  go_wp2_with fail
  refine HS1.out.mono ?_; rintro _ w6 ⟨rfl, hb6⟩
  have g6 := below_then gD hb6
  have P6 := Whole.below P5 hb6 q1
  have B6 := Whole.below BB hb6 q4
  have HS2 := Lib.hid (HSv.out B w6 g6 (HB5.out.later hb6))
  rw [sameB_iff.2 HBs.out.symm] at HS2
  clear x0 x1 x2 x3 x4 x5 x6 x7 x8 x9 x10 x11 x12 y0 y1 y2 y3 y4 y5 y6 y7 y8 y9 y10 y11 y12 X5 Y5 P5 BB HB5 HBs HSv hb6 gD HS1
  obtain ⟨c0, c1, c2, c3, c4, c5, c6, c7, c8, c9, c10, c11, c12⟩ := Whole.c13 (h := T.h) P6
  obtain ⟨b0, b1, b2, b3, b4, b5, b6, b7, b8, b9, b10, b11, b12⟩ := Whole.c13 (h := B.h) B6
  go_wp2_with fail
  refine HS2.out.mono ?_; rintro _ w7 ⟨rfl, hb7⟩
  have g7 := below_then g6 hb7
  clear c0 c1 c2 c3 c4 c5 c6 c7 c8 c9 c10 c11 c12 b0 b1 b2 b3 b4 b5 b6 b7 b8 b9 b10 b11 b12
  go_wp2
  go_ret
  exact ⟨rfl, g7⟩

theorem walk_AccessUndoes (W : World) (T : Vt) (hT : T.In W W.heap.size) (p : Pth) (hp : p.In W W.heap.size) (X0 : Vt) (hXT : X0.In W W.heap.size) :
    Calls Tryd.prog 6 #[.agg T.h.cells, .slice p.a p.n p.c, .agg X0.h.cells] W fun e W' => e = .returned (.bool true) ∧ Below W.heap.size W W' := by
  cases hB : vldB T with
  | false => exact undo_v W T hT p hp X0 hXT hB
  | true =>
    cases hBx : vldB X0 with
    | false => exact undo_x W T hT p hp X0 hXT hB hBx
    | true =>
      by_cases hE : (T.insV p.S p.n X0).2 = 0
      · have hPB : pathB p.S p.n = true ∧ p.n ≠ 0 := Classical.byContradiction fun q => by
          unfold Vt.insV at hE
          rw [if_neg q] at hE
          exact absurd hE (by decide)
        obtain ⟨m, hm⟩ : ∃ m, p.n = m + 1 := ⟨p.n - 1, by omega⟩
        rw [hm] at hPB hE
        exact undo_ok W T hT p hp X0 hXT hB hBx hm hPB.1 hE
      · exact undo_e W T hT p hp X0 hXT hB hBx hE
end Go.Proofs.YtfkfboiblgoamaaDoor
