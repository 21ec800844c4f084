/- Laid together for one claim: VtArm, VtLawR, Base. -/
import Derived.Test.YtfkfboiblgoamaaQR25
import Derived.Test.YtfkfboiblgoamaaQR26
import Derived.Test.YtfkfboiblgoamaaQR27
import Derived.Test.YtfkfboiblgoamaaQR17
import Derived.Test.YtfkfboiblgoamaaQR16
import Derived.Below
import Derived.ChangeSame
import Derived.ProofKit
/- access.Remove, walked. -/
namespace Go.Proofs.Ytfkfboiblgoamaa
open Go.RowKit
set_option linter.unusedSimpArgs false
set_option linter.unusedVariables false

set_option maxHeartbeats 8000000 in
set_option maxRecDepth 100000 in
theorem arem_bad {T : Vt} {p : Pth} {top : Nat} {w : World} (hT : T.In w top) (hp : p.In w top) (ht : top ≤ w.heap.size) (h : pathB p.S p.n = false) :
    Calls Try.prog 23 #[.agg T.h.cells, .slice p.a p.n p.c] w (ResOut (.z, 1) top w) := by
  have hb0 := ((Below.refl w.heap.size w).alloc (Nat.le_refl _) (.cells T.h.cells 30)).alloc (by simp) (.cells Vh.zero.cells 30)
  have P := (Whole.new w 30 T.h.cells).alloc (.cells Vh.zero.cells 30)
  have Q := Whole.new (w.alloc (.cells T.h.cells 30)) 30 Vh.zero.cells
  rw [World.size_alloc] at Q
  have HV := Lib.hid (fun (w1 : World) (hb : Below w.heap.size w w1) => pvalid_any (Pth.In.below hp (hb.mono ht)) (Nat.le_trans ht hb.size))
  have HE : Hid (∀ w', Below w.heap.size w w' → ResOut ((.z, 1) : Vt × Int) top w (.returned (.tuple #[.agg Vh.zero.cells, .int .i64 1])) w') := Lib.hid fun w' hb => res_of (X := .z) rfl (Vt.z_in _ _) (Vt.z_off _) (fun q => absurd q (by decide)) (fun _ => rfl) hb
  rw [h] at HV
  clear h
  clear hT hp
  simp only [Vh.cells, Vh.zero] at hb0 P Q ⊢
  go_enter Try.func23, Try.ntmps23
  go_wp2_with fail
  refine (HV.out _ hb0).mono ?_; rintro _ w1 ⟨rfl, hb1⟩
  have g1 := below_then hb0 hb1
  have P1 := P.below hb1 P.lt
  have Q1 := Q.below hb1 Q.lt
  clear P Q hb0 hb1
  have hone := Lib.hid (vh_all Vh.zero)
  go_wp2_with (refine wpList_store_row rfl 30 _ _ rfl (w.heap.size + 1) Vh.zero.cells rfl rfl 30 _ Q1 vh_row rfl hone.out ?_)
  exact bodyPost_ret (v := .tuple #[.agg Vh.zero.cells, .int .i64 1]) (ret_val2 (p := 4) (q := 5) rfl rfl (Whole.setRow Q1 Vh.zero.cells)) rfl (HE.out _ (below_setRow g1 (by omega) _))

set_option maxHeartbeats 8000000 in
set_option maxRecDepth 100000 in
theorem arem_nil {T : Vt} {p : Pth} {top : Nat} {w : World} (hT : T.In w top) (hp : p.In w top) (ht : top ≤ w.heap.size) (h : pathB p.S p.n = true) (h0 : p.n = 0) :
    Calls Try.prog 23 #[.agg T.h.cells, .slice p.a p.n p.c] w (ResOut (.z, 1) top w) := by
  have hb0 := ((Below.refl w.heap.size w).alloc (Nat.le_refl _) (.cells T.h.cells 30)).alloc (by simp) (.cells Vh.zero.cells 30)
  have P := (Whole.new w 30 T.h.cells).alloc (.cells Vh.zero.cells 30)
  have Q := Whole.new (w.alloc (.cells T.h.cells 30)) 30 Vh.zero.cells
  rw [World.size_alloc] at Q
  have HV := Lib.hid (fun (w1 : World) (hb : Below w.heap.size w w1) => pvalid_any (Pth.In.below hp (hb.mono ht)) (Nat.le_trans ht hb.size))
  have HE : Hid (∀ w', Below w.heap.size w w' → ResOut ((.z, 1) : Vt × Int) top w (.returned (.tuple #[.agg Vh.zero.cells, .int .i64 1])) w') := Lib.hid fun w' hb => res_of (X := .z) rfl (Vt.z_in _ _) (Vt.z_off _) (fun q => absurd q (by decide)) (fun _ => rfl) hb
  rw [h, h0] at HV
  rw [h0]
  clear h h0
  clear hT hp
  simp only [Vh.cells, Vh.zero] at hb0 P Q ⊢
  go_enter Try.func23, Try.ntmps23
  go_wp2_with fail
  refine (HV.out _ hb0).mono ?_; rintro _ w1 ⟨rfl, hb1⟩
  have g1 := below_then hb0 hb1
  have P1 := P.below hb1 P.lt
  have Q1 := Q.below hb1 Q.lt
  clear P Q hb0 hb1
  have hone := Lib.hid (vh_all Vh.zero)
  go_wp2_with (refine wpList_store_row rfl 30 _ _ rfl (w.heap.size + 1) Vh.zero.cells rfl rfl 30 _ Q1 vh_row rfl hone.out ?_)
  exact bodyPost_ret (v := .tuple #[.agg Vh.zero.cells, .int .i64 1]) (ret_val2 (p := 4) (q := 5) rfl rfl (Whole.setRow Q1 Vh.zero.cells)) rfl (HE.out _ (below_setRow g1 (by omega) _))

set_option maxHeartbeats 8000000 in
set_option maxRecDepth 100000 in
theorem arem_at {T : Vt} {p : Pth} {top : Nat} {w : World} (hT : T.In w top) (hp : p.In w top) (ht : top ≤ w.heap.size) (h : pathB p.S p.n = true) {m : Nat} (h0 : p.n = m + 1) (h2 : (T.atN p.S (m + 1)).2 ≠ 0) :
    Calls Try.prog 23 #[.agg T.h.cells, .slice p.a p.n p.c] w (ResOut (.z, (T.atN p.S (m + 1)).2) top w) := by
  have hb0 := ((Below.refl w.heap.size w).alloc (Nat.le_refl _) (.cells T.h.cells 30)).alloc (by simp) (.cells Vh.zero.cells 30)
  have P := (Whole.new w 30 T.h.cells).alloc (.cells Vh.zero.cells 30)
  have Q := Whole.new (w.alloc (.cells T.h.cells 30)) 30 Vh.zero.cells
  rw [World.size_alloc] at Q
  have HV := Lib.hid (fun (w1 : World) (hb : Below w.heap.size w w1) => pvalid_any (Pth.In.below hp (hb.mono ht)) (Nat.le_trans ht hb.size))
  have HAt := Lib.hid (fun (w1 : World) (hb : Below w.heap.size w w1) => at_any (Vt.In.below (hb.mono ht) hT) (Pth.In.below hp (hb.mono ht)) (Nat.le_trans ht hb.size))
  have HE : Hid (∀ w', Below w.heap.size w w' → ResOut ((.z, (T.atN p.S (m + 1)).2) : Vt × Int) top w (.returned (.tuple #[.agg Vh.zero.cells, .int .i64 (T.atN p.S (m + 1)).2])) w') := Lib.hid fun w' hb => res_of (X := .z) rfl (Vt.z_in _ _) (Vt.z_off _) (fun q => absurd q h2) (fun _ => rfl) hb
  rw [h] at HV
  have e2 : T.get p.S p.n = (.nil, (T.atN p.S (m + 1)).2) := by rw [h0]; unfold Vt.get; rw [if_neg h2]
  rw [e2] at HAt
  rw [h0] at HAt HV ⊢
  have z1 : ((T.atN p.S (m + 1)).2 == 0) = false := beq_eq_false_iff_ne.2 h2
  have z2 : ((T.atN p.S (m + 1)).2 != 0) = true := bne_iff_ne.2 h2
  have n1 : ((m : Int) + 1 == 0) = false := beq_eq_false_iff_ne.2 (by omega)
  have n2 : (((m + 1 : Nat) : Int) == 0) = false := beq_eq_false_iff_ne.2 (by omega)
  have n3 : (m + 1 == 0) = false := beq_eq_false_iff_ne.2 (by omega)
  clear hT hp h h0 e2 h2
  generalize (T.atN p.S (m + 1)).2 = E at *
  rw [show (Vt.nil).h = Vh.zero from rfl] at HAt
  simp only [Vh.cells, Vh.zero] at hb0 P Q HAt ⊢
  go_enter Try.func23, Try.ntmps23
  go_wp2_with fail
  refine (HV.out _ hb0).mono ?_; rintro _ w1 ⟨rfl, hb1⟩
  have g1 := below_then hb0 hb1
  have P1 := P.below hb1 P.lt
  have Q1 := Q.below hb1 Q.lt
  clear P Q hb0 hb1
  obtain ⟨c0, c1, c2, c3, c4, c5, c6, c7, c8, c9, c10, c11, c12⟩ := Whole.c13 (h := T.h) P1
  go_wp2_with fail
  refine (HAt.out _ g1).mono ?_; rintro _ w2 ⟨rfl, hb2⟩
  have g2 := below_then g1 hb2
  have hq1 := Q1.lt
  have Q2 := Whole.below Q1 hb2 hq1
  have hs2 := hb2.size
  have gA := g2.alloc g2.size (.cells Vh.zero.cells 30)
  have QA := Q2.alloc (.cells Vh.zero.cells 30)
  clear c0 c1 c2 c3 c4 c5 c6 c7 c8 c9 c10 c11 c12 P1 Q1 g1 hb2 g2 Q2
  simp only [Vh.cells, Vh.zero] at gA QA
  have hone := Lib.hid (vh_all Vh.zero)
  go_wp2_with (refine wpList_store_row rfl 30 _ _ rfl (w.heap.size + 1) Vh.zero.cells rfl rfl 30 _ QA vh_row rfl hone.out ?_)
  exact bodyPost_ret (v := .tuple #[.agg Vh.zero.cells, .int .i64 E]) (ret_val2 (p := 4) (q := 5) rfl rfl (Whole.setRow QA Vh.zero.cells)) rfl (HE.out _ (below_setRow gA (by omega) _))

set_option maxHeartbeats 8000000 in
set_option maxRecDepth 100000 in
theorem arem_ok {T : Vt} {p : Pth} {top : Nat} {w : World} (hT : T.In w top) (hp : p.In w top) (ht : top ≤ w.heap.size) (hu : T.upto 48) (h : pathB p.S p.n = true) {m : Nat} (h0 : p.n = m + 1) (h2 : (T.atN p.S (m + 1)).2 = 0) :
    Calls Try.prog 23 #[.agg T.h.cells, .slice p.a p.n p.c] w (ResOut (Vt.chg (fun U => U.wo (p.S m)) m p.S T, 0) top w) := by
  have hb0 := ((Below.refl w.heap.size w).alloc (Nat.le_refl _) (.cells T.h.cells 30)).alloc (by simp) (.cells Vh.zero.cells 30)
  have P := (Whole.new w 30 T.h.cells).alloc (.cells Vh.zero.cells 30)
  have Q := Whole.new (w.alloc (.cells T.h.cells 30)) 30 Vh.zero.cells
  rw [World.size_alloc] at Q
  have HV := Lib.hid (fun (w1 : World) (hb : Below w.heap.size w w1) => pvalid_any (Pth.In.below hp (hb.mono ht)) (Nat.le_trans ht hb.size))
  have HAt := Lib.hid (fun (w1 : World) (hb : Below w.heap.size w w1) => at_any (Vt.In.below (hb.mono ht) hT) (Pth.In.below hp (hb.mono ht)) (Nat.le_trans ht hb.size))
  have hlen : m + 1 ≤ 48 := by have := (pathB_ok h).1; omega
  obtain ⟨U, hU⟩ : ∃ U, T.get p.S p.n = (U, 0) := ⟨(T.atN p.S (m + 1)).1, by rw [h0]; unfold Vt.get; rw [if_pos h2]; exact Prod.ext rfl h2⟩
  rw [hU] at HAt
  obtain ⟨a, n, c, b, o, S⟩ := p
  dsimp only at h0 h2 h HAt HV ⊢
  subst h0
  obtain ⟨e, hbt⟩ := hp.1 (Nat.succ_pos _)
  dsimp only at e hbt
  subst e
  have hcap : m + 1 ≤ c := hp.2.1.2.1
  have hsn : w64 (S m).n := (hp.2.2 m (Nat.lt_succ_self m)).2.n
  have HP := Lib.hid (fun (w1 : World) (hb : Below w.heap.size w w1) => ((hp.2.2 m (Nat.lt_succ_self m)).1.below (hb.mono ht) hbt : LiesAt w1 b (o + m * 3) (S m).cells))
  have HC := Lib.hid (fun (w5 : World) (cb : Nat) (hb : Below w.heap.size w w5) (hcb : cb < w5.heap.size) (hS : LiesAt w5 cb 0 (S m).cells) =>
    VtChgRm.any (rm_ok hcb hsn hS (Nat.le_refl _)) (Nat.le_refl _) m ⟨some ⟨b, o, none⟩, m, c, b, o, S⟩ T w5 rfl (Below.refl _ _) ((Vt.In.below (hb.mono ht) hT).up (Nat.le_trans ht hb.size))
      (Pth.In.up ⟨fun _ => ⟨rfl, hbt⟩, ⟨Nat.le_of_succ_le hp.2.1.1, Nat.le_of_succ_le hcap, hp.2.1.2.2⟩, fun i hi => (Pth.In.below hp (hb.mono ht)).2.2 i (Nat.lt_succ_of_lt hi)⟩ (Nat.le_trans ht hb.size)) (Vt.atN_le h2 (Nat.le_succ m)) (Vt.atN_find h2 (Nat.lt_succ_self m)))
  have HCo := Lib.hid (fun (Z : Vt) (w1 : World) (hZ : Z.In w1 w1.heap.size) (hs : Z.Same (Vt.chg (fun U => U.wo (S m)) m S T)) => copy_any hZ (Nat.le_refl _) (Vt.upto_le (Vt.upto_same hs (Vt.upto_chg (fun _ _ q => Vt.upto_wo q) (Vt.atN_le h2 (Nat.le_succ m)) hu)) (by decide)))
  obtain ⟨V, hV⟩ : ∃ V, Vt.chg (fun U => U.wo (S m)) m S T = V := ⟨_, rfl⟩
  rw [hV] at HC HCo ⊢
  have HE : Hid (∀ (Z : Vt) w', Z.In w' w'.heap.size → Z.Off (w.heap.size ≤ ·) → Z.Same V → Below w.heap.size w w' → ResOut (V, 0) top w (.returned (.tuple #[.agg Z.h.cells, .int .i64 0])) w') := Lib.hid fun Z w' h1 h3 h4 hb => res_of (X := Z) rfl h1 (h3.mono fun _ q => .inr q) (fun _ => h4) (fun q => absurd rfl q) hb
  have hsl := slice_head Try.underlying37 elem_path stp_size (b := b) (o := o) (n := m + 1) (c := c) (i := m) (Nat.le_of_succ_le hcap) (by omega)
  rw [h] at HV
  clear hV hT hp h h2 hU hu hsn
  have n1 : ((m : Int) + 1 == 0) = false := beq_eq_false_iff_ne.2 (by omega)
  have n2 : (((m + 1 : Nat) : Int) == 0) = false := beq_eq_false_iff_ne.2 (by omega)
  have n3 : (m + 1 == 0) = false := beq_eq_false_iff_ne.2 (by omega)
  have m1 : (0 : Int) ≤ m := by omega
  have m2 : (m : Int) ≤ 47 := by omega
  have m3 : (m : Int) < ((m + 1 : Nat) : Int) := by omega
  have m4 : (m : Int) < (m : Int) + 1 := by omega
  have m5 : (m : Int) ≤ (c : Int) := by omega
  have hwr : IntKind.i64.wrap (m : Int) = (m : Int) := by rw [IntKind.wrap_i64]; omega
  simp only [Vh.cells, Vh.zero] at hb0 P Q HAt HC ⊢
  go_enter Try.func23, Try.ntmps23
  go_wp2_with fail
  refine (HV.out _ hb0).mono ?_; rintro _ w1 ⟨rfl, hb1⟩
  have g1 := below_then hb0 hb1
  have P1 := P.below hb1 P.lt
  have Q1 := Q.below hb1 Q.lt
  clear P Q hb0 hb1
  obtain ⟨c0, c1, c2, c3, c4, c5, c6, c7, c8, c9, c10, c11, c12⟩ := Whole.c13 (h := T.h) P1
  go_wp2_with fail
  refine (HAt.out _ g1).mono ?_; rintro _ w2 ⟨rfl, hb2⟩
  have g2 := below_then g1 hb2
  have hq1 := Q1.lt
  have Q2 := Whole.below Q1 hb2 hq1
  have P2 := Whole.below P1 hb2 P1.lt
  have hs2 := hb2.size
  have gA := g2.alloc g2.size (.cells U.h.cells 30)
  have QA := Q2.alloc (.cells U.h.cells 30)
  have PA := P2.alloc (.cells U.h.cells 30)
  clear c0 c1 c2 c3 c4 c5 c6 c7 c8 c9 c10 c11 c12 P1 Q1 g1 hb2 g2 Q2 P2
  simp only [Vh.cells, Vh.zero] at gA QA PA
  go_wp2_with fail
  generalize w2.alloc (.cells #[.int .i64 U.h.k, .bool U.h.b, .bool U.h.n, .string U.h.d, .int .i64 U.h.e, .int .i64 U.h.tk, .int .i64 U.h.td, .int .i64 U.h.tn, .int .i64 U.h.tz, .string U.h.x, .slice U.h.ba U.h.bn U.h.bc, .slice U.h.la U.h.ln U.h.lc, .slice U.h.fa U.h.fn U.h.fc] 30) = w3 at *
  refine wp_region_held_drew (S := fun W => Whole W w.heap.size 30 T.h.cells ∧ LiesAt W b (o + m * 3) (S m).cells ∧ Below w.heap.size w W) (by kernel_rfl) ⟨Whole.drew PA, HP.out _ (Below.drew gA), Below.drew gA⟩ (fun hS => ?_)
  refine wpAnyH_take (i := 0) (v := ?v0x1) rfl (by kernel_rfl) (by kernel_rfl) (by kernel_rfl) (fun _ _ _ h => h) (Or.inl ⟨by rfl, ?hy0x1⟩) hS ?rest0x1
  case hy0x1 => (intro wS hSw; go_simp; (try with_reducible rfl))
  case rest0x1 =>
  simp only [Act.put, List.getElem_toArray, List.getElem_cons_zero, List.getElem_cons_succ, List.setIfInBounds_toArray, List.set_cons_zero, List.set_cons_succ]
  refine wpAnyH_take (i := 1) (v := ?v1x2) rfl (by kernel_rfl) (by kernel_rfl) (by kernel_rfl) (fun _ _ _ h => h) (Or.inl ⟨by rfl, ?hy1x2⟩) hS ?rest1x2
  case hy1x2 => (intro wS hSw; go_simp; (try with_reducible rfl))
  case rest1x2 =>
  simp only [Act.put, List.getElem_toArray, List.getElem_cons_zero, List.getElem_cons_succ, List.setIfInBounds_toArray, List.set_cons_zero, List.set_cons_succ]
  refine wpAnyH_take (i := 2) (v := ?v2x3) rfl (by kernel_rfl) (by kernel_rfl) (by kernel_rfl) (fun _ _ _ h => h) (Or.inl ⟨by rfl, ?hy2x3⟩) hS ?rest2x3
  case hy2x3 => (intro wS hSw; go_simp; (try with_reducible rfl))
  case rest2x3 =>
  simp only [Act.put, List.getElem_toArray, List.getElem_cons_zero, List.getElem_cons_succ, List.setIfInBounds_toArray, List.set_cons_zero, List.set_cons_succ]
  refine wpAnyH_take (i := 3) (v := ?v3x4) rfl (by kernel_rfl) (by kernel_rfl) (by kernel_rfl) (fun _ _ _ h => h) (Or.inl ⟨by rfl, ?hy3x4⟩) hS ?rest3x4
  case hy3x4 => (intro wS hSw; go_simp; (try with_reducible rfl))
  case rest3x4 =>
  simp only [Act.put, List.getElem_toArray, List.getElem_cons_zero, List.getElem_cons_succ, List.setIfInBounds_toArray, List.set_cons_zero, List.set_cons_succ]
  refine wpAnyH_take (i := 4) (v := ?v4x5) rfl (by kernel_rfl) (by kernel_rfl) (by kernel_rfl) (fun _ _ _ h => h) (Or.inl ⟨by rfl, ?hy4x5⟩) hS ?rest4x5
  case hy4x5 => (intro wS hSw; go_simp; (try with_reducible rfl))
  case rest4x5 =>
  simp only [Act.put, List.getElem_toArray, List.getElem_cons_zero, List.getElem_cons_succ, List.setIfInBounds_toArray, List.set_cons_zero, List.set_cons_succ]
  refine wpAnyH_take (i := 5) (v := ?v5x6) rfl (by kernel_rfl) (by kernel_rfl) (by kernel_rfl) (fun _ _ _ h => h) (Or.inl ⟨by rfl, ?hy5x6⟩) hS ?rest5x6
  case hy5x6 => (intro wS hSw; go_simp; (try with_reducible rfl))
  case rest5x6 =>
  simp only [Act.put, List.getElem_toArray, List.getElem_cons_zero, List.getElem_cons_succ, List.setIfInBounds_toArray, List.set_cons_zero, List.set_cons_succ]
  refine wpAnyH_take (i := 6) (v := ?v6x7) rfl (by kernel_rfl) (by kernel_rfl) (by kernel_rfl) (fun _ _ _ h => h) (Or.inl ⟨by rfl, ?hy6x7⟩) hS ?rest6x7
  case hy6x7 => (intro wS hSw; go_simp; (try with_reducible rfl))
  case rest6x7 =>
  simp only [Act.put, List.getElem_toArray, List.getElem_cons_zero, List.getElem_cons_succ, List.setIfInBounds_toArray, List.set_cons_zero, List.set_cons_succ]
  refine wpAnyH_take (i := 7) (v := ?v7x8) rfl (by kernel_rfl) (by kernel_rfl) (by kernel_rfl) (fun _ _ _ h => h) (Or.inl ⟨by rfl, ?hy7x8⟩) hS ?rest7x8
  case hy7x8 => (intro wS hSw; go_simp; (try with_reducible rfl))
  case rest7x8 =>
  simp only [Act.put, List.getElem_toArray, List.getElem_cons_zero, List.getElem_cons_succ, List.setIfInBounds_toArray, List.set_cons_zero, List.set_cons_succ]
  refine wpAnyH_take (i := 8) (v := ?v8x9) rfl (by kernel_rfl) (by kernel_rfl) (by kernel_rfl) (fun _ _ _ h => h) (Or.inl ⟨by rfl, ?hy8x9⟩) hS ?rest8x9
  case hy8x9 => (intro wS hSw; go_simp; (try with_reducible rfl))
  case rest8x9 =>
  simp only [Act.put, List.getElem_toArray, List.getElem_cons_zero, List.getElem_cons_succ, List.setIfInBounds_toArray, List.set_cons_zero, List.set_cons_succ]
  refine wpAnyH_take (i := 9) (v := ?v9x10) rfl (by kernel_rfl) (by kernel_rfl) (by kernel_rfl) (fun _ _ _ h => h) (Or.inl ⟨by rfl, ?hy9x10⟩) hS ?rest9x10
  case hy9x10 => (intro wS hSw; go_simp; (try with_reducible rfl))
  case rest9x10 =>
  simp only [Act.put, List.getElem_toArray, List.getElem_cons_zero, List.getElem_cons_succ, List.setIfInBounds_toArray, List.set_cons_zero, List.set_cons_succ]
  refine wpAnyH_take (i := 10) (v := ?v10x11) rfl (by kernel_rfl) (by kernel_rfl) (by kernel_rfl) (fun _ _ _ h => h) (Or.inl ⟨by rfl, ?hy10x11⟩) hS ?rest10x11
  case hy10x11 => (intro wS hSw; obtain ⟨-, Pz, -⟩ := hSw; obtain ⟨s0, s1, s2⟩ := Pz.s3; go_simp; (try with_reducible rfl))
  case rest10x11 =>
  simp only [Act.put, List.getElem_toArray, List.getElem_cons_zero, List.getElem_cons_succ, List.setIfInBounds_toArray, List.set_cons_zero, List.set_cons_succ]
  have g3 := Below.drew gA
  have Q3 := Whole.drew QA
  have P3 := Whole.drew PA
  clear gA QA PA hsl
  generalize w3.drew = w4 at *
  have hq3 := Q3.lt
  refine wpAnyH_ready (rs := [11]) (by kernel_rfl) (by simp) ?_
  refine AllReadyH.cons rfl (fun KK hK => ?_) AllReadyH.nil
  go_simp
  have q1 := (Below.refl w4.heap.size w4).alloc (Nat.le_refl _) (.cells #[.bool false, .string ⟨#[]⟩, .int .i64 0] 59)
  have Y4 := Whole.new w4 59 #[.bool false, .string ⟨#[]⟩, .int .i64 0]
  have g4 := below_then g3 q1
  have Q4 := Whole.below Q3 q1 Q3.lt
  have P4 := Whole.below P3 q1 P3.lt
  clear q1
  refine hK.out _ _ ⟨P4, HP.out _ g4, g4⟩ (fun hS4 => ?_)
  clear hK KK
  try simp only [Act.put, List.getElem_toArray, List.getElem_cons_zero, List.getElem_cons_succ, List.setIfInBounds_toArray, List.set_cons_zero, List.set_cons_succ]
  refine wpAnyH_ready (rs := [12]) (by kernel_rfl) (by simp) ?_
  refine AllReadyH.cons rfl (fun KK hK => ?_) AllReadyH.nil
  go_simp
  refine hK.out _ _ hS4 (fun hS5 => ?_)
  clear hK KK
  try simp only [Act.put, List.getElem_toArray, List.getElem_cons_zero, List.getElem_cons_succ, List.setIfInBounds_toArray, List.set_cons_zero, List.set_cons_succ]
  refine wpAnyH_ready (rs := [13]) (by kernel_rfl) (by simp) ?_
  refine AllReadyH.cons rfl (fun KK hK => ?_) AllReadyH.nil
  rw [if_pos (by rfl)]
  refine wp_store_row 59 _ _ rfl (w4.heap.size) #[.bool (S m).ix, .string (S m).key, .int .i64 (S m).n] rfl rfl 59 _ Y4 stp_size rfl (by simp [Value.oneCell']) ?_
  have g5 := below_setRow g4 (show w.heap.size ≤ w4.heap.size from g3.size) #[.bool (S m).ix, .string (S m).key, .int .i64 (S m).n]
  have Y5 : Whole _ w4.heap.size 59 (S m).cells := Whole.setRow Y4 #[.bool (S m).ix, .string (S m).key, .int .i64 (S m).n]
  have P5 := Whole.farRow (B' := w4.heap.size) P4 (by omega) #[.bool (S m).ix, .string (S m).key, .int .i64 (S m).n]
  have Q5 := Whole.farRow (B' := w4.heap.size) Q4 (by omega) #[.bool (S m).ix, .string (S m).key, .int .i64 (S m).n]
  obtain ⟨w5, hw5⟩ : ∃ w5, (w4.alloc (.cells #[.bool false, .string ⟨#[]⟩, .int .i64 0] 59)).setRow w4.heap.size #[.bool (S m).ix, .string (S m).key, .int .i64 (S m).n] = w5 := ⟨_, rfl⟩
  rw [hw5] at g5 Y5 P5 Q5 ⊢
  clear hw5
  refine hK.out _ _ ⟨P5, HP.out _ g5, g5⟩ (fun hS6 => ?_)
  clear hK KK
  try simp only [Act.put, List.getElem_toArray, List.getElem_cons_zero, List.getElem_cons_succ, List.setIfInBounds_toArray, List.set_cons_zero, List.set_cons_succ]
  refine wpAnyH_done (by kernel_rfl) ?_ _
  clear hS hS4 hS5 hS6 g3 g4 P3 P4 Q3 Q4 Y4
  obtain ⟨c0, c1, c2, c3, c4, c5, c6, c7, c8, c9, c10, c11, c12⟩ := Whole.c13 (h := T.h) P5
  have hy5 := Y5.lt
  have hq5 := Q5.lt
  go_wp2_with fail
  refine (HC.out w5 w4.heap.size g5 hy5 (fun j hj => by rw [Nat.zero_add]; exact Y5.cell j)).mono ?_
  rintro _ w6 ⟨Z, rfl, hZ, -, hZs, hb6⟩
  have g6 := below_then g5 hb6
  have Q6 := Whole.below Q5 hb6 hq5
  have hs6 := hb6.size
  have gB := g6.alloc g6.size (.cells Z.h.cells 30)
  have QB := Q6.alloc (.cells Z.h.cells 30)
  have ZB := Whole.new w6 30 Z.h.cells
  have HZ := Lib.hid (hZ.later ((Below.refl _ w6).alloc (Nat.le_refl _) (.cells Z.h.cells 30)))
  have HZs := Lib.hid hZs
  clear hZ hZs hb6 g5 P5 Q5 Y5 g6 Q6 hy5 c0 c1 c2 c3 c4 c5 c6 c7 c8 c9 c10 c11 c12
  simp only [Vh.cells] at gB QB ZB HZ HCo
  obtain ⟨c0, c1, c2, c3, c4, c5, c6, c7, c8, c9, c10, c11, c12⟩ := Whole.c13 (h := Z.h) ZB
  go_wp2_with fail
  refine (HCo.out Z _ HZ.out HZs.out).mono ?_
  rintro _ w7 ⟨X, rfl, hX, hXo, hXs, hb7⟩
  have g7 := below_then gB hb7
  have hqB := QB.lt
  have Q7 := Whole.below QB hb7 hqB
  have hzB := gB.size
  have hone := Lib.hid (vh_all X.h)
  have hX2 := Lib.hid (hX.stays hXo (W' := w7.setRow (w.heap.size + 1) X.h.cells) (fun b hb => setRow_other _ _ _ _ (by have h1 : _ ≤ b := hb; omega)) (by rw [size_setRow]; exact Nat.le_refl _))
  have hXo2 := Lib.hid (hXo.mono (S' := (w.heap.size ≤ ·)) fun b hb => Nat.le_trans hzB hb)
  have hXs2 := Lib.hid (hXs.trans HZs.out)
  clear hX hXo hXs hb7 gB QB ZB HZ HZs HCo c0 c1 c2 c3 c4 c5 c6 c7 c8 c9 c10 c11 c12
  go_wp2_with (refine wpList_store_row rfl 30 _ _ rfl (w.heap.size + 1) X.h.cells rfl rfl 30 _ Q7 vh_row rfl hone.out ?_)
  exact bodyPost_ret (v := .tuple #[.agg X.h.cells, .int .i64 0]) (ret_val2 (p := 4) (q := 5) rfl rfl (Whole.setRow Q7 X.h.cells)) rfl (HE.out X _ hX2.out hXo2.out hXs2.out (below_setRow g7 (by omega) _))

theorem arem_any {T : Vt} {p : Pth} {top : Nat} {w : World} (hT : T.In w top) (hp : p.In w top) (ht : top ≤ w.heap.size) (hu : T.upto 48) :
    Calls Try.prog 23 #[.agg T.h.cells, .slice p.a p.n p.c] w (ResOut (T.remV p.S p.n) top w) := by
  cases h : pathB p.S p.n with
  | false => rw [remV_bad (.inl h)]; exact arem_bad hT hp ht h
  | true =>
    cases hn : p.n with
    | zero => rw [remV_bad (.inr rfl), ← hn]; exact arem_nil hT hp ht h hn
    | succ m =>
      by_cases h2 : (T.atN p.S (m + 1)).2 = 0
      · rw [remV_ok (by rw [← hn]; exact h) h2, ← hn]; exact arem_ok hT hp ht hu h hn h2
      · rw [remV_at (by rw [← hn]; exact h) h2, ← hn]; rw [show (T.atN p.S p.n).2 = (T.atN p.S (m + 1)).2 by rw [hn]]; exact arem_at hT hp ht h hn h2
end Go.Proofs.Ytfkfboiblgoamaa
/- The law of Removes, walked. -/
namespace Go.Proofs.Ytfkfboiblgoamaa
open Go.RowKit
set_option linter.unusedSimpArgs false
set_option linter.unusedVariables false

theorem res_alikeRemoves {R : Vt × Int} {X U : Vt} (h0 : R.2 = 0 → X.Same R.1) (h1 : R.2 ≠ 0 → X = .z) (k0 : R.2 = 0 → U.Same R.1) (k1 : R.2 ≠ 0 → U = .z) : X.Same U := by
  by_cases e : R.2 = 0
  · exact (h0 e).trans (k0 e).symm
  · rw [h1 e, k1 e]; exact Vt.z_same

set_option maxHeartbeats 8000000 in
set_option maxRecDepth 100000 in
theorem walk_AccessRemoves (W : World) (T : Vt) (hT : T.In W W.heap.size) (p : Pth) (hp : p.In W W.heap.size) :
    Calls Try.prog 7 #[.agg T.h.cells, .slice p.a p.n p.c] W fun e W' => e = .returned (.bool true) ∧ Below W.heap.size W W' := by
  have hb0 := (Below.refl W.heap.size W).alloc (Nat.le_refl _) (.cells T.h.cells 30)
  have P := Whole.new W 30 T.h.cells
  have HV := Lib.hid (fun (w1 : World) (hb : Below W.heap.size W w1) => lvalid_any (Vt.In.below hb hT) hb.size)
  obtain ⟨B, hB⟩ : ∃ B, vldB T = B := ⟨_, rfl⟩
  rw [hB] at HV
  cases B
  · clear hT hp hB
    simp only [Vh.cells] at hb0 HV ⊢
    go_enter Try.func7, Try.ntmps7
    go_wp2_with fail
    refine (HV.out _ hb0).mono ?_; rintro _ w1 ⟨rfl, hb1⟩
    go_wp2
    go_ret
    exact ⟨rfl, below_then hb0 hb1⟩
  obtain ⟨hg, hu, _⟩ := valid_parts hT.whole hB
  have HG := Lib.hid (fun (w1 : World) (hb : Below W.heap.size W w1) => arem_any (Vt.In.below hb hT) (Pth.In.below hp hb) hb.size hu)
  have HR := Lib.hid (fun (w1 : World) (hb : Below W.heap.size W w1) => rrem_any (Vt.In.below hb hT) (Pth.In.below hp hb) hb.size hg)
  obtain ⟨R, hR⟩ : ∃ R, T.remV p.S p.n = R := ⟨_, rfl⟩
  rw [hR] at HG HR
  clear hR hT hp hB hu hg
  simp only [Vh.cells] at hb0 HV HR HG ⊢
  go_enter Try.func7, Try.ntmps7
  go_wp2_with fail
  refine (HV.out _ hb0).mono ?_; rintro _ w1 ⟨rfl, hb1⟩
  have g1 := below_then hb0 hb1
  have P1 := Whole.below P hb1 (Whole.lt P)
  clear P hb0 hb1
  obtain ⟨c0, c1, c2, c3, c4, c5, c6, c7, c8, c9, c10, c11, c12⟩ := Whole.c13 (h := T.h) P1
  go_wp2_with fail
  refine (HG.out _ g1).mono ?_; rintro _ w2 ⟨X, rfl, hX, -, hX0, hX1, hb2⟩
  have g2 := below_then g1 hb2
  have P2 := (P1.below hb2 P1.lt).alloc (.cells X.h.cells 30)
  have gA := g2.alloc g2.size (.cells X.h.cells 30)
  have XA := Whole.new w2 30 X.h.cells
  have hXA := Lib.hid (hX.later ((Below.refl _ w2).alloc (Nat.le_refl _) (.cells X.h.cells 30)))
  have HX0 := Lib.hid hX0
  have HX1 := Lib.hid hX1
  clear c0 c1 c2 c3 c4 c5 c6 c7 c8 c9 c10 c11 c12 hX0 hX1 hX P1 HV HG g1 g2
  have q1 := P2.lt
  have q2 := XA.lt
  obtain ⟨c0, c1, c2, c3, c4, c5, c6, c7, c8, c9, c10, c11, c12⟩ := Whole.c13 (h := T.h) P2
  simp only [Vh.cells] at gA XA hXA P2 q1 q2 c0 c1 c2 c3 c4 c5 c6 c7 c8 c9 c10 c11 c12
  go_wp2_with fail
  refine (HR.out _ gA).mono ?_; rintro _ w3 ⟨U, rfl, hU, -, hU0, hU1, hb3⟩
  clear c0 c1 c2 c3 c4 c5 c6 c7 c8 c9 c10 c11 c12
  have g3 := below_then gA hb3
  have X3 := (XA.below hb3 q2).alloc (.cells U.h.cells 30)
  have U3 := Whole.new w3 30 U.h.cells
  have gB := g3.alloc g3.size (.cells U.h.cells 30)
  have hXB := hXA.out.later (hb3.alloc hb3.size (.cells U.h.cells 30))
  have hUB := hU.later ((Below.refl _ w3).alloc (Nat.le_refl _) (.cells U.h.cells 30))
  have HAl := Lib.hid (alike_any (e := R.2) (f := R.2) hXB hUB (Nat.le_refl _))
  have hS : sameB X U = true := sameB_iff.2 (res_alikeRemoves HX0.out HX1.out hU0 hU1)
  rw [hS] at HAl
  have hE : (R.2 == R.2 && true) = true := by simp
  rw [hE] at HAl
  clear hS hE hXB hXA hUB hU hU0 hU1 HX0 HX1 HR g3 gA hb3 hb2 XA P2 q1 q2
  obtain ⟨c0, c1, c2, c3, c4, c5, c6, c7, c8, c9, c10, c11, c12⟩ := Whole.c13 (h := X.h) X3
  obtain ⟨u0, u1, u2, u3, u4, u5, u6, u7, u8, u9, u10, u11, u12⟩ := Whole.c13 (h := U.h) U3
  simp only [Vh.cells] at gB HAl c0 c1 c2 c3 c4 c5 c6 c7 c8 c9 c10 c11 c12 u0 u1 u2 u3 u4 u5 u6 u7 u8 u9 u10 u11 u12
  go_wp2_with fail
  refine HAl.out.mono ?_; rintro _ w4 ⟨rfl, hb4⟩
  have g4 := below_then gB hb4
  clear c0 c1 c2 c3 c4 c5 c6 c7 c8 c9 c10 c11 c12 u0 u1 u2 u3 u4 u5 u6 u7 u8 u9 u10 u11 u12 HAl X3 U3 gB
  go_wp2
  go_ret
  exact ⟨rfl, g4⟩
end Go.Proofs.Ytfkfboiblgoamaa
/- Small lemmas that every law's last step uses: the row's post out of a world below which nothing has turned. -/
namespace Go.Proofs.Ytfkfboiblgoamaa
open Go.RowKit Go.WideShapes Go.ChangeShapes
section
variable {H : Type} {enc : TypeId × Value → H} {P : Program}
theorem post_of_below {f : Func} {s : ChangeSpec} {apart fresh handsOn again : Bool} {W W' : World} {args : Array Value} {v : Value} {ds gs : List (DataW H)} {before pa pv : List MemPlace}
    (hW : DataW.Whole enc P f.params.toList s.vars apart W args.toList ds gs before)
    (hres : ∀ (b : Nat) (sp : Nat → Bool) (hd : Bool), DataW.TrodAll enc P W' b sp hd f.resultTypes.toList (v.resultList f.resultTypes.size) (s.fn H (ds ++ gs)).results [])
    (hargs : ∀ sp : Nat → Bool, (∀ p ∈ before, sp p.block = true) → DataW.TrodAll enc P W' 0 sp true f.params.toList args.toList (s.fn H (ds ++ gs)).args pa)
    (hvars : ∀ sp : Nat → Bool, (∀ p ∈ before, sp p.block = true) → DataW.TrodVars enc P W' sp s.vars (s.fn H (ds ++ gs)).vars pv)
    (hps : before = pa ++ pv) (hb : Below W.heap.size W W')
    (hok : ∀ (j : Nat) (t : TypeId) (r : Value), f.resultTypes[j]? = some t → (v.resultList f.resultTypes.size)[j]? = some r → Value.okWide P W' .any 0 t r) :
    s.post enc P f apart fresh handsOn again W args v W' := by
  have hlt : ∀ p ∈ before, p.block < W.heap.size := fun p hp => hW.lt p hp
  have hold : ∀ p ∈ before, (fun b => decide (b < W.heap.size)) p.block = true := fun p hp => by simpa using hlt p hp
  refine ⟨ds, gs, before, [], pa, pv, hW, hres _ _ _, hargs _ hold, hvars _ hold, World.keptBut_mono (fun p hp => ⟨hp, ?_⟩) (hb.frame (· ∈ before)), fun _ => ?_⟩
  · rw [hps, List.mem_append] at hp
    exact Or.inr hp
  · obtain ⟨_, _, _, _, _, hz, hn⟩ := hW
    refine ⟨hok, _, _, ([] ++ pa) ++ pv, ⟨[] ++ pa, pv, trodAll_append (hargs _ (fun _ _ => rfl)) (hres _ _ _), hvars _ (fun _ _ => rfl), rfl, ?_, ?_⟩, ?_⟩
    · intro b off hp
      have hin : MemPlace.cell b off ∈ before := by rw [hps]; simpa using hp
      rw [hb.frozen (hlt _ hin)]
      exact hz b off hin
    · intro ha
      have := hn ha
      rw [hps] at this
      simpa using this
    · intro p hp _
      rw [hps]
      simpa using hp
end
end Go.Proofs.Ytfkfboiblgoamaa
