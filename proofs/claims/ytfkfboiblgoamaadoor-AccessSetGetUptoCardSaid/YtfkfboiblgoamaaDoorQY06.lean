/- Laid together for a claim: VkSet. -/
import Derived.Test.YtfkfboiblgoamaaDoorQB26
import Derived.Test.YtfkfboiblgoamaaDoorQY02
import Derived.Test.YtfkfboiblgoamaaDoorQY03
import Derived.Test.YtfkfboiblgoamaaDoorQY04
import Derived.Test.YtfkfboiblgoamaaDoorQY05
/- access.Set, walked. -/
namespace Go.Proofs.YtfkfboiblgoamaaDoor
open Go.RowKit
set_option linter.unusedSimpArgs false
set_option linter.unusedVariables false

theorem setV_bad {T X : Vt} {S : Nat → Stp} {n : Nat} (h : pathB S n = false) : T.setV S n X = (.z, 1) := by unfold Vt.setV; rw [if_neg (by simp [h])]
theorem setV_nil {T X : Vt} {S : Nat → Stp} (h : pathB S 0 = true) : T.setV S 0 X = (X, 0) := by unfold Vt.setV; rw [if_pos h, if_pos rfl]
theorem setV_suc {T X : Vt} {S : Nat → Stp} {m : Nat} (h : pathB S (m + 1) = true) : T.setV S (m + 1) X = chkR (Vt.chgV (Vt.last1 X) (m + 1) S T) := by unfold Vt.setV; rw [if_pos h, if_neg (by omega)]

set_option maxHeartbeats 4000000 in
set_option maxRecDepth 100000 in
theorem aset_bad {T X : Vt} {p : Pth} {top : Nat} {w : World} (hT : T.In w top) (hXT : X.In w top) (hp : p.In w top) (ht : top ≤ w.heap.size) (h : pathB p.S p.n = false) :
    Calls Tryd.prog 8 #[.agg T.h.cells, .slice p.a p.n p.c, .agg X.h.cells] w (ResOut (.z, 1) top w) := by
  have hb0 := (((Below.refl w.heap.size w).alloc (Nat.le_refl _) (.cells T.h.cells 30)).alloc (by simp) (.cells X.h.cells 30)).alloc (by simp; omega) (.cells Vh.zero.cells 30)
  have P := ((Whole.new w 30 T.h.cells).alloc (.cells X.h.cells 30)).alloc (.cells Vh.zero.cells 30)
  have KB := (Whole.new (w.alloc (.cells T.h.cells 30)) 30 X.h.cells).alloc (.cells Vh.zero.cells 30)
  rw [World.size_alloc] at KB
  have Q := Whole.new ((w.alloc (.cells T.h.cells 30)).alloc (.cells X.h.cells 30)) 30 Vh.zero.cells
  rw [World.size_alloc, World.size_alloc] at Q
  have HV := Lib.hid (fun (w1 : World) (hb : Below w.heap.size w w1) => pvalid_any (Pth.In.below hp (hb.mono ht)) (Nat.le_trans ht hb.size))
  have HE : Hid (∀ w', Below w.heap.size w w' → ResOut ((.z, 1) : Vt × Int) top w (.returned (.tuple #[.agg Vh.zero.cells, .int .i64 1])) w') := Lib.hid fun w' hb => res_of (X := .z) rfl (Vt.z_in _ _) (Vt.z_off _) (fun q => absurd q (by decide)) (fun _ => rfl) hb
  rw [h] at HV
  clear h
  clear hT hp hXT
  simp only [Vh.cells, Vh.zero] at hb0 P Q KB ⊢
  go_enter Tryd.func8, Tryd.ntmps8
  go_wp2_with fail
  refine (HV.out _ hb0).mono ?_; rintro _ w1 ⟨rfl, hb1⟩
  have g1 := below_then hb0 hb1
  have P1 := P.below hb1 P.lt
  have Q1 := Q.below hb1 Q.lt
  have K1 := Whole.below KB hb1 KB.lt
  clear P Q KB hb0 hb1
  have hone := Lib.hid (vh_all Vh.zero)
  go_wp2_with (refine wpList_store_row rfl 30 _ _ rfl (w.heap.size + 2) Vh.zero.cells rfl rfl 30 _ Q1 vh_row rfl hone.out ?_)
  exact bodyPost_ret (v := .tuple #[.agg Vh.zero.cells, .int .i64 1]) (ret_val2 (p := 6) (q := 7) rfl rfl (Whole.setRow Q1 Vh.zero.cells)) rfl (HE.out _ (below_setRow g1 (by omega) _))

set_option maxHeartbeats 4000000 in
set_option maxRecDepth 100000 in
theorem aset_nil {T X : Vt} {p : Pth} {top : Nat} {w : World} (hT : T.In w top) (hXT : X.In w top) (hp : p.In w top) (ht : top ≤ w.heap.size) (hux : X.upto 48) (h : pathB p.S p.n = true) (h0 : p.n = 0) :
    Calls Tryd.prog 8 #[.agg T.h.cells, .slice p.a p.n p.c, .agg X.h.cells] w (ResOut (X, 0) top w) := by
  have hb0 := (((Below.refl w.heap.size w).alloc (Nat.le_refl _) (.cells T.h.cells 30)).alloc (by simp) (.cells X.h.cells 30)).alloc (by simp; omega) (.cells Vh.zero.cells 30)
  have P := ((Whole.new w 30 T.h.cells).alloc (.cells X.h.cells 30)).alloc (.cells Vh.zero.cells 30)
  have KB := (Whole.new (w.alloc (.cells T.h.cells 30)) 30 X.h.cells).alloc (.cells Vh.zero.cells 30)
  rw [World.size_alloc] at KB
  have Q := Whole.new ((w.alloc (.cells T.h.cells 30)).alloc (.cells X.h.cells 30)) 30 Vh.zero.cells
  rw [World.size_alloc, World.size_alloc] at Q
  have HV := Lib.hid (fun (w1 : World) (hb : Below w.heap.size w w1) => pvalid_any (Pth.In.below hp (hb.mono ht)) (Nat.le_trans ht hb.size))
  have HE : Hid (∀ (Z : Vt) w', Z.In w' w'.heap.size → Z.Off (w.heap.size ≤ ·) → Z.Same X → Below w.heap.size w w' → ResOut (X, 0) top w (.returned (.tuple #[.agg Z.h.cells, .int .i64 0])) w') := Lib.hid fun Z w' h1 h3 h4 hb => res_of (X := Z) rfl h1 (h3.mono fun _ q => .inr q) (fun _ => h4) (fun q => absurd rfl q) hb
  have HCo := Lib.hid (fun (w1 : World) (hb : Below w.heap.size w w1) => copy_any (Vt.In.below (hb.mono ht) hXT) (Nat.le_trans ht hb.size) (Vt.upto_le hux (by decide)))
  rw [h, h0] at HV
  rw [h0]
  clear h h0
  clear hT hp hXT hux
  simp only [Vh.cells, Vh.zero] at hb0 P Q KB HCo ⊢
  go_enter Tryd.func8, Tryd.ntmps8
  go_wp2_with fail
  refine (HV.out _ hb0).mono ?_; rintro _ w1 ⟨rfl, hb1⟩
  have g1 := below_then hb0 hb1
  have P1 := P.below hb1 P.lt
  have Q1 := Q.below hb1 Q.lt
  have K1 := Whole.below KB hb1 KB.lt
  clear P Q KB hb0 hb1
  obtain ⟨c0, c1, c2, c3, c4, c5, c6, c7, c8, c9, c10, c11, c12⟩ := Whole.c13 (h := X.h) K1
  go_wp2_with fail
  refine (HCo.out _ g1).mono ?_; rintro _ w9 ⟨Z, rfl, hZ, hZo, hZs, hb9⟩
  have g9 := below_then g1 hb9
  have Q9 := Whole.below Q1 hb9 Q1.lt
  have hzB := g1.size
  have hqB := Q1.lt
  have hone := Lib.hid (vh_all Z.h)
  have hZ2 := Lib.hid (hZ.stays hZo (W' := w9.setRow (w.heap.size + 2) Z.h.cells) (fun b hb => setRow_other _ _ _ _ (by have h1 : _ ≤ b := hb; omega)) (by rw [size_setRow]; exact Nat.le_refl _))
  have hZo2 := Lib.hid (hZo.mono (S' := (w.heap.size ≤ ·)) fun b hb => Nat.le_trans hzB hb)
  have hZs2 := Lib.hid hZs
  clear hZ hZo hZs hb9 g1 P1 Q1 K1 HCo c0 c1 c2 c3 c4 c5 c6 c7 c8 c9 c10 c11 c12
  go_wp2_with (refine wpList_store_row rfl 30 _ _ rfl (w.heap.size + 2) Z.h.cells rfl rfl 30 _ Q9 vh_row rfl hone.out ?_)
  exact bodyPost_ret (v := .tuple #[.agg Z.h.cells, .int .i64 0]) (ret_val2 (p := 6) (q := 7) rfl rfl (Whole.setRow Q9 Z.h.cells)) rfl (HE.out Z _ hZ2.out hZo2.out hZs2.out (below_setRow g9 (by omega) _))

set_option maxHeartbeats 4000000 in
set_option maxRecDepth 100000 in
theorem aset_at {T X : Vt} {p : Pth} {top : Nat} {w : World} (hT : T.In w top) (hXT : X.In w top) (hp : p.In w top) (ht : top ≤ w.heap.size) (h : pathB p.S p.n = true) {m : Nat} (h0 : p.n = m + 1) (h2 : (T.atN p.S m).2 ≠ 0) :
    Calls Tryd.prog 8 #[.agg T.h.cells, .slice p.a p.n p.c, .agg X.h.cells] w (ResOut (.z, (T.atN p.S m).2) top w) := by
  have hb0 := (((Below.refl w.heap.size w).alloc (Nat.le_refl _) (.cells T.h.cells 30)).alloc (by simp) (.cells X.h.cells 30)).alloc (by simp; omega) (.cells Vh.zero.cells 30)
  have P := ((Whole.new w 30 T.h.cells).alloc (.cells X.h.cells 30)).alloc (.cells Vh.zero.cells 30)
  have KB := (Whole.new (w.alloc (.cells T.h.cells 30)) 30 X.h.cells).alloc (.cells Vh.zero.cells 30)
  rw [World.size_alloc] at KB
  have Q := Whole.new ((w.alloc (.cells T.h.cells 30)).alloc (.cells X.h.cells 30)) 30 Vh.zero.cells
  rw [World.size_alloc, World.size_alloc] at Q
  have HV := Lib.hid (fun (w1 : World) (hb : Below w.heap.size w w1) => pvalid_any (Pth.In.below hp (hb.mono ht)) (Nat.le_trans ht hb.size))
  have HE : Hid (∀ w', Below w.heap.size w w' → ResOut ((.z, (T.atN p.S m).2) : Vt × Int) top w (.returned (.tuple #[.agg Vh.zero.cells, .int .i64 (T.atN p.S m).2])) w') := Lib.hid fun w' hb => res_of (X := .z) rfl (Vt.z_in _ _) (Vt.z_off _) (fun q => absurd q h2) (fun _ => rfl) hb
  have hlen : m + 1 ≤ 48 := by have := (pathB_ok h).1; omega
  have hpn := hp
  obtain ⟨a, n, c, b, o, S⟩ := p
  dsimp only at h0 h h2 HE HV ⊢
  subst h0
  obtain ⟨e, hbt⟩ := hp.1 (Nat.succ_pos _)
  dsimp only at e hbt
  subst e
  have hcap : m + 1 ≤ c := hp.2.1.2.1
  have HP := Lib.hid (fun (w1 : World) (hb : Below w.heap.size w w1) => ((hp.2.2 m (Nat.lt_succ_self m)).1.below (hb.mono ht) hbt : LiesAt w1 b (o + m * 3) (S m).cells))
  have hsn : w64 (S m).n := (hp.2.2 m (Nat.lt_succ_self m)).2.n
  have hpm : ∀ w1, Below w.heap.size w w1 → Pth.In w1 top ⟨some ⟨b, o, none⟩, m, c, b, o, S⟩ := fun w1 hb => ⟨fun _ => ⟨rfl, hbt⟩, ⟨Nat.le_of_succ_le hp.2.1.1, Nat.le_of_succ_le hcap, hp.2.1.2.2⟩, fun i hi => (Pth.In.below hp (hb.mono ht)).2.2 i (Nat.lt_succ_of_lt hi)⟩
  have HAm := Lib.hid (fun (w1 : World) (hb : Below w.heap.size w w1) => at_any (p := ⟨some ⟨b, o, none⟩, m, c, b, o, S⟩) (Vt.In.below (hb.mono ht) hT) (hpm w1 hb) (Nat.le_trans ht hb.size))
  have e2 : T.get S m = (.nil, (T.atN S m).2) := by unfold Vt.get; rw [if_neg h2]
  rw [e2] at HAm
  have z1 : ((T.atN S m).2 == 0) = false := beq_eq_false_iff_ne.2 h2
  have z2 : ((T.atN S m).2 != 0) = true := bne_iff_ne.2 h2
  rw [h] at HV
  have hsl := slice_head Tryd.underlying31 elem_path stp_size (b := b) (o := o) (n := m + 1) (c := c) (i := m) (Nat.le_of_succ_le hcap) (by omega)
  clear h2 e2 hT hp h hpn hpm hXT
  generalize (T.atN S m).2 = E at *
  rw [show (Vt.nil).h = Vh.zero from rfl] at HAm
  have n1 : ((m : Int) + 1 == 0) = false := beq_eq_false_iff_ne.2 (by omega)
  have n2 : (((m + 1 : Nat) : Int) == 0) = false := beq_eq_false_iff_ne.2 (by omega)
  have n3 : (m + 1 == 0) = false := beq_eq_false_iff_ne.2 (by omega)
  have m1 : (0 : Int) ≤ m := by omega
  have m2 : (m : Int) ≤ 47 := by omega
  have m3 : (m : Int) < ((m + 1 : Nat) : Int) := by omega
  have m4 : (m : Int) < (m : Int) + 1 := by omega
  have m5 : (m : Int) ≤ (c : Int) := by omega
  have hwr : IntKind.i64.wrap (m : Int) = (m : Int) := by rw [IntKind.wrap_i64]; omega
  simp only [Vh.cells, Vh.zero] at hb0 P Q KB HAm ⊢
  go_enter Tryd.func8, Tryd.ntmps8
  go_wp2_with fail
  refine (HV.out _ hb0).mono ?_; rintro _ w1 ⟨rfl, hb1⟩
  have g1 := below_then hb0 hb1
  have P1 := P.below hb1 P.lt
  have Q1 := Q.below hb1 Q.lt
  have K1 := Whole.below KB hb1 KB.lt
  clear P Q KB hb0 hb1
  go_wp2_with fail
  refine wp_region_held_drew (S := fun W => Whole W w.heap.size 30 T.h.cells ∧ LiesAt W b (o + m * 3) (S m).cells ∧ Below w.heap.size w W) (by kernel_rfl) ⟨Whole.drew P1, HP.out _ (Below.drew g1), Below.drew g1⟩ (fun hS => ?_)
  refine wpAnyH_take (i := 0) (v := ?v0x1) rfl (by kernel_rfl) (by kernel_rfl) (by kernel_rfl) (fun _ _ _ h => h) (Or.inl ⟨by rfl, ?hy0x1⟩) hS ?rest0x1
  case hy0x1 => (intro wS hSw; go_simp; (try with_reducible rfl))
  case rest0x1 =>
  simp only [Act.put, List.getElem_toArray, List.getElem_cons_zero, List.getElem_cons_succ, List.setIfInBounds_toArray, List.set_cons_zero, List.set_cons_succ]
  refine wpAnyH_take (i := 1) (v := ?v1x2) rfl (by kernel_rfl) (by kernel_rfl) (by kernel_rfl) (fun _ _ _ h => h) (Or.inl ⟨by rfl, ?hy1x2⟩) hS ?rest1x2
  case hy1x2 => (intro wS hSw; go_simp; (try with_reducible rfl))
  case rest1x2 =>
  simp only [Act.put, List.getElem_toArray, List.getElem_cons_zero, List.getElem_cons_succ, List.setIfInBounds_toArray, List.set_cons_zero, List.set_cons_succ]
  refine wpAnyH_take (i := 2) (v := ?v2x3) rfl (by kernel_rfl) (by kernel_rfl) (by kernel_rfl) (fun _ _ _ h => h) (Or.inl ⟨by rfl, ?hy2x3⟩) hS ?rest2x3
  case hy2x3 => (intro wS hSw; go_simp; (try with_reducible rfl))
  case rest2x3 =>
  simp only [Act.put, List.getElem_toArray, List.getElem_cons_zero, List.getElem_cons_succ, List.setIfInBounds_toArray, List.set_cons_zero, List.set_cons_succ]
  refine wpAnyH_take (i := 3) (v := ?v3x4) rfl (by kernel_rfl) (by kernel_rfl) (by kernel_rfl) (fun _ _ _ h => h) (Or.inl ⟨by rfl, ?hy3x4⟩) hS ?rest3x4
  case hy3x4 => (intro wS hSw; go_simp; (try with_reducible rfl))
  case rest3x4 =>
  simp only [Act.put, List.getElem_toArray, List.getElem_cons_zero, List.getElem_cons_succ, List.setIfInBounds_toArray, List.set_cons_zero, List.set_cons_succ]
  refine wpAnyH_take (i := 4) (v := ?v4x5) rfl (by kernel_rfl) (by kernel_rfl) (by kernel_rfl) (fun _ _ _ h => h) (Or.inl ⟨by rfl, ?hy4x5⟩) hS ?rest4x5
  case hy4x5 => (intro wS hSw; go_simp; (try with_reducible rfl))
  case rest4x5 =>
  simp only [Act.put, List.getElem_toArray, List.getElem_cons_zero, List.getElem_cons_succ, List.setIfInBounds_toArray, List.set_cons_zero, List.set_cons_succ]
  refine wpAnyH_take (i := 5) (v := ?v5x6) rfl (by kernel_rfl) (by kernel_rfl) (by kernel_rfl) (fun _ _ _ h => h) (Or.inl ⟨by rfl, ?hy5x6⟩) hS ?rest5x6
  case hy5x6 => (intro wS hSw; go_simp; (try with_reducible rfl))
  case rest5x6 =>
  simp only [Act.put, List.getElem_toArray, List.getElem_cons_zero, List.getElem_cons_succ, List.setIfInBounds_toArray, List.set_cons_zero, List.set_cons_succ]
  refine wpAnyH_take (i := 6) (v := ?v6x7) rfl (by kernel_rfl) (by kernel_rfl) (by kernel_rfl) (fun _ _ _ h => h) (Or.inl ⟨by rfl, ?hy6x7⟩) hS ?rest6x7
  case hy6x7 => (intro wS hSw; go_simp; (try with_reducible rfl))
  case rest6x7 =>
  simp only [Act.put, List.getElem_toArray, List.getElem_cons_zero, List.getElem_cons_succ, List.setIfInBounds_toArray, List.set_cons_zero, List.set_cons_succ]
  refine wpAnyH_take (i := 7) (v := ?v7x8) rfl (by kernel_rfl) (by kernel_rfl) (by kernel_rfl) (fun _ _ _ h => h) (Or.inl ⟨by rfl, ?hy7x8⟩) hS ?rest7x8
  case hy7x8 => (intro wS hSw; go_simp; (try with_reducible rfl))
  case rest7x8 =>
  simp only [Act.put, List.getElem_toArray, List.getElem_cons_zero, List.getElem_cons_succ, List.setIfInBounds_toArray, List.set_cons_zero, List.set_cons_succ]
  refine wpAnyH_take (i := 8) (v := ?v8x9) rfl (by kernel_rfl) (by kernel_rfl) (by kernel_rfl) (fun _ _ _ h => h) (Or.inl ⟨by rfl, ?hy8x9⟩) hS ?rest8x9
  case hy8x9 => (intro wS hSw; go_simp; (try with_reducible rfl))
  case rest8x9 =>
  simp only [Act.put, List.getElem_toArray, List.getElem_cons_zero, List.getElem_cons_succ, List.setIfInBounds_toArray, List.set_cons_zero, List.set_cons_succ]
  refine wpAnyH_take (i := 9) (v := ?v9x10) rfl (by kernel_rfl) (by kernel_rfl) (by kernel_rfl) (fun _ _ _ h => h) (Or.inl ⟨by rfl, ?hy9x10⟩) hS ?rest9x10
  case hy9x10 => (intro wS hSw; go_simp; (try with_reducible rfl))
  case rest9x10 =>
  simp only [Act.put, List.getElem_toArray, List.getElem_cons_zero, List.getElem_cons_succ, List.setIfInBounds_toArray, List.set_cons_zero, List.set_cons_succ]
  refine wpAnyH_take (i := 10) (v := ?v10x11) rfl (by kernel_rfl) (by kernel_rfl) (by kernel_rfl) (fun _ _ _ h => h) (Or.inl ⟨by rfl, ?hy10x11⟩) hS ?rest10x11
  case hy10x11 => (intro wS hSw; obtain ⟨-, Pz, -⟩ := hSw; obtain ⟨s0, s1, s2⟩ := Pz.s3; go_simp; (try with_reducible rfl))
  case rest10x11 =>
  simp only [Act.put, List.getElem_toArray, List.getElem_cons_zero, List.getElem_cons_succ, List.setIfInBounds_toArray, List.set_cons_zero, List.set_cons_succ]
  have g3 := Below.drew g1
  have Q3 := Whole.drew Q1
  have P3 := Whole.drew P1
  have K3 := Whole.drew K1
  clear g1 Q1 P1 K1 hsl
  generalize w1.drew = w4 at *
  have hq3 := Q3.lt
  have hk3 := K3.lt
  refine wpAnyH_ready (rs := [11]) (by kernel_rfl) (by simp) ?_
  refine AllReadyH.cons rfl (fun KK hK => ?_) AllReadyH.nil
  go_simp
  have q1 := (Below.refl w4.heap.size w4).alloc (Nat.le_refl _) (.cells #[.bool false, .string ⟨#[]⟩, .int .i64 0] 50)
  have Y4 := Whole.new w4 50 #[.bool false, .string ⟨#[]⟩, .int .i64 0]
  have g4 := below_then g3 q1
  have Q4 := Whole.below Q3 q1 Q3.lt
  have P4 := Whole.below P3 q1 P3.lt
  have K4 := Whole.below K3 q1 K3.lt
  clear q1
  refine hK.out _ _ ⟨P4, HP.out _ g4, g4⟩ (fun hS4 => ?_)
  clear hK KK
  try simp only [Act.put, List.getElem_toArray, List.getElem_cons_zero, List.getElem_cons_succ, List.setIfInBounds_toArray, List.set_cons_zero, List.set_cons_succ]
  refine wpAnyH_ready (rs := [12]) (by kernel_rfl) (by simp) ?_
  refine AllReadyH.cons rfl (fun KK hK => ?_) AllReadyH.nil
  go_simp
  refine hK.out _ _ hS4 (fun hS5 => ?_)
  clear hK KK
  try simp only [Act.put, List.getElem_toArray, List.getElem_cons_zero, List.getElem_cons_succ, List.setIfInBounds_toArray, List.set_cons_zero, List.set_cons_succ]
  refine wpAnyH_ready (rs := [13]) (by kernel_rfl) (by simp) ?_
  refine AllReadyH.cons rfl (fun KK hK => ?_) AllReadyH.nil
  rw [if_pos (by rfl)]
  refine wp_store_row 50 _ _ rfl (w4.heap.size) #[.bool (S m).ix, .string (S m).key, .int .i64 (S m).n] rfl rfl 50 _ Y4 stp_size rfl (by simp [Value.oneCell']) ?_
  have g5 := below_setRow g4 (show w.heap.size ≤ w4.heap.size from g3.size) #[.bool (S m).ix, .string (S m).key, .int .i64 (S m).n]
  have Y5 : Whole _ w4.heap.size 50 (S m).cells := Whole.setRow Y4 #[.bool (S m).ix, .string (S m).key, .int .i64 (S m).n]
  have P5 := Whole.farRow (B' := w4.heap.size) P4 (by omega) #[.bool (S m).ix, .string (S m).key, .int .i64 (S m).n]
  have Q5 := Whole.farRow (B' := w4.heap.size) Q4 (by omega) #[.bool (S m).ix, .string (S m).key, .int .i64 (S m).n]
  have K5 := Whole.farRow (B' := w4.heap.size) K4 (by omega) #[.bool (S m).ix, .string (S m).key, .int .i64 (S m).n]
  obtain ⟨w5, hw5⟩ : ∃ w5, (w4.alloc (.cells #[.bool false, .string ⟨#[]⟩, .int .i64 0] 50)).setRow w4.heap.size #[.bool (S m).ix, .string (S m).key, .int .i64 (S m).n] = w5 := ⟨_, rfl⟩
  rw [hw5] at g5 Y5 P5 Q5 K5 ⊢
  clear hw5
  refine hK.out _ _ ⟨P5, HP.out _ g5, g5⟩ (fun hS6 => ?_)
  clear hK KK
  try simp only [Act.put, List.getElem_toArray, List.getElem_cons_zero, List.getElem_cons_succ, List.setIfInBounds_toArray, List.set_cons_zero, List.set_cons_succ]
  refine wpAnyH_done (by kernel_rfl) ?_ _
  clear hS hS4 hS5 hS6 g3 g4 P3 P4 Q3 Q4 K3 K4 Y4 hk3
  obtain ⟨c0, c1, c2, c3, c4, c5, c6, c7, c8, c9, c10, c11, c12⟩ := Whole.c13 (h := T.h) P5
  have hy5 := Y5.lt
  have hq5 := Q5.lt
  have hk5 := K5.lt
  have hp5 := P5.lt
  go_wp2_with fail
  refine (HAm.out _ g5).mono ?_; rintro _ w6 ⟨rfl, hb6⟩
  have g6 := below_then g5 hb6
  have Q6 := Whole.below Q5 hb6 hq5
  have P6 := Whole.below P5 hb6 hp5
  have Y6 := Whole.below Y5 hb6 hy5
  have K6 := Whole.below K5 hb6 hk5
  have hs6 := hb6.size
  clear c0 c1 c2 c3 c4 c5 c6 c7 c8 c9 c10 c11 c12 g5 Q5 P5 Y5 K5 hb6
  have gA := g6.alloc g6.size (.cells Vh.zero.cells 30)
  have QA := Q6.alloc (.cells Vh.zero.cells 30)
  have PA := P6.alloc (.cells Vh.zero.cells 30)
  have YA := Y6.alloc (.cells Vh.zero.cells 30)
  have KA := K6.alloc (.cells Vh.zero.cells 30)
  have MA := Whole.new w6 30 Vh.zero.cells
  have hzA : (w6.alloc (.cells Vh.zero.cells 30)).heap.size = w6.heap.size + 1 := by simp
  clear g6 Q6 P6 Y6 K6
  simp only [Vh.cells, Vh.zero] at gA QA
  clear PA YA KA MA
  have hone := Lib.hid (vh_all Vh.zero)
  go_wp2_with (refine wpList_store_row rfl 30 _ _ rfl (w.heap.size + 2) Vh.zero.cells rfl rfl 30 _ QA vh_row rfl hone.out ?_)
  exact bodyPost_ret (v := .tuple #[.agg Vh.zero.cells, .int .i64 E]) (ret_val2 (p := 6) (q := 7) rfl rfl (Whole.setRow QA Vh.zero.cells)) rfl (HE.out _ (below_setRow gA (by omega) _))

set_option maxHeartbeats 4000000 in
set_option maxRecDepth 100000 in
theorem aset_err {T X : Vt} {p : Pth} {top : Nat} {w : World} (hT : T.In w top) (hXT : X.In w top) (hp : p.In w top) (ht : top ≤ w.heap.size) (h : pathB p.S p.n = true) {m : Nat} (h0 : p.n = m + 1) (h2 : (T.atN p.S m).2 = 0) (h3 : ((T.atN p.S m).1.find (p.S m)).2 ≠ 0) (h4 : ¬ (((T.atN p.S m).1.find (p.S m)).2 = 7 ∧ (p.S m).ix = false)) :
    Calls Tryd.prog 8 #[.agg T.h.cells, .slice p.a p.n p.c, .agg X.h.cells] w (ResOut (.z, ((T.atN p.S m).1.find (p.S m)).2) top w) := by
  have hb0 := (((Below.refl w.heap.size w).alloc (Nat.le_refl _) (.cells T.h.cells 30)).alloc (by simp) (.cells X.h.cells 30)).alloc (by simp; omega) (.cells Vh.zero.cells 30)
  have P := ((Whole.new w 30 T.h.cells).alloc (.cells X.h.cells 30)).alloc (.cells Vh.zero.cells 30)
  have KB := (Whole.new (w.alloc (.cells T.h.cells 30)) 30 X.h.cells).alloc (.cells Vh.zero.cells 30)
  rw [World.size_alloc] at KB
  have Q := Whole.new ((w.alloc (.cells T.h.cells 30)).alloc (.cells X.h.cells 30)) 30 Vh.zero.cells
  rw [World.size_alloc, World.size_alloc] at Q
  have HV := Lib.hid (fun (w1 : World) (hb : Below w.heap.size w w1) => pvalid_any (Pth.In.below hp (hb.mono ht)) (Nat.le_trans ht hb.size))
  have HE : Hid (∀ w', Below w.heap.size w w' → ResOut ((.z, ((T.atN p.S m).1.find (p.S m)).2) : Vt × Int) top w (.returned (.tuple #[.agg Vh.zero.cells, .int .i64 ((T.atN p.S m).1.find (p.S m)).2])) w') := Lib.hid fun w' hb => res_of (X := .z) rfl (Vt.z_in _ _) (Vt.z_off _) (fun q => absurd q h3) (fun _ => rfl) hb
  have hlen : m + 1 ≤ 48 := by have := (pathB_ok h).1; omega
  have hpn := hp
  obtain ⟨a, n, c, b, o, S⟩ := p
  dsimp only at h0 h h2 h3 h4 HE HV ⊢
  subst h0
  obtain ⟨e, hbt⟩ := hp.1 (Nat.succ_pos _)
  dsimp only at e hbt
  subst e
  have hcap : m + 1 ≤ c := hp.2.1.2.1
  have HP := Lib.hid (fun (w1 : World) (hb : Below w.heap.size w w1) => ((hp.2.2 m (Nat.lt_succ_self m)).1.below (hb.mono ht) hbt : LiesAt w1 b (o + m * 3) (S m).cells))
  have hsn : w64 (S m).n := (hp.2.2 m (Nat.lt_succ_self m)).2.n
  have hpm : ∀ w1, Below w.heap.size w w1 → Pth.In w1 top ⟨some ⟨b, o, none⟩, m, c, b, o, S⟩ := fun w1 hb => ⟨fun _ => ⟨rfl, hbt⟩, ⟨Nat.le_of_succ_le hp.2.1.1, Nat.le_of_succ_le hcap, hp.2.1.2.2⟩, fun i hi => (Pth.In.below hp (hb.mono ht)).2.2 i (Nat.lt_succ_of_lt hi)⟩
  have HAm := Lib.hid (fun (w1 : World) (hb : Below w.heap.size w w1) => at_any (p := ⟨some ⟨b, o, none⟩, m, c, b, o, S⟩) (Vt.In.below (hb.mono ht) hT) (hpm w1 hb) (Nat.le_trans ht hb.size))
  have hgm : T.get S m = ((T.atN S m).1, 0) := by unfold Vt.get; rw [if_pos h2]; exact Prod.ext rfl h2
  rw [hgm] at HAm
  have hMin : ∀ w1, Below w.heap.size w w1 → (T.atN S m).1.In w1 top := fun w1 hb => Vt.In.atN (Vt.In.below (hb.mono ht) hT) S m
  have HFi := Lib.hid (fun (w1 : World) (hb : Below w.heap.size w w1) => find_any (T := (T.atN S m).1) (s := S m) (hMin w1 hb) (Nat.le_trans ht hb.size) hsn)
  obtain ⟨M, hM⟩ : ∃ M, (T.atN S m).1 = M := ⟨_, rfl⟩
  rw [hM] at HAm HFi h3 h4 HE ⊢
  obtain ⟨⟨FI, E⟩, hE⟩ : ∃ R, M.find (S m) = R := ⟨_, rfl⟩
  rw [hE] at HFi h3 h4 HE ⊢
  dsimp only at HFi h3 h4 HE ⊢
  have z1 : (E == 0) = false := beq_eq_false_iff_ne.2 h3
  have z2 : (E != 0) = true := bne_iff_ne.2 h3
  have H4 : Hid (¬ (E = 7 ∧ (S m).ix = false)) := Lib.hid h4
  rw [h] at HV
  have hsl := slice_head Tryd.underlying31 elem_path stp_size (b := b) (o := o) (n := m + 1) (c := c) (i := m) (Nat.le_of_succ_le hcap) (by omega)
  clear hM hE hT hp h hpn hpm hXT h2 h3 h4 hgm hMin hsn
  have n1 : ((m : Int) + 1 == 0) = false := beq_eq_false_iff_ne.2 (by omega)
  have n2 : (((m + 1 : Nat) : Int) == 0) = false := beq_eq_false_iff_ne.2 (by omega)
  have n3 : (m + 1 == 0) = false := beq_eq_false_iff_ne.2 (by omega)
  have m1 : (0 : Int) ≤ m := by omega
  have m2 : (m : Int) ≤ 47 := by omega
  have m3 : (m : Int) < ((m + 1 : Nat) : Int) := by omega
  have m4 : (m : Int) < (m : Int) + 1 := by omega
  have m5 : (m : Int) ≤ (c : Int) := by omega
  have hwr : IntKind.i64.wrap (m : Int) = (m : Int) := by rw [IntKind.wrap_i64]; omega
  simp only [Vh.cells, Vh.zero] at hb0 P Q KB HAm HFi ⊢
  go_enter Tryd.func8, Tryd.ntmps8
  go_wp2_with fail
  refine (HV.out _ hb0).mono ?_; rintro _ w1 ⟨rfl, hb1⟩
  have g1 := below_then hb0 hb1
  have P1 := P.below hb1 P.lt
  have Q1 := Q.below hb1 Q.lt
  have K1 := Whole.below KB hb1 KB.lt
  clear P Q KB hb0 hb1
  go_wp2_with fail
  refine wp_region_held_drew (S := fun W => Whole W w.heap.size 30 T.h.cells ∧ LiesAt W b (o + m * 3) (S m).cells ∧ Below w.heap.size w W) (by kernel_rfl) ⟨Whole.drew P1, HP.out _ (Below.drew g1), Below.drew g1⟩ (fun hS => ?_)
  refine wpAnyH_take (i := 0) (v := ?v0x12) rfl (by kernel_rfl) (by kernel_rfl) (by kernel_rfl) (fun _ _ _ h => h) (Or.inl ⟨by rfl, ?hy0x12⟩) hS ?rest0x12
  case hy0x12 => (intro wS hSw; go_simp; (try with_reducible rfl))
  case rest0x12 =>
  simp only [Act.put, List.getElem_toArray, List.getElem_cons_zero, List.getElem_cons_succ, List.setIfInBounds_toArray, List.set_cons_zero, List.set_cons_succ]
  refine wpAnyH_take (i := 1) (v := ?v1x13) rfl (by kernel_rfl) (by kernel_rfl) (by kernel_rfl) (fun _ _ _ h => h) (Or.inl ⟨by rfl, ?hy1x13⟩) hS ?rest1x13
  case hy1x13 => (intro wS hSw; go_simp; (try with_reducible rfl))
  case rest1x13 =>
  simp only [Act.put, List.getElem_toArray, List.getElem_cons_zero, List.getElem_cons_succ, List.setIfInBounds_toArray, List.set_cons_zero, List.set_cons_succ]
  refine wpAnyH_take (i := 2) (v := ?v2x14) rfl (by kernel_rfl) (by kernel_rfl) (by kernel_rfl) (fun _ _ _ h => h) (Or.inl ⟨by rfl, ?hy2x14⟩) hS ?rest2x14
  case hy2x14 => (intro wS hSw; go_simp; (try with_reducible rfl))
  case rest2x14 =>
  simp only [Act.put, List.getElem_toArray, List.getElem_cons_zero, List.getElem_cons_succ, List.setIfInBounds_toArray, List.set_cons_zero, List.set_cons_succ]
  refine wpAnyH_take (i := 3) (v := ?v3x15) rfl (by kernel_rfl) (by kernel_rfl) (by kernel_rfl) (fun _ _ _ h => h) (Or.inl ⟨by rfl, ?hy3x15⟩) hS ?rest3x15
  case hy3x15 => (intro wS hSw; go_simp; (try with_reducible rfl))
  case rest3x15 =>
  simp only [Act.put, List.getElem_toArray, List.getElem_cons_zero, List.getElem_cons_succ, List.setIfInBounds_toArray, List.set_cons_zero, List.set_cons_succ]
  refine wpAnyH_take (i := 4) (v := ?v4x16) rfl (by kernel_rfl) (by kernel_rfl) (by kernel_rfl) (fun _ _ _ h => h) (Or.inl ⟨by rfl, ?hy4x16⟩) hS ?rest4x16
  case hy4x16 => (intro wS hSw; go_simp; (try with_reducible rfl))
  case rest4x16 =>
  simp only [Act.put, List.getElem_toArray, List.getElem_cons_zero, List.getElem_cons_succ, List.setIfInBounds_toArray, List.set_cons_zero, List.set_cons_succ]
  refine wpAnyH_take (i := 5) (v := ?v5x17) rfl (by kernel_rfl) (by kernel_rfl) (by kernel_rfl) (fun _ _ _ h => h) (Or.inl ⟨by rfl, ?hy5x17⟩) hS ?rest5x17
  case hy5x17 => (intro wS hSw; go_simp; (try with_reducible rfl))
  case rest5x17 =>
  simp only [Act.put, List.getElem_toArray, List.getElem_cons_zero, List.getElem_cons_succ, List.setIfInBounds_toArray, List.set_cons_zero, List.set_cons_succ]
  refine wpAnyH_take (i := 6) (v := ?v6x18) rfl (by kernel_rfl) (by kernel_rfl) (by kernel_rfl) (fun _ _ _ h => h) (Or.inl ⟨by rfl, ?hy6x18⟩) hS ?rest6x18
  case hy6x18 => (intro wS hSw; go_simp; (try with_reducible rfl))
  case rest6x18 =>
  simp only [Act.put, List.getElem_toArray, List.getElem_cons_zero, List.getElem_cons_succ, List.setIfInBounds_toArray, List.set_cons_zero, List.set_cons_succ]
  refine wpAnyH_take (i := 7) (v := ?v7x19) rfl (by kernel_rfl) (by kernel_rfl) (by kernel_rfl) (fun _ _ _ h => h) (Or.inl ⟨by rfl, ?hy7x19⟩) hS ?rest7x19
  case hy7x19 => (intro wS hSw; go_simp; (try with_reducible rfl))
  case rest7x19 =>
  simp only [Act.put, List.getElem_toArray, List.getElem_cons_zero, List.getElem_cons_succ, List.setIfInBounds_toArray, List.set_cons_zero, List.set_cons_succ]
  refine wpAnyH_take (i := 8) (v := ?v8x20) rfl (by kernel_rfl) (by kernel_rfl) (by kernel_rfl) (fun _ _ _ h => h) (Or.inl ⟨by rfl, ?hy8x20⟩) hS ?rest8x20
  case hy8x20 => (intro wS hSw; go_simp; (try with_reducible rfl))
  case rest8x20 =>
  simp only [Act.put, List.getElem_toArray, List.getElem_cons_zero, List.getElem_cons_succ, List.setIfInBounds_toArray, List.set_cons_zero, List.set_cons_succ]
  refine wpAnyH_take (i := 9) (v := ?v9x21) rfl (by kernel_rfl) (by kernel_rfl) (by kernel_rfl) (fun _ _ _ h => h) (Or.inl ⟨by rfl, ?hy9x21⟩) hS ?rest9x21
  case hy9x21 => (intro wS hSw; go_simp; (try with_reducible rfl))
  case rest9x21 =>
  simp only [Act.put, List.getElem_toArray, List.getElem_cons_zero, List.getElem_cons_succ, List.setIfInBounds_toArray, List.set_cons_zero, List.set_cons_succ]
  refine wpAnyH_take (i := 10) (v := ?v10x22) rfl (by kernel_rfl) (by kernel_rfl) (by kernel_rfl) (fun _ _ _ h => h) (Or.inl ⟨by rfl, ?hy10x22⟩) hS ?rest10x22
  case hy10x22 => (intro wS hSw; obtain ⟨-, Pz, -⟩ := hSw; obtain ⟨s0, s1, s2⟩ := Pz.s3; go_simp; (try with_reducible rfl))
  case rest10x22 =>
  simp only [Act.put, List.getElem_toArray, List.getElem_cons_zero, List.getElem_cons_succ, List.setIfInBounds_toArray, List.set_cons_zero, List.set_cons_succ]
  have g3 := Below.drew g1
  have Q3 := Whole.drew Q1
  have P3 := Whole.drew P1
  have K3 := Whole.drew K1
  clear g1 Q1 P1 K1 hsl
  generalize w1.drew = w4 at *
  have hq3 := Q3.lt
  have hk3 := K3.lt
  refine wpAnyH_ready (rs := [11]) (by kernel_rfl) (by simp) ?_
  refine AllReadyH.cons rfl (fun KK hK => ?_) AllReadyH.nil
  go_simp
  have q1 := (Below.refl w4.heap.size w4).alloc (Nat.le_refl _) (.cells #[.bool false, .string ⟨#[]⟩, .int .i64 0] 50)
  have Y4 := Whole.new w4 50 #[.bool false, .string ⟨#[]⟩, .int .i64 0]
  have g4 := below_then g3 q1
  have Q4 := Whole.below Q3 q1 Q3.lt
  have P4 := Whole.below P3 q1 P3.lt
  have K4 := Whole.below K3 q1 K3.lt
  clear q1
  refine hK.out _ _ ⟨P4, HP.out _ g4, g4⟩ (fun hS4 => ?_)
  clear hK KK
  try simp only [Act.put, List.getElem_toArray, List.getElem_cons_zero, List.getElem_cons_succ, List.setIfInBounds_toArray, List.set_cons_zero, List.set_cons_succ]
  refine wpAnyH_ready (rs := [12]) (by kernel_rfl) (by simp) ?_
  refine AllReadyH.cons rfl (fun KK hK => ?_) AllReadyH.nil
  go_simp
  refine hK.out _ _ hS4 (fun hS5 => ?_)
  clear hK KK
  try simp only [Act.put, List.getElem_toArray, List.getElem_cons_zero, List.getElem_cons_succ, List.setIfInBounds_toArray, List.set_cons_zero, List.set_cons_succ]
  refine wpAnyH_ready (rs := [13]) (by kernel_rfl) (by simp) ?_
  refine AllReadyH.cons rfl (fun KK hK => ?_) AllReadyH.nil
  rw [if_pos (by rfl)]
  refine wp_store_row 50 _ _ rfl (w4.heap.size) #[.bool (S m).ix, .string (S m).key, .int .i64 (S m).n] rfl rfl 50 _ Y4 stp_size rfl (by simp [Value.oneCell']) ?_
  have g5 := below_setRow g4 (show w.heap.size ≤ w4.heap.size from g3.size) #[.bool (S m).ix, .string (S m).key, .int .i64 (S m).n]
  have Y5 : Whole _ w4.heap.size 50 (S m).cells := Whole.setRow Y4 #[.bool (S m).ix, .string (S m).key, .int .i64 (S m).n]
  have P5 := Whole.farRow (B' := w4.heap.size) P4 (by omega) #[.bool (S m).ix, .string (S m).key, .int .i64 (S m).n]
  have Q5 := Whole.farRow (B' := w4.heap.size) Q4 (by omega) #[.bool (S m).ix, .string (S m).key, .int .i64 (S m).n]
  have K5 := Whole.farRow (B' := w4.heap.size) K4 (by omega) #[.bool (S m).ix, .string (S m).key, .int .i64 (S m).n]
  obtain ⟨w5, hw5⟩ : ∃ w5, (w4.alloc (.cells #[.bool false, .string ⟨#[]⟩, .int .i64 0] 50)).setRow w4.heap.size #[.bool (S m).ix, .string (S m).key, .int .i64 (S m).n] = w5 := ⟨_, rfl⟩
  rw [hw5] at g5 Y5 P5 Q5 K5 ⊢
  clear hw5
  refine hK.out _ _ ⟨P5, HP.out _ g5, g5⟩ (fun hS6 => ?_)
  clear hK KK
  try simp only [Act.put, List.getElem_toArray, List.getElem_cons_zero, List.getElem_cons_succ, List.setIfInBounds_toArray, List.set_cons_zero, List.set_cons_succ]
  refine wpAnyH_done (by kernel_rfl) ?_ _
  clear hS hS4 hS5 hS6 g3 g4 P3 P4 Q3 Q4 K3 K4 Y4 hk3
  obtain ⟨c0, c1, c2, c3, c4, c5, c6, c7, c8, c9, c10, c11, c12⟩ := Whole.c13 (h := T.h) P5
  have hy5 := Y5.lt
  have hq5 := Q5.lt
  have hk5 := K5.lt
  have hp5 := P5.lt
  go_wp2_with fail
  refine (HAm.out _ g5).mono ?_; rintro _ w6 ⟨rfl, hb6⟩
  have g6 := below_then g5 hb6
  have Q6 := Whole.below Q5 hb6 hq5
  have P6 := Whole.below P5 hb6 hp5
  have Y6 := Whole.below Y5 hb6 hy5
  have K6 := Whole.below K5 hb6 hk5
  have hs6 := hb6.size
  clear c0 c1 c2 c3 c4 c5 c6 c7 c8 c9 c10 c11 c12 g5 Q5 P5 Y5 K5 hb6
  have gA := g6.alloc g6.size (.cells M.h.cells 30)
  have QA := Q6.alloc (.cells M.h.cells 30)
  have PA := P6.alloc (.cells M.h.cells 30)
  have YA := Y6.alloc (.cells M.h.cells 30)
  have KA := K6.alloc (.cells M.h.cells 30)
  have MA := Whole.new w6 30 M.h.cells
  have hzA : (w6.alloc (.cells M.h.cells 30)).heap.size = w6.heap.size + 1 := by simp
  clear g6 Q6 P6 Y6 K6
  obtain ⟨c0, c1, c2, c3, c4, c5, c6, c7, c8, c9, c10, c11, c12⟩ := Whole.c13 (h := M.h) MA
  obtain ⟨s0, s1, s2⟩ := Whole.b3 (s := S m) YA
  simp only [Vh.cells, Stp.cells] at gA QA PA YA KA MA hzA c0 c1 c2 c3 c4 c5 c6 c7 c8 c9 c10 c11 c12 s0 s1 s2
  have hyA := YA.lt
  have hqA := QA.lt
  have hkA := KA.lt
  have hpA := PA.lt
  go_wp2_with fail
  refine (HFi.out _ gA).mono ?_; rintro _ w7 ⟨rfl, hb7⟩
  have g7 := below_then gA hb7
  have Q7 := Whole.below QA hb7 hqA
  have P7 := Whole.below PA hb7 hpA
  have Y7 := Whole.below YA hb7 hyA
  have K7 := Whole.below KA hb7 hkA
  have hs7 := hb7.size
  clear c0 c1 c2 c3 c4 c5 c6 c7 c8 c9 c10 c11 c12 s0 s1 s2 gA QA PA YA KA MA hb7
  have s0 := (Whole.b3 (s := S m) Y7).1
  by_cases e7 : E = 7
  · subst e7
    have hix : (S m).ix = true := by
      cases q : (S m).ix with
      | true => rfl
      | false => exact absurd ⟨rfl, q⟩ H4.out
    rw [hix] at s0
    clear hix H4
    have hone := Lib.hid (vh_all Vh.zero)
    go_wp2_with (refine wpList_store_row rfl 30 _ _ rfl (w.heap.size + 2) Vh.zero.cells rfl rfl 30 _ Q7 vh_row rfl hone.out ?_)
    exact bodyPost_ret (v := .tuple #[.agg Vh.zero.cells, .int .i64 7]) (ret_val2 (p := 6) (q := 7) rfl rfl (Whole.setRow Q7 Vh.zero.cells)) rfl (HE.out _ (below_setRow g7 (by omega) _))
  · have z3 : (E == 7) = false := beq_eq_false_iff_ne.2 e7
    clear e7 H4
    have hone := Lib.hid (vh_all Vh.zero)
    go_wp2_with (refine wpList_store_row rfl 30 _ _ rfl (w.heap.size + 2) Vh.zero.cells rfl rfl 30 _ Q7 vh_row rfl hone.out ?_)
    exact bodyPost_ret (v := .tuple #[.agg Vh.zero.cells, .int .i64 E]) (ret_val2 (p := 6) (q := 7) rfl rfl (Whole.setRow Q7 Vh.zero.cells)) rfl (HE.out _ (below_setRow g7 (by omega) _))

set_option maxHeartbeats 4000000 in
set_option maxRecDepth 100000 in
theorem aset_in {T X : Vt} {p : Pth} {top : Nat} {w : World} (hT : T.In w top) (hXT : X.In w top) (hp : p.In w top) (ht : top ≤ w.heap.size) (hu : T.upto 48) (h : pathB p.S p.n = true) {m : Nat} (h0 : p.n = m + 1) (h2 : (T.atN p.S m).2 = 0) (h3 : ((T.atN p.S m).1.find (p.S m)).2 = 0) :
    Calls Tryd.prog 8 #[.agg T.h.cells, .slice p.a p.n p.c, .agg X.h.cells] w (ResOut (Vt.chg (fun _ => X) (m + 1) p.S T).chkV top w) := by
  have hb0 := (((Below.refl w.heap.size w).alloc (Nat.le_refl _) (.cells T.h.cells 30)).alloc (by simp) (.cells X.h.cells 30)).alloc (by simp; omega) (.cells Vh.zero.cells 30)
  have P := ((Whole.new w 30 T.h.cells).alloc (.cells X.h.cells 30)).alloc (.cells Vh.zero.cells 30)
  have KB := (Whole.new (w.alloc (.cells T.h.cells 30)) 30 X.h.cells).alloc (.cells Vh.zero.cells 30)
  rw [World.size_alloc] at KB
  have Q := Whole.new ((w.alloc (.cells T.h.cells 30)).alloc (.cells X.h.cells 30)) 30 Vh.zero.cells
  rw [World.size_alloc, World.size_alloc] at Q
  have HV := Lib.hid (fun (w1 : World) (hb : Below w.heap.size w w1) => pvalid_any (Pth.In.below hp (hb.mono ht)) (Nat.le_trans ht hb.size))
  have hlen : m + 1 ≤ 48 := by have := (pathB_ok h).1; omega
  have hpn := hp
  obtain ⟨a, n, c, b, o, S⟩ := p
  dsimp only at h0 h h2 h3 HV ⊢
  subst h0
  obtain ⟨e, hbt⟩ := hp.1 (Nat.succ_pos _)
  dsimp only at e hbt
  subst e
  have hcap : m + 1 ≤ c := hp.2.1.2.1
  have HP := Lib.hid (fun (w1 : World) (hb : Below w.heap.size w w1) => ((hp.2.2 m (Nat.lt_succ_self m)).1.below (hb.mono ht) hbt : LiesAt w1 b (o + m * 3) (S m).cells))
  have hsn : w64 (S m).n := (hp.2.2 m (Nat.lt_succ_self m)).2.n
  have hpm : ∀ w1, Below w.heap.size w w1 → Pth.In w1 top ⟨some ⟨b, o, none⟩, m, c, b, o, S⟩ := fun w1 hb => ⟨fun _ => ⟨rfl, hbt⟩, ⟨Nat.le_of_succ_le hp.2.1.1, Nat.le_of_succ_le hcap, hp.2.1.2.2⟩, fun i hi => (Pth.In.below hp (hb.mono ht)).2.2 i (Nat.lt_succ_of_lt hi)⟩
  have HAm := Lib.hid (fun (w1 : World) (hb : Below w.heap.size w w1) => at_any (p := ⟨some ⟨b, o, none⟩, m, c, b, o, S⟩) (Vt.In.below (hb.mono ht) hT) (hpm w1 hb) (Nat.le_trans ht hb.size))
  have hgm : T.get S m = ((T.atN S m).1, 0) := by unfold Vt.get; rw [if_pos h2]; exact Prod.ext rfl h2
  rw [hgm] at HAm
  have hMin : ∀ w1, Below w.heap.size w w1 → (T.atN S m).1.In w1 top := fun w1 hb => Vt.In.atN (Vt.In.below (hb.mono ht) hT) S m
  have HFi := Lib.hid (fun (w1 : World) (hb : Below w.heap.size w w1) => find_any (T := (T.atN S m).1) (s := S m) (hMin w1 hb) (Nat.le_trans ht hb.size) hsn)
  have h2s : (T.atN S (m + 1)).2 = 0 := by rw [Vt.atN_next h2 h3]
  have HC := Lib.hid (fun (w5 : World) (hb : Below w.heap.size w w5) (hxb : w.heap.size + 1 < w5.heap.size) (hXW : Whole w5 (w.heap.size + 1) 30 X.h.cells) =>
    VtChgS1.any (set1_ok hxb hXW ((Vt.In.below (hb.mono ht) hXT).up (Nat.le_trans ht hb.size)) (Nat.le_refl _)) (Nat.le_refl _) (m + 1) ⟨some ⟨b, o, none⟩, m + 1, c, b, o, S⟩ T w5 rfl (Below.refl _ _) ((Vt.In.below (hb.mono ht) hT).up (Nat.le_trans ht hb.size)) (Pth.In.up (Pth.In.below hpn (hb.mono ht)) (Nat.le_trans ht hb.size)) h2s trivial)
  obtain ⟨V, hV⟩ : ∃ V, Vt.chg (fun _ => X) (m + 1) S T = V := ⟨_, rfl⟩
  rw [hV] at HC ⊢
  have HCk := Lib.hid (fun (Z : Vt) (w1 : World) (hZ : Z.In w1 w1.heap.size) (hs : Z.Same V) => (chkd_any hZ (Nat.le_refl _)).mono fun e w' (q : ResOut Z.chkV 0 w1 e w') => res_chk hs q)
  obtain ⟨R, hR⟩ : ∃ R, V.chkV = R := ⟨_, rfl⟩
  rw [hR] at HCk ⊢
  obtain ⟨M, hM⟩ : ∃ M, (T.atN S m).1 = M := ⟨_, rfl⟩
  rw [hM] at HAm HFi h3
  obtain ⟨⟨FI, E⟩, hE⟩ : ∃ R, M.find (S m) = R := ⟨_, rfl⟩
  rw [hE] at HFi h3
  dsimp only at HFi h3
  subst h3
  rw [h] at HV
  have hsl := slice_head Tryd.underlying31 elem_path stp_size (b := b) (o := o) (n := m + 1) (c := c) (i := m) (Nat.le_of_succ_le hcap) (by omega)
  clear hM hE hV hR hT hp h hpn hpm hXT h2 hgm hMin hsn hu h2s
  have n1 : ((m : Int) + 1 == 0) = false := beq_eq_false_iff_ne.2 (by omega)
  have n2 : (((m + 1 : Nat) : Int) == 0) = false := beq_eq_false_iff_ne.2 (by omega)
  have n3 : (m + 1 == 0) = false := beq_eq_false_iff_ne.2 (by omega)
  have m1 : (0 : Int) ≤ m := by omega
  have m2 : (m : Int) ≤ 47 := by omega
  have m3 : (m : Int) < ((m + 1 : Nat) : Int) := by omega
  have m4 : (m : Int) < (m : Int) + 1 := by omega
  have m5 : (m : Int) ≤ (c : Int) := by omega
  have hwr : IntKind.i64.wrap (m : Int) = (m : Int) := by rw [IntKind.wrap_i64]; omega
  simp only [Vh.cells, Vh.zero] at hb0 P Q KB HAm HFi HC ⊢
  go_enter Tryd.func8, Tryd.ntmps8
  go_wp2_with fail
  refine (HV.out _ hb0).mono ?_; rintro _ w1 ⟨rfl, hb1⟩
  have g1 := below_then hb0 hb1
  have P1 := P.below hb1 P.lt
  have Q1 := Q.below hb1 Q.lt
  have K1 := Whole.below KB hb1 KB.lt
  clear P Q KB hb0 hb1
  go_wp2_with fail
  refine wp_region_held_drew (S := fun W => Whole W w.heap.size 30 T.h.cells ∧ LiesAt W b (o + m * 3) (S m).cells ∧ Below w.heap.size w W) (by kernel_rfl) ⟨Whole.drew P1, HP.out _ (Below.drew g1), Below.drew g1⟩ (fun hS => ?_)
  refine wpAnyH_take (i := 0) (v := ?v0x23) rfl (by kernel_rfl) (by kernel_rfl) (by kernel_rfl) (fun _ _ _ h => h) (Or.inl ⟨by rfl, ?hy0x23⟩) hS ?rest0x23
  case hy0x23 => (intro wS hSw; go_simp; (try with_reducible rfl))
  case rest0x23 =>
  simp only [Act.put, List.getElem_toArray, List.getElem_cons_zero, List.getElem_cons_succ, List.setIfInBounds_toArray, List.set_cons_zero, List.set_cons_succ]
  refine wpAnyH_take (i := 1) (v := ?v1x24) rfl (by kernel_rfl) (by kernel_rfl) (by kernel_rfl) (fun _ _ _ h => h) (Or.inl ⟨by rfl, ?hy1x24⟩) hS ?rest1x24
  case hy1x24 => (intro wS hSw; go_simp; (try with_reducible rfl))
  case rest1x24 =>
  simp only [Act.put, List.getElem_toArray, List.getElem_cons_zero, List.getElem_cons_succ, List.setIfInBounds_toArray, List.set_cons_zero, List.set_cons_succ]
  refine wpAnyH_take (i := 2) (v := ?v2x25) rfl (by kernel_rfl) (by kernel_rfl) (by kernel_rfl) (fun _ _ _ h => h) (Or.inl ⟨by rfl, ?hy2x25⟩) hS ?rest2x25
  case hy2x25 => (intro wS hSw; go_simp; (try with_reducible rfl))
  case rest2x25 =>
  simp only [Act.put, List.getElem_toArray, List.getElem_cons_zero, List.getElem_cons_succ, List.setIfInBounds_toArray, List.set_cons_zero, List.set_cons_succ]
  refine wpAnyH_take (i := 3) (v := ?v3x26) rfl (by kernel_rfl) (by kernel_rfl) (by kernel_rfl) (fun _ _ _ h => h) (Or.inl ⟨by rfl, ?hy3x26⟩) hS ?rest3x26
  case hy3x26 => (intro wS hSw; go_simp; (try with_reducible rfl))
  case rest3x26 =>
  simp only [Act.put, List.getElem_toArray, List.getElem_cons_zero, List.getElem_cons_succ, List.setIfInBounds_toArray, List.set_cons_zero, List.set_cons_succ]
  refine wpAnyH_take (i := 4) (v := ?v4x27) rfl (by kernel_rfl) (by kernel_rfl) (by kernel_rfl) (fun _ _ _ h => h) (Or.inl ⟨by rfl, ?hy4x27⟩) hS ?rest4x27
  case hy4x27 => (intro wS hSw; go_simp; (try with_reducible rfl))
  case rest4x27 =>
  simp only [Act.put, List.getElem_toArray, List.getElem_cons_zero, List.getElem_cons_succ, List.setIfInBounds_toArray, List.set_cons_zero, List.set_cons_succ]
  refine wpAnyH_take (i := 5) (v := ?v5x28) rfl (by kernel_rfl) (by kernel_rfl) (by kernel_rfl) (fun _ _ _ h => h) (Or.inl ⟨by rfl, ?hy5x28⟩) hS ?rest5x28
  case hy5x28 => (intro wS hSw; go_simp; (try with_reducible rfl))
  case rest5x28 =>
  simp only [Act.put, List.getElem_toArray, List.getElem_cons_zero, List.getElem_cons_succ, List.setIfInBounds_toArray, List.set_cons_zero, List.set_cons_succ]
  refine wpAnyH_take (i := 6) (v := ?v6x29) rfl (by kernel_rfl) (by kernel_rfl) (by kernel_rfl) (fun _ _ _ h => h) (Or.inl ⟨by rfl, ?hy6x29⟩) hS ?rest6x29
  case hy6x29 => (intro wS hSw; go_simp; (try with_reducible rfl))
  case rest6x29 =>
  simp only [Act.put, List.getElem_toArray, List.getElem_cons_zero, List.getElem_cons_succ, List.setIfInBounds_toArray, List.set_cons_zero, List.set_cons_succ]
  refine wpAnyH_take (i := 7) (v := ?v7x30) rfl (by kernel_rfl) (by kernel_rfl) (by kernel_rfl) (fun _ _ _ h => h) (Or.inl ⟨by rfl, ?hy7x30⟩) hS ?rest7x30
  case hy7x30 => (intro wS hSw; go_simp; (try with_reducible rfl))
  case rest7x30 =>
  simp only [Act.put, List.getElem_toArray, List.getElem_cons_zero, List.getElem_cons_succ, List.setIfInBounds_toArray, List.set_cons_zero, List.set_cons_succ]
  refine wpAnyH_take (i := 8) (v := ?v8x31) rfl (by kernel_rfl) (by kernel_rfl) (by kernel_rfl) (fun _ _ _ h => h) (Or.inl ⟨by rfl, ?hy8x31⟩) hS ?rest8x31
  case hy8x31 => (intro wS hSw; go_simp; (try with_reducible rfl))
  case rest8x31 =>
  simp only [Act.put, List.getElem_toArray, List.getElem_cons_zero, List.getElem_cons_succ, List.setIfInBounds_toArray, List.set_cons_zero, List.set_cons_succ]
  refine wpAnyH_take (i := 9) (v := ?v9x32) rfl (by kernel_rfl) (by kernel_rfl) (by kernel_rfl) (fun _ _ _ h => h) (Or.inl ⟨by rfl, ?hy9x32⟩) hS ?rest9x32
  case hy9x32 => (intro wS hSw; go_simp; (try with_reducible rfl))
  case rest9x32 =>
  simp only [Act.put, List.getElem_toArray, List.getElem_cons_zero, List.getElem_cons_succ, List.setIfInBounds_toArray, List.set_cons_zero, List.set_cons_succ]
  refine wpAnyH_take (i := 10) (v := ?v10x33) rfl (by kernel_rfl) (by kernel_rfl) (by kernel_rfl) (fun _ _ _ h => h) (Or.inl ⟨by rfl, ?hy10x33⟩) hS ?rest10x33
  case hy10x33 => (intro wS hSw; obtain ⟨-, Pz, -⟩ := hSw; obtain ⟨s0, s1, s2⟩ := Pz.s3; go_simp; (try with_reducible rfl))
  case rest10x33 =>
  simp only [Act.put, List.getElem_toArray, List.getElem_cons_zero, List.getElem_cons_succ, List.setIfInBounds_toArray, List.set_cons_zero, List.set_cons_succ]
  have g3 := Below.drew g1
  have Q3 := Whole.drew Q1
  have P3 := Whole.drew P1
  have K3 := Whole.drew K1
  clear g1 Q1 P1 K1 hsl
  generalize w1.drew = w4 at *
  have hq3 := Q3.lt
  have hk3 := K3.lt
  refine wpAnyH_ready (rs := [11]) (by kernel_rfl) (by simp) ?_
  refine AllReadyH.cons rfl (fun KK hK => ?_) AllReadyH.nil
  go_simp
  have q1 := (Below.refl w4.heap.size w4).alloc (Nat.le_refl _) (.cells #[.bool false, .string ⟨#[]⟩, .int .i64 0] 50)
  have Y4 := Whole.new w4 50 #[.bool false, .string ⟨#[]⟩, .int .i64 0]
  have g4 := below_then g3 q1
  have Q4 := Whole.below Q3 q1 Q3.lt
  have P4 := Whole.below P3 q1 P3.lt
  have K4 := Whole.below K3 q1 K3.lt
  clear q1
  refine hK.out _ _ ⟨P4, HP.out _ g4, g4⟩ (fun hS4 => ?_)
  clear hK KK
  try simp only [Act.put, List.getElem_toArray, List.getElem_cons_zero, List.getElem_cons_succ, List.setIfInBounds_toArray, List.set_cons_zero, List.set_cons_succ]
  refine wpAnyH_ready (rs := [12]) (by kernel_rfl) (by simp) ?_
  refine AllReadyH.cons rfl (fun KK hK => ?_) AllReadyH.nil
  go_simp
  refine hK.out _ _ hS4 (fun hS5 => ?_)
  clear hK KK
  try simp only [Act.put, List.getElem_toArray, List.getElem_cons_zero, List.getElem_cons_succ, List.setIfInBounds_toArray, List.set_cons_zero, List.set_cons_succ]
  refine wpAnyH_ready (rs := [13]) (by kernel_rfl) (by simp) ?_
  refine AllReadyH.cons rfl (fun KK hK => ?_) AllReadyH.nil
  rw [if_pos (by rfl)]
  refine wp_store_row 50 _ _ rfl (w4.heap.size) #[.bool (S m).ix, .string (S m).key, .int .i64 (S m).n] rfl rfl 50 _ Y4 stp_size rfl (by simp [Value.oneCell']) ?_
  have g5 := below_setRow g4 (show w.heap.size ≤ w4.heap.size from g3.size) #[.bool (S m).ix, .string (S m).key, .int .i64 (S m).n]
  have Y5 : Whole _ w4.heap.size 50 (S m).cells := Whole.setRow Y4 #[.bool (S m).ix, .string (S m).key, .int .i64 (S m).n]
  have P5 := Whole.farRow (B' := w4.heap.size) P4 (by omega) #[.bool (S m).ix, .string (S m).key, .int .i64 (S m).n]
  have Q5 := Whole.farRow (B' := w4.heap.size) Q4 (by omega) #[.bool (S m).ix, .string (S m).key, .int .i64 (S m).n]
  have K5 := Whole.farRow (B' := w4.heap.size) K4 (by omega) #[.bool (S m).ix, .string (S m).key, .int .i64 (S m).n]
  obtain ⟨w5, hw5⟩ : ∃ w5, (w4.alloc (.cells #[.bool false, .string ⟨#[]⟩, .int .i64 0] 50)).setRow w4.heap.size #[.bool (S m).ix, .string (S m).key, .int .i64 (S m).n] = w5 := ⟨_, rfl⟩
  rw [hw5] at g5 Y5 P5 Q5 K5 ⊢
  clear hw5
  refine hK.out _ _ ⟨P5, HP.out _ g5, g5⟩ (fun hS6 => ?_)
  clear hK KK
  try simp only [Act.put, List.getElem_toArray, List.getElem_cons_zero, List.getElem_cons_succ, List.setIfInBounds_toArray, List.set_cons_zero, List.set_cons_succ]
  refine wpAnyH_done (by kernel_rfl) ?_ _
  clear hS hS4 hS5 hS6 g3 g4 P3 P4 Q3 Q4 K3 K4 Y4 hk3
  obtain ⟨c0, c1, c2, c3, c4, c5, c6, c7, c8, c9, c10, c11, c12⟩ := Whole.c13 (h := T.h) P5
  have hy5 := Y5.lt
  have hq5 := Q5.lt
  have hk5 := K5.lt
  have hp5 := P5.lt
  go_wp2_with fail
  refine (HAm.out _ g5).mono ?_; rintro _ w6 ⟨rfl, hb6⟩
  have g6 := below_then g5 hb6
  have Q6 := Whole.below Q5 hb6 hq5
  have P6 := Whole.below P5 hb6 hp5
  have Y6 := Whole.below Y5 hb6 hy5
  have K6 := Whole.below K5 hb6 hk5
  have hs6 := hb6.size
  clear c0 c1 c2 c3 c4 c5 c6 c7 c8 c9 c10 c11 c12 g5 Q5 P5 Y5 K5 hb6
  have gA := g6.alloc g6.size (.cells M.h.cells 30)
  have QA := Q6.alloc (.cells M.h.cells 30)
  have PA := P6.alloc (.cells M.h.cells 30)
  have YA := Y6.alloc (.cells M.h.cells 30)
  have KA := K6.alloc (.cells M.h.cells 30)
  have MA := Whole.new w6 30 M.h.cells
  have hzA : (w6.alloc (.cells M.h.cells 30)).heap.size = w6.heap.size + 1 := by simp
  clear g6 Q6 P6 Y6 K6
  obtain ⟨c0, c1, c2, c3, c4, c5, c6, c7, c8, c9, c10, c11, c12⟩ := Whole.c13 (h := M.h) MA
  obtain ⟨s0, s1, s2⟩ := Whole.b3 (s := S m) YA
  simp only [Vh.cells, Stp.cells] at gA QA PA YA KA MA hzA c0 c1 c2 c3 c4 c5 c6 c7 c8 c9 c10 c11 c12 s0 s1 s2
  have hyA := YA.lt
  have hqA := QA.lt
  have hkA := KA.lt
  have hpA := PA.lt
  go_wp2_with fail
  refine (HFi.out _ gA).mono ?_; rintro _ w7 ⟨rfl, hb7⟩
  have g7 := below_then gA hb7
  have Q7 := Whole.below QA hb7 hqA
  have P7 := Whole.below PA hb7 hpA
  have Y7 := Whole.below YA hb7 hyA
  have K7 := Whole.below KA hb7 hkA
  have hs7 := hb7.size
  clear c0 c1 c2 c3 c4 c5 c6 c7 c8 c9 c10 c11 c12 s0 s1 s2 gA QA PA YA KA MA hb7
  have y0 := (Whole.b3 (s := S m) Y7).1
  obtain ⟨c0, c1, c2, c3, c4, c5, c6, c7, c8, c9, c10, c11, c12⟩ := Whole.c13 (h := T.h) P7
  have hy7 := Y7.lt
  have hq7 := Q7.lt
  have hk7 := K7.lt
  go_wp2_with fail
  refine (HC.out w7 g7 hk7 K7).mono ?_
  rintro _ w8 ⟨Z, rfl, hZ, -, hZs, hb8⟩
  have g8 := below_then g7 hb8
  have Q8 := Whole.below Q7 hb8 hq7
  have hs8 := hb8.size
  have HZ := Lib.hid hZ
  have HZs := Lib.hid hZs
  clear hZ hZs hb8 g7 P7 Q7 Y7 K7 hy7 y0 hk7 c0 c1 c2 c3 c4 c5 c6 c7 c8 c9 c10 c11 c12
  simp only [Vh.cells] at HCk
  go_wp2_with fail
  refine (HCk.out Z _ HZ.out HZs.out).mono ?_
  rintro _ w9 ⟨U, rfl, hU, hUo, hU0, hU1, hb9⟩
  have g9 := below_then g8 hb9
  have hq8 := Q8.lt
  have Q9 := Whole.below Q8 hb9 hq8
  have hz8 := g8.size
  have hone := Lib.hid (vh_all U.h)
  have hU2 := Lib.hid (hU.stays hUo (W' := w9.setRow (w.heap.size + 2) U.h.cells) (fun b hb => setRow_other _ _ _ _ (by omega)) (by rw [size_setRow]; exact Nat.le_refl _))
  have hUo2 : Hid (U.Off (fun b => b < top ∨ w.heap.size ≤ b)) := Lib.hid (hUo.mono fun b hb => .inr (by omega))
  have HU0 := Lib.hid hU0
  have HU1 := Lib.hid hU1
  clear hU hUo hU0 hU1 hb9 g8 Q8 HZ HZs HCk
  go_wp2_with (refine wpList_store_row rfl 30 _ _ rfl (w.heap.size + 2) U.h.cells rfl rfl 30 _ Q9 vh_row rfl hone.out ?_)
  exact bodyPost_ret (v := .tuple #[.agg U.h.cells, .int .i64 R.2]) (ret_val2 (p := 6) (q := 7) rfl rfl (Whole.setRow Q9 U.h.cells)) rfl ⟨U, rfl, hU2.out, hUo2.out, HU0.out, HU1.out, below_setRow g9 (by omega) _⟩

set_option maxHeartbeats 4000000 in
set_option maxRecDepth 100000 in
theorem aset_more {T X : Vt} {p : Pth} {top : Nat} {w : World} (hT : T.In w top) (hXT : X.In w top) (hp : p.In w top) (ht : top ≤ w.heap.size) (hu : T.upto 48) (h : pathB p.S p.n = true) {m : Nat} (h0 : p.n = m + 1) (h2 : (T.atN p.S m).2 = 0) (h3 : ((T.atN p.S m).1.find (p.S m)).2 = 7) (hix : (p.S m).ix = false) (hfn : (T.atN p.S m).1.h.fn + 1 ≤ 1048576) :
    Calls Tryd.prog 8 #[.agg T.h.cells, .slice p.a p.n p.c, .agg X.h.cells] w (ResOut (Vt.chg (fun U => U.moreF (p.S m).key X) m p.S T).chkV top w) := by
  have hb0 := (((Below.refl w.heap.size w).alloc (Nat.le_refl _) (.cells T.h.cells 30)).alloc (by simp) (.cells X.h.cells 30)).alloc (by simp; omega) (.cells Vh.zero.cells 30)
  have P := ((Whole.new w 30 T.h.cells).alloc (.cells X.h.cells 30)).alloc (.cells Vh.zero.cells 30)
  have KB := (Whole.new (w.alloc (.cells T.h.cells 30)) 30 X.h.cells).alloc (.cells Vh.zero.cells 30)
  rw [World.size_alloc] at KB
  have Q := Whole.new ((w.alloc (.cells T.h.cells 30)).alloc (.cells X.h.cells 30)) 30 Vh.zero.cells
  rw [World.size_alloc, World.size_alloc] at Q
  have HV := Lib.hid (fun (w1 : World) (hb : Below w.heap.size w w1) => pvalid_any (Pth.In.below hp (hb.mono ht)) (Nat.le_trans ht hb.size))
  have hlen : m + 1 ≤ 48 := by have := (pathB_ok h).1; omega
  have hpn := hp
  obtain ⟨a, n, c, b, o, S⟩ := p
  dsimp only at h0 h h2 h3 hix hfn HV ⊢
  subst h0
  obtain ⟨e, hbt⟩ := hp.1 (Nat.succ_pos _)
  dsimp only at e hbt
  subst e
  have hcap : m + 1 ≤ c := hp.2.1.2.1
  have HP := Lib.hid (fun (w1 : World) (hb : Below w.heap.size w w1) => ((hp.2.2 m (Nat.lt_succ_self m)).1.below (hb.mono ht) hbt : LiesAt w1 b (o + m * 3) (S m).cells))
  have hsn : w64 (S m).n := (hp.2.2 m (Nat.lt_succ_self m)).2.n
  have hpm : ∀ w1, Below w.heap.size w w1 → Pth.In w1 top ⟨some ⟨b, o, none⟩, m, c, b, o, S⟩ := fun w1 hb => ⟨fun _ => ⟨rfl, hbt⟩, ⟨Nat.le_of_succ_le hp.2.1.1, Nat.le_of_succ_le hcap, hp.2.1.2.2⟩, fun i hi => (Pth.In.below hp (hb.mono ht)).2.2 i (Nat.lt_succ_of_lt hi)⟩
  have HAm := Lib.hid (fun (w1 : World) (hb : Below w.heap.size w w1) => at_any (p := ⟨some ⟨b, o, none⟩, m, c, b, o, S⟩) (Vt.In.below (hb.mono ht) hT) (hpm w1 hb) (Nat.le_trans ht hb.size))
  have hgm : T.get S m = ((T.atN S m).1, 0) := by unfold Vt.get; rw [if_pos h2]; exact Prod.ext rfl h2
  rw [hgm] at HAm
  have hMin : ∀ w1, Below w.heap.size w w1 → (T.atN S m).1.In w1 top := fun w1 hb => Vt.In.atN (Vt.In.below (hb.mono ht) hT) S m
  have HFi := Lib.hid (fun (w1 : World) (hb : Below w.heap.size w w1) => find_any (T := (T.atN S m).1) (s := S m) (hMin w1 hb) (Nat.le_trans ht hb.size) hsn)
  have hkk : (S m).key.size ≤ 1048576 := by
    have q := (pathB_ok h).2 m (Nat.lt_succ_self m)
    unfold stepOk at q
    rw [hix, if_neg (by decide)] at q
    have := q.2.1
    omega
  have HC := Lib.hid (fun (w5 : World) (cb : Nat) (hb : Below w.heap.size w w5) (hcb : cb < w5.heap.size) (hS : LiesAt w5 cb 0 (S m).cells) (hxb : w.heap.size + 1 < w5.heap.size) (hXW : Whole w5 (w.heap.size + 1) 30 X.h.cells) =>
    VtChgS2.any (set2_ok hcb hS hxb hXW ((Vt.In.below (hb.mono ht) hXT).up (Nat.le_trans ht hb.size)) hkk (Nat.le_refl _)) (Nat.le_refl _) m ⟨some ⟨b, o, none⟩, m, c, b, o, S⟩ T w5 rfl (Below.refl _ _) ((Vt.In.below (hb.mono ht) hT).up (Nat.le_trans ht hb.size)) (Pth.In.up (hpm w5 hb) (Nat.le_trans ht hb.size)) h2 hfn)
  obtain ⟨V, hV⟩ : ∃ V, Vt.chg (fun U => U.moreF (S m).key X) m S T = V := ⟨_, rfl⟩
  rw [hV] at HC ⊢
  have HCk := Lib.hid (fun (Z : Vt) (w1 : World) (hZ : Z.In w1 w1.heap.size) (hs : Z.Same V) => (chkd_any hZ (Nat.le_refl _)).mono fun e w' (q : ResOut Z.chkV 0 w1 e w') => res_chk hs q)
  obtain ⟨R, hR⟩ : ∃ R, V.chkV = R := ⟨_, rfl⟩
  rw [hR] at HCk ⊢
  obtain ⟨M, hM⟩ : ∃ M, (T.atN S m).1 = M := ⟨_, rfl⟩
  rw [hM] at HAm HFi h3
  obtain ⟨⟨FI, E⟩, hE⟩ : ∃ R, M.find (S m) = R := ⟨_, rfl⟩
  rw [hE] at HFi h3
  dsimp only at HFi h3
  subst h3
  rw [h] at HV
  have hsl := slice_head Tryd.underlying31 elem_path stp_size (b := b) (o := o) (n := m + 1) (c := c) (i := m) (Nat.le_of_succ_le hcap) (by omega)
  have Hix := Lib.hid hix
  clear hM hE hV hR hT hp h hpn hpm hXT h2 hgm hMin hsn hu hix hkk hfn
  have n1 : ((m : Int) + 1 == 0) = false := beq_eq_false_iff_ne.2 (by omega)
  have n2 : (((m + 1 : Nat) : Int) == 0) = false := beq_eq_false_iff_ne.2 (by omega)
  have n3 : (m + 1 == 0) = false := beq_eq_false_iff_ne.2 (by omega)
  have m1 : (0 : Int) ≤ m := by omega
  have m2 : (m : Int) ≤ 47 := by omega
  have m3 : (m : Int) < ((m + 1 : Nat) : Int) := by omega
  have m4 : (m : Int) < (m : Int) + 1 := by omega
  have m5 : (m : Int) ≤ (c : Int) := by omega
  have hwr : IntKind.i64.wrap (m : Int) = (m : Int) := by rw [IntKind.wrap_i64]; omega
  simp only [Vh.cells, Vh.zero] at hb0 P Q KB HAm HFi HC ⊢
  go_enter Tryd.func8, Tryd.ntmps8
  go_wp2_with fail
  refine (HV.out _ hb0).mono ?_; rintro _ w1 ⟨rfl, hb1⟩
  have g1 := below_then hb0 hb1
  have P1 := P.below hb1 P.lt
  have Q1 := Q.below hb1 Q.lt
  have K1 := Whole.below KB hb1 KB.lt
  clear P Q KB hb0 hb1
  go_wp2_with fail
  refine wp_region_held_drew (S := fun W => Whole W w.heap.size 30 T.h.cells ∧ LiesAt W b (o + m * 3) (S m).cells ∧ Below w.heap.size w W) (by kernel_rfl) ⟨Whole.drew P1, HP.out _ (Below.drew g1), Below.drew g1⟩ (fun hS => ?_)
  refine wpAnyH_take (i := 0) (v := ?v0x34) rfl (by kernel_rfl) (by kernel_rfl) (by kernel_rfl) (fun _ _ _ h => h) (Or.inl ⟨by rfl, ?hy0x34⟩) hS ?rest0x34
  case hy0x34 => (intro wS hSw; go_simp; (try with_reducible rfl))
  case rest0x34 =>
  simp only [Act.put, List.getElem_toArray, List.getElem_cons_zero, List.getElem_cons_succ, List.setIfInBounds_toArray, List.set_cons_zero, List.set_cons_succ]
  refine wpAnyH_take (i := 1) (v := ?v1x35) rfl (by kernel_rfl) (by kernel_rfl) (by kernel_rfl) (fun _ _ _ h => h) (Or.inl ⟨by rfl, ?hy1x35⟩) hS ?rest1x35
  case hy1x35 => (intro wS hSw; go_simp; (try with_reducible rfl))
  case rest1x35 =>
  simp only [Act.put, List.getElem_toArray, List.getElem_cons_zero, List.getElem_cons_succ, List.setIfInBounds_toArray, List.set_cons_zero, List.set_cons_succ]
  refine wpAnyH_take (i := 2) (v := ?v2x36) rfl (by kernel_rfl) (by kernel_rfl) (by kernel_rfl) (fun _ _ _ h => h) (Or.inl ⟨by rfl, ?hy2x36⟩) hS ?rest2x36
  case hy2x36 => (intro wS hSw; go_simp; (try with_reducible rfl))
  case rest2x36 =>
  simp only [Act.put, List.getElem_toArray, List.getElem_cons_zero, List.getElem_cons_succ, List.setIfInBounds_toArray, List.set_cons_zero, List.set_cons_succ]
  refine wpAnyH_take (i := 3) (v := ?v3x37) rfl (by kernel_rfl) (by kernel_rfl) (by kernel_rfl) (fun _ _ _ h => h) (Or.inl ⟨by rfl, ?hy3x37⟩) hS ?rest3x37
  case hy3x37 => (intro wS hSw; go_simp; (try with_reducible rfl))
  case rest3x37 =>
  simp only [Act.put, List.getElem_toArray, List.getElem_cons_zero, List.getElem_cons_succ, List.setIfInBounds_toArray, List.set_cons_zero, List.set_cons_succ]
  refine wpAnyH_take (i := 4) (v := ?v4x38) rfl (by kernel_rfl) (by kernel_rfl) (by kernel_rfl) (fun _ _ _ h => h) (Or.inl ⟨by rfl, ?hy4x38⟩) hS ?rest4x38
  case hy4x38 => (intro wS hSw; go_simp; (try with_reducible rfl))
  case rest4x38 =>
  simp only [Act.put, List.getElem_toArray, List.getElem_cons_zero, List.getElem_cons_succ, List.setIfInBounds_toArray, List.set_cons_zero, List.set_cons_succ]
  refine wpAnyH_take (i := 5) (v := ?v5x39) rfl (by kernel_rfl) (by kernel_rfl) (by kernel_rfl) (fun _ _ _ h => h) (Or.inl ⟨by rfl, ?hy5x39⟩) hS ?rest5x39
  case hy5x39 => (intro wS hSw; go_simp; (try with_reducible rfl))
  case rest5x39 =>
  simp only [Act.put, List.getElem_toArray, List.getElem_cons_zero, List.getElem_cons_succ, List.setIfInBounds_toArray, List.set_cons_zero, List.set_cons_succ]
  refine wpAnyH_take (i := 6) (v := ?v6x40) rfl (by kernel_rfl) (by kernel_rfl) (by kernel_rfl) (fun _ _ _ h => h) (Or.inl ⟨by rfl, ?hy6x40⟩) hS ?rest6x40
  case hy6x40 => (intro wS hSw; go_simp; (try with_reducible rfl))
  case rest6x40 =>
  simp only [Act.put, List.getElem_toArray, List.getElem_cons_zero, List.getElem_cons_succ, List.setIfInBounds_toArray, List.set_cons_zero, List.set_cons_succ]
  refine wpAnyH_take (i := 7) (v := ?v7x41) rfl (by kernel_rfl) (by kernel_rfl) (by kernel_rfl) (fun _ _ _ h => h) (Or.inl ⟨by rfl, ?hy7x41⟩) hS ?rest7x41
  case hy7x41 => (intro wS hSw; go_simp; (try with_reducible rfl))
  case rest7x41 =>
  simp only [Act.put, List.getElem_toArray, List.getElem_cons_zero, List.getElem_cons_succ, List.setIfInBounds_toArray, List.set_cons_zero, List.set_cons_succ]
  refine wpAnyH_take (i := 8) (v := ?v8x42) rfl (by kernel_rfl) (by kernel_rfl) (by kernel_rfl) (fun _ _ _ h => h) (Or.inl ⟨by rfl, ?hy8x42⟩) hS ?rest8x42
  case hy8x42 => (intro wS hSw; go_simp; (try with_reducible rfl))
  case rest8x42 =>
  simp only [Act.put, List.getElem_toArray, List.getElem_cons_zero, List.getElem_cons_succ, List.setIfInBounds_toArray, List.set_cons_zero, List.set_cons_succ]
  refine wpAnyH_take (i := 9) (v := ?v9x43) rfl (by kernel_rfl) (by kernel_rfl) (by kernel_rfl) (fun _ _ _ h => h) (Or.inl ⟨by rfl, ?hy9x43⟩) hS ?rest9x43
  case hy9x43 => (intro wS hSw; go_simp; (try with_reducible rfl))
  case rest9x43 =>
  simp only [Act.put, List.getElem_toArray, List.getElem_cons_zero, List.getElem_cons_succ, List.setIfInBounds_toArray, List.set_cons_zero, List.set_cons_succ]
  refine wpAnyH_take (i := 10) (v := ?v10x44) rfl (by kernel_rfl) (by kernel_rfl) (by kernel_rfl) (fun _ _ _ h => h) (Or.inl ⟨by rfl, ?hy10x44⟩) hS ?rest10x44
  case hy10x44 => (intro wS hSw; obtain ⟨-, Pz, -⟩ := hSw; obtain ⟨s0, s1, s2⟩ := Pz.s3; go_simp; (try with_reducible rfl))
  case rest10x44 =>
  simp only [Act.put, List.getElem_toArray, List.getElem_cons_zero, List.getElem_cons_succ, List.setIfInBounds_toArray, List.set_cons_zero, List.set_cons_succ]
  have g3 := Below.drew g1
  have Q3 := Whole.drew Q1
  have P3 := Whole.drew P1
  have K3 := Whole.drew K1
  clear g1 Q1 P1 K1 hsl
  generalize w1.drew = w4 at *
  have hq3 := Q3.lt
  have hk3 := K3.lt
  refine wpAnyH_ready (rs := [11]) (by kernel_rfl) (by simp) ?_
  refine AllReadyH.cons rfl (fun KK hK => ?_) AllReadyH.nil
  go_simp
  have q1 := (Below.refl w4.heap.size w4).alloc (Nat.le_refl _) (.cells #[.bool false, .string ⟨#[]⟩, .int .i64 0] 50)
  have Y4 := Whole.new w4 50 #[.bool false, .string ⟨#[]⟩, .int .i64 0]
  have g4 := below_then g3 q1
  have Q4 := Whole.below Q3 q1 Q3.lt
  have P4 := Whole.below P3 q1 P3.lt
  have K4 := Whole.below K3 q1 K3.lt
  clear q1
  refine hK.out _ _ ⟨P4, HP.out _ g4, g4⟩ (fun hS4 => ?_)
  clear hK KK
  try simp only [Act.put, List.getElem_toArray, List.getElem_cons_zero, List.getElem_cons_succ, List.setIfInBounds_toArray, List.set_cons_zero, List.set_cons_succ]
  refine wpAnyH_ready (rs := [12]) (by kernel_rfl) (by simp) ?_
  refine AllReadyH.cons rfl (fun KK hK => ?_) AllReadyH.nil
  go_simp
  refine hK.out _ _ hS4 (fun hS5 => ?_)
  clear hK KK
  try simp only [Act.put, List.getElem_toArray, List.getElem_cons_zero, List.getElem_cons_succ, List.setIfInBounds_toArray, List.set_cons_zero, List.set_cons_succ]
  refine wpAnyH_ready (rs := [13]) (by kernel_rfl) (by simp) ?_
  refine AllReadyH.cons rfl (fun KK hK => ?_) AllReadyH.nil
  rw [if_pos (by rfl)]
  refine wp_store_row 50 _ _ rfl (w4.heap.size) #[.bool (S m).ix, .string (S m).key, .int .i64 (S m).n] rfl rfl 50 _ Y4 stp_size rfl (by simp [Value.oneCell']) ?_
  have g5 := below_setRow g4 (show w.heap.size ≤ w4.heap.size from g3.size) #[.bool (S m).ix, .string (S m).key, .int .i64 (S m).n]
  have Y5 : Whole _ w4.heap.size 50 (S m).cells := Whole.setRow Y4 #[.bool (S m).ix, .string (S m).key, .int .i64 (S m).n]
  have P5 := Whole.farRow (B' := w4.heap.size) P4 (by omega) #[.bool (S m).ix, .string (S m).key, .int .i64 (S m).n]
  have Q5 := Whole.farRow (B' := w4.heap.size) Q4 (by omega) #[.bool (S m).ix, .string (S m).key, .int .i64 (S m).n]
  have K5 := Whole.farRow (B' := w4.heap.size) K4 (by omega) #[.bool (S m).ix, .string (S m).key, .int .i64 (S m).n]
  obtain ⟨w5, hw5⟩ : ∃ w5, (w4.alloc (.cells #[.bool false, .string ⟨#[]⟩, .int .i64 0] 50)).setRow w4.heap.size #[.bool (S m).ix, .string (S m).key, .int .i64 (S m).n] = w5 := ⟨_, rfl⟩
  rw [hw5] at g5 Y5 P5 Q5 K5 ⊢
  clear hw5
  refine hK.out _ _ ⟨P5, HP.out _ g5, g5⟩ (fun hS6 => ?_)
  clear hK KK
  try simp only [Act.put, List.getElem_toArray, List.getElem_cons_zero, List.getElem_cons_succ, List.setIfInBounds_toArray, List.set_cons_zero, List.set_cons_succ]
  refine wpAnyH_done (by kernel_rfl) ?_ _
  clear hS hS4 hS5 hS6 g3 g4 P3 P4 Q3 Q4 K3 K4 Y4 hk3
  obtain ⟨c0, c1, c2, c3, c4, c5, c6, c7, c8, c9, c10, c11, c12⟩ := Whole.c13 (h := T.h) P5
  have hy5 := Y5.lt
  have hq5 := Q5.lt
  have hk5 := K5.lt
  have hp5 := P5.lt
  go_wp2_with fail
  refine (HAm.out _ g5).mono ?_; rintro _ w6 ⟨rfl, hb6⟩
  have g6 := below_then g5 hb6
  have Q6 := Whole.below Q5 hb6 hq5
  have P6 := Whole.below P5 hb6 hp5
  have Y6 := Whole.below Y5 hb6 hy5
  have K6 := Whole.below K5 hb6 hk5
  have hs6 := hb6.size
  clear c0 c1 c2 c3 c4 c5 c6 c7 c8 c9 c10 c11 c12 g5 Q5 P5 Y5 K5 hb6
  have gA := g6.alloc g6.size (.cells M.h.cells 30)
  have QA := Q6.alloc (.cells M.h.cells 30)
  have PA := P6.alloc (.cells M.h.cells 30)
  have YA := Y6.alloc (.cells M.h.cells 30)
  have KA := K6.alloc (.cells M.h.cells 30)
  have MA := Whole.new w6 30 M.h.cells
  have hzA : (w6.alloc (.cells M.h.cells 30)).heap.size = w6.heap.size + 1 := by simp
  clear g6 Q6 P6 Y6 K6
  obtain ⟨c0, c1, c2, c3, c4, c5, c6, c7, c8, c9, c10, c11, c12⟩ := Whole.c13 (h := M.h) MA
  obtain ⟨s0, s1, s2⟩ := Whole.b3 (s := S m) YA
  simp only [Vh.cells, Stp.cells] at gA QA PA YA KA MA hzA c0 c1 c2 c3 c4 c5 c6 c7 c8 c9 c10 c11 c12 s0 s1 s2
  have hyA := YA.lt
  have hqA := QA.lt
  have hkA := KA.lt
  have hpA := PA.lt
  go_wp2_with fail
  refine (HFi.out _ gA).mono ?_; rintro _ w7 ⟨rfl, hb7⟩
  have g7 := below_then gA hb7
  have Q7 := Whole.below QA hb7 hqA
  have P7 := Whole.below PA hb7 hpA
  have Y7 := Whole.below YA hb7 hyA
  have K7 := Whole.below KA hb7 hkA
  have hs7 := hb7.size
  clear c0 c1 c2 c3 c4 c5 c6 c7 c8 c9 c10 c11 c12 s0 s1 s2 gA QA PA YA KA MA hb7
  have y0 := (Whole.b3 (s := S m) Y7).1
  rw [Hix.out] at y0
  clear Hix
  obtain ⟨c0, c1, c2, c3, c4, c5, c6, c7, c8, c9, c10, c11, c12⟩ := Whole.c13 (h := T.h) P7
  have hy7 := Y7.lt
  have hq7 := Q7.lt
  have hk7 := K7.lt
  go_wp2_with fail
  refine (HC.out w7 w4.heap.size g7 hy7 (fun j hj => by rw [Nat.zero_add]; exact Y7.cell j) hk7 K7).mono ?_
  rintro _ w8 ⟨Z, rfl, hZ, -, hZs, hb8⟩
  have g8 := below_then g7 hb8
  have Q8 := Whole.below Q7 hb8 hq7
  have hs8 := hb8.size
  have HZ := Lib.hid hZ
  have HZs := Lib.hid hZs
  clear hZ hZs hb8 g7 P7 Q7 Y7 K7 hy7 y0 hk7 c0 c1 c2 c3 c4 c5 c6 c7 c8 c9 c10 c11 c12
  simp only [Vh.cells] at HCk
  go_wp2_with fail
  refine (HCk.out Z _ HZ.out HZs.out).mono ?_
  rintro _ w9 ⟨U, rfl, hU, hUo, hU0, hU1, hb9⟩
  have g9 := below_then g8 hb9
  have hq8 := Q8.lt
  have Q9 := Whole.below Q8 hb9 hq8
  have hz8 := g8.size
  have hone := Lib.hid (vh_all U.h)
  have hU2 := Lib.hid (hU.stays hUo (W' := w9.setRow (w.heap.size + 2) U.h.cells) (fun b hb => setRow_other _ _ _ _ (by omega)) (by rw [size_setRow]; exact Nat.le_refl _))
  have hUo2 : Hid (U.Off (fun b => b < top ∨ w.heap.size ≤ b)) := Lib.hid (hUo.mono fun b hb => .inr (by omega))
  have HU0 := Lib.hid hU0
  have HU1 := Lib.hid hU1
  clear hU hUo hU0 hU1 hb9 g8 Q8 HZ HZs HCk
  go_wp2_with (refine wpList_store_row rfl 30 _ _ rfl (w.heap.size + 2) U.h.cells rfl rfl 30 _ Q9 vh_row rfl hone.out ?_)
  exact bodyPost_ret (v := .tuple #[.agg U.h.cells, .int .i64 R.2]) (ret_val2 (p := 6) (q := 7) rfl rfl (Whole.setRow Q9 U.h.cells)) rfl ⟨U, rfl, hU2.out, hUo2.out, HU0.out, HU1.out, below_setRow g9 (by omega) _⟩

theorem aset_any {T X : Vt} {p : Pth} {top : Nat} {w : World} (hT : T.In w top) (hXT : X.In w top) (hp : p.In w top) (ht : top ≤ w.heap.size) (hg : T.good) (hu : T.upto 48) (hsz : T.size ≤ 65536) (hux : X.upto 48) :
    Calls Tryd.prog 8 #[.agg T.h.cells, .slice p.a p.n p.c, .agg X.h.cells] w (ResOut (T.setV p.S p.n X) top w) := by
  cases h : pathB p.S p.n with
  | false => rw [setV_bad h]; exact aset_bad hT hXT hp ht h
  | true =>
    cases hn : p.n with
    | zero =>
      rw [setV_nil (by rw [← hn]; exact h), ← hn]; exact aset_nil hT hXT hp ht hux h hn
    | succ m =>
      rw [setV_suc (by rw [← hn]; exact h)]
      by_cases h2 : (T.atN p.S m).2 = 0
      · by_cases h3 : ((T.atN p.S m).1.find (p.S m)).2 = 0
        · rw [set_in (by rw [Vt.atN_next h2 h3]), chkR_ok]; have q := aset_in hT hXT hp ht hu h hn h2 h3; rw [hn] at q; exact q
        · by_cases h4 : ((T.atN p.S m).1.find (p.S m)).2 = 7 ∧ (p.S m).ix = false
          · have h7 := find_7 h4.1
            rw [h4.2, if_neg (by decide)] at h7
            rw [set_more h2 h4.1 h4.2, chkR_ok]; have q := aset_more hT hXT hp ht hu h hn h2 h4.1 h4.2 (by have := Vt.fn_le_size h7; have := Vt.size_atN hT h2; omega); rw [hn] at q; exact q
          · rw [set_err h2 h3 h4, chkR_bad h3]; have q := aset_err hT hXT hp ht h hn h2 h3 h4; rw [hn] at q; exact q
      · rw [Vt.chgV_atN h2, chkR_bad h2]; have q := aset_at hT hXT hp ht h hn h2; rw [hn] at q; exact q
end Go.Proofs.YtfkfboiblgoamaaDoor
