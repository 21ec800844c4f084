/- Laid together for a claim: VkIns. -/
import Derived.Test.YtfkfboiblgoamaaDoorQI02
import Derived.Test.YtfkfboiblgoamaaDoorQB26
import Derived.Test.YtfkfboiblgoamaaDoorQI03
import Derived.Test.YtfkfboiblgoamaaDoorQI04
import Derived.Test.YtfkfboiblgoamaaDoorQI05
/- access.Insert, walked. -/
namespace Go.Proofs.YtfkfboiblgoamaaDoor
open Go.RowKit
set_option linter.unusedSimpArgs false
set_option linter.unusedVariables false

set_option maxHeartbeats 4000000 in
set_option maxRecDepth 100000 in
theorem ains_bad {T X : Vt} {p : Pth} {top : Nat} {w : World} (hT : T.In w top) (hXT : X.In w top) (hp : p.In w top) (ht : top ≤ w.heap.size) (h : pathB p.S p.n = false) :
    Calls Tryd.prog 11 #[.agg T.h.cells, .slice p.a p.n p.c, .agg X.h.cells] w (ResOut (.z, 1) top w) := by
  have hb0 := (((Below.refl w.heap.size w).alloc (Nat.le_refl _) (.cells T.h.cells 30)).alloc (by simp) (.cells X.h.cells 30)).alloc (by simp; omega) (.cells Vh.zero.cells 30)
  have P := ((Whole.new w 30 T.h.cells).alloc (.cells X.h.cells 30)).alloc (.cells Vh.zero.cells 30)
  have KB := (Whole.new (w.alloc (.cells T.h.cells 30)) 30 X.h.cells).alloc (.cells Vh.zero.cells 30)
  rw [World.size_alloc] at KB
  have Q := Whole.new ((w.alloc (.cells T.h.cells 30)).alloc (.cells X.h.cells 30)) 30 Vh.zero.cells
  rw [World.size_alloc, World.size_alloc] at Q
  have HV := Lib.hid (fun (w1 : World) (hb : Below w.heap.size w w1) => pvalid_any (Pth.In.below hp (hb.mono ht)) (Nat.le_trans ht hb.size))
  have HE : Hid (∀ w', Below w.heap.size w w' → ResOut ((.z, 1) : Vt × Int) top w (.returned (.tuple #[.agg Vh.zero.cells, .int .i64 1])) w') := Lib.hid fun w' hb => res_of (X := .z) rfl (Vt.z_in _ _) (Vt.z_off _) (fun q => absurd q (by decide)) (fun _ => rfl) hb
  rw [h] at HV
  clear h
  clear hT hp hXT
  simp only [Vh.cells, Vh.zero] at hb0 P Q KB ⊢
  go_enter Tryd.func11, Tryd.ntmps11
  go_wp2_with fail
  refine (HV.out _ hb0).mono ?_; rintro _ w1 ⟨rfl, hb1⟩
  have g1 := below_then hb0 hb1
  have P1 := P.below hb1 P.lt
  have Q1 := Q.below hb1 Q.lt
  have K1 := Whole.below KB hb1 KB.lt
  clear P Q KB hb0 hb1
  have hone := Lib.hid (vh_all Vh.zero)
  go_wp2_with (refine wpList_store_row rfl 30 _ _ rfl (w.heap.size + 2) Vh.zero.cells rfl rfl 30 _ Q1 vh_row rfl hone.out ?_)
  exact bodyPost_ret (v := .tuple #[.agg Vh.zero.cells, .int .i64 1]) (ret_val2 (p := 6) (q := 7) rfl rfl (Whole.setRow Q1 Vh.zero.cells)) rfl (HE.out _ (below_setRow g1 (by omega) _))

set_option maxHeartbeats 4000000 in
set_option maxRecDepth 100000 in
theorem ains_nil {T X : Vt} {p : Pth} {top : Nat} {w : World} (hT : T.In w top) (hXT : X.In w top) (hp : p.In w top) (ht : top ≤ w.heap.size) (h : pathB p.S p.n = true) (h0 : p.n = 0) :
    Calls Tryd.prog 11 #[.agg T.h.cells, .slice p.a p.n p.c, .agg X.h.cells] w (ResOut (.z, 1) top w) := by
  have hb0 := (((Below.refl w.heap.size w).alloc (Nat.le_refl _) (.cells T.h.cells 30)).alloc (by simp) (.cells X.h.cells 30)).alloc (by simp; omega) (.cells Vh.zero.cells 30)
  have P := ((Whole.new w 30 T.h.cells).alloc (.cells X.h.cells 30)).alloc (.cells Vh.zero.cells 30)
  have KB := (Whole.new (w.alloc (.cells T.h.cells 30)) 30 X.h.cells).alloc (.cells Vh.zero.cells 30)
  rw [World.size_alloc] at KB
  have Q := Whole.new ((w.alloc (.cells T.h.cells 30)).alloc (.cells X.h.cells 30)) 30 Vh.zero.cells
  rw [World.size_alloc, World.size_alloc] at Q
  have HV := Lib.hid (fun (w1 : World) (hb : Below w.heap.size w w1) => pvalid_any (Pth.In.below hp (hb.mono ht)) (Nat.le_trans ht hb.size))
  have HE : Hid (∀ w', Below w.heap.size w w' → ResOut ((.z, 1) : Vt × Int) top w (.returned (.tuple #[.agg Vh.zero.cells, .int .i64 1])) w') := Lib.hid fun w' hb => res_of (X := .z) rfl (Vt.z_in _ _) (Vt.z_off _) (fun q => absurd q (by decide)) (fun _ => rfl) hb
  rw [h, h0] at HV
  rw [h0]
  clear h h0
  clear hT hp hXT
  simp only [Vh.cells, Vh.zero] at hb0 P Q KB ⊢
  go_enter Tryd.func11, Tryd.ntmps11
  go_wp2_with fail
  refine (HV.out _ hb0).mono ?_; rintro _ w1 ⟨rfl, hb1⟩
  have g1 := below_then hb0 hb1
  have P1 := P.below hb1 P.lt
  have Q1 := Q.below hb1 Q.lt
  have K1 := Whole.below KB hb1 KB.lt
  clear P Q KB hb0 hb1
  have hone := Lib.hid (vh_all Vh.zero)
  go_wp2_with (refine wpList_store_row rfl 30 _ _ rfl (w.heap.size + 2) Vh.zero.cells rfl rfl 30 _ Q1 vh_row rfl hone.out ?_)
  exact bodyPost_ret (v := .tuple #[.agg Vh.zero.cells, .int .i64 1]) (ret_val2 (p := 6) (q := 7) rfl rfl (Whole.setRow Q1 Vh.zero.cells)) rfl (HE.out _ (below_setRow g1 (by omega) _))

set_option maxHeartbeats 4000000 in
set_option maxRecDepth 100000 in
theorem ains_at {T X : Vt} {p : Pth} {top : Nat} {w : World} (hT : T.In w top) (hXT : X.In w top) (hp : p.In w top) (ht : top ≤ w.heap.size) (h : pathB p.S p.n = true) {m : Nat} (h0 : p.n = m + 1) (h2 : (T.atN p.S m).2 ≠ 0) :
    Calls Tryd.prog 11 #[.agg T.h.cells, .slice p.a p.n p.c, .agg X.h.cells] w (ResOut (.z, (T.atN p.S m).2) top w) := by
  have hb0 := (((Below.refl w.heap.size w).alloc (Nat.le_refl _) (.cells T.h.cells 30)).alloc (by simp) (.cells X.h.cells 30)).alloc (by simp; omega) (.cells Vh.zero.cells 30)
  have P := ((Whole.new w 30 T.h.cells).alloc (.cells X.h.cells 30)).alloc (.cells Vh.zero.cells 30)
  have KB := (Whole.new (w.alloc (.cells T.h.cells 30)) 30 X.h.cells).alloc (.cells Vh.zero.cells 30)
  rw [World.size_alloc] at KB
  have Q := Whole.new ((w.alloc (.cells T.h.cells 30)).alloc (.cells X.h.cells 30)) 30 Vh.zero.cells
  rw [World.size_alloc, World.size_alloc] at Q
  have HV := Lib.hid (fun (w1 : World) (hb : Below w.heap.size w w1) => pvalid_any (Pth.In.below hp (hb.mono ht)) (Nat.le_trans ht hb.size))
  have HE : Hid (∀ w', Below w.heap.size w w' → ResOut ((.z, (T.atN p.S m).2) : Vt × Int) top w (.returned (.tuple #[.agg Vh.zero.cells, .int .i64 (T.atN p.S m).2])) w') := Lib.hid fun w' hb => res_of (X := .z) rfl (Vt.z_in _ _) (Vt.z_off _) (fun q => absurd q h2) (fun _ => rfl) hb
  have hlen : m + 1 ≤ 48 := by have := (pathB_ok h).1; omega
  have hpn := hp
  obtain ⟨a, n, c, b, o, S⟩ := p
  dsimp only at h0 h h2 HE HV ⊢
  subst h0
  obtain ⟨e, hbt⟩ := hp.1 (Nat.succ_pos _)
  dsimp only at e hbt
  subst e
  have hcap : m + 1 ≤ c := hp.2.1.2.1
  have HP := Lib.hid (fun (w1 : World) (hb : Below w.heap.size w w1) => ((hp.2.2 m (Nat.lt_succ_self m)).1.below (hb.mono ht) hbt : LiesAt w1 b (o + m * 3) (S m).cells))
  have hsn : w64 (S m).n := (hp.2.2 m (Nat.lt_succ_self m)).2.n
  have hpm : ∀ w1, Below w.heap.size w w1 → Pth.In w1 top ⟨some ⟨b, o, none⟩, m, c, b, o, S⟩ := fun w1 hb => ⟨fun _ => ⟨rfl, hbt⟩, ⟨Nat.le_of_succ_le hp.2.1.1, Nat.le_of_succ_le hcap, hp.2.1.2.2⟩, fun i hi => (Pth.In.below hp (hb.mono ht)).2.2 i (Nat.lt_succ_of_lt hi)⟩
  have HAm := Lib.hid (fun (w1 : World) (hb : Below w.heap.size w w1) => at_any (p := ⟨some ⟨b, o, none⟩, m, c, b, o, S⟩) (Vt.In.below (hb.mono ht) hT) (hpm w1 hb) (Nat.le_trans ht hb.size))
  have e2 : T.get S m = (.nil, (T.atN S m).2) := by unfold Vt.get; rw [if_neg h2]
  rw [e2] at HAm
  have z1 : ((T.atN S m).2 == 0) = false := beq_eq_false_iff_ne.2 h2
  have z2 : ((T.atN S m).2 != 0) = true := bne_iff_ne.2 h2
  rw [h] at HV
  have hsl := slice_head Tryd.underlying31 elem_path stp_size (b := b) (o := o) (n := m + 1) (c := c) (i := m) (Nat.le_of_succ_le hcap) (by omega)
  clear h2 e2 hT hp h hpn hpm hXT
  generalize (T.atN S m).2 = E at *
  rw [show (Vt.nil).h = Vh.zero from rfl] at HAm
  have n1 : ((m : Int) + 1 == 0) = false := beq_eq_false_iff_ne.2 (by omega)
  have n2 : (((m + 1 : Nat) : Int) == 0) = false := beq_eq_false_iff_ne.2 (by omega)
  have n3 : (m + 1 == 0) = false := beq_eq_false_iff_ne.2 (by omega)
  have m1 : (0 : Int) ≤ m := by omega
  have m2 : (m : Int) ≤ 47 := by omega
  have m3 : (m : Int) < ((m + 1 : Nat) : Int) := by omega
  have m4 : (m : Int) < (m : Int) + 1 := by omega
  have m5 : (m : Int) ≤ (c : Int) := by omega
  have hwr : IntKind.i64.wrap (m : Int) = (m : Int) := by rw [IntKind.wrap_i64]; omega
  simp only [Vh.cells, Vh.zero] at hb0 P Q KB HAm ⊢
  go_enter Tryd.func11, Tryd.ntmps11
  go_wp2_with fail
  refine (HV.out _ hb0).mono ?_; rintro _ w1 ⟨rfl, hb1⟩
  have g1 := below_then hb0 hb1
  have P1 := P.below hb1 P.lt
  have Q1 := Q.below hb1 Q.lt
  have K1 := Whole.below KB hb1 KB.lt
  clear P Q KB hb0 hb1
  go_wp2_with fail
  refine wp_region_held_drew (S := fun W => Whole W w.heap.size 30 T.h.cells ∧ LiesAt W b (o + m * 3) (S m).cells ∧ Below w.heap.size w W) (by kernel_rfl) ⟨Whole.drew P1, HP.out _ (Below.drew g1), Below.drew g1⟩ (fun hS => ?_)
  refine wpAnyH_take (i := 0) (v := ?v0x1) rfl (by kernel_rfl) (by kernel_rfl) (by kernel_rfl) (fun _ _ _ h => h) (Or.inl ⟨by rfl, ?hy0x1⟩) hS ?rest0x1
  case hy0x1 => (intro wS hSw; go_simp; (try with_reducible rfl))
  case rest0x1 =>
  simp only [Act.put, List.getElem_toArray, List.getElem_cons_zero, List.getElem_cons_succ, List.setIfInBounds_toArray, List.set_cons_zero, List.set_cons_succ]
  refine wpAnyH_take (i := 1) (v := ?v1x2) rfl (by kernel_rfl) (by kernel_rfl) (by kernel_rfl) (fun _ _ _ h => h) (Or.inl ⟨by rfl, ?hy1x2⟩) hS ?rest1x2
  case hy1x2 => (intro wS hSw; go_simp; (try with_reducible rfl))
  case rest1x2 =>
  simp only [Act.put, List.getElem_toArray, List.getElem_cons_zero, List.getElem_cons_succ, List.setIfInBounds_toArray, List.set_cons_zero, List.set_cons_succ]
  refine wpAnyH_take (i := 2) (v := ?v2x3) rfl (by kernel_rfl) (by kernel_rfl) (by kernel_rfl) (fun _ _ _ h => h) (Or.inl ⟨by rfl, ?hy2x3⟩) hS ?rest2x3
  case hy2x3 => (intro wS hSw; go_simp; (try with_reducible rfl))
  case rest2x3 =>
  simp only [Act.put, List.getElem_toArray, List.getElem_cons_zero, List.getElem_cons_succ, List.setIfInBounds_toArray, List.set_cons_zero, List.set_cons_succ]
  refine wpAnyH_take (i := 3) (v := ?v3x4) rfl (by kernel_rfl) (by kernel_rfl) (by kernel_rfl) (fun _ _ _ h => h) (Or.inl ⟨by rfl, ?hy3x4⟩) hS ?rest3x4
  case hy3x4 => (intro wS hSw; go_simp; (try with_reducible rfl))
  case rest3x4 =>
  simp only [Act.put, List.getElem_toArray, List.getElem_cons_zero, List.getElem_cons_succ, List.setIfInBounds_toArray, List.set_cons_zero, List.set_cons_succ]
  refine wpAnyH_take (i := 4) (v := ?v4x5) rfl (by kernel_rfl) (by kernel_rfl) (by kernel_rfl) (fun _ _ _ h => h) (Or.inl ⟨by rfl, ?hy4x5⟩) hS ?rest4x5
  case hy4x5 => (intro wS hSw; go_simp; (try with_reducible rfl))
  case rest4x5 =>
  simp only [Act.put, List.getElem_toArray, List.getElem_cons_zero, List.getElem_cons_succ, List.setIfInBounds_toArray, List.set_cons_zero, List.set_cons_succ]
  refine wpAnyH_take (i := 5) (v := ?v5x6) rfl (by kernel_rfl) (by kernel_rfl) (by kernel_rfl) (fun _ _ _ h => h) (Or.inl ⟨by rfl, ?hy5x6⟩) hS ?rest5x6
  case hy5x6 => (intro wS hSw; go_simp; (try with_reducible rfl))
  case rest5x6 =>
  simp only [Act.put, List.getElem_toArray, List.getElem_cons_zero, List.getElem_cons_succ, List.setIfInBounds_toArray, List.set_cons_zero, List.set_cons_succ]
  refine wpAnyH_take (i := 6) (v := ?v6x7) rfl (by kernel_rfl) (by kernel_rfl) (by kernel_rfl) (fun _ _ _ h => h) (Or.inl ⟨by rfl, ?hy6x7⟩) hS ?rest6x7
  case hy6x7 => (intro wS hSw; go_simp; (try with_reducible rfl))
  case rest6x7 =>
  simp only [Act.put, List.getElem_toArray, List.getElem_cons_zero, List.getElem_cons_succ, List.setIfInBounds_toArray, List.set_cons_zero, List.set_cons_succ]
  refine wpAnyH_take (i := 7) (v := ?v7x8) rfl (by kernel_rfl) (by kernel_rfl) (by kernel_rfl) (fun _ _ _ h => h) (Or.inl ⟨by rfl, ?hy7x8⟩) hS ?rest7x8
  case hy7x8 => (intro wS hSw; go_simp; (try with_reducible rfl))
  case rest7x8 =>
  simp only [Act.put, List.getElem_toArray, List.getElem_cons_zero, List.getElem_cons_succ, List.setIfInBounds_toArray, List.set_cons_zero, List.set_cons_succ]
  refine wpAnyH_take (i := 8) (v := ?v8x9) rfl (by kernel_rfl) (by kernel_rfl) (by kernel_rfl) (fun _ _ _ h => h) (Or.inl ⟨by rfl, ?hy8x9⟩) hS ?rest8x9
  case hy8x9 => (intro wS hSw; go_simp; (try with_reducible rfl))
  case rest8x9 =>
  simp only [Act.put, List.getElem_toArray, List.getElem_cons_zero, List.getElem_cons_succ, List.setIfInBounds_toArray, List.set_cons_zero, List.set_cons_succ]
  refine wpAnyH_take (i := 9) (v := ?v9x10) rfl (by kernel_rfl) (by kernel_rfl) (by kernel_rfl) (fun _ _ _ h => h) (Or.inl ⟨by rfl, ?hy9x10⟩) hS ?rest9x10
  case hy9x10 => (intro wS hSw; go_simp; (try with_reducible rfl))
  case rest9x10 =>
  simp only [Act.put, List.getElem_toArray, List.getElem_cons_zero, List.getElem_cons_succ, List.setIfInBounds_toArray, List.set_cons_zero, List.set_cons_succ]
  refine wpAnyH_take (i := 10) (v := ?v10x11) rfl (by kernel_rfl) (by kernel_rfl) (by kernel_rfl) (fun _ _ _ h => h) (Or.inl ⟨by rfl, ?hy10x11⟩) hS ?rest10x11
  case hy10x11 => (intro wS hSw; obtain ⟨-, Pz, -⟩ := hSw; obtain ⟨s0, s1, s2⟩ := Pz.s3; go_simp; (try with_reducible rfl))
  case rest10x11 =>
  simp only [Act.put, List.getElem_toArray, List.getElem_cons_zero, List.getElem_cons_succ, List.setIfInBounds_toArray, List.set_cons_zero, List.set_cons_succ]
  have g3 := Below.drew g1
  have Q3 := Whole.drew Q1
  have P3 := Whole.drew P1
  have K3 := Whole.drew K1
  clear g1 Q1 P1 K1 hsl
  generalize w1.drew = w4 at *
  have hq3 := Q3.lt
  have hk3 := K3.lt
  refine wpAnyH_ready (rs := [11]) (by kernel_rfl) (by simp) ?_
  refine AllReadyH.cons rfl (fun KK hK => ?_) AllReadyH.nil
  go_simp
  have q1 := (Below.refl w4.heap.size w4).alloc (Nat.le_refl _) (.cells #[.bool false, .string ⟨#[]⟩, .int .i64 0] 50)
  have Y4 := Whole.new w4 50 #[.bool false, .string ⟨#[]⟩, .int .i64 0]
  have g4 := below_then g3 q1
  have Q4 := Whole.below Q3 q1 Q3.lt
  have P4 := Whole.below P3 q1 P3.lt
  have K4 := Whole.below K3 q1 K3.lt
  clear q1
  refine hK.out _ _ ⟨P4, HP.out _ g4, g4⟩ (fun hS4 => ?_)
  clear hK KK
  try simp only [Act.put, List.getElem_toArray, List.getElem_cons_zero, List.getElem_cons_succ, List.setIfInBounds_toArray, List.set_cons_zero, List.set_cons_succ]
  refine wpAnyH_ready (rs := [12]) (by kernel_rfl) (by simp) ?_
  refine AllReadyH.cons rfl (fun KK hK => ?_) AllReadyH.nil
  go_simp
  refine hK.out _ _ hS4 (fun hS5 => ?_)
  clear hK KK
  try simp only [Act.put, List.getElem_toArray, List.getElem_cons_zero, List.getElem_cons_succ, List.setIfInBounds_toArray, List.set_cons_zero, List.set_cons_succ]
  refine wpAnyH_ready (rs := [13]) (by kernel_rfl) (by simp) ?_
  refine AllReadyH.cons rfl (fun KK hK => ?_) AllReadyH.nil
  rw [if_pos (by rfl)]
  refine wp_store_row 50 _ _ rfl (w4.heap.size) #[.bool (S m).ix, .string (S m).key, .int .i64 (S m).n] rfl rfl 50 _ Y4 stp_size rfl (by simp [Value.oneCell']) ?_
  have g5 := below_setRow g4 (show w.heap.size ≤ w4.heap.size from g3.size) #[.bool (S m).ix, .string (S m).key, .int .i64 (S m).n]
  have Y5 : Whole _ w4.heap.size 50 (S m).cells := Whole.setRow Y4 #[.bool (S m).ix, .string (S m).key, .int .i64 (S m).n]
  have P5 := Whole.farRow (B' := w4.heap.size) P4 (by omega) #[.bool (S m).ix, .string (S m).key, .int .i64 (S m).n]
  have Q5 := Whole.farRow (B' := w4.heap.size) Q4 (by omega) #[.bool (S m).ix, .string (S m).key, .int .i64 (S m).n]
  have K5 := Whole.farRow (B' := w4.heap.size) K4 (by omega) #[.bool (S m).ix, .string (S m).key, .int .i64 (S m).n]
  obtain ⟨w5, hw5⟩ : ∃ w5, (w4.alloc (.cells #[.bool false, .string ⟨#[]⟩, .int .i64 0] 50)).setRow w4.heap.size #[.bool (S m).ix, .string (S m).key, .int .i64 (S m).n] = w5 := ⟨_, rfl⟩
  rw [hw5] at g5 Y5 P5 Q5 K5 ⊢
  clear hw5
  refine hK.out _ _ ⟨P5, HP.out _ g5, g5⟩ (fun hS6 => ?_)
  clear hK KK
  try simp only [Act.put, List.getElem_toArray, List.getElem_cons_zero, List.getElem_cons_succ, List.setIfInBounds_toArray, List.set_cons_zero, List.set_cons_succ]
  refine wpAnyH_done (by kernel_rfl) ?_ _
  clear hS hS4 hS5 hS6 g3 g4 P3 P4 Q3 Q4 K3 K4 Y4 hk3
  obtain ⟨c0, c1, c2, c3, c4, c5, c6, c7, c8, c9, c10, c11, c12⟩ := Whole.c13 (h := T.h) P5
  have hy5 := Y5.lt
  have hq5 := Q5.lt
  have hk5 := K5.lt
  have hp5 := P5.lt
  go_wp2_with fail
  refine (HAm.out _ g5).mono ?_; rintro _ w6 ⟨rfl, hb6⟩
  have g6 := below_then g5 hb6
  have Q6 := Whole.below Q5 hb6 hq5
  have P6 := Whole.below P5 hb6 hp5
  have Y6 := Whole.below Y5 hb6 hy5
  have K6 := Whole.below K5 hb6 hk5
  have hs6 := hb6.size
  clear c0 c1 c2 c3 c4 c5 c6 c7 c8 c9 c10 c11 c12 g5 Q5 P5 Y5 K5 hb6
  have gA := g6.alloc g6.size (.cells Vh.zero.cells 30)
  have QA := Q6.alloc (.cells Vh.zero.cells 30)
  have PA := P6.alloc (.cells Vh.zero.cells 30)
  have YA := Y6.alloc (.cells Vh.zero.cells 30)
  have KA := K6.alloc (.cells Vh.zero.cells 30)
  have MA := Whole.new w6 30 Vh.zero.cells
  have hzA : (w6.alloc (.cells Vh.zero.cells 30)).heap.size = w6.heap.size + 1 := by simp
  clear g6 Q6 P6 Y6 K6
  simp only [Vh.cells, Vh.zero] at gA QA
  clear PA YA KA MA
  have hone := Lib.hid (vh_all Vh.zero)
  go_wp2_with (refine wpList_store_row rfl 30 _ _ rfl (w.heap.size + 2) Vh.zero.cells rfl rfl 30 _ QA vh_row rfl hone.out ?_)
  exact bodyPost_ret (v := .tuple #[.agg Vh.zero.cells, .int .i64 E]) (ret_val2 (p := 6) (q := 7) rfl rfl (Whole.setRow QA Vh.zero.cells)) rfl (HE.out _ (below_setRow gA (by omega) _))

set_option maxHeartbeats 4000000 in
set_option maxRecDepth 100000 in
theorem ains_fit {T X : Vt} {p : Pth} {top : Nat} {w : World} (hT : T.In w top) (hXT : X.In w top) (hp : p.In w top) (ht : top ≤ w.heap.size) (h : pathB p.S p.n = true) {m : Nat} (h0 : p.n = m + 1) (h2 : (T.atN p.S m).2 = 0) (h3 : ((T.atN p.S m).1.find (p.S m)).2 = 6) :
    Calls Tryd.prog 11 #[.agg T.h.cells, .slice p.a p.n p.c, .agg X.h.cells] w (ResOut (.z, 6) top w) := by
  have hb0 := (((Below.refl w.heap.size w).alloc (Nat.le_refl _) (.cells T.h.cells 30)).alloc (by simp) (.cells X.h.cells 30)).alloc (by simp; omega) (.cells Vh.zero.cells 30)
  have P := ((Whole.new w 30 T.h.cells).alloc (.cells X.h.cells 30)).alloc (.cells Vh.zero.cells 30)
  have KB := (Whole.new (w.alloc (.cells T.h.cells 30)) 30 X.h.cells).alloc (.cells Vh.zero.cells 30)
  rw [World.size_alloc] at KB
  have Q := Whole.new ((w.alloc (.cells T.h.cells 30)).alloc (.cells X.h.cells 30)) 30 Vh.zero.cells
  rw [World.size_alloc, World.size_alloc] at Q
  have HV := Lib.hid (fun (w1 : World) (hb : Below w.heap.size w w1) => pvalid_any (Pth.In.below hp (hb.mono ht)) (Nat.le_trans ht hb.size))
  have HE : Hid (∀ w', Below w.heap.size w w' → ResOut ((.z, 6) : Vt × Int) top w (.returned (.tuple #[.agg Vh.zero.cells, .int .i64 6])) w') := Lib.hid fun w' hb => res_of (X := .z) rfl (Vt.z_in _ _) (Vt.z_off _) (fun q => absurd q (by decide)) (fun _ => rfl) hb
  have hlen : m + 1 ≤ 48 := by have := (pathB_ok h).1; omega
  have hpn := hp
  obtain ⟨a, n, c, b, o, S⟩ := p
  dsimp only at h0 h h2 h3 HV ⊢
  subst h0
  obtain ⟨e, hbt⟩ := hp.1 (Nat.succ_pos _)
  dsimp only at e hbt
  subst e
  have hcap : m + 1 ≤ c := hp.2.1.2.1
  have HP := Lib.hid (fun (w1 : World) (hb : Below w.heap.size w w1) => ((hp.2.2 m (Nat.lt_succ_self m)).1.below (hb.mono ht) hbt : LiesAt w1 b (o + m * 3) (S m).cells))
  have hsn : w64 (S m).n := (hp.2.2 m (Nat.lt_succ_self m)).2.n
  have hpm : ∀ w1, Below w.heap.size w w1 → Pth.In w1 top ⟨some ⟨b, o, none⟩, m, c, b, o, S⟩ := fun w1 hb => ⟨fun _ => ⟨rfl, hbt⟩, ⟨Nat.le_of_succ_le hp.2.1.1, Nat.le_of_succ_le hcap, hp.2.1.2.2⟩, fun i hi => (Pth.In.below hp (hb.mono ht)).2.2 i (Nat.lt_succ_of_lt hi)⟩
  have HAm := Lib.hid (fun (w1 : World) (hb : Below w.heap.size w w1) => at_any (p := ⟨some ⟨b, o, none⟩, m, c, b, o, S⟩) (Vt.In.below (hb.mono ht) hT) (hpm w1 hb) (Nat.le_trans ht hb.size))
  have hgm : T.get S m = ((T.atN S m).1, 0) := by unfold Vt.get; rw [if_pos h2]; exact Prod.ext rfl h2
  rw [hgm] at HAm
  have hMin : ∀ w1, Below w.heap.size w w1 → (T.atN S m).1.In w1 top := fun w1 hb => Vt.In.atN (Vt.In.below (hb.mono ht) hT) S m
  have hMk : w64 (T.atN S m).1.h.k := by
    have q := hMin w (Below.refl _ _)
    cases e : (T.atN S m).1 with
    | nil => rw [e] at q; exact q.elim
    | mk g Y L K F => rw [e] at q; exact q.1.k
  have HFt := Lib.hid (fun (w1 : World) => fits_any (T := (T.atN S m).1) (s := S m) (w := w1) hMk)
  have HIx := Lib.hid (fun (w1 : World) (hb : Below w.heap.size w w1) => index_any (T := (T.atN S m).1) (key := (S m).key) (hMin w1 hb) (Nat.le_trans ht hb.size))
  obtain ⟨M, hM⟩ : ∃ M, (T.atN S m).1 = M := ⟨_, rfl⟩
  rw [hM] at HAm HFt HIx h3
  rw [fits_6.2 h3] at HFt
  rw [h] at HV
  have hsl := slice_head Tryd.underlying31 elem_path stp_size (b := b) (o := o) (n := m + 1) (c := c) (i := m) (Nat.le_of_succ_le hcap) (by omega)
  clear hM hT hp h hpn hpm hXT h2 hgm hMin hMk hsn h3 HIx
  have n1 : ((m : Int) + 1 == 0) = false := beq_eq_false_iff_ne.2 (by omega)
  have n2 : (((m + 1 : Nat) : Int) == 0) = false := beq_eq_false_iff_ne.2 (by omega)
  have n3 : (m + 1 == 0) = false := beq_eq_false_iff_ne.2 (by omega)
  have m1 : (0 : Int) ≤ m := by omega
  have m2 : (m : Int) ≤ 47 := by omega
  have m3 : (m : Int) < ((m + 1 : Nat) : Int) := by omega
  have m4 : (m : Int) < (m : Int) + 1 := by omega
  have m5 : (m : Int) ≤ (c : Int) := by omega
  have hwr : IntKind.i64.wrap (m : Int) = (m : Int) := by rw [IntKind.wrap_i64]; omega
  simp only [Vh.cells, Vh.zero] at hb0 P Q KB HAm HFt ⊢
  go_enter Tryd.func11, Tryd.ntmps11
  go_wp2_with fail
  refine (HV.out _ hb0).mono ?_; rintro _ w1 ⟨rfl, hb1⟩
  have g1 := below_then hb0 hb1
  have P1 := P.below hb1 P.lt
  have Q1 := Q.below hb1 Q.lt
  have K1 := Whole.below KB hb1 KB.lt
  clear P Q KB hb0 hb1
  go_wp2_with fail
  refine wp_region_held_drew (S := fun W => Whole W w.heap.size 30 T.h.cells ∧ LiesAt W b (o + m * 3) (S m).cells ∧ Below w.heap.size w W) (by kernel_rfl) ⟨Whole.drew P1, HP.out _ (Below.drew g1), Below.drew g1⟩ (fun hS => ?_)
  refine wpAnyH_take (i := 0) (v := ?v0x12) rfl (by kernel_rfl) (by kernel_rfl) (by kernel_rfl) (fun _ _ _ h => h) (Or.inl ⟨by rfl, ?hy0x12⟩) hS ?rest0x12
  case hy0x12 => (intro wS hSw; go_simp; (try with_reducible rfl))
  case rest0x12 =>
  simp only [Act.put, List.getElem_toArray, List.getElem_cons_zero, List.getElem_cons_succ, List.setIfInBounds_toArray, List.set_cons_zero, List.set_cons_succ]
  refine wpAnyH_take (i := 1) (v := ?v1x13) rfl (by kernel_rfl) (by kernel_rfl) (by kernel_rfl) (fun _ _ _ h => h) (Or.inl ⟨by rfl, ?hy1x13⟩) hS ?rest1x13
  case hy1x13 => (intro wS hSw; go_simp; (try with_reducible rfl))
  case rest1x13 =>
  simp only [Act.put, List.getElem_toArray, List.getElem_cons_zero, List.getElem_cons_succ, List.setIfInBounds_toArray, List.set_cons_zero, List.set_cons_succ]
  refine wpAnyH_take (i := 2) (v := ?v2x14) rfl (by kernel_rfl) (by kernel_rfl) (by kernel_rfl) (fun _ _ _ h => h) (Or.inl ⟨by rfl, ?hy2x14⟩) hS ?rest2x14
  case hy2x14 => (intro wS hSw; go_simp; (try with_reducible rfl))
  case rest2x14 =>
  simp only [Act.put, List.getElem_toArray, List.getElem_cons_zero, List.getElem_cons_succ, List.setIfInBounds_toArray, List.set_cons_zero, List.set_cons_succ]
  refine wpAnyH_take (i := 3) (v := ?v3x15) rfl (by kernel_rfl) (by kernel_rfl) (by kernel_rfl) (fun _ _ _ h => h) (Or.inl ⟨by rfl, ?hy3x15⟩) hS ?rest3x15
  case hy3x15 => (intro wS hSw; go_simp; (try with_reducible rfl))
  case rest3x15 =>
  simp only [Act.put, List.getElem_toArray, List.getElem_cons_zero, List.getElem_cons_succ, List.setIfInBounds_toArray, List.set_cons_zero, List.set_cons_succ]
  refine wpAnyH_take (i := 4) (v := ?v4x16) rfl (by kernel_rfl) (by kernel_rfl) (by kernel_rfl) (fun _ _ _ h => h) (Or.inl ⟨by rfl, ?hy4x16⟩) hS ?rest4x16
  case hy4x16 => (intro wS hSw; go_simp; (try with_reducible rfl))
  case rest4x16 =>
  simp only [Act.put, List.getElem_toArray, List.getElem_cons_zero, List.getElem_cons_succ, List.setIfInBounds_toArray, List.set_cons_zero, List.set_cons_succ]
  refine wpAnyH_take (i := 5) (v := ?v5x17) rfl (by kernel_rfl) (by kernel_rfl) (by kernel_rfl) (fun _ _ _ h => h) (Or.inl ⟨by rfl, ?hy5x17⟩) hS ?rest5x17
  case hy5x17 => (intro wS hSw; go_simp; (try with_reducible rfl))
  case rest5x17 =>
  simp only [Act.put, List.getElem_toArray, List.getElem_cons_zero, List.getElem_cons_succ, List.setIfInBounds_toArray, List.set_cons_zero, List.set_cons_succ]
  refine wpAnyH_take (i := 6) (v := ?v6x18) rfl (by kernel_rfl) (by kernel_rfl) (by kernel_rfl) (fun _ _ _ h => h) (Or.inl ⟨by rfl, ?hy6x18⟩) hS ?rest6x18
  case hy6x18 => (intro wS hSw; go_simp; (try with_reducible rfl))
  case rest6x18 =>
  simp only [Act.put, List.getElem_toArray, List.getElem_cons_zero, List.getElem_cons_succ, List.setIfInBounds_toArray, List.set_cons_zero, List.set_cons_succ]
  refine wpAnyH_take (i := 7) (v := ?v7x19) rfl (by kernel_rfl) (by kernel_rfl) (by kernel_rfl) (fun _ _ _ h => h) (Or.inl ⟨by rfl, ?hy7x19⟩) hS ?rest7x19
  case hy7x19 => (intro wS hSw; go_simp; (try with_reducible rfl))
  case rest7x19 =>
  simp only [Act.put, List.getElem_toArray, List.getElem_cons_zero, List.getElem_cons_succ, List.setIfInBounds_toArray, List.set_cons_zero, List.set_cons_succ]
  refine wpAnyH_take (i := 8) (v := ?v8x20) rfl (by kernel_rfl) (by kernel_rfl) (by kernel_rfl) (fun _ _ _ h => h) (Or.inl ⟨by rfl, ?hy8x20⟩) hS ?rest8x20
  case hy8x20 => (intro wS hSw; go_simp; (try with_reducible rfl))
  case rest8x20 =>
  simp only [Act.put, List.getElem_toArray, List.getElem_cons_zero, List.getElem_cons_succ, List.setIfInBounds_toArray, List.set_cons_zero, List.set_cons_succ]
  refine wpAnyH_take (i := 9) (v := ?v9x21) rfl (by kernel_rfl) (by kernel_rfl) (by kernel_rfl) (fun _ _ _ h => h) (Or.inl ⟨by rfl, ?hy9x21⟩) hS ?rest9x21
  case hy9x21 => (intro wS hSw; go_simp; (try with_reducible rfl))
  case rest9x21 =>
  simp only [Act.put, List.getElem_toArray, List.getElem_cons_zero, List.getElem_cons_succ, List.setIfInBounds_toArray, List.set_cons_zero, List.set_cons_succ]
  refine wpAnyH_take (i := 10) (v := ?v10x22) rfl (by kernel_rfl) (by kernel_rfl) (by kernel_rfl) (fun _ _ _ h => h) (Or.inl ⟨by rfl, ?hy10x22⟩) hS ?rest10x22
  case hy10x22 => (intro wS hSw; obtain ⟨-, Pz, -⟩ := hSw; obtain ⟨s0, s1, s2⟩ := Pz.s3; go_simp; (try with_reducible rfl))
  case rest10x22 =>
  simp only [Act.put, List.getElem_toArray, List.getElem_cons_zero, List.getElem_cons_succ, List.setIfInBounds_toArray, List.set_cons_zero, List.set_cons_succ]
  have g3 := Below.drew g1
  have Q3 := Whole.drew Q1
  have P3 := Whole.drew P1
  have K3 := Whole.drew K1
  clear g1 Q1 P1 K1 hsl
  generalize w1.drew = w4 at *
  have hq3 := Q3.lt
  have hk3 := K3.lt
  refine wpAnyH_ready (rs := [11]) (by kernel_rfl) (by simp) ?_
  refine AllReadyH.cons rfl (fun KK hK => ?_) AllReadyH.nil
  go_simp
  have q1 := (Below.refl w4.heap.size w4).alloc (Nat.le_refl _) (.cells #[.bool false, .string ⟨#[]⟩, .int .i64 0] 50)
  have Y4 := Whole.new w4 50 #[.bool false, .string ⟨#[]⟩, .int .i64 0]
  have g4 := below_then g3 q1
  have Q4 := Whole.below Q3 q1 Q3.lt
  have P4 := Whole.below P3 q1 P3.lt
  have K4 := Whole.below K3 q1 K3.lt
  clear q1
  refine hK.out _ _ ⟨P4, HP.out _ g4, g4⟩ (fun hS4 => ?_)
  clear hK KK
  try simp only [Act.put, List.getElem_toArray, List.getElem_cons_zero, List.getElem_cons_succ, List.setIfInBounds_toArray, List.set_cons_zero, List.set_cons_succ]
  refine wpAnyH_ready (rs := [12]) (by kernel_rfl) (by simp) ?_
  refine AllReadyH.cons rfl (fun KK hK => ?_) AllReadyH.nil
  go_simp
  refine hK.out _ _ hS4 (fun hS5 => ?_)
  clear hK KK
  try simp only [Act.put, List.getElem_toArray, List.getElem_cons_zero, List.getElem_cons_succ, List.setIfInBounds_toArray, List.set_cons_zero, List.set_cons_succ]
  refine wpAnyH_ready (rs := [13]) (by kernel_rfl) (by simp) ?_
  refine AllReadyH.cons rfl (fun KK hK => ?_) AllReadyH.nil
  rw [if_pos (by rfl)]
  refine wp_store_row 50 _ _ rfl (w4.heap.size) #[.bool (S m).ix, .string (S m).key, .int .i64 (S m).n] rfl rfl 50 _ Y4 stp_size rfl (by simp [Value.oneCell']) ?_
  have g5 := below_setRow g4 (show w.heap.size ≤ w4.heap.size from g3.size) #[.bool (S m).ix, .string (S m).key, .int .i64 (S m).n]
  have Y5 : Whole _ w4.heap.size 50 (S m).cells := Whole.setRow Y4 #[.bool (S m).ix, .string (S m).key, .int .i64 (S m).n]
  have P5 := Whole.farRow (B' := w4.heap.size) P4 (by omega) #[.bool (S m).ix, .string (S m).key, .int .i64 (S m).n]
  have Q5 := Whole.farRow (B' := w4.heap.size) Q4 (by omega) #[.bool (S m).ix, .string (S m).key, .int .i64 (S m).n]
  have K5 := Whole.farRow (B' := w4.heap.size) K4 (by omega) #[.bool (S m).ix, .string (S m).key, .int .i64 (S m).n]
  obtain ⟨w5, hw5⟩ : ∃ w5, (w4.alloc (.cells #[.bool false, .string ⟨#[]⟩, .int .i64 0] 50)).setRow w4.heap.size #[.bool (S m).ix, .string (S m).key, .int .i64 (S m).n] = w5 := ⟨_, rfl⟩
  rw [hw5] at g5 Y5 P5 Q5 K5 ⊢
  clear hw5
  refine hK.out _ _ ⟨P5, HP.out _ g5, g5⟩ (fun hS6 => ?_)
  clear hK KK
  try simp only [Act.put, List.getElem_toArray, List.getElem_cons_zero, List.getElem_cons_succ, List.setIfInBounds_toArray, List.set_cons_zero, List.set_cons_succ]
  refine wpAnyH_done (by kernel_rfl) ?_ _
  clear hS hS4 hS5 hS6 g3 g4 P3 P4 Q3 Q4 K3 K4 Y4 hk3
  obtain ⟨c0, c1, c2, c3, c4, c5, c6, c7, c8, c9, c10, c11, c12⟩ := Whole.c13 (h := T.h) P5
  have hy5 := Y5.lt
  have hq5 := Q5.lt
  have hk5 := K5.lt
  have hp5 := P5.lt
  go_wp2_with fail
  refine (HAm.out _ g5).mono ?_; rintro _ w6 ⟨rfl, hb6⟩
  have g6 := below_then g5 hb6
  have Q6 := Whole.below Q5 hb6 hq5
  have P6 := Whole.below P5 hb6 hp5
  have Y6 := Whole.below Y5 hb6 hy5
  have K6 := Whole.below K5 hb6 hk5
  have hs6 := hb6.size
  clear c0 c1 c2 c3 c4 c5 c6 c7 c8 c9 c10 c11 c12 g5 Q5 P5 Y5 K5 hb6
  have gA := g6.alloc g6.size (.cells M.h.cells 30)
  have QA := Q6.alloc (.cells M.h.cells 30)
  have PA := P6.alloc (.cells M.h.cells 30)
  have YA := Y6.alloc (.cells M.h.cells 30)
  have KA := K6.alloc (.cells M.h.cells 30)
  have MA := Whole.new w6 30 M.h.cells
  have hzA : (w6.alloc (.cells M.h.cells 30)).heap.size = w6.heap.size + 1 := by simp
  clear g6 Q6 P6 Y6 K6
  obtain ⟨c0, c1, c2, c3, c4, c5, c6, c7, c8, c9, c10, c11, c12⟩ := Whole.c13 (h := M.h) MA
  obtain ⟨s0, s1, s2⟩ := Whole.b3 (s := S m) YA
  simp only [Vh.cells, Stp.cells] at gA QA PA YA KA MA hzA c0 c1 c2 c3 c4 c5 c6 c7 c8 c9 c10 c11 c12 s0 s1 s2
  have hyA := YA.lt
  have hqA := QA.lt
  have hkA := KA.lt
  have hpA := PA.lt
  have hmA := MA.lt
  go_wp2_with fail
  refine (HFt.out _).mono ?_; rintro _ w7 ⟨rfl, hb7⟩
  have g7 := below_then gA hb7
  have Q7 := Whole.below QA hb7 hqA
  have P7 := Whole.below PA hb7 hpA
  have Y7 := Whole.below YA hb7 hyA
  have K7 := Whole.below KA hb7 hkA
  have M7 := Whole.below MA hb7 hmA
  have hs7 := hb7.size
  clear c0 c1 c2 c3 c4 c5 c6 c7 c8 c9 c10 c11 c12 s0 s1 s2 gA QA PA YA KA MA hb7
  have hone := Lib.hid (vh_all Vh.zero)
  go_wp2_with (refine wpList_store_row rfl 30 _ _ rfl (w.heap.size + 2) Vh.zero.cells rfl rfl 30 _ Q7 vh_row rfl hone.out ?_)
  exact bodyPost_ret (v := .tuple #[.agg Vh.zero.cells, .int .i64 6]) (ret_val2 (p := 6) (q := 7) rfl rfl (Whole.setRow Q7 Vh.zero.cells)) rfl (HE.out _ (below_setRow g7 (by omega) _))

set_option maxHeartbeats 4000000 in
set_option maxRecDepth 100000 in
theorem ains_dup {T X : Vt} {p : Pth} {top : Nat} {w : World} (hT : T.In w top) (hXT : X.In w top) (hp : p.In w top) (ht : top ≤ w.heap.size) (h : pathB p.S p.n = true) {m : Nat} (h0 : p.n = m + 1) (h2 : (T.atN p.S m).2 = 0) (h3 : ((T.atN p.S m).1.find (p.S m)).2 = 0) (hix : (p.S m).ix = false) :
    Calls Tryd.prog 11 #[.agg T.h.cells, .slice p.a p.n p.c, .agg X.h.cells] w (ResOut (.z, 8) top w) := by
  have hb0 := (((Below.refl w.heap.size w).alloc (Nat.le_refl _) (.cells T.h.cells 30)).alloc (by simp) (.cells X.h.cells 30)).alloc (by simp; omega) (.cells Vh.zero.cells 30)
  have P := ((Whole.new w 30 T.h.cells).alloc (.cells X.h.cells 30)).alloc (.cells Vh.zero.cells 30)
  have KB := (Whole.new (w.alloc (.cells T.h.cells 30)) 30 X.h.cells).alloc (.cells Vh.zero.cells 30)
  rw [World.size_alloc] at KB
  have Q := Whole.new ((w.alloc (.cells T.h.cells 30)).alloc (.cells X.h.cells 30)) 30 Vh.zero.cells
  rw [World.size_alloc, World.size_alloc] at Q
  have HV := Lib.hid (fun (w1 : World) (hb : Below w.heap.size w w1) => pvalid_any (Pth.In.below hp (hb.mono ht)) (Nat.le_trans ht hb.size))
  have HE : Hid (∀ w', Below w.heap.size w w' → ResOut ((.z, 8) : Vt × Int) top w (.returned (.tuple #[.agg Vh.zero.cells, .int .i64 8])) w') := Lib.hid fun w' hb => res_of (X := .z) rfl (Vt.z_in _ _) (Vt.z_off _) (fun q => absurd q (by decide)) (fun _ => rfl) hb
  have hlen : m + 1 ≤ 48 := by have := (pathB_ok h).1; omega
  have hpn := hp
  obtain ⟨a, n, c, b, o, S⟩ := p
  dsimp only at h0 h h2 h3 hix HV ⊢
  subst h0
  obtain ⟨e, hbt⟩ := hp.1 (Nat.succ_pos _)
  dsimp only at e hbt
  subst e
  have hcap : m + 1 ≤ c := hp.2.1.2.1
  have HP := Lib.hid (fun (w1 : World) (hb : Below w.heap.size w w1) => ((hp.2.2 m (Nat.lt_succ_self m)).1.below (hb.mono ht) hbt : LiesAt w1 b (o + m * 3) (S m).cells))
  have hsn : w64 (S m).n := (hp.2.2 m (Nat.lt_succ_self m)).2.n
  have hpm : ∀ w1, Below w.heap.size w w1 → Pth.In w1 top ⟨some ⟨b, o, none⟩, m, c, b, o, S⟩ := fun w1 hb => ⟨fun _ => ⟨rfl, hbt⟩, ⟨Nat.le_of_succ_le hp.2.1.1, Nat.le_of_succ_le hcap, hp.2.1.2.2⟩, fun i hi => (Pth.In.below hp (hb.mono ht)).2.2 i (Nat.lt_succ_of_lt hi)⟩
  have HAm := Lib.hid (fun (w1 : World) (hb : Below w.heap.size w w1) => at_any (p := ⟨some ⟨b, o, none⟩, m, c, b, o, S⟩) (Vt.In.below (hb.mono ht) hT) (hpm w1 hb) (Nat.le_trans ht hb.size))
  have hgm : T.get S m = ((T.atN S m).1, 0) := by unfold Vt.get; rw [if_pos h2]; exact Prod.ext rfl h2
  rw [hgm] at HAm
  have hMin : ∀ w1, Below w.heap.size w w1 → (T.atN S m).1.In w1 top := fun w1 hb => Vt.In.atN (Vt.In.below (hb.mono ht) hT) S m
  have hMk : w64 (T.atN S m).1.h.k := by
    have q := hMin w (Below.refl _ _)
    cases e : (T.atN S m).1 with
    | nil => rw [e] at q; exact q.elim
    | mk g Y L K F => rw [e] at q; exact q.1.k
  have HFt := Lib.hid (fun (w1 : World) => fits_any (T := (T.atN S m).1) (s := S m) (w := w1) hMk)
  have HIx := Lib.hid (fun (w1 : World) (hb : Below w.heap.size w w1) => index_any (T := (T.atN S m).1) (key := (S m).key) (hMin w1 hb) (Nat.le_trans ht hb.size))
  obtain ⟨M, hM⟩ : ∃ M, (T.atN S m).1 = M := ⟨_, rfl⟩
  rw [hM] at HAm HFt HIx h3
  have hft : M.fits (S m) = true := by
    cases q : M.fits (S m) with
    | true => rfl
    | false => exact absurd (fits_6.1 q) (by rw [h3]; decide)
  rw [hft] at HFt
  clear hft
  obtain ⟨-, I, hI⟩ | ⟨q, -⟩ := idxZ_find hix (show (M.find (S m)).2 ≠ 6 by rw [h3]; decide)
  case inr => rw [h3] at q; cases q
  rw [hI] at HIx
  have hI0 : (0 : Int) ≤ (I : Int) := by omega
  have Hix := Lib.hid hix
  rw [h] at HV
  have hsl := slice_head Tryd.underlying31 elem_path stp_size (b := b) (o := o) (n := m + 1) (c := c) (i := m) (Nat.le_of_succ_le hcap) (by omega)
  clear hM hT hp h hpn hpm hXT h2 hgm hMin hMk hsn h3 hix hI
  have n1 : ((m : Int) + 1 == 0) = false := beq_eq_false_iff_ne.2 (by omega)
  have n2 : (((m + 1 : Nat) : Int) == 0) = false := beq_eq_false_iff_ne.2 (by omega)
  have n3 : (m + 1 == 0) = false := beq_eq_false_iff_ne.2 (by omega)
  have m1 : (0 : Int) ≤ m := by omega
  have m2 : (m : Int) ≤ 47 := by omega
  have m3 : (m : Int) < ((m + 1 : Nat) : Int) := by omega
  have m4 : (m : Int) < (m : Int) + 1 := by omega
  have m5 : (m : Int) ≤ (c : Int) := by omega
  have hwr : IntKind.i64.wrap (m : Int) = (m : Int) := by rw [IntKind.wrap_i64]; omega
  simp only [Vh.cells, Vh.zero] at hb0 P Q KB HAm HFt HIx ⊢
  go_enter Tryd.func11, Tryd.ntmps11
  go_wp2_with fail
  refine (HV.out _ hb0).mono ?_; rintro _ w1 ⟨rfl, hb1⟩
  have g1 := below_then hb0 hb1
  have P1 := P.below hb1 P.lt
  have Q1 := Q.below hb1 Q.lt
  have K1 := Whole.below KB hb1 KB.lt
  clear P Q KB hb0 hb1
  go_wp2_with fail
  refine wp_region_held_drew (S := fun W => Whole W w.heap.size 30 T.h.cells ∧ LiesAt W b (o + m * 3) (S m).cells ∧ Below w.heap.size w W) (by kernel_rfl) ⟨Whole.drew P1, HP.out _ (Below.drew g1), Below.drew g1⟩ (fun hS => ?_)
  refine wpAnyH_take (i := 0) (v := ?v0x23) rfl (by kernel_rfl) (by kernel_rfl) (by kernel_rfl) (fun _ _ _ h => h) (Or.inl ⟨by rfl, ?hy0x23⟩) hS ?rest0x23
  case hy0x23 => (intro wS hSw; go_simp; (try with_reducible rfl))
  case rest0x23 =>
  simp only [Act.put, List.getElem_toArray, List.getElem_cons_zero, List.getElem_cons_succ, List.setIfInBounds_toArray, List.set_cons_zero, List.set_cons_succ]
  refine wpAnyH_take (i := 1) (v := ?v1x24) rfl (by kernel_rfl) (by kernel_rfl) (by kernel_rfl) (fun _ _ _ h => h) (Or.inl ⟨by rfl, ?hy1x24⟩) hS ?rest1x24
  case hy1x24 => (intro wS hSw; go_simp; (try with_reducible rfl))
  case rest1x24 =>
  simp only [Act.put, List.getElem_toArray, List.getElem_cons_zero, List.getElem_cons_succ, List.setIfInBounds_toArray, List.set_cons_zero, List.set_cons_succ]
  refine wpAnyH_take (i := 2) (v := ?v2x25) rfl (by kernel_rfl) (by kernel_rfl) (by kernel_rfl) (fun _ _ _ h => h) (Or.inl ⟨by rfl, ?hy2x25⟩) hS ?rest2x25
  case hy2x25 => (intro wS hSw; go_simp; (try with_reducible rfl))
  case rest2x25 =>
  simp only [Act.put, List.getElem_toArray, List.getElem_cons_zero, List.getElem_cons_succ, List.setIfInBounds_toArray, List.set_cons_zero, List.set_cons_succ]
  refine wpAnyH_take (i := 3) (v := ?v3x26) rfl (by kernel_rfl) (by kernel_rfl) (by kernel_rfl) (fun _ _ _ h => h) (Or.inl ⟨by rfl, ?hy3x26⟩) hS ?rest3x26
  case hy3x26 => (intro wS hSw; go_simp; (try with_reducible rfl))
  case rest3x26 =>
  simp only [Act.put, List.getElem_toArray, List.getElem_cons_zero, List.getElem_cons_succ, List.setIfInBounds_toArray, List.set_cons_zero, List.set_cons_succ]
  refine wpAnyH_take (i := 4) (v := ?v4x27) rfl (by kernel_rfl) (by kernel_rfl) (by kernel_rfl) (fun _ _ _ h => h) (Or.inl ⟨by rfl, ?hy4x27⟩) hS ?rest4x27
  case hy4x27 => (intro wS hSw; go_simp; (try with_reducible rfl))
  case rest4x27 =>
  simp only [Act.put, List.getElem_toArray, List.getElem_cons_zero, List.getElem_cons_succ, List.setIfInBounds_toArray, List.set_cons_zero, List.set_cons_succ]
  refine wpAnyH_take (i := 5) (v := ?v5x28) rfl (by kernel_rfl) (by kernel_rfl) (by kernel_rfl) (fun _ _ _ h => h) (Or.inl ⟨by rfl, ?hy5x28⟩) hS ?rest5x28
  case hy5x28 => (intro wS hSw; go_simp; (try with_reducible rfl))
  case rest5x28 =>
  simp only [Act.put, List.getElem_toArray, List.getElem_cons_zero, List.getElem_cons_succ, List.setIfInBounds_toArray, List.set_cons_zero, List.set_cons_succ]
  refine wpAnyH_take (i := 6) (v := ?v6x29) rfl (by kernel_rfl) (by kernel_rfl) (by kernel_rfl) (fun _ _ _ h => h) (Or.inl ⟨by rfl, ?hy6x29⟩) hS ?rest6x29
  case hy6x29 => (intro wS hSw; go_simp; (try with_reducible rfl))
  case rest6x29 =>
  simp only [Act.put, List.getElem_toArray, List.getElem_cons_zero, List.getElem_cons_succ, List.setIfInBounds_toArray, List.set_cons_zero, List.set_cons_succ]
  refine wpAnyH_take (i := 7) (v := ?v7x30) rfl (by kernel_rfl) (by kernel_rfl) (by kernel_rfl) (fun _ _ _ h => h) (Or.inl ⟨by rfl, ?hy7x30⟩) hS ?rest7x30
  case hy7x30 => (intro wS hSw; go_simp; (try with_reducible rfl))
  case rest7x30 =>
  simp only [Act.put, List.getElem_toArray, List.getElem_cons_zero, List.getElem_cons_succ, List.setIfInBounds_toArray, List.set_cons_zero, List.set_cons_succ]
  refine wpAnyH_take (i := 8) (v := ?v8x31) rfl (by kernel_rfl) (by kernel_rfl) (by kernel_rfl) (fun _ _ _ h => h) (Or.inl ⟨by rfl, ?hy8x31⟩) hS ?rest8x31
  case hy8x31 => (intro wS hSw; go_simp; (try with_reducible rfl))
  case rest8x31 =>
  simp only [Act.put, List.getElem_toArray, List.getElem_cons_zero, List.getElem_cons_succ, List.setIfInBounds_toArray, List.set_cons_zero, List.set_cons_succ]
  refine wpAnyH_take (i := 9) (v := ?v9x32) rfl (by kernel_rfl) (by kernel_rfl) (by kernel_rfl) (fun _ _ _ h => h) (Or.inl ⟨by rfl, ?hy9x32⟩) hS ?rest9x32
  case hy9x32 => (intro wS hSw; go_simp; (try with_reducible rfl))
  case rest9x32 =>
  simp only [Act.put, List.getElem_toArray, List.getElem_cons_zero, List.getElem_cons_succ, List.setIfInBounds_toArray, List.set_cons_zero, List.set_cons_succ]
  refine wpAnyH_take (i := 10) (v := ?v10x33) rfl (by kernel_rfl) (by kernel_rfl) (by kernel_rfl) (fun _ _ _ h => h) (Or.inl ⟨by rfl, ?hy10x33⟩) hS ?rest10x33
  case hy10x33 => (intro wS hSw; obtain ⟨-, Pz, -⟩ := hSw; obtain ⟨s0, s1, s2⟩ := Pz.s3; go_simp; (try with_reducible rfl))
  case rest10x33 =>
  simp only [Act.put, List.getElem_toArray, List.getElem_cons_zero, List.getElem_cons_succ, List.setIfInBounds_toArray, List.set_cons_zero, List.set_cons_succ]
  have g3 := Below.drew g1
  have Q3 := Whole.drew Q1
  have P3 := Whole.drew P1
  have K3 := Whole.drew K1
  clear g1 Q1 P1 K1 hsl
  generalize w1.drew = w4 at *
  have hq3 := Q3.lt
  have hk3 := K3.lt
  refine wpAnyH_ready (rs := [11]) (by kernel_rfl) (by simp) ?_
  refine AllReadyH.cons rfl (fun KK hK => ?_) AllReadyH.nil
  go_simp
  have q1 := (Below.refl w4.heap.size w4).alloc (Nat.le_refl _) (.cells #[.bool false, .string ⟨#[]⟩, .int .i64 0] 50)
  have Y4 := Whole.new w4 50 #[.bool false, .string ⟨#[]⟩, .int .i64 0]
  have g4 := below_then g3 q1
  have Q4 := Whole.below Q3 q1 Q3.lt
  have P4 := Whole.below P3 q1 P3.lt
  have K4 := Whole.below K3 q1 K3.lt
  clear q1
  refine hK.out _ _ ⟨P4, HP.out _ g4, g4⟩ (fun hS4 => ?_)
  clear hK KK
  try simp only [Act.put, List.getElem_toArray, List.getElem_cons_zero, List.getElem_cons_succ, List.setIfInBounds_toArray, List.set_cons_zero, List.set_cons_succ]
  refine wpAnyH_ready (rs := [12]) (by kernel_rfl) (by simp) ?_
  refine AllReadyH.cons rfl (fun KK hK => ?_) AllReadyH.nil
  go_simp
  refine hK.out _ _ hS4 (fun hS5 => ?_)
  clear hK KK
  try simp only [Act.put, List.getElem_toArray, List.getElem_cons_zero, List.getElem_cons_succ, List.setIfInBounds_toArray, List.set_cons_zero, List.set_cons_succ]
  refine wpAnyH_ready (rs := [13]) (by kernel_rfl) (by simp) ?_
  refine AllReadyH.cons rfl (fun KK hK => ?_) AllReadyH.nil
  rw [if_pos (by rfl)]
  refine wp_store_row 50 _ _ rfl (w4.heap.size) #[.bool (S m).ix, .string (S m).key, .int .i64 (S m).n] rfl rfl 50 _ Y4 stp_size rfl (by simp [Value.oneCell']) ?_
  have g5 := below_setRow g4 (show w.heap.size ≤ w4.heap.size from g3.size) #[.bool (S m).ix, .string (S m).key, .int .i64 (S m).n]
  have Y5 : Whole _ w4.heap.size 50 (S m).cells := Whole.setRow Y4 #[.bool (S m).ix, .string (S m).key, .int .i64 (S m).n]
  have P5 := Whole.farRow (B' := w4.heap.size) P4 (by omega) #[.bool (S m).ix, .string (S m).key, .int .i64 (S m).n]
  have Q5 := Whole.farRow (B' := w4.heap.size) Q4 (by omega) #[.bool (S m).ix, .string (S m).key, .int .i64 (S m).n]
  have K5 := Whole.farRow (B' := w4.heap.size) K4 (by omega) #[.bool (S m).ix, .string (S m).key, .int .i64 (S m).n]
  obtain ⟨w5, hw5⟩ : ∃ w5, (w4.alloc (.cells #[.bool false, .string ⟨#[]⟩, .int .i64 0] 50)).setRow w4.heap.size #[.bool (S m).ix, .string (S m).key, .int .i64 (S m).n] = w5 := ⟨_, rfl⟩
  rw [hw5] at g5 Y5 P5 Q5 K5 ⊢
  clear hw5
  refine hK.out _ _ ⟨P5, HP.out _ g5, g5⟩ (fun hS6 => ?_)
  clear hK KK
  try simp only [Act.put, List.getElem_toArray, List.getElem_cons_zero, List.getElem_cons_succ, List.setIfInBounds_toArray, List.set_cons_zero, List.set_cons_succ]
  refine wpAnyH_done (by kernel_rfl) ?_ _
  clear hS hS4 hS5 hS6 g3 g4 P3 P4 Q3 Q4 K3 K4 Y4 hk3
  obtain ⟨c0, c1, c2, c3, c4, c5, c6, c7, c8, c9, c10, c11, c12⟩ := Whole.c13 (h := T.h) P5
  have hy5 := Y5.lt
  have hq5 := Q5.lt
  have hk5 := K5.lt
  have hp5 := P5.lt
  go_wp2_with fail
  refine (HAm.out _ g5).mono ?_; rintro _ w6 ⟨rfl, hb6⟩
  have g6 := below_then g5 hb6
  have Q6 := Whole.below Q5 hb6 hq5
  have P6 := Whole.below P5 hb6 hp5
  have Y6 := Whole.below Y5 hb6 hy5
  have K6 := Whole.below K5 hb6 hk5
  have hs6 := hb6.size
  clear c0 c1 c2 c3 c4 c5 c6 c7 c8 c9 c10 c11 c12 g5 Q5 P5 Y5 K5 hb6
  have gA := g6.alloc g6.size (.cells M.h.cells 30)
  have QA := Q6.alloc (.cells M.h.cells 30)
  have PA := P6.alloc (.cells M.h.cells 30)
  have YA := Y6.alloc (.cells M.h.cells 30)
  have KA := K6.alloc (.cells M.h.cells 30)
  have MA := Whole.new w6 30 M.h.cells
  have hzA : (w6.alloc (.cells M.h.cells 30)).heap.size = w6.heap.size + 1 := by simp
  clear g6 Q6 P6 Y6 K6
  obtain ⟨c0, c1, c2, c3, c4, c5, c6, c7, c8, c9, c10, c11, c12⟩ := Whole.c13 (h := M.h) MA
  obtain ⟨s0, s1, s2⟩ := Whole.b3 (s := S m) YA
  simp only [Vh.cells, Stp.cells] at gA QA PA YA KA MA hzA c0 c1 c2 c3 c4 c5 c6 c7 c8 c9 c10 c11 c12 s0 s1 s2
  have hyA := YA.lt
  have hqA := QA.lt
  have hkA := KA.lt
  have hpA := PA.lt
  have hmA := MA.lt
  go_wp2_with fail
  refine (HFt.out _).mono ?_; rintro _ w7 ⟨rfl, hb7⟩
  have g7 := below_then gA hb7
  have Q7 := Whole.below QA hb7 hqA
  have P7 := Whole.below PA hb7 hpA
  have Y7 := Whole.below YA hb7 hyA
  have K7 := Whole.below KA hb7 hkA
  have M7 := Whole.below MA hb7 hmA
  have hs7 := hb7.size
  clear c0 c1 c2 c3 c4 c5 c6 c7 c8 c9 c10 c11 c12 s0 s1 s2 gA QA PA YA KA MA hb7
  obtain ⟨c0, c1, c2, c3, c4, c5, c6, c7, c8, c9, c10, c11, c12⟩ := Whole.c13 (h := M.h) M7
  obtain ⟨s0, s1, s2⟩ := Whole.b3 (s := S m) Y7
  rw [Hix.out] at s0
  try simp only [Vh.cells] at c0 c1 c2 c3 c4 c5 c6 c7 c8 c9 c10 c11 c12
  have hy7 := Y7.lt
  have hq7 := Q7.lt
  have hk7 := K7.lt
  have hp7 := P7.lt
  go_wp2_with fail
  refine (HIx.out _ g7).mono ?_; rintro _ w8 ⟨rfl, hb8⟩
  have g8 := below_then g7 hb8
  have Q8 := Whole.below Q7 hb8 hq7
  have P8 := Whole.below P7 hb8 hp7
  have Y8 := Whole.below Y7 hb8 hy7
  have K8 := Whole.below K7 hb8 hk7
  have hs8 := hb8.size
  clear c0 c1 c2 c3 c4 c5 c6 c7 c8 c9 c10 c11 c12 s0 s1 s2 g7 Q7 P7 Y7 K7 M7 hb8
  have hone := Lib.hid (vh_all Vh.zero)
  go_wp2_with (refine wpList_store_row rfl 30 _ _ rfl (w.heap.size + 2) Vh.zero.cells rfl rfl 30 _ Q8 vh_row rfl hone.out ?_)
  exact bodyPost_ret (v := .tuple #[.agg Vh.zero.cells, .int .i64 8]) (ret_val2 (p := 6) (q := 7) rfl rfl (Whole.setRow Q8 Vh.zero.cells)) rfl (HE.out _ (below_setRow g8 (by omega) _))

set_option maxHeartbeats 4000000 in
set_option maxRecDepth 100000 in
theorem ains_out {T X : Vt} {p : Pth} {top : Nat} {w : World} (hT : T.In w top) (hXT : X.In w top) (hp : p.In w top) (ht : top ≤ w.heap.size) (h : pathB p.S p.n = true) {m : Nat} (h0 : p.n = m + 1) (h2 : (T.atN p.S m).2 = 0) (h3 : ((T.atN p.S m).1.find (p.S m)).2 ≠ 6) (hix : (p.S m).ix = true) (hn : ¬ (p.S m).n ≤ ((T.atN p.S m).1.h.ln : Int)) :
    Calls Tryd.prog 11 #[.agg T.h.cells, .slice p.a p.n p.c, .agg X.h.cells] w (ResOut (.z, 7) top w) := by
  have hb0 := (((Below.refl w.heap.size w).alloc (Nat.le_refl _) (.cells T.h.cells 30)).alloc (by simp) (.cells X.h.cells 30)).alloc (by simp; omega) (.cells Vh.zero.cells 30)
  have P := ((Whole.new w 30 T.h.cells).alloc (.cells X.h.cells 30)).alloc (.cells Vh.zero.cells 30)
  have KB := (Whole.new (w.alloc (.cells T.h.cells 30)) 30 X.h.cells).alloc (.cells Vh.zero.cells 30)
  rw [World.size_alloc] at KB
  have Q := Whole.new ((w.alloc (.cells T.h.cells 30)).alloc (.cells X.h.cells 30)) 30 Vh.zero.cells
  rw [World.size_alloc, World.size_alloc] at Q
  have HV := Lib.hid (fun (w1 : World) (hb : Below w.heap.size w w1) => pvalid_any (Pth.In.below hp (hb.mono ht)) (Nat.le_trans ht hb.size))
  have HE : Hid (∀ w', Below w.heap.size w w' → ResOut ((.z, 7) : Vt × Int) top w (.returned (.tuple #[.agg Vh.zero.cells, .int .i64 7])) w') := Lib.hid fun w' hb => res_of (X := .z) rfl (Vt.z_in _ _) (Vt.z_off _) (fun q => absurd q (by decide)) (fun _ => rfl) hb
  have hlen : m + 1 ≤ 48 := by have := (pathB_ok h).1; omega
  have hpn := hp
  obtain ⟨a, n, c, b, o, S⟩ := p
  dsimp only at h0 h h2 h3 hix hn HV ⊢
  subst h0
  obtain ⟨e, hbt⟩ := hp.1 (Nat.succ_pos _)
  dsimp only at e hbt
  subst e
  have hcap : m + 1 ≤ c := hp.2.1.2.1
  have HP := Lib.hid (fun (w1 : World) (hb : Below w.heap.size w w1) => ((hp.2.2 m (Nat.lt_succ_self m)).1.below (hb.mono ht) hbt : LiesAt w1 b (o + m * 3) (S m).cells))
  have hsn : w64 (S m).n := (hp.2.2 m (Nat.lt_succ_self m)).2.n
  have hpm : ∀ w1, Below w.heap.size w w1 → Pth.In w1 top ⟨some ⟨b, o, none⟩, m, c, b, o, S⟩ := fun w1 hb => ⟨fun _ => ⟨rfl, hbt⟩, ⟨Nat.le_of_succ_le hp.2.1.1, Nat.le_of_succ_le hcap, hp.2.1.2.2⟩, fun i hi => (Pth.In.below hp (hb.mono ht)).2.2 i (Nat.lt_succ_of_lt hi)⟩
  have HAm := Lib.hid (fun (w1 : World) (hb : Below w.heap.size w w1) => at_any (p := ⟨some ⟨b, o, none⟩, m, c, b, o, S⟩) (Vt.In.below (hb.mono ht) hT) (hpm w1 hb) (Nat.le_trans ht hb.size))
  have hgm : T.get S m = ((T.atN S m).1, 0) := by unfold Vt.get; rw [if_pos h2]; exact Prod.ext rfl h2
  rw [hgm] at HAm
  have hMin : ∀ w1, Below w.heap.size w w1 → (T.atN S m).1.In w1 top := fun w1 hb => Vt.In.atN (Vt.In.below (hb.mono ht) hT) S m
  have hMk : w64 (T.atN S m).1.h.k := by
    have q := hMin w (Below.refl _ _)
    cases e : (T.atN S m).1 with
    | nil => rw [e] at q; exact q.elim
    | mk g Y L K F => rw [e] at q; exact q.1.k
  have HFt := Lib.hid (fun (w1 : World) => fits_any (T := (T.atN S m).1) (s := S m) (w := w1) hMk)
  have HIx := Lib.hid (fun (w1 : World) (hb : Below w.heap.size w w1) => index_any (T := (T.atN S m).1) (key := (S m).key) (hMin w1 hb) (Nat.le_trans ht hb.size))
  obtain ⟨M, hM⟩ : ∃ M, (T.atN S m).1 = M := ⟨_, rfl⟩
  rw [hM] at HAm HFt HIx h3 hn
  have hft : M.fits (S m) = true := by
    cases q : M.fits (S m) with
    | true => rfl
    | false => exact absurd (fits_6.1 q) h3
  rw [hft] at HFt
  clear hft
  have Hix := Lib.hid hix
  have hn1 : (M.h.ln : Int) < (S m).n := by omega
  have hd : decide ((M.h.ln : Int) < (S m).n) = true := decide_eq_true hn1
  rw [h] at HV
  have hsl := slice_head Tryd.underlying31 elem_path stp_size (b := b) (o := o) (n := m + 1) (c := c) (i := m) (Nat.le_of_succ_le hcap) (by omega)
  clear hM hT hp h hpn hpm hXT h2 hgm hMin hMk hsn h3 hix hn HIx hn1
  have n1 : ((m : Int) + 1 == 0) = false := beq_eq_false_iff_ne.2 (by omega)
  have n2 : (((m + 1 : Nat) : Int) == 0) = false := beq_eq_false_iff_ne.2 (by omega)
  have n3 : (m + 1 == 0) = false := beq_eq_false_iff_ne.2 (by omega)
  have m1 : (0 : Int) ≤ m := by omega
  have m2 : (m : Int) ≤ 47 := by omega
  have m3 : (m : Int) < ((m + 1 : Nat) : Int) := by omega
  have m4 : (m : Int) < (m : Int) + 1 := by omega
  have m5 : (m : Int) ≤ (c : Int) := by omega
  have hwr : IntKind.i64.wrap (m : Int) = (m : Int) := by rw [IntKind.wrap_i64]; omega
  simp only [Vh.cells, Vh.zero] at hb0 P Q KB HAm HFt ⊢
  go_enter Tryd.func11, Tryd.ntmps11
  go_wp2_with fail
  refine (HV.out _ hb0).mono ?_; rintro _ w1 ⟨rfl, hb1⟩
  have g1 := below_then hb0 hb1
  have P1 := P.below hb1 P.lt
  have Q1 := Q.below hb1 Q.lt
  have K1 := Whole.below KB hb1 KB.lt
  clear P Q KB hb0 hb1
  go_wp2_with fail
  refine wp_region_held_drew (S := fun W => Whole W w.heap.size 30 T.h.cells ∧ LiesAt W b (o + m * 3) (S m).cells ∧ Below w.heap.size w W) (by kernel_rfl) ⟨Whole.drew P1, HP.out _ (Below.drew g1), Below.drew g1⟩ (fun hS => ?_)
  refine wpAnyH_take (i := 0) (v := ?v0x34) rfl (by kernel_rfl) (by kernel_rfl) (by kernel_rfl) (fun _ _ _ h => h) (Or.inl ⟨by rfl, ?hy0x34⟩) hS ?rest0x34
  case hy0x34 => (intro wS hSw; go_simp; (try with_reducible rfl))
  case rest0x34 =>
  simp only [Act.put, List.getElem_toArray, List.getElem_cons_zero, List.getElem_cons_succ, List.setIfInBounds_toArray, List.set_cons_zero, List.set_cons_succ]
  refine wpAnyH_take (i := 1) (v := ?v1x35) rfl (by kernel_rfl) (by kernel_rfl) (by kernel_rfl) (fun _ _ _ h => h) (Or.inl ⟨by rfl, ?hy1x35⟩) hS ?rest1x35
  case hy1x35 => (intro wS hSw; go_simp; (try with_reducible rfl))
  case rest1x35 =>
  simp only [Act.put, List.getElem_toArray, List.getElem_cons_zero, List.getElem_cons_succ, List.setIfInBounds_toArray, List.set_cons_zero, List.set_cons_succ]
  refine wpAnyH_take (i := 2) (v := ?v2x36) rfl (by kernel_rfl) (by kernel_rfl) (by kernel_rfl) (fun _ _ _ h => h) (Or.inl ⟨by rfl, ?hy2x36⟩) hS ?rest2x36
  case hy2x36 => (intro wS hSw; go_simp; (try with_reducible rfl))
  case rest2x36 =>
  simp only [Act.put, List.getElem_toArray, List.getElem_cons_zero, List.getElem_cons_succ, List.setIfInBounds_toArray, List.set_cons_zero, List.set_cons_succ]
  refine wpAnyH_take (i := 3) (v := ?v3x37) rfl (by kernel_rfl) (by kernel_rfl) (by kernel_rfl) (fun _ _ _ h => h) (Or.inl ⟨by rfl, ?hy3x37⟩) hS ?rest3x37
  case hy3x37 => (intro wS hSw; go_simp; (try with_reducible rfl))
  case rest3x37 =>
  simp only [Act.put, List.getElem_toArray, List.getElem_cons_zero, List.getElem_cons_succ, List.setIfInBounds_toArray, List.set_cons_zero, List.set_cons_succ]
  refine wpAnyH_take (i := 4) (v := ?v4x38) rfl (by kernel_rfl) (by kernel_rfl) (by kernel_rfl) (fun _ _ _ h => h) (Or.inl ⟨by rfl, ?hy4x38⟩) hS ?rest4x38
  case hy4x38 => (intro wS hSw; go_simp; (try with_reducible rfl))
  case rest4x38 =>
  simp only [Act.put, List.getElem_toArray, List.getElem_cons_zero, List.getElem_cons_succ, List.setIfInBounds_toArray, List.set_cons_zero, List.set_cons_succ]
  refine wpAnyH_take (i := 5) (v := ?v5x39) rfl (by kernel_rfl) (by kernel_rfl) (by kernel_rfl) (fun _ _ _ h => h) (Or.inl ⟨by rfl, ?hy5x39⟩) hS ?rest5x39
  case hy5x39 => (intro wS hSw; go_simp; (try with_reducible rfl))
  case rest5x39 =>
  simp only [Act.put, List.getElem_toArray, List.getElem_cons_zero, List.getElem_cons_succ, List.setIfInBounds_toArray, List.set_cons_zero, List.set_cons_succ]
  refine wpAnyH_take (i := 6) (v := ?v6x40) rfl (by kernel_rfl) (by kernel_rfl) (by kernel_rfl) (fun _ _ _ h => h) (Or.inl ⟨by rfl, ?hy6x40⟩) hS ?rest6x40
  case hy6x40 => (intro wS hSw; go_simp; (try with_reducible rfl))
  case rest6x40 =>
  simp only [Act.put, List.getElem_toArray, List.getElem_cons_zero, List.getElem_cons_succ, List.setIfInBounds_toArray, List.set_cons_zero, List.set_cons_succ]
  refine wpAnyH_take (i := 7) (v := ?v7x41) rfl (by kernel_rfl) (by kernel_rfl) (by kernel_rfl) (fun _ _ _ h => h) (Or.inl ⟨by rfl, ?hy7x41⟩) hS ?rest7x41
  case hy7x41 => (intro wS hSw; go_simp; (try with_reducible rfl))
  case rest7x41 =>
  simp only [Act.put, List.getElem_toArray, List.getElem_cons_zero, List.getElem_cons_succ, List.setIfInBounds_toArray, List.set_cons_zero, List.set_cons_succ]
  refine wpAnyH_take (i := 8) (v := ?v8x42) rfl (by kernel_rfl) (by kernel_rfl) (by kernel_rfl) (fun _ _ _ h => h) (Or.inl ⟨by rfl, ?hy8x42⟩) hS ?rest8x42
  case hy8x42 => (intro wS hSw; go_simp; (try with_reducible rfl))
  case rest8x42 =>
  simp only [Act.put, List.getElem_toArray, List.getElem_cons_zero, List.getElem_cons_succ, List.setIfInBounds_toArray, List.set_cons_zero, List.set_cons_succ]
  refine wpAnyH_take (i := 9) (v := ?v9x43) rfl (by kernel_rfl) (by kernel_rfl) (by kernel_rfl) (fun _ _ _ h => h) (Or.inl ⟨by rfl, ?hy9x43⟩) hS ?rest9x43
  case hy9x43 => (intro wS hSw; go_simp; (try with_reducible rfl))
  case rest9x43 =>
  simp only [Act.put, List.getElem_toArray, List.getElem_cons_zero, List.getElem_cons_succ, List.setIfInBounds_toArray, List.set_cons_zero, List.set_cons_succ]
  refine wpAnyH_take (i := 10) (v := ?v10x44) rfl (by kernel_rfl) (by kernel_rfl) (by kernel_rfl) (fun _ _ _ h => h) (Or.inl ⟨by rfl, ?hy10x44⟩) hS ?rest10x44
  case hy10x44 => (intro wS hSw; obtain ⟨-, Pz, -⟩ := hSw; obtain ⟨s0, s1, s2⟩ := Pz.s3; go_simp; (try with_reducible rfl))
  case rest10x44 =>
  simp only [Act.put, List.getElem_toArray, List.getElem_cons_zero, List.getElem_cons_succ, List.setIfInBounds_toArray, List.set_cons_zero, List.set_cons_succ]
  have g3 := Below.drew g1
  have Q3 := Whole.drew Q1
  have P3 := Whole.drew P1
  have K3 := Whole.drew K1
  clear g1 Q1 P1 K1 hsl
  generalize w1.drew = w4 at *
  have hq3 := Q3.lt
  have hk3 := K3.lt
  refine wpAnyH_ready (rs := [11]) (by kernel_rfl) (by simp) ?_
  refine AllReadyH.cons rfl (fun KK hK => ?_) AllReadyH.nil
  go_simp
  have q1 := (Below.refl w4.heap.size w4).alloc (Nat.le_refl _) (.cells #[.bool false, .string ⟨#[]⟩, .int .i64 0] 50)
  have Y4 := Whole.new w4 50 #[.bool false, .string ⟨#[]⟩, .int .i64 0]
  have g4 := below_then g3 q1
  have Q4 := Whole.below Q3 q1 Q3.lt
  have P4 := Whole.below P3 q1 P3.lt
  have K4 := Whole.below K3 q1 K3.lt
  clear q1
  refine hK.out _ _ ⟨P4, HP.out _ g4, g4⟩ (fun hS4 => ?_)
  clear hK KK
  try simp only [Act.put, List.getElem_toArray, List.getElem_cons_zero, List.getElem_cons_succ, List.setIfInBounds_toArray, List.set_cons_zero, List.set_cons_succ]
  refine wpAnyH_ready (rs := [12]) (by kernel_rfl) (by simp) ?_
  refine AllReadyH.cons rfl (fun KK hK => ?_) AllReadyH.nil
  go_simp
  refine hK.out _ _ hS4 (fun hS5 => ?_)
  clear hK KK
  try simp only [Act.put, List.getElem_toArray, List.getElem_cons_zero, List.getElem_cons_succ, List.setIfInBounds_toArray, List.set_cons_zero, List.set_cons_succ]
  refine wpAnyH_ready (rs := [13]) (by kernel_rfl) (by simp) ?_
  refine AllReadyH.cons rfl (fun KK hK => ?_) AllReadyH.nil
  rw [if_pos (by rfl)]
  refine wp_store_row 50 _ _ rfl (w4.heap.size) #[.bool (S m).ix, .string (S m).key, .int .i64 (S m).n] rfl rfl 50 _ Y4 stp_size rfl (by simp [Value.oneCell']) ?_
  have g5 := below_setRow g4 (show w.heap.size ≤ w4.heap.size from g3.size) #[.bool (S m).ix, .string (S m).key, .int .i64 (S m).n]
  have Y5 : Whole _ w4.heap.size 50 (S m).cells := Whole.setRow Y4 #[.bool (S m).ix, .string (S m).key, .int .i64 (S m).n]
  have P5 := Whole.farRow (B' := w4.heap.size) P4 (by omega) #[.bool (S m).ix, .string (S m).key, .int .i64 (S m).n]
  have Q5 := Whole.farRow (B' := w4.heap.size) Q4 (by omega) #[.bool (S m).ix, .string (S m).key, .int .i64 (S m).n]
  have K5 := Whole.farRow (B' := w4.heap.size) K4 (by omega) #[.bool (S m).ix, .string (S m).key, .int .i64 (S m).n]
  obtain ⟨w5, hw5⟩ : ∃ w5, (w4.alloc (.cells #[.bool false, .string ⟨#[]⟩, .int .i64 0] 50)).setRow w4.heap.size #[.bool (S m).ix, .string (S m).key, .int .i64 (S m).n] = w5 := ⟨_, rfl⟩
  rw [hw5] at g5 Y5 P5 Q5 K5 ⊢
  clear hw5
  refine hK.out _ _ ⟨P5, HP.out _ g5, g5⟩ (fun hS6 => ?_)
  clear hK KK
  try simp only [Act.put, List.getElem_toArray, List.getElem_cons_zero, List.getElem_cons_succ, List.setIfInBounds_toArray, List.set_cons_zero, List.set_cons_succ]
  refine wpAnyH_done (by kernel_rfl) ?_ _
  clear hS hS4 hS5 hS6 g3 g4 P3 P4 Q3 Q4 K3 K4 Y4 hk3
  obtain ⟨c0, c1, c2, c3, c4, c5, c6, c7, c8, c9, c10, c11, c12⟩ := Whole.c13 (h := T.h) P5
  have hy5 := Y5.lt
  have hq5 := Q5.lt
  have hk5 := K5.lt
  have hp5 := P5.lt
  go_wp2_with fail
  refine (HAm.out _ g5).mono ?_; rintro _ w6 ⟨rfl, hb6⟩
  have g6 := below_then g5 hb6
  have Q6 := Whole.below Q5 hb6 hq5
  have P6 := Whole.below P5 hb6 hp5
  have Y6 := Whole.below Y5 hb6 hy5
  have K6 := Whole.below K5 hb6 hk5
  have hs6 := hb6.size
  clear c0 c1 c2 c3 c4 c5 c6 c7 c8 c9 c10 c11 c12 g5 Q5 P5 Y5 K5 hb6
  have gA := g6.alloc g6.size (.cells M.h.cells 30)
  have QA := Q6.alloc (.cells M.h.cells 30)
  have PA := P6.alloc (.cells M.h.cells 30)
  have YA := Y6.alloc (.cells M.h.cells 30)
  have KA := K6.alloc (.cells M.h.cells 30)
  have MA := Whole.new w6 30 M.h.cells
  have hzA : (w6.alloc (.cells M.h.cells 30)).heap.size = w6.heap.size + 1 := by simp
  clear g6 Q6 P6 Y6 K6
  obtain ⟨c0, c1, c2, c3, c4, c5, c6, c7, c8, c9, c10, c11, c12⟩ := Whole.c13 (h := M.h) MA
  obtain ⟨s0, s1, s2⟩ := Whole.b3 (s := S m) YA
  simp only [Vh.cells, Stp.cells] at gA QA PA YA KA MA hzA c0 c1 c2 c3 c4 c5 c6 c7 c8 c9 c10 c11 c12 s0 s1 s2
  have hyA := YA.lt
  have hqA := QA.lt
  have hkA := KA.lt
  have hpA := PA.lt
  have hmA := MA.lt
  go_wp2_with fail
  refine (HFt.out _).mono ?_; rintro _ w7 ⟨rfl, hb7⟩
  have g7 := below_then gA hb7
  have Q7 := Whole.below QA hb7 hqA
  have P7 := Whole.below PA hb7 hpA
  have Y7 := Whole.below YA hb7 hyA
  have K7 := Whole.below KA hb7 hkA
  have M7 := Whole.below MA hb7 hmA
  have hs7 := hb7.size
  clear c0 c1 c2 c3 c4 c5 c6 c7 c8 c9 c10 c11 c12 s0 s1 s2 gA QA PA YA KA MA hb7
  have m11 := Whole.cell M7 11
  obtain ⟨s0, s1, s2⟩ := Whole.b3 (s := S m) Y7
  rw [Hix.out] at s0
  simp only [List.getElem?_toArray, List.getElem?_cons_succ, List.getElem?_cons_zero] at m11
  have hone := Lib.hid (vh_all Vh.zero)
  go_wp2_with (refine wpList_store_row rfl 30 _ _ rfl (w.heap.size + 2) Vh.zero.cells rfl rfl 30 _ Q7 vh_row rfl hone.out ?_)
  exact bodyPost_ret (v := .tuple #[.agg Vh.zero.cells, .int .i64 7]) (ret_val2 (p := 6) (q := 7) rfl rfl (Whole.setRow Q7 Vh.zero.cells)) rfl (HE.out _ (below_setRow g7 (by omega) _))

set_option maxHeartbeats 4000000 in
set_option maxRecDepth 100000 in
theorem ains_more {T X : Vt} {p : Pth} {top : Nat} {w : World} (hT : T.In w top) (hXT : X.In w top) (hp : p.In w top) (ht : top ≤ w.heap.size) (h : pathB p.S p.n = true) {m : Nat} (h0 : p.n = m + 1) (h2 : (T.atN p.S m).2 = 0) (h3 : ((T.atN p.S m).1.find (p.S m)).2 = 7) (hix : (p.S m).ix = false) (hfn : (T.atN p.S m).1.h.fn + 1 ≤ 1048576) :
    Calls Tryd.prog 11 #[.agg T.h.cells, .slice p.a p.n p.c, .agg X.h.cells] w (ResOut (Vt.chg (fun U => U.moreF (p.S m).key X) m p.S T).chkV top w) := by
  have hb0 := (((Below.refl w.heap.size w).alloc (Nat.le_refl _) (.cells T.h.cells 30)).alloc (by simp) (.cells X.h.cells 30)).alloc (by simp; omega) (.cells Vh.zero.cells 30)
  have P := ((Whole.new w 30 T.h.cells).alloc (.cells X.h.cells 30)).alloc (.cells Vh.zero.cells 30)
  have KB := (Whole.new (w.alloc (.cells T.h.cells 30)) 30 X.h.cells).alloc (.cells Vh.zero.cells 30)
  rw [World.size_alloc] at KB
  have Q := Whole.new ((w.alloc (.cells T.h.cells 30)).alloc (.cells X.h.cells 30)) 30 Vh.zero.cells
  rw [World.size_alloc, World.size_alloc] at Q
  have HV := Lib.hid (fun (w1 : World) (hb : Below w.heap.size w w1) => pvalid_any (Pth.In.below hp (hb.mono ht)) (Nat.le_trans ht hb.size))
  have hlen : m + 1 ≤ 48 := by have := (pathB_ok h).1; omega
  have hpn := hp
  obtain ⟨a, n, c, b, o, S⟩ := p
  dsimp only at h0 h h2 h3 hix hfn HV ⊢
  subst h0
  obtain ⟨e, hbt⟩ := hp.1 (Nat.succ_pos _)
  dsimp only at e hbt
  subst e
  have hcap : m + 1 ≤ c := hp.2.1.2.1
  have HP := Lib.hid (fun (w1 : World) (hb : Below w.heap.size w w1) => ((hp.2.2 m (Nat.lt_succ_self m)).1.below (hb.mono ht) hbt : LiesAt w1 b (o + m * 3) (S m).cells))
  have hsn : w64 (S m).n := (hp.2.2 m (Nat.lt_succ_self m)).2.n
  have hpm : ∀ w1, Below w.heap.size w w1 → Pth.In w1 top ⟨some ⟨b, o, none⟩, m, c, b, o, S⟩ := fun w1 hb => ⟨fun _ => ⟨rfl, hbt⟩, ⟨Nat.le_of_succ_le hp.2.1.1, Nat.le_of_succ_le hcap, hp.2.1.2.2⟩, fun i hi => (Pth.In.below hp (hb.mono ht)).2.2 i (Nat.lt_succ_of_lt hi)⟩
  have HAm := Lib.hid (fun (w1 : World) (hb : Below w.heap.size w w1) => at_any (p := ⟨some ⟨b, o, none⟩, m, c, b, o, S⟩) (Vt.In.below (hb.mono ht) hT) (hpm w1 hb) (Nat.le_trans ht hb.size))
  have hgm : T.get S m = ((T.atN S m).1, 0) := by unfold Vt.get; rw [if_pos h2]; exact Prod.ext rfl h2
  rw [hgm] at HAm
  have hMin : ∀ w1, Below w.heap.size w w1 → (T.atN S m).1.In w1 top := fun w1 hb => Vt.In.atN (Vt.In.below (hb.mono ht) hT) S m
  have hMk : w64 (T.atN S m).1.h.k := by
    have q := hMin w (Below.refl _ _)
    cases e : (T.atN S m).1 with
    | nil => rw [e] at q; exact q.elim
    | mk g Y L K F => rw [e] at q; exact q.1.k
  have HFt := Lib.hid (fun (w1 : World) => fits_any (T := (T.atN S m).1) (s := S m) (w := w1) hMk)
  have HIx := Lib.hid (fun (w1 : World) (hb : Below w.heap.size w w1) => index_any (T := (T.atN S m).1) (key := (S m).key) (hMin w1 hb) (Nat.le_trans ht hb.size))
  have hkk : (S m).key.size ≤ 1048576 := by
    have q := (pathB_ok h).2 m (Nat.lt_succ_self m)
    unfold stepOk at q
    rw [hix, if_neg (by decide)] at q
    have := q.2.1
    omega
  have HC := Lib.hid (fun (w5 : World) (cb : Nat) (hb : Below w.heap.size w w5) (hcb : cb < w5.heap.size) (hS : LiesAt w5 cb 0 (S m).cells) (hxb : w.heap.size + 1 < w5.heap.size) (hXW : Whole w5 (w.heap.size + 1) 30 X.h.cells) =>
    VtChgI1.any (ins1_ok hcb hS hxb hXW ((Vt.In.below (hb.mono ht) hXT).up (Nat.le_trans ht hb.size)) hkk (Nat.le_refl _)) (Nat.le_refl _) m ⟨some ⟨b, o, none⟩, m, c, b, o, S⟩ T w5 rfl (Below.refl _ _) ((Vt.In.below (hb.mono ht) hT).up (Nat.le_trans ht hb.size)) (Pth.In.up (hpm w5 hb) (Nat.le_trans ht hb.size)) h2 hfn)
  obtain ⟨V, hV⟩ : ∃ V, Vt.chg (fun U => U.moreF (S m).key X) m S T = V := ⟨_, rfl⟩
  rw [hV] at HC ⊢
  have HCk := Lib.hid (fun (Z : Vt) (w1 : World) (hZ : Z.In w1 w1.heap.size) (hs : Z.Same V) => (chkd_any hZ (Nat.le_refl _)).mono fun e w' (q : ResOut Z.chkV 0 w1 e w') => res_chk hs q)
  obtain ⟨R, hR⟩ : ∃ R, V.chkV = R := ⟨_, rfl⟩
  rw [hR] at HCk ⊢
  obtain ⟨M, hM⟩ : ∃ M, (T.atN S m).1 = M := ⟨_, rfl⟩
  rw [hM] at HAm HFt HIx h3
  have hft : M.fits (S m) = true := by
    cases q : M.fits (S m) with
    | true => rfl
    | false => exact absurd (fits_6.1 q) (by rw [h3]; decide)
  rw [hft] at HFt
  clear hft
  obtain ⟨q, -⟩ | ⟨-, hI⟩ := idxZ_find hix (show (M.find (S m)).2 ≠ 6 by rw [h3]; decide)
  case inl => rw [h3] at q; cases q
  rw [hI] at HIx
  have Hix := Lib.hid hix
  rw [h] at HV
  have hsl := slice_head Tryd.underlying31 elem_path stp_size (b := b) (o := o) (n := m + 1) (c := c) (i := m) (Nat.le_of_succ_le hcap) (by omega)
  clear hM hT hp h hpn hpm hXT h2 hgm hMin hMk hsn hV hR h3 hix hkk hfn hI
  have n1 : ((m : Int) + 1 == 0) = false := beq_eq_false_iff_ne.2 (by omega)
  have n2 : (((m + 1 : Nat) : Int) == 0) = false := beq_eq_false_iff_ne.2 (by omega)
  have n3 : (m + 1 == 0) = false := beq_eq_false_iff_ne.2 (by omega)
  have m1 : (0 : Int) ≤ m := by omega
  have m2 : (m : Int) ≤ 47 := by omega
  have m3 : (m : Int) < ((m + 1 : Nat) : Int) := by omega
  have m4 : (m : Int) < (m : Int) + 1 := by omega
  have m5 : (m : Int) ≤ (c : Int) := by omega
  have hwr : IntKind.i64.wrap (m : Int) = (m : Int) := by rw [IntKind.wrap_i64]; omega
  simp only [Vh.cells, Vh.zero] at hb0 P Q KB HAm HFt HC HIx ⊢
  go_enter Tryd.func11, Tryd.ntmps11
  go_wp2_with fail
  refine (HV.out _ hb0).mono ?_; rintro _ w1 ⟨rfl, hb1⟩
  have g1 := below_then hb0 hb1
  have P1 := P.below hb1 P.lt
  have Q1 := Q.below hb1 Q.lt
  have K1 := Whole.below KB hb1 KB.lt
  clear P Q KB hb0 hb1
  go_wp2_with fail
  refine wp_region_held_drew (S := fun W => Whole W w.heap.size 30 T.h.cells ∧ LiesAt W b (o + m * 3) (S m).cells ∧ Below w.heap.size w W) (by kernel_rfl) ⟨Whole.drew P1, HP.out _ (Below.drew g1), Below.drew g1⟩ (fun hS => ?_)
  refine wpAnyH_take (i := 0) (v := ?v0x45) rfl (by kernel_rfl) (by kernel_rfl) (by kernel_rfl) (fun _ _ _ h => h) (Or.inl ⟨by rfl, ?hy0x45⟩) hS ?rest0x45
  case hy0x45 => (intro wS hSw; go_simp; (try with_reducible rfl))
  case rest0x45 =>
  simp only [Act.put, List.getElem_toArray, List.getElem_cons_zero, List.getElem_cons_succ, List.setIfInBounds_toArray, List.set_cons_zero, List.set_cons_succ]
  refine wpAnyH_take (i := 1) (v := ?v1x46) rfl (by kernel_rfl) (by kernel_rfl) (by kernel_rfl) (fun _ _ _ h => h) (Or.inl ⟨by rfl, ?hy1x46⟩) hS ?rest1x46
  case hy1x46 => (intro wS hSw; go_simp; (try with_reducible rfl))
  case rest1x46 =>
  simp only [Act.put, List.getElem_toArray, List.getElem_cons_zero, List.getElem_cons_succ, List.setIfInBounds_toArray, List.set_cons_zero, List.set_cons_succ]
  refine wpAnyH_take (i := 2) (v := ?v2x47) rfl (by kernel_rfl) (by kernel_rfl) (by kernel_rfl) (fun _ _ _ h => h) (Or.inl ⟨by rfl, ?hy2x47⟩) hS ?rest2x47
  case hy2x47 => (intro wS hSw; go_simp; (try with_reducible rfl))
  case rest2x47 =>
  simp only [Act.put, List.getElem_toArray, List.getElem_cons_zero, List.getElem_cons_succ, List.setIfInBounds_toArray, List.set_cons_zero, List.set_cons_succ]
  refine wpAnyH_take (i := 3) (v := ?v3x48) rfl (by kernel_rfl) (by kernel_rfl) (by kernel_rfl) (fun _ _ _ h => h) (Or.inl ⟨by rfl, ?hy3x48⟩) hS ?rest3x48
  case hy3x48 => (intro wS hSw; go_simp; (try with_reducible rfl))
  case rest3x48 =>
  simp only [Act.put, List.getElem_toArray, List.getElem_cons_zero, List.getElem_cons_succ, List.setIfInBounds_toArray, List.set_cons_zero, List.set_cons_succ]
  refine wpAnyH_take (i := 4) (v := ?v4x49) rfl (by kernel_rfl) (by kernel_rfl) (by kernel_rfl) (fun _ _ _ h => h) (Or.inl ⟨by rfl, ?hy4x49⟩) hS ?rest4x49
  case hy4x49 => (intro wS hSw; go_simp; (try with_reducible rfl))
  case rest4x49 =>
  simp only [Act.put, List.getElem_toArray, List.getElem_cons_zero, List.getElem_cons_succ, List.setIfInBounds_toArray, List.set_cons_zero, List.set_cons_succ]
  refine wpAnyH_take (i := 5) (v := ?v5x50) rfl (by kernel_rfl) (by kernel_rfl) (by kernel_rfl) (fun _ _ _ h => h) (Or.inl ⟨by rfl, ?hy5x50⟩) hS ?rest5x50
  case hy5x50 => (intro wS hSw; go_simp; (try with_reducible rfl))
  case rest5x50 =>
  simp only [Act.put, List.getElem_toArray, List.getElem_cons_zero, List.getElem_cons_succ, List.setIfInBounds_toArray, List.set_cons_zero, List.set_cons_succ]
  refine wpAnyH_take (i := 6) (v := ?v6x51) rfl (by kernel_rfl) (by kernel_rfl) (by kernel_rfl) (fun _ _ _ h => h) (Or.inl ⟨by rfl, ?hy6x51⟩) hS ?rest6x51
  case hy6x51 => (intro wS hSw; go_simp; (try with_reducible rfl))
  case rest6x51 =>
  simp only [Act.put, List.getElem_toArray, List.getElem_cons_zero, List.getElem_cons_succ, List.setIfInBounds_toArray, List.set_cons_zero, List.set_cons_succ]
  refine wpAnyH_take (i := 7) (v := ?v7x52) rfl (by kernel_rfl) (by kernel_rfl) (by kernel_rfl) (fun _ _ _ h => h) (Or.inl ⟨by rfl, ?hy7x52⟩) hS ?rest7x52
  case hy7x52 => (intro wS hSw; go_simp; (try with_reducible rfl))
  case rest7x52 =>
  simp only [Act.put, List.getElem_toArray, List.getElem_cons_zero, List.getElem_cons_succ, List.setIfInBounds_toArray, List.set_cons_zero, List.set_cons_succ]
  refine wpAnyH_take (i := 8) (v := ?v8x53) rfl (by kernel_rfl) (by kernel_rfl) (by kernel_rfl) (fun _ _ _ h => h) (Or.inl ⟨by rfl, ?hy8x53⟩) hS ?rest8x53
  case hy8x53 => (intro wS hSw; go_simp; (try with_reducible rfl))
  case rest8x53 =>
  simp only [Act.put, List.getElem_toArray, List.getElem_cons_zero, List.getElem_cons_succ, List.setIfInBounds_toArray, List.set_cons_zero, List.set_cons_succ]
  refine wpAnyH_take (i := 9) (v := ?v9x54) rfl (by kernel_rfl) (by kernel_rfl) (by kernel_rfl) (fun _ _ _ h => h) (Or.inl ⟨by rfl, ?hy9x54⟩) hS ?rest9x54
  case hy9x54 => (intro wS hSw; go_simp; (try with_reducible rfl))
  case rest9x54 =>
  simp only [Act.put, List.getElem_toArray, List.getElem_cons_zero, List.getElem_cons_succ, List.setIfInBounds_toArray, List.set_cons_zero, List.set_cons_succ]
  refine wpAnyH_take (i := 10) (v := ?v10x55) rfl (by kernel_rfl) (by kernel_rfl) (by kernel_rfl) (fun _ _ _ h => h) (Or.inl ⟨by rfl, ?hy10x55⟩) hS ?rest10x55
  case hy10x55 => (intro wS hSw; obtain ⟨-, Pz, -⟩ := hSw; obtain ⟨s0, s1, s2⟩ := Pz.s3; go_simp; (try with_reducible rfl))
  case rest10x55 =>
  simp only [Act.put, List.getElem_toArray, List.getElem_cons_zero, List.getElem_cons_succ, List.setIfInBounds_toArray, List.set_cons_zero, List.set_cons_succ]
  have g3 := Below.drew g1
  have Q3 := Whole.drew Q1
  have P3 := Whole.drew P1
  have K3 := Whole.drew K1
  clear g1 Q1 P1 K1 hsl
  generalize w1.drew = w4 at *
  have hq3 := Q3.lt
  have hk3 := K3.lt
  refine wpAnyH_ready (rs := [11]) (by kernel_rfl) (by simp) ?_
  refine AllReadyH.cons rfl (fun KK hK => ?_) AllReadyH.nil
  go_simp
  have q1 := (Below.refl w4.heap.size w4).alloc (Nat.le_refl _) (.cells #[.bool false, .string ⟨#[]⟩, .int .i64 0] 50)
  have Y4 := Whole.new w4 50 #[.bool false, .string ⟨#[]⟩, .int .i64 0]
  have g4 := below_then g3 q1
  have Q4 := Whole.below Q3 q1 Q3.lt
  have P4 := Whole.below P3 q1 P3.lt
  have K4 := Whole.below K3 q1 K3.lt
  clear q1
  refine hK.out _ _ ⟨P4, HP.out _ g4, g4⟩ (fun hS4 => ?_)
  clear hK KK
  try simp only [Act.put, List.getElem_toArray, List.getElem_cons_zero, List.getElem_cons_succ, List.setIfInBounds_toArray, List.set_cons_zero, List.set_cons_succ]
  refine wpAnyH_ready (rs := [12]) (by kernel_rfl) (by simp) ?_
  refine AllReadyH.cons rfl (fun KK hK => ?_) AllReadyH.nil
  go_simp
  refine hK.out _ _ hS4 (fun hS5 => ?_)
  clear hK KK
  try simp only [Act.put, List.getElem_toArray, List.getElem_cons_zero, List.getElem_cons_succ, List.setIfInBounds_toArray, List.set_cons_zero, List.set_cons_succ]
  refine wpAnyH_ready (rs := [13]) (by kernel_rfl) (by simp) ?_
  refine AllReadyH.cons rfl (fun KK hK => ?_) AllReadyH.nil
  rw [if_pos (by rfl)]
  refine wp_store_row 50 _ _ rfl (w4.heap.size) #[.bool (S m).ix, .string (S m).key, .int .i64 (S m).n] rfl rfl 50 _ Y4 stp_size rfl (by simp [Value.oneCell']) ?_
  have g5 := below_setRow g4 (show w.heap.size ≤ w4.heap.size from g3.size) #[.bool (S m).ix, .string (S m).key, .int .i64 (S m).n]
  have Y5 : Whole _ w4.heap.size 50 (S m).cells := Whole.setRow Y4 #[.bool (S m).ix, .string (S m).key, .int .i64 (S m).n]
  have P5 := Whole.farRow (B' := w4.heap.size) P4 (by omega) #[.bool (S m).ix, .string (S m).key, .int .i64 (S m).n]
  have Q5 := Whole.farRow (B' := w4.heap.size) Q4 (by omega) #[.bool (S m).ix, .string (S m).key, .int .i64 (S m).n]
  have K5 := Whole.farRow (B' := w4.heap.size) K4 (by omega) #[.bool (S m).ix, .string (S m).key, .int .i64 (S m).n]
  obtain ⟨w5, hw5⟩ : ∃ w5, (w4.alloc (.cells #[.bool false, .string ⟨#[]⟩, .int .i64 0] 50)).setRow w4.heap.size #[.bool (S m).ix, .string (S m).key, .int .i64 (S m).n] = w5 := ⟨_, rfl⟩
  rw [hw5] at g5 Y5 P5 Q5 K5 ⊢
  clear hw5
  refine hK.out _ _ ⟨P5, HP.out _ g5, g5⟩ (fun hS6 => ?_)
  clear hK KK
  try simp only [Act.put, List.getElem_toArray, List.getElem_cons_zero, List.getElem_cons_succ, List.setIfInBounds_toArray, List.set_cons_zero, List.set_cons_succ]
  refine wpAnyH_done (by kernel_rfl) ?_ _
  clear hS hS4 hS5 hS6 g3 g4 P3 P4 Q3 Q4 K3 K4 Y4 hk3
  obtain ⟨c0, c1, c2, c3, c4, c5, c6, c7, c8, c9, c10, c11, c12⟩ := Whole.c13 (h := T.h) P5
  have hy5 := Y5.lt
  have hq5 := Q5.lt
  have hk5 := K5.lt
  have hp5 := P5.lt
  go_wp2_with fail
  refine (HAm.out _ g5).mono ?_; rintro _ w6 ⟨rfl, hb6⟩
  have g6 := below_then g5 hb6
  have Q6 := Whole.below Q5 hb6 hq5
  have P6 := Whole.below P5 hb6 hp5
  have Y6 := Whole.below Y5 hb6 hy5
  have K6 := Whole.below K5 hb6 hk5
  have hs6 := hb6.size
  clear c0 c1 c2 c3 c4 c5 c6 c7 c8 c9 c10 c11 c12 g5 Q5 P5 Y5 K5 hb6
  have gA := g6.alloc g6.size (.cells M.h.cells 30)
  have QA := Q6.alloc (.cells M.h.cells 30)
  have PA := P6.alloc (.cells M.h.cells 30)
  have YA := Y6.alloc (.cells M.h.cells 30)
  have KA := K6.alloc (.cells M.h.cells 30)
  have MA := Whole.new w6 30 M.h.cells
  have hzA : (w6.alloc (.cells M.h.cells 30)).heap.size = w6.heap.size + 1 := by simp
  clear g6 Q6 P6 Y6 K6
  obtain ⟨c0, c1, c2, c3, c4, c5, c6, c7, c8, c9, c10, c11, c12⟩ := Whole.c13 (h := M.h) MA
  obtain ⟨s0, s1, s2⟩ := Whole.b3 (s := S m) YA
  simp only [Vh.cells, Stp.cells] at gA QA PA YA KA MA hzA c0 c1 c2 c3 c4 c5 c6 c7 c8 c9 c10 c11 c12 s0 s1 s2
  have hyA := YA.lt
  have hqA := QA.lt
  have hkA := KA.lt
  have hpA := PA.lt
  have hmA := MA.lt
  go_wp2_with fail
  refine (HFt.out _).mono ?_; rintro _ w7 ⟨rfl, hb7⟩
  have g7 := below_then gA hb7
  have Q7 := Whole.below QA hb7 hqA
  have P7 := Whole.below PA hb7 hpA
  have Y7 := Whole.below YA hb7 hyA
  have K7 := Whole.below KA hb7 hkA
  have M7 := Whole.below MA hb7 hmA
  have hs7 := hb7.size
  clear c0 c1 c2 c3 c4 c5 c6 c7 c8 c9 c10 c11 c12 s0 s1 s2 gA QA PA YA KA MA hb7
  obtain ⟨c0, c1, c2, c3, c4, c5, c6, c7, c8, c9, c10, c11, c12⟩ := Whole.c13 (h := M.h) M7
  obtain ⟨s0, s1, s2⟩ := Whole.b3 (s := S m) Y7
  rw [Hix.out] at s0
  try simp only [Vh.cells] at c0 c1 c2 c3 c4 c5 c6 c7 c8 c9 c10 c11 c12
  have hy7 := Y7.lt
  have hq7 := Q7.lt
  have hk7 := K7.lt
  have hp7 := P7.lt
  go_wp2_with fail
  refine (HIx.out _ g7).mono ?_; rintro _ w8 ⟨rfl, hb8⟩
  have g8 := below_then g7 hb8
  have Q8 := Whole.below Q7 hb8 hq7
  have P8 := Whole.below P7 hb8 hp7
  have Y8 := Whole.below Y7 hb8 hy7
  have K8 := Whole.below K7 hb8 hk7
  have hs8 := hb8.size
  clear c0 c1 c2 c3 c4 c5 c6 c7 c8 c9 c10 c11 c12 s0 s1 s2 g7 Q7 P7 Y7 K7 M7 hb8
  obtain ⟨s0, s1, s2⟩ := Whole.b3 (s := S m) Y8
  rw [Hix.out] at s0
  obtain ⟨c0, c1, c2, c3, c4, c5, c6, c7, c8, c9, c10, c11, c12⟩ := Whole.c13 (h := T.h) P8
  have hv8 := Y8.lt
  have hu8 := Q8.lt
  have ht8 := K8.lt
  go_wp2_with fail
  refine (HC.out w8 w4.heap.size g8 hv8 (fun j hj => by rw [Nat.zero_add]; exact Y8.cell j) ht8 K8).mono ?_
  rintro _ wZ ⟨Z, rfl, hZ, -, hZs, hbZ⟩
  have gZ := below_then g8 hbZ
  have QZ := Whole.below Q8 hbZ hu8
  have hsZ := hbZ.size
  have HZ := Lib.hid hZ
  have HZs := Lib.hid hZs
  clear hZ hZs hbZ g8 P8 Q8 Y8 K8 hv8 ht8 s0 s1 s2 c0 c1 c2 c3 c4 c5 c6 c7 c8 c9 c10 c11 c12
  simp only [Vh.cells] at HCk
  go_wp2_with fail
  refine (HCk.out Z _ HZ.out HZs.out).mono ?_
  rintro _ w9 ⟨U, rfl, hU, hUo, hU0, hU1, hb9⟩
  have g9 := below_then gZ hb9
  have hqZ := QZ.lt
  have Q9 := Whole.below QZ hb9 hqZ
  have hz8 := gZ.size
  have hone := Lib.hid (vh_all U.h)
  have hU2 := Lib.hid (hU.stays hUo (W' := w9.setRow (w.heap.size + 2) U.h.cells) (fun b hb => setRow_other _ _ _ _ (by omega)) (by rw [size_setRow]; exact Nat.le_refl _))
  have hUo2 : Hid (U.Off (fun b => b < top ∨ w.heap.size ≤ b)) := Lib.hid (hUo.mono fun b hb => .inr (by omega))
  have HU0 := Lib.hid hU0
  have HU1 := Lib.hid hU1
  clear hU hUo hU0 hU1 hb9 gZ QZ HZ HZs HCk
  go_wp2_with (refine wpList_store_row rfl 30 _ _ rfl (w.heap.size + 2) U.h.cells rfl rfl 30 _ Q9 vh_row rfl hone.out ?_)
  exact bodyPost_ret (v := .tuple #[.agg U.h.cells, .int .i64 R.2]) (ret_val2 (p := 6) (q := 7) rfl rfl (Whole.setRow Q9 U.h.cells)) rfl ⟨U, rfl, hU2.out, hUo2.out, HU0.out, HU1.out, below_setRow g9 (by omega) _⟩

set_option maxHeartbeats 4000000 in
set_option maxRecDepth 100000 in
theorem ains_list {T X : Vt} {p : Pth} {top : Nat} {w : World} (hT : T.In w top) (hXT : X.In w top) (hp : p.In w top) (ht : top ≤ w.heap.size) (h : pathB p.S p.n = true) {m : Nat} (h0 : p.n = m + 1) (h2 : (T.atN p.S m).2 = 0) (h3 : ((T.atN p.S m).1.find (p.S m)).2 ≠ 6) (hix : (p.S m).ix = true) (hn0 : 0 ≤ (p.S m).n) (hn : (p.S m).n ≤ ((T.atN p.S m).1.h.ln : Int)) (hln : (T.atN p.S m).1.h.ln < 1048576) :
    Calls Tryd.prog 11 #[.agg T.h.cells, .slice p.a p.n p.c, .agg X.h.cells] w (ResOut (Vt.chg (fun U => U.insL (p.S m).n.toNat X) m p.S T).chkV top w) := by
  have hb0 := (((Below.refl w.heap.size w).alloc (Nat.le_refl _) (.cells T.h.cells 30)).alloc (by simp) (.cells X.h.cells 30)).alloc (by simp; omega) (.cells Vh.zero.cells 30)
  have P := ((Whole.new w 30 T.h.cells).alloc (.cells X.h.cells 30)).alloc (.cells Vh.zero.cells 30)
  have KB := (Whole.new (w.alloc (.cells T.h.cells 30)) 30 X.h.cells).alloc (.cells Vh.zero.cells 30)
  rw [World.size_alloc] at KB
  have Q := Whole.new ((w.alloc (.cells T.h.cells 30)).alloc (.cells X.h.cells 30)) 30 Vh.zero.cells
  rw [World.size_alloc, World.size_alloc] at Q
  have HV := Lib.hid (fun (w1 : World) (hb : Below w.heap.size w w1) => pvalid_any (Pth.In.below hp (hb.mono ht)) (Nat.le_trans ht hb.size))
  have hlen : m + 1 ≤ 48 := by have := (pathB_ok h).1; omega
  have hpn := hp
  obtain ⟨a, n, c, b, o, S⟩ := p
  dsimp only at h0 h h2 h3 hix hn hln hn0 HV ⊢
  subst h0
  obtain ⟨e, hbt⟩ := hp.1 (Nat.succ_pos _)
  dsimp only at e hbt
  subst e
  have hcap : m + 1 ≤ c := hp.2.1.2.1
  have HP := Lib.hid (fun (w1 : World) (hb : Below w.heap.size w w1) => ((hp.2.2 m (Nat.lt_succ_self m)).1.below (hb.mono ht) hbt : LiesAt w1 b (o + m * 3) (S m).cells))
  have hsn : w64 (S m).n := (hp.2.2 m (Nat.lt_succ_self m)).2.n
  have hpm : ∀ w1, Below w.heap.size w w1 → Pth.In w1 top ⟨some ⟨b, o, none⟩, m, c, b, o, S⟩ := fun w1 hb => ⟨fun _ => ⟨rfl, hbt⟩, ⟨Nat.le_of_succ_le hp.2.1.1, Nat.le_of_succ_le hcap, hp.2.1.2.2⟩, fun i hi => (Pth.In.below hp (hb.mono ht)).2.2 i (Nat.lt_succ_of_lt hi)⟩
  have HAm := Lib.hid (fun (w1 : World) (hb : Below w.heap.size w w1) => at_any (p := ⟨some ⟨b, o, none⟩, m, c, b, o, S⟩) (Vt.In.below (hb.mono ht) hT) (hpm w1 hb) (Nat.le_trans ht hb.size))
  have hgm : T.get S m = ((T.atN S m).1, 0) := by unfold Vt.get; rw [if_pos h2]; exact Prod.ext rfl h2
  rw [hgm] at HAm
  have hMin : ∀ w1, Below w.heap.size w w1 → (T.atN S m).1.In w1 top := fun w1 hb => Vt.In.atN (Vt.In.below (hb.mono ht) hT) S m
  have hMk : w64 (T.atN S m).1.h.k := by
    have q := hMin w (Below.refl _ _)
    cases e : (T.atN S m).1 with
    | nil => rw [e] at q; exact q.elim
    | mk g Y L K F => rw [e] at q; exact q.1.k
  have HFt := Lib.hid (fun (w1 : World) => fits_any (T := (T.atN S m).1) (s := S m) (w := w1) hMk)
  have HIx := Lib.hid (fun (w1 : World) (hb : Below w.heap.size w w1) => index_any (T := (T.atN S m).1) (key := (S m).key) (hMin w1 hb) (Nat.le_trans ht hb.size))
  have HC := Lib.hid (fun (w5 : World) (cb : Nat) (hb : Below w.heap.size w w5) (hcb : cb < w5.heap.size) (hS : LiesAt w5 cb 0 (S m).cells) (hxb : w.heap.size + 1 < w5.heap.size) (hXW : Whole w5 (w.heap.size + 1) 30 X.h.cells) =>
    VtChgI2.any (ins2_ok hcb hsn hS hxb hXW ((Vt.In.below (hb.mono ht) hXT).up (Nat.le_trans ht hb.size)) hn0 (Nat.le_refl _)) (Nat.le_refl _) m ⟨some ⟨b, o, none⟩, m, c, b, o, S⟩ T w5 rfl (Below.refl _ _) ((Vt.In.below (hb.mono ht) hT).up (Nat.le_trans ht hb.size)) (Pth.In.up (hpm w5 hb) (Nat.le_trans ht hb.size)) h2 ⟨hn, hln⟩)
  obtain ⟨V, hV⟩ : ∃ V, Vt.chg (fun U => U.insL (S m).n.toNat X) m S T = V := ⟨_, rfl⟩
  rw [hV] at HC ⊢
  have HCk := Lib.hid (fun (Z : Vt) (w1 : World) (hZ : Z.In w1 w1.heap.size) (hs : Z.Same V) => (chkd_any hZ (Nat.le_refl _)).mono fun e w' (q : ResOut Z.chkV 0 w1 e w') => res_chk hs q)
  obtain ⟨R, hR⟩ : ∃ R, V.chkV = R := ⟨_, rfl⟩
  rw [hR] at HCk ⊢
  obtain ⟨M, hM⟩ : ∃ M, (T.atN S m).1 = M := ⟨_, rfl⟩
  rw [hM] at HAm HFt HIx h3 hn hln
  have hft : M.fits (S m) = true := by
    cases q : M.fits (S m) with
    | true => rfl
    | false => exact absurd (fits_6.1 q) h3
  rw [hft] at HFt
  clear hft
  have Hix := Lib.hid hix
  have hn1 : ¬ (M.h.ln : Int) < (S m).n := by omega
  have hd : decide ((M.h.ln : Int) < (S m).n) = false := decide_eq_false hn1
  rw [h] at HV
  have hsl := slice_head Tryd.underlying31 elem_path stp_size (b := b) (o := o) (n := m + 1) (c := c) (i := m) (Nat.le_of_succ_le hcap) (by omega)
  clear hM hT hp h hpn hpm hXT h2 hgm hMin hMk hsn hV hR h3 hix hn hn1 hln hn0 HIx
  have n1 : ((m : Int) + 1 == 0) = false := beq_eq_false_iff_ne.2 (by omega)
  have n2 : (((m + 1 : Nat) : Int) == 0) = false := beq_eq_false_iff_ne.2 (by omega)
  have n3 : (m + 1 == 0) = false := beq_eq_false_iff_ne.2 (by omega)
  have m1 : (0 : Int) ≤ m := by omega
  have m2 : (m : Int) ≤ 47 := by omega
  have m3 : (m : Int) < ((m + 1 : Nat) : Int) := by omega
  have m4 : (m : Int) < (m : Int) + 1 := by omega
  have m5 : (m : Int) ≤ (c : Int) := by omega
  have hwr : IntKind.i64.wrap (m : Int) = (m : Int) := by rw [IntKind.wrap_i64]; omega
  simp only [Vh.cells, Vh.zero] at hb0 P Q KB HAm HFt HC ⊢
  go_enter Tryd.func11, Tryd.ntmps11
  go_wp2_with fail
  refine (HV.out _ hb0).mono ?_; rintro _ w1 ⟨rfl, hb1⟩
  have g1 := below_then hb0 hb1
  have P1 := P.below hb1 P.lt
  have Q1 := Q.below hb1 Q.lt
  have K1 := Whole.below KB hb1 KB.lt
  clear P Q KB hb0 hb1
  go_wp2_with fail
  refine wp_region_held_drew (S := fun W => Whole W w.heap.size 30 T.h.cells ∧ LiesAt W b (o + m * 3) (S m).cells ∧ Below w.heap.size w W) (by kernel_rfl) ⟨Whole.drew P1, HP.out _ (Below.drew g1), Below.drew g1⟩ (fun hS => ?_)
  refine wpAnyH_take (i := 0) (v := ?v0x56) rfl (by kernel_rfl) (by kernel_rfl) (by kernel_rfl) (fun _ _ _ h => h) (Or.inl ⟨by rfl, ?hy0x56⟩) hS ?rest0x56
  case hy0x56 => (intro wS hSw; go_simp; (try with_reducible rfl))
  case rest0x56 =>
  simp only [Act.put, List.getElem_toArray, List.getElem_cons_zero, List.getElem_cons_succ, List.setIfInBounds_toArray, List.set_cons_zero, List.set_cons_succ]
  refine wpAnyH_take (i := 1) (v := ?v1x57) rfl (by kernel_rfl) (by kernel_rfl) (by kernel_rfl) (fun _ _ _ h => h) (Or.inl ⟨by rfl, ?hy1x57⟩) hS ?rest1x57
  case hy1x57 => (intro wS hSw; go_simp; (try with_reducible rfl))
  case rest1x57 =>
  simp only [Act.put, List.getElem_toArray, List.getElem_cons_zero, List.getElem_cons_succ, List.setIfInBounds_toArray, List.set_cons_zero, List.set_cons_succ]
  refine wpAnyH_take (i := 2) (v := ?v2x58) rfl (by kernel_rfl) (by kernel_rfl) (by kernel_rfl) (fun _ _ _ h => h) (Or.inl ⟨by rfl, ?hy2x58⟩) hS ?rest2x58
  case hy2x58 => (intro wS hSw; go_simp; (try with_reducible rfl))
  case rest2x58 =>
  simp only [Act.put, List.getElem_toArray, List.getElem_cons_zero, List.getElem_cons_succ, List.setIfInBounds_toArray, List.set_cons_zero, List.set_cons_succ]
  refine wpAnyH_take (i := 3) (v := ?v3x59) rfl (by kernel_rfl) (by kernel_rfl) (by kernel_rfl) (fun _ _ _ h => h) (Or.inl ⟨by rfl, ?hy3x59⟩) hS ?rest3x59
  case hy3x59 => (intro wS hSw; go_simp; (try with_reducible rfl))
  case rest3x59 =>
  simp only [Act.put, List.getElem_toArray, List.getElem_cons_zero, List.getElem_cons_succ, List.setIfInBounds_toArray, List.set_cons_zero, List.set_cons_succ]
  refine wpAnyH_take (i := 4) (v := ?v4x60) rfl (by kernel_rfl) (by kernel_rfl) (by kernel_rfl) (fun _ _ _ h => h) (Or.inl ⟨by rfl, ?hy4x60⟩) hS ?rest4x60
  case hy4x60 => (intro wS hSw; go_simp; (try with_reducible rfl))
  case rest4x60 =>
  simp only [Act.put, List.getElem_toArray, List.getElem_cons_zero, List.getElem_cons_succ, List.setIfInBounds_toArray, List.set_cons_zero, List.set_cons_succ]
  refine wpAnyH_take (i := 5) (v := ?v5x61) rfl (by kernel_rfl) (by kernel_rfl) (by kernel_rfl) (fun _ _ _ h => h) (Or.inl ⟨by rfl, ?hy5x61⟩) hS ?rest5x61
  case hy5x61 => (intro wS hSw; go_simp; (try with_reducible rfl))
  case rest5x61 =>
  simp only [Act.put, List.getElem_toArray, List.getElem_cons_zero, List.getElem_cons_succ, List.setIfInBounds_toArray, List.set_cons_zero, List.set_cons_succ]
  refine wpAnyH_take (i := 6) (v := ?v6x62) rfl (by kernel_rfl) (by kernel_rfl) (by kernel_rfl) (fun _ _ _ h => h) (Or.inl ⟨by rfl, ?hy6x62⟩) hS ?rest6x62
  case hy6x62 => (intro wS hSw; go_simp; (try with_reducible rfl))
  case rest6x62 =>
  simp only [Act.put, List.getElem_toArray, List.getElem_cons_zero, List.getElem_cons_succ, List.setIfInBounds_toArray, List.set_cons_zero, List.set_cons_succ]
  refine wpAnyH_take (i := 7) (v := ?v7x63) rfl (by kernel_rfl) (by kernel_rfl) (by kernel_rfl) (fun _ _ _ h => h) (Or.inl ⟨by rfl, ?hy7x63⟩) hS ?rest7x63
  case hy7x63 => (intro wS hSw; go_simp; (try with_reducible rfl))
  case rest7x63 =>
  simp only [Act.put, List.getElem_toArray, List.getElem_cons_zero, List.getElem_cons_succ, List.setIfInBounds_toArray, List.set_cons_zero, List.set_cons_succ]
  refine wpAnyH_take (i := 8) (v := ?v8x64) rfl (by kernel_rfl) (by kernel_rfl) (by kernel_rfl) (fun _ _ _ h => h) (Or.inl ⟨by rfl, ?hy8x64⟩) hS ?rest8x64
  case hy8x64 => (intro wS hSw; go_simp; (try with_reducible rfl))
  case rest8x64 =>
  simp only [Act.put, List.getElem_toArray, List.getElem_cons_zero, List.getElem_cons_succ, List.setIfInBounds_toArray, List.set_cons_zero, List.set_cons_succ]
  refine wpAnyH_take (i := 9) (v := ?v9x65) rfl (by kernel_rfl) (by kernel_rfl) (by kernel_rfl) (fun _ _ _ h => h) (Or.inl ⟨by rfl, ?hy9x65⟩) hS ?rest9x65
  case hy9x65 => (intro wS hSw; go_simp; (try with_reducible rfl))
  case rest9x65 =>
  simp only [Act.put, List.getElem_toArray, List.getElem_cons_zero, List.getElem_cons_succ, List.setIfInBounds_toArray, List.set_cons_zero, List.set_cons_succ]
  refine wpAnyH_take (i := 10) (v := ?v10x66) rfl (by kernel_rfl) (by kernel_rfl) (by kernel_rfl) (fun _ _ _ h => h) (Or.inl ⟨by rfl, ?hy10x66⟩) hS ?rest10x66
  case hy10x66 => (intro wS hSw; obtain ⟨-, Pz, -⟩ := hSw; obtain ⟨s0, s1, s2⟩ := Pz.s3; go_simp; (try with_reducible rfl))
  case rest10x66 =>
  simp only [Act.put, List.getElem_toArray, List.getElem_cons_zero, List.getElem_cons_succ, List.setIfInBounds_toArray, List.set_cons_zero, List.set_cons_succ]
  have g3 := Below.drew g1
  have Q3 := Whole.drew Q1
  have P3 := Whole.drew P1
  have K3 := Whole.drew K1
  clear g1 Q1 P1 K1 hsl
  generalize w1.drew = w4 at *
  have hq3 := Q3.lt
  have hk3 := K3.lt
  refine wpAnyH_ready (rs := [11]) (by kernel_rfl) (by simp) ?_
  refine AllReadyH.cons rfl (fun KK hK => ?_) AllReadyH.nil
  go_simp
  have q1 := (Below.refl w4.heap.size w4).alloc (Nat.le_refl _) (.cells #[.bool false, .string ⟨#[]⟩, .int .i64 0] 50)
  have Y4 := Whole.new w4 50 #[.bool false, .string ⟨#[]⟩, .int .i64 0]
  have g4 := below_then g3 q1
  have Q4 := Whole.below Q3 q1 Q3.lt
  have P4 := Whole.below P3 q1 P3.lt
  have K4 := Whole.below K3 q1 K3.lt
  clear q1
  refine hK.out _ _ ⟨P4, HP.out _ g4, g4⟩ (fun hS4 => ?_)
  clear hK KK
  try simp only [Act.put, List.getElem_toArray, List.getElem_cons_zero, List.getElem_cons_succ, List.setIfInBounds_toArray, List.set_cons_zero, List.set_cons_succ]
  refine wpAnyH_ready (rs := [12]) (by kernel_rfl) (by simp) ?_
  refine AllReadyH.cons rfl (fun KK hK => ?_) AllReadyH.nil
  go_simp
  refine hK.out _ _ hS4 (fun hS5 => ?_)
  clear hK KK
  try simp only [Act.put, List.getElem_toArray, List.getElem_cons_zero, List.getElem_cons_succ, List.setIfInBounds_toArray, List.set_cons_zero, List.set_cons_succ]
  refine wpAnyH_ready (rs := [13]) (by kernel_rfl) (by simp) ?_
  refine AllReadyH.cons rfl (fun KK hK => ?_) AllReadyH.nil
  rw [if_pos (by rfl)]
  refine wp_store_row 50 _ _ rfl (w4.heap.size) #[.bool (S m).ix, .string (S m).key, .int .i64 (S m).n] rfl rfl 50 _ Y4 stp_size rfl (by simp [Value.oneCell']) ?_
  have g5 := below_setRow g4 (show w.heap.size ≤ w4.heap.size from g3.size) #[.bool (S m).ix, .string (S m).key, .int .i64 (S m).n]
  have Y5 : Whole _ w4.heap.size 50 (S m).cells := Whole.setRow Y4 #[.bool (S m).ix, .string (S m).key, .int .i64 (S m).n]
  have P5 := Whole.farRow (B' := w4.heap.size) P4 (by omega) #[.bool (S m).ix, .string (S m).key, .int .i64 (S m).n]
  have Q5 := Whole.farRow (B' := w4.heap.size) Q4 (by omega) #[.bool (S m).ix, .string (S m).key, .int .i64 (S m).n]
  have K5 := Whole.farRow (B' := w4.heap.size) K4 (by omega) #[.bool (S m).ix, .string (S m).key, .int .i64 (S m).n]
  obtain ⟨w5, hw5⟩ : ∃ w5, (w4.alloc (.cells #[.bool false, .string ⟨#[]⟩, .int .i64 0] 50)).setRow w4.heap.size #[.bool (S m).ix, .string (S m).key, .int .i64 (S m).n] = w5 := ⟨_, rfl⟩
  rw [hw5] at g5 Y5 P5 Q5 K5 ⊢
  clear hw5
  refine hK.out _ _ ⟨P5, HP.out _ g5, g5⟩ (fun hS6 => ?_)
  clear hK KK
  try simp only [Act.put, List.getElem_toArray, List.getElem_cons_zero, List.getElem_cons_succ, List.setIfInBounds_toArray, List.set_cons_zero, List.set_cons_succ]
  refine wpAnyH_done (by kernel_rfl) ?_ _
  clear hS hS4 hS5 hS6 g3 g4 P3 P4 Q3 Q4 K3 K4 Y4 hk3
  obtain ⟨c0, c1, c2, c3, c4, c5, c6, c7, c8, c9, c10, c11, c12⟩ := Whole.c13 (h := T.h) P5
  have hy5 := Y5.lt
  have hq5 := Q5.lt
  have hk5 := K5.lt
  have hp5 := P5.lt
  go_wp2_with fail
  refine (HAm.out _ g5).mono ?_; rintro _ w6 ⟨rfl, hb6⟩
  have g6 := below_then g5 hb6
  have Q6 := Whole.below Q5 hb6 hq5
  have P6 := Whole.below P5 hb6 hp5
  have Y6 := Whole.below Y5 hb6 hy5
  have K6 := Whole.below K5 hb6 hk5
  have hs6 := hb6.size
  clear c0 c1 c2 c3 c4 c5 c6 c7 c8 c9 c10 c11 c12 g5 Q5 P5 Y5 K5 hb6
  have gA := g6.alloc g6.size (.cells M.h.cells 30)
  have QA := Q6.alloc (.cells M.h.cells 30)
  have PA := P6.alloc (.cells M.h.cells 30)
  have YA := Y6.alloc (.cells M.h.cells 30)
  have KA := K6.alloc (.cells M.h.cells 30)
  have MA := Whole.new w6 30 M.h.cells
  have hzA : (w6.alloc (.cells M.h.cells 30)).heap.size = w6.heap.size + 1 := by simp
  clear g6 Q6 P6 Y6 K6
  obtain ⟨c0, c1, c2, c3, c4, c5, c6, c7, c8, c9, c10, c11, c12⟩ := Whole.c13 (h := M.h) MA
  obtain ⟨s0, s1, s2⟩ := Whole.b3 (s := S m) YA
  simp only [Vh.cells, Stp.cells] at gA QA PA YA KA MA hzA c0 c1 c2 c3 c4 c5 c6 c7 c8 c9 c10 c11 c12 s0 s1 s2
  have hyA := YA.lt
  have hqA := QA.lt
  have hkA := KA.lt
  have hpA := PA.lt
  have hmA := MA.lt
  go_wp2_with fail
  refine (HFt.out _).mono ?_; rintro _ w7 ⟨rfl, hb7⟩
  have g7 := below_then gA hb7
  have Q7 := Whole.below QA hb7 hqA
  have P7 := Whole.below PA hb7 hpA
  have Y7 := Whole.below YA hb7 hyA
  have K7 := Whole.below KA hb7 hkA
  have M7 := Whole.below MA hb7 hmA
  have hs7 := hb7.size
  clear c0 c1 c2 c3 c4 c5 c6 c7 c8 c9 c10 c11 c12 s0 s1 s2 gA QA PA YA KA MA hb7
  have m11 := Whole.cell M7 11
  obtain ⟨s0, s1, s2⟩ := Whole.b3 (s := S m) Y7
  rw [Hix.out] at s0
  simp only [List.getElem?_toArray, List.getElem?_cons_succ, List.getElem?_cons_zero] at m11
  obtain ⟨c0, c1, c2, c3, c4, c5, c6, c7, c8, c9, c10, c11, c12⟩ := Whole.c13 (h := T.h) P7
  have hv7 := Y7.lt
  have hu7 := Q7.lt
  have ht7 := K7.lt
  go_wp2_with fail
  refine (HC.out w7 w4.heap.size g7 hv7 (fun j hj => by rw [Nat.zero_add]; exact Y7.cell j) ht7 K7).mono ?_
  rintro _ wZ ⟨Z, rfl, hZ, -, hZs, hbZ⟩
  have gZ := below_then g7 hbZ
  have QZ := Whole.below Q7 hbZ hu7
  have hsZ := hbZ.size
  have HZ := Lib.hid hZ
  have HZs := Lib.hid hZs
  clear hZ hZs hbZ g7 P7 Q7 Y7 K7 hv7 ht7 s0 s1 s2 c0 c1 c2 c3 c4 c5 c6 c7 c8 c9 c10 c11 c12
  simp only [Vh.cells] at HCk
  go_wp2_with fail
  refine (HCk.out Z _ HZ.out HZs.out).mono ?_
  rintro _ w9 ⟨U, rfl, hU, hUo, hU0, hU1, hb9⟩
  have g9 := below_then gZ hb9
  have hqZ := QZ.lt
  have Q9 := Whole.below QZ hb9 hqZ
  have hz8 := gZ.size
  have hone := Lib.hid (vh_all U.h)
  have hU2 := Lib.hid (hU.stays hUo (W' := w9.setRow (w.heap.size + 2) U.h.cells) (fun b hb => setRow_other _ _ _ _ (by omega)) (by rw [size_setRow]; exact Nat.le_refl _))
  have hUo2 : Hid (U.Off (fun b => b < top ∨ w.heap.size ≤ b)) := Lib.hid (hUo.mono fun b hb => .inr (by omega))
  have HU0 := Lib.hid hU0
  have HU1 := Lib.hid hU1
  clear hU hUo hU0 hU1 hb9 gZ QZ HZ HZs HCk
  go_wp2_with (refine wpList_store_row rfl 30 _ _ rfl (w.heap.size + 2) U.h.cells rfl rfl 30 _ Q9 vh_row rfl hone.out ?_)
  exact bodyPost_ret (v := .tuple #[.agg U.h.cells, .int .i64 R.2]) (ret_val2 (p := 6) (q := 7) rfl rfl (Whole.setRow Q9 U.h.cells)) rfl ⟨U, rfl, hU2.out, hUo2.out, HU0.out, HU1.out, below_setRow g9 (by omega) _⟩

theorem ains_any {T X : Vt} {p : Pth} {top : Nat} {w : World} (hT : T.In w top) (hXT : X.In w top) (hp : p.In w top) (ht : top ≤ w.heap.size) (hg : T.good) (hu : T.upto 48) (hsz : T.size ≤ 65536) :
    Calls Tryd.prog 11 #[.agg T.h.cells, .slice p.a p.n p.c, .agg X.h.cells] w (ResOut (T.insV p.S p.n X) top w) := by
  cases h : pathB p.S p.n with
  | false => rw [insV_bad (.inl h)]; exact ains_bad hT hXT hp ht h
  | true =>
    cases hn : p.n with
    | zero => rw [insV_bad (.inr rfl), ← hn]; exact ains_nil hT hXT hp ht h hn
    | succ m =>
      rw [insV_suc (by rw [← hn]; exact h)]
      have hso := (pathB_ok h).2 m (by omega)
      by_cases h2 : (T.atN p.S m).2 = 0
      · have hsM := Vt.size_atN hT h2
        by_cases h3 : ((T.atN p.S m).1.find (p.S m)).2 = 6
        · rw [ins_err h2 (E := 6) (by unfold Vt.last2; rw [if_pos h3]) (by decide), chkR_bad (by decide)]; have q := ains_fit hT hXT hp ht h hn h2 h3; rw [hn] at q; exact q
        · cases hix : (p.S m).ix with
          | false =>
            by_cases h0 : ((T.atN p.S m).1.find (p.S m)).2 = 0
            · rw [ins_err h2 (E := 8) (by unfold Vt.last2; rw [if_neg h3, if_neg (by rw [hix]; decide), if_pos h0]) (by decide), chkR_bad (by decide)]; have q := ains_dup hT hXT hp ht h hn h2 h0 hix; rw [hn] at q; exact q
            · have h7 : ((T.atN p.S m).1.find (p.S m)).2 = 7 := by rcases find_rng (T.atN p.S m).1 (p.S m) with q | q | q <;> omega
              have k7 := find_7 h7
              rw [hix, if_neg (by decide)] at k7
              rw [ins_more h2 h7 hix, chkR_ok]; have q := ains_more hT hXT hp ht h hn h2 h7 hix (by have := Vt.fn_le_size k7; omega); rw [hn] at q; exact q
          | true =>
            have k6 : (T.atN p.S m).1.h.k = 6 := Classical.byContradiction fun q => h3 (by rw [find_k6 hix q])
            by_cases hl : (p.S m).n ≤ ((T.atN p.S m).1.h.ln : Int)
            · rw [ins_list h2 h3 hix hl, chkR_ok]
              have q := ains_list hT hXT hp ht h hn h2 h3 hix (by unfold stepOk at hso; rw [if_pos hix] at hso; exact hso.2.1) hl (by have := Vt.ln_le_size (T := (T.atN p.S m).1) (by rw [k6]; decide); omega)
              rw [hn] at q; exact q
            · rw [ins_err h2 (E := 7) (by unfold Vt.last2; rw [if_neg h3, if_pos hix, if_neg hl]) (by decide), chkR_bad (by decide)]; have q := ains_out hT hXT hp ht h hn h2 h3 hix hl; rw [hn] at q; exact q
      · rw [Vt.chgV_atN h2, chkR_bad h2]; have q := ains_at hT hXT hp ht h hn h2; rw [hn] at q; exact q
end Go.Proofs.YtfkfboiblgoamaaDoor
