/- Laid together for a claim: VtRch. -/
import Derived.Test.YtfkfboiblgoamaaDoorQB23
import Derived.Test.YtfkfboiblgoamaaDoorQB16
import Derived.StillTailTactics
import Derived.Deep.Cut
import Derived.Deep.DeepCutAuto
/- What the reference makes of a value at a path: datakitref09.change. -/
namespace Go.Proofs.YtfkfboiblgoamaaDoor
open Go.RowKit
set_option linter.unusedSimpArgs false
set_option linter.unusedVariables false

def LastIs (how : Int) (g : Vt → Stp → Vt × Int) (X : Vt) : Prop := ∀ (T : Vt) (s : Stp) (top : Nat) (w : World), T.In w top → X.In w top → top ≤ w.heap.size → T.good → T.size ≤ 65536 → stepOk s → w64 s.n →
    Calls Tryd.prog 48 #[.agg T.h.cells, .agg s.cells, .agg X.h.cells, .int .i64 how] w (ResOut (g T s) top w)
def RchIs (how : Int) (g : Vt → Stp → Vt × Int) (X : Vt) (n : Nat) : Prop := ∀ (p : Pth) (T : Vt) (top : Nat) (w : World), p.n = n + 1 → T.In w top → X.In w top → p.In w top → top ≤ w.heap.size → T.good → T.size ≤ 65536 → (∀ i, i < p.n → stepOk (p.S i)) →
    Calls Tryd.prog 32 #[.agg T.h.cells, .slice p.a p.n p.c, .agg X.h.cells, .int .i64 how] w (ResOut (Vt.chgV g (n + 1) p.S T) top w)
theorem pth_rest {w : World} {top b o c m : Nat} {S : Nat → Stp} (h : Pth.In w top ⟨some ⟨b, o, none⟩, m + 2, c, b, o, S⟩) : Pth.In w top ⟨some ⟨b, o + 3, none⟩, m + 1, c - 1, b, o + 3, fun i => S (i + 1)⟩ := by
  obtain ⟨h1, ⟨h2, h3, h4⟩, h5⟩ := h
  dsimp only at h1 h2 h3 h4 h5
  refine ⟨fun _ => ⟨rfl, (h1 (by omega)).2⟩, ⟨?_, ?_, ?_⟩, fun i hi => ?_⟩
  · show m + 1 ≤ 1048576; omega
  · show m + 1 ≤ c - 1; omega
  · show c - 1 ≤ maxLen; omega
  · have hi' : i < m + 1 := hi
    have q := h5 (i + 1) (by omega)
    refine ⟨?_, q.2⟩
    have q1 := q.1
    rw [show o + (i + 1) * 3 = o + 3 + i * 3 by omega] at q1
    exact q1

set_option maxHeartbeats 8000000 in
set_option maxRecDepth 100000 in
theorem rch0 {how : Int} {g : Vt → Stp → Vt × Int} {X T : Vt} {top b o c : Nat} {s : Stp} {w : World} (hL : LastIs how g X) (hT : T.In w top) (hX : X.In w top) (hp : LiesAt w b o s.cells) (hbt : b < top) (ht : top ≤ w.heap.size) (hg : T.good) (hsz : T.size ≤ 65536) (hs : stepOk s) (hn : w64 s.n) (hh : w64 how) :
    Calls Tryd.prog 32 #[.agg T.h.cells, .slice (some ⟨b, o, none⟩) 1 c, .agg X.h.cells, .int .i64 how] w (ResOut (g T s) top w) := by
  have hb0 := (((Below.refl w.heap.size w).alloc (Nat.le_refl _) (.cells T.h.cells 30)).alloc (by simp) (.cells X.h.cells 30)).alloc (by simp; omega) (.cells Vh.zero.cells 30)
  have P := ((Whole.new w 30 T.h.cells).alloc (.cells X.h.cells 30)).alloc (.cells Vh.zero.cells 30)
  have XB := (Whole.new (w.alloc (.cells T.h.cells 30)) 30 X.h.cells).alloc (.cells Vh.zero.cells 30)
  rw [World.size_alloc] at XB
  have Q := Whole.new ((w.alloc (.cells T.h.cells 30)).alloc (.cells X.h.cells 30)) 30 Vh.zero.cells
  rw [World.size_alloc, World.size_alloc] at Q
  have HL := Lib.hid (fun (w1 : World) (hb : Below w.heap.size w w1) => hL T s top w1 (Vt.In.below (hb.mono ht) hT) (Vt.In.below (hb.mono ht) hX) (Nat.le_trans ht hb.size) hg hsz hs hn)
  have HP := Lib.hid (fun (w1 : World) (hb : Below w.heap.size w w1) => hp.below (hb.mono ht) hbt)
  obtain ⟨R, hR⟩ : ∃ R, g T s = R := ⟨_, rfl⟩
  rw [hR] at HL ⊢
  have h1 := hh.1
  have h2 := hh.2
  clear hR hT hX hp hg hsz hs hn hh hL
  simp only [Vh.cells, Vh.zero, Stp.cells] at hb0 P XB Q HL ⊢
  go_enter Tryd.func32, Tryd.ntmps32
  go_wp2_with fail
  refine wp_region_held_drew (S := fun W => Whole W w.heap.size 30 T.h.cells ∧ Whole W (w.heap.size + 1) 30 X.h.cells ∧ LiesAt W b o s.cells ∧ Below w.heap.size w W) (by kernel_rfl) ⟨Whole.drew P, Whole.drew XB, HP.out _ (Below.drew hb0), Below.drew hb0⟩ (fun hS => ?_)
  refine wpAnyH_take (i := 0) (v := ?v0x1) rfl (by kernel_rfl) (by kernel_rfl) (by kernel_rfl) (fun _ _ _ h => h) (Or.inl ⟨by rfl, ?hy0x1⟩) hS ?rest0x1
  case hy0x1 => (intro wS hSw; obtain ⟨Pz, -, -, -⟩ := hSw; obtain ⟨c0, c1, c2, c3, c4, c5, c6, c7, c8, c9, c10, c11, c12⟩ := Whole.c13 (h := T.h) Pz; go_simp; (try with_reducible rfl))
  case rest0x1 =>
  simp only [Act.put, List.getElem_toArray, List.getElem_cons_zero, List.getElem_cons_succ, List.setIfInBounds_toArray, List.set_cons_zero, List.set_cons_succ]
  refine wpAnyH_take (i := 1) (v := ?v1x2) rfl (by kernel_rfl) (by kernel_rfl) (by kernel_rfl) (fun _ _ _ h => h) (Or.inl ⟨by rfl, ?hy1x2⟩) hS ?rest1x2
  case hy1x2 => (intro wS hSw; go_simp; (try with_reducible rfl))
  case rest1x2 =>
  simp only [Act.put, List.getElem_toArray, List.getElem_cons_zero, List.getElem_cons_succ, List.setIfInBounds_toArray, List.set_cons_zero, List.set_cons_succ]
  refine wpAnyH_take (i := 2) (v := ?v2x3) rfl (by kernel_rfl) (by kernel_rfl) (by kernel_rfl) (fun _ _ _ h => h) (Or.inl ⟨by rfl, ?hy2x3⟩) hS ?rest2x3
  case hy2x3 => (intro wS hSw; go_simp; (try with_reducible rfl))
  case rest2x3 =>
  simp only [Act.put, List.getElem_toArray, List.getElem_cons_zero, List.getElem_cons_succ, List.setIfInBounds_toArray, List.set_cons_zero, List.set_cons_succ]
  refine wpAnyH_take (i := 3) (v := ?v3x4) rfl (by kernel_rfl) (by kernel_rfl) (by kernel_rfl) (fun _ _ _ h => h) (Or.inl ⟨by rfl, ?hy3x4⟩) hS ?rest3x4
  case hy3x4 => (intro wS hSw; obtain ⟨-, -, Pz, -⟩ := hSw; obtain ⟨s0, s1, s2⟩ := Pz.s3; go_simp; (try with_reducible rfl))
  case rest3x4 =>
  simp only [Act.put, List.getElem_toArray, List.getElem_cons_zero, List.getElem_cons_succ, List.setIfInBounds_toArray, List.set_cons_zero, List.set_cons_succ]
  refine wpAnyH_take (i := 4) (v := ?v4x5) rfl (by kernel_rfl) (by kernel_rfl) (by kernel_rfl) (fun _ _ _ h => h) (Or.inl ⟨by rfl, ?hy4x5⟩) hS ?rest4x5
  case hy4x5 => (intro wS hSw; obtain ⟨-, Pz, -, -⟩ := hSw; obtain ⟨x0, x1, x2, x3, x4, x5, x6, x7, x8, x9, x10, x11, x12⟩ := Whole.c13 (h := X.h) Pz; go_simp; (try with_reducible rfl))
  case rest4x5 =>
  simp only [Act.put, List.getElem_toArray, List.getElem_cons_zero, List.getElem_cons_succ, List.setIfInBounds_toArray, List.set_cons_zero, List.set_cons_succ]
  refine wpAnyH_take (i := 5) (v := ?v5x6) rfl (by kernel_rfl) (by kernel_rfl) (by kernel_rfl) (fun _ _ _ h => h) (Or.inl ⟨by rfl, ?hy5x6⟩) hS ?rest5x6
  case hy5x6 => (intro wS hSw; go_simp; (try with_reducible rfl))
  case rest5x6 =>
  simp only [Act.put, List.getElem_toArray, List.getElem_cons_zero, List.getElem_cons_succ, List.setIfInBounds_toArray, List.set_cons_zero, List.set_cons_succ]
  refine wpAnyH_ready (rs := [6]) (by kernel_rfl) (by simp) ?_
  refine AllReadyH.cons rfl (fun KK hK => ?_) AllReadyH.nil
  go_simp
  go_at_call 48
  have g1 := Below.drew hb0
  have Q1 := Whole.drew Q
  have P1 := Whole.drew P
  have XB1 := Whole.drew XB
  refine (HL.out _ g1).mono ?_
  rintro _ w2 ⟨Z, rfl, hZ, hZo, hZ0, hZ1, hb2⟩
  have g2 := below_then g1 hb2
  have hw1 := g1.size
  have hQ1 := Q1.lt
  have Q2 := Whole.below Q1 hb2 Q1.lt
  have P2 := Whole.below P1 hb2 P1.lt
  have XB2 := Whole.below XB1 hb2 XB1.lt
  have hZ2 := Lib.hid (hZ.stays hZo (W' := w2.setRow (w.heap.size + 2) Z.h.cells) (fun b hb => setRow_other _ _ _ _ (by omega)) (by rw [size_setRow]; exact Nat.le_refl _))
  have hZo2 : Hid (Z.Off (fun b => b < top ∨ w.heap.size ≤ b)) := Lib.hid (hZo.mono fun b hb => by omega)
  have HZ0 := Lib.hid hZ0
  have HZ1 := Lib.hid hZ1
  clear hZ hZo hZ0 hZ1 hb2 g1 hb0 P XB Q P1 XB1 Q1 HL hQ1 hS
  refine hK.out _ _ ⟨P2, XB2, HP.out _ g2, g2⟩ (fun hS => ?_)
  clear hK KK
  try simp only [Act.put, List.getElem_toArray, List.getElem_cons_zero, List.getElem_cons_succ, List.setIfInBounds_toArray, List.set_cons_zero, List.set_cons_succ]
  refine wpAnyH_take (i := 7) (v := ?v7x7) rfl (by kernel_rfl) (by kernel_rfl) (by kernel_rfl) (fun _ _ _ h => h) (Or.inl ⟨by rfl, ?hy7x7⟩) hS ?rest7x7
  case hy7x7 => (intro wS hSw; go_simp; (try with_reducible rfl))
  case rest7x7 =>
  simp only [Act.put, List.getElem_toArray, List.getElem_cons_zero, List.getElem_cons_succ, List.setIfInBounds_toArray, List.set_cons_zero, List.set_cons_succ]
  refine wpAnyH_take (i := 8) (v := ?v8x8) rfl (by kernel_rfl) (by kernel_rfl) (by kernel_rfl) (fun _ _ _ h => h) (Or.inl ⟨by rfl, ?hy8x8⟩) hS ?rest8x8
  case hy8x8 => (intro wS hSw; go_simp; (try with_reducible rfl))
  case rest8x8 =>
  simp only [Act.put, List.getElem_toArray, List.getElem_cons_zero, List.getElem_cons_succ, List.setIfInBounds_toArray, List.set_cons_zero, List.set_cons_succ]
  refine wpAnyH_ready (rs := [9]) (by kernel_rfl) (by simp) ?_
  refine AllReadyH.cons rfl (fun KK hK => ?_) AllReadyH.nil
  rw [if_pos (by rfl)]
  refine wp_store_row 30 _ _ rfl (w.heap.size + 2) Z.h.cells rfl rfl 30 _ Q2 vh_row rfl (vh_all Z.h) ?_
  clear hS
  have g3 := below_setRow g2 (show w.heap.size ≤ w.heap.size + 2 by omega) Z.h.cells
  have Q3 := Whole.setRow Q2 Z.h.cells
  refine hK.out _ _ ⟨P2.farRow (by omega) _, XB2.farRow (by omega) _, HP.out _ g3, g3⟩ (fun hS => ?_)
  clear hK KK
  try simp only [Act.put, List.getElem_toArray, List.getElem_cons_zero, List.getElem_cons_succ, List.setIfInBounds_toArray, List.set_cons_zero, List.set_cons_succ]
  refine wpAnyH_ready (rs := [10]) (by kernel_rfl) (by simp) ?_
  refine AllReadyH.cons rfl (fun KK hK => ?_) AllReadyH.nil
  go_simp
  refine hK.out _ _ hS (fun hS2 => ?_)
  clear hK KK
  try simp only [Act.put, List.getElem_toArray, List.getElem_cons_zero, List.getElem_cons_succ, List.setIfInBounds_toArray, List.set_cons_zero, List.set_cons_succ]
  refine wpAnyH_done (by kernel_rfl) ?_ _
  clear hS hS2 P2 XB2 Q2 HP
  go_wp2_with fail
  exact bodyPost_ret (v := .tuple #[.agg Z.h.cells, .int .i64 R.2]) (ret_val2 (p := 8) (q := 9) rfl rfl Q3) rfl ⟨Z, rfl, hZ2.out, hZo2.out, HZ0.out, HZ1.out, g3⟩

set_option maxHeartbeats 8000000 in
set_option maxRecDepth 100000 in
theorem rchA {how : Int} {g : Vt → Stp → Vt × Int} {X T : Vt} {top b o c m : Nat} {S : Nat → Stp} {w : World} (ih : RchIs how g X m) (hm : m + 2 ≤ 1048576) (hT : T.In w top) (hX : X.In w top) (hP : Pth.In w top ⟨some ⟨b, o, none⟩, m + 2, c, b, o, S⟩) (ht : top ≤ w.heap.size) (hg : T.good) (hsz : T.size ≤ 65536) (hs : ∀ i, i < m + 2 → stepOk (S i)) (hh : w64 how) (h0 : (T.find (S 0)).2 ≠ 0) :
    Calls Tryd.prog 32 #[.agg T.h.cells, .slice (some ⟨b, o, none⟩) (m + 2 : Nat) c, .agg X.h.cells, .int .i64 how] w (ResOut ((.z, (T.find (S 0)).2)) top w) := by
  have hb0 := (((Below.refl w.heap.size w).alloc (Nat.le_refl _) (.cells T.h.cells 30)).alloc (by simp) (.cells X.h.cells 30)).alloc (by simp; omega) (.cells Vh.zero.cells 30)
  have P := ((Whole.new w 30 T.h.cells).alloc (.cells X.h.cells 30)).alloc (.cells Vh.zero.cells 30)
  have XB := (Whole.new (w.alloc (.cells T.h.cells 30)) 30 X.h.cells).alloc (.cells Vh.zero.cells 30)
  rw [World.size_alloc] at XB
  have Q := Whole.new ((w.alloc (.cells T.h.cells 30)).alloc (.cells X.h.cells 30)) 30 Vh.zero.cells
  rw [World.size_alloc, World.size_alloc] at Q
  have hbt : b < top := (hP.1 (Nat.succ_pos _)).2
  have hn : w64 (S 0).n := (hP.2.2 0 (Nat.succ_pos _)).2.n
  have hcap : m + 2 ≤ c := hP.2.1.2.1
  have HP := Lib.hid (fun (w1 : World) (hb : Below w.heap.size w w1) => (by have q := ((hP.2.2 0 (Nat.succ_pos _)).1).below (hb.mono ht) hbt; simpa using q : LiesAt w1 b o (S 0).cells))
  have HF := Lib.hid (fun (w1 : World) (hb : Below w.heap.size w w1) => rfind_any (T := T) (s := S 0) (Vt.In.below (hb.mono ht) hT) (Nat.le_trans ht hb.size) hn)
  have HE : Hid (∀ w', Below w.heap.size w w' → ResOut ((.z, (T.find (S 0)).2) : Vt × Int) top w (.returned (.tuple #[.agg Vh.zero.cells, .int .i64 (T.find (S 0)).2])) w') := Lib.hid fun w' hb => res_of (X := .z) rfl (Vt.z_in _ _) (Vt.z_off _) (fun h => absurd h h0) (fun _ => rfl) hb
  have z0 : ((T.find (S 0)).2 == 0) = false := beq_eq_false_iff_ne.2 h0
  have z1 : ((T.find (S 0)).2 != 0) = true := bne_iff_ne.2 h0
  generalize (T.find (S 0)).2 = f2 at *
  generalize (T.find (S 0)).1 = f1 at *
  have n1 : (((m + 2 : Nat) : Int) == 1) = false := beq_eq_false_iff_ne.2 (by omega)
  have n2 : ((m : Int) + 2 == 1) = false := beq_eq_false_iff_ne.2 (by omega)
  have n3 : (m + 2 == 1) = false := beq_eq_false_iff_ne.2 (by omega)
  have n4 : (0 : Int) < ((m + 2 : Nat) : Int) := by omega
  have n5 : (0 : Int) < (m : Int) + 2 := by omega
  have h1 := hh.1
  have hh2 := hh.2
  clear hT hX hP hg hsz hs hn hh ih
  simp only [Vh.cells, Vh.zero, Stp.cells] at hb0 P XB Q HF ⊢
  go_enter Tryd.func32, Tryd.ntmps32
  go_wp2_with fail
  refine wp_region_held_drew (S := fun W => Whole W w.heap.size 30 T.h.cells ∧ Whole W (w.heap.size + 1) 30 X.h.cells ∧ LiesAt W b o (S 0).cells ∧ Below w.heap.size w W) (by kernel_rfl) ⟨Whole.drew P, Whole.drew XB, HP.out _ (Below.drew hb0), Below.drew hb0⟩ (fun hS => ?_)
  refine wpAnyH_take (i := 0) (v := ?v0x9) rfl (by kernel_rfl) (by kernel_rfl) (by kernel_rfl) (fun _ _ _ h => h) (Or.inl ⟨by rfl, ?hy0x9⟩) hS ?rest0x9
  case hy0x9 => (intro wS hSw; obtain ⟨Pz, -, -, -⟩ := hSw; obtain ⟨c0, c1, c2, c3, c4, c5, c6, c7, c8, c9, c10, c11, c12⟩ := Whole.c13 (h := T.h) Pz; go_simp; (try with_reducible rfl))
  case rest0x9 =>
  simp only [Act.put, List.getElem_toArray, List.getElem_cons_zero, List.getElem_cons_succ, List.setIfInBounds_toArray, List.set_cons_zero, List.set_cons_succ]
  refine wpAnyH_take (i := 1) (v := ?v1x10) rfl (by kernel_rfl) (by kernel_rfl) (by kernel_rfl) (fun _ _ _ h => h) (Or.inl ⟨by rfl, ?hy1x10⟩) hS ?rest1x10
  case hy1x10 => (intro wS hSw; go_simp; (try with_reducible rfl))
  case rest1x10 =>
  simp only [Act.put, List.getElem_toArray, List.getElem_cons_zero, List.getElem_cons_succ, List.setIfInBounds_toArray, List.set_cons_zero, List.set_cons_succ]
  refine wpAnyH_take (i := 2) (v := ?v2x11) rfl (by kernel_rfl) (by kernel_rfl) (by kernel_rfl) (fun _ _ _ h => h) (Or.inl ⟨by rfl, ?hy2x11⟩) hS ?rest2x11
  case hy2x11 => (intro wS hSw; go_simp; (try with_reducible rfl))
  case rest2x11 =>
  simp only [Act.put, List.getElem_toArray, List.getElem_cons_zero, List.getElem_cons_succ, List.setIfInBounds_toArray, List.set_cons_zero, List.set_cons_succ]
  refine wpAnyH_take (i := 3) (v := ?v3x12) rfl (by kernel_rfl) (by kernel_rfl) (by kernel_rfl) (fun _ _ _ h => h) (Or.inl ⟨by rfl, ?hy3x12⟩) hS ?rest3x12
  case hy3x12 => (intro wS hSw; obtain ⟨-, -, Pz, -⟩ := hSw; obtain ⟨s0, s1, s2⟩ := Pz.s3; go_simp; (try with_reducible rfl))
  case rest3x12 =>
  simp only [Act.put, List.getElem_toArray, List.getElem_cons_zero, List.getElem_cons_succ, List.setIfInBounds_toArray, List.set_cons_zero, List.set_cons_succ]
  refine wpAnyH_ready (rs := [4]) (by kernel_rfl) (by simp) ?_
  refine AllReadyH.cons rfl (fun KK hK => ?_) AllReadyH.nil
  go_simp
  go_at_call 39
  have g1 := Below.drew hb0
  have Q1 := Whole.drew Q
  have P1 := Whole.drew P
  have XB1 := Whole.drew XB
  refine (HF.out _ g1).mono ?_
  rintro _ w2 ⟨rfl, hb2⟩
  have g2 := below_then g1 hb2
  have Q2 := Whole.below Q1 hb2 Q1.lt
  have P2 := Whole.below P1 hb2 P1.lt
  have XB2 := Whole.below XB1 hb2 XB1.lt
  clear hb2 g1 hb0 P XB Q P1 XB1 Q1 HF hS
  refine hK.out _ _ ⟨P2, XB2, HP.out _ g2, g2⟩ (fun hS => ?_)
  clear hK KK
  try simp only [Act.put, List.getElem_toArray, List.getElem_cons_zero, List.getElem_cons_succ, List.setIfInBounds_toArray, List.set_cons_zero, List.set_cons_succ]
  refine wpAnyH_take (i := 5) (v := ?v5x13) rfl (by kernel_rfl) (by kernel_rfl) (by kernel_rfl) (fun _ _ _ h => h) (Or.inl ⟨by rfl, ?hy5x13⟩) hS ?rest5x13
  case hy5x13 => (intro wS hSw; go_simp; (try with_reducible rfl))
  case rest5x13 =>
  simp only [Act.put, List.getElem_toArray, List.getElem_cons_zero, List.getElem_cons_succ, List.setIfInBounds_toArray, List.set_cons_zero, List.set_cons_succ]
  refine wpAnyH_take (i := 6) (v := ?v6x14) rfl (by kernel_rfl) (by kernel_rfl) (by kernel_rfl) (fun _ _ _ h => h) (Or.inl ⟨by rfl, ?hy6x14⟩) hS ?rest6x14
  case hy6x14 => (intro wS hSw; go_simp; (try with_reducible rfl))
  case rest6x14 =>
  simp only [Act.put, List.getElem_toArray, List.getElem_cons_zero, List.getElem_cons_succ, List.setIfInBounds_toArray, List.set_cons_zero, List.set_cons_succ]
  refine wpAnyH_take (i := 7) (v := ?v7x15) rfl (by kernel_rfl) (by kernel_rfl) (by kernel_rfl) (fun _ _ _ h => h) (Or.inl ⟨by rfl, ?hy7x15⟩) hS ?rest7x15
  case hy7x15 => (intro wS hSw; go_simp; (try with_reducible rfl))
  case rest7x15 =>
  simp only [Act.put, List.getElem_toArray, List.getElem_cons_zero, List.getElem_cons_succ, List.setIfInBounds_toArray, List.set_cons_zero, List.set_cons_succ]
  refine wpAnyH_ready (rs := [8]) (by kernel_rfl) (by simp) ?_
  refine AllReadyH.cons rfl (fun KK hK => ?_) AllReadyH.nil
  go_simp
  refine hK.out _ _ hS (fun hS2 => ?_)
  clear hK KK
  try simp only [Act.put, List.getElem_toArray, List.getElem_cons_zero, List.getElem_cons_succ, List.setIfInBounds_toArray, List.set_cons_zero, List.set_cons_succ]
  refine wpAnyH_ready (rs := [9]) (by kernel_rfl) (by simp) ?_
  refine AllReadyH.cons rfl (fun KK hK => ?_) AllReadyH.nil
  go_simp
  refine hK.out _ _ hS2 (fun hS3 => ?_)
  clear hK KK
  try simp only [Act.put, List.getElem_toArray, List.getElem_cons_zero, List.getElem_cons_succ, List.setIfInBounds_toArray, List.set_cons_zero, List.set_cons_succ]
  refine wpAnyH_done (by kernel_rfl) ?_ _
  clear hS hS2 hS3 HP
  have hone := Lib.hid (vh_all Vh.zero)
  go_wp2_with (refine wpList_store_row rfl 30 _ _ rfl (w.heap.size + 2) Vh.zero.cells rfl rfl 30 _ Q2 vh_row rfl hone.out ?_)
  exact bodyPost_ret (v := .tuple #[.agg Vh.zero.cells, .int .i64 f2]) (ret_val2 (p := 8) (q := 9) rfl rfl (Whole.setRow Q2 Vh.zero.cells)) rfl (HE.out _ (below_setRow g2 (by omega) _))


set_option maxHeartbeats 8000000 in
set_option maxRecDepth 100000 in
theorem rchB {how : Int} {g : Vt → Stp → Vt × Int} {X T : Vt} {top b o c m : Nat} {S : Nat → Stp} {w : World} (ih : RchIs how g X m) (hm : m + 2 ≤ 1048576) (hT : T.In w top) (hX : X.In w top) (hP : Pth.In w top ⟨some ⟨b, o, none⟩, m + 2, c, b, o, S⟩) (ht : top ≤ w.heap.size) (hg : T.good) (hsz : T.size ≤ 65536) (hs : ∀ i, i < m + 2 → stepOk (S i)) (hh : w64 how) (h0 : (T.find (S 0)).2 = 0) (h2 : (Vt.chgV g (m + 1) (fun i => S (i + 1)) (T.part (T.find (S 0)).1.toNat)).2 ≠ 0) :
    Calls Tryd.prog 32 #[.agg T.h.cells, .slice (some ⟨b, o, none⟩) (m + 2 : Nat) c, .agg X.h.cells, .int .i64 how] w (ResOut ((.z, (Vt.chgV g (m + 1) (fun i => S (i + 1)) (T.part (T.find (S 0)).1.toNat)).2)) top w) := by
  have hb0 := (((Below.refl w.heap.size w).alloc (Nat.le_refl _) (.cells T.h.cells 30)).alloc (by simp) (.cells X.h.cells 30)).alloc (by simp; omega) (.cells Vh.zero.cells 30)
  have P := ((Whole.new w 30 T.h.cells).alloc (.cells X.h.cells 30)).alloc (.cells Vh.zero.cells 30)
  have XB := (Whole.new (w.alloc (.cells T.h.cells 30)) 30 X.h.cells).alloc (.cells Vh.zero.cells 30)
  rw [World.size_alloc] at XB
  have Q := Whole.new ((w.alloc (.cells T.h.cells 30)).alloc (.cells X.h.cells 30)) 30 Vh.zero.cells
  rw [World.size_alloc, World.size_alloc] at Q
  have hbt : b < top := (hP.1 (Nat.succ_pos _)).2
  have hn : w64 (S 0).n := (hP.2.2 0 (Nat.succ_pos _)).2.n
  have hcap : m + 2 ≤ c := hP.2.1.2.1
  have HP := Lib.hid (fun (w1 : World) (hb : Below w.heap.size w w1) => (by have q := ((hP.2.2 0 (Nat.succ_pos _)).1).below (hb.mono ht) hbt; simpa using q : LiesAt w1 b o (S 0).cells))
  have HF := Lib.hid (fun (w1 : World) (hb : Below w.heap.size w w1) => rfind_any (T := T) (s := S 0) (Vt.In.below (hb.mono ht) hT) (Nat.le_trans ht hb.size) hn)
  have HPa := Lib.hid (fun (w1 : World) (hb : Below w.heap.size w w1) => part_any (T := T) (s := S 0) (Vt.In.below (hb.mono ht) hT) (Nat.le_trans ht hb.size) h0)
  have HRec := Lib.hid (fun (w1 : World) (hb : Below w.heap.size w w1) => ih ⟨some ⟨b, o + 3, none⟩, m + 1, c - 1, b, o + 3, fun i => S (i + 1)⟩ (T.part (T.find (S 0)).1.toNat) top w1 rfl (Vt.In.below (hb.mono ht) (hT.part h0)) (Vt.In.below (hb.mono ht) hX) (Pth.In.below (pth_rest hP) (hb.mono ht)) (Nat.le_trans ht hb.size) (Vt.good_part hg h0) (Nat.le_trans (Vt.size_part (by rintro rfl; exact hT.elim) h0) hsz) (fun i hi => hs (i + 1) (by have : i < m + 1 := hi; omega)))
  obtain ⟨V, hV⟩ : ∃ V, Vt.chgV g (m + 1) (fun i => S (i + 1)) (T.part (T.find (S 0)).1.toNat) = V := ⟨_, rfl⟩
  rw [hV] at HRec h2 ⊢
  clear hV
  rw [h0] at HF
  generalize T.part (T.find (S 0)).1.toNat = U at *
  have HE : Hid (∀ w', Below w.heap.size w w' → ResOut ((.z, V.2) : Vt × Int) top w (.returned (.tuple #[.agg Vh.zero.cells, .int .i64 V.2])) w') := Lib.hid fun w' hb => res_of (X := .z) rfl (Vt.z_in _ _) (Vt.z_off _) (fun h => absurd h h2) (fun _ => rfl) hb
  obtain ⟨V1, V2⟩ := V
  dsimp only at HE HRec h2
  have z0 : (V2 == 0) = false := beq_eq_false_iff_ne.2 h2
  have z1 : (V2 != 0) = true := bne_iff_ne.2 h2
  generalize (T.find (S 0)).1 = f1 at *
  have n1 : (((m + 2 : Nat) : Int) == 1) = false := beq_eq_false_iff_ne.2 (by omega)
  have n2 : ((m : Int) + 2 == 1) = false := beq_eq_false_iff_ne.2 (by omega)
  have n3 : (m + 2 == 1) = false := beq_eq_false_iff_ne.2 (by omega)
  have n4 : (0 : Int) < ((m + 2 : Nat) : Int) := by omega
  have n5 : (0 : Int) < (m : Int) + 2 := by omega
  obtain ⟨a1, ha1, hsl⟩ := slice_rest (b := b) (o := o) (m := m + 1) (c := c) hcap (by omega)
  obtain rfl : a1 = ⟨b, o + 3, none⟩ := by rcases ha1 with h | h; exact h; omega
  have n6 : (1 : Int) ≤ ((m + 2 : Nat) : Int) := by omega
  have n7 : (1 : Int) ≤ (m : Int) + 2 := by omega
  have n8 : m + 1 + 1 = m + 2 := rfl
  clear ha1 n8
  have h1 := hh.1
  have hh2 := hh.2
  clear hT hX hP hg hsz hs hn hh ih
  simp only [Vh.cells, Vh.zero, Stp.cells] at hb0 P XB Q HF ⊢
  go_enter Tryd.func32, Tryd.ntmps32
  go_wp2_with fail
  refine wp_region_held_drew (S := fun W => Whole W w.heap.size 30 T.h.cells ∧ Whole W (w.heap.size + 1) 30 X.h.cells ∧ LiesAt W b o (S 0).cells ∧ Below w.heap.size w W) (by kernel_rfl) ⟨Whole.drew P, Whole.drew XB, HP.out _ (Below.drew hb0), Below.drew hb0⟩ (fun hS => ?_)
  refine wpAnyH_take (i := 0) (v := ?v0x16) rfl (by kernel_rfl) (by kernel_rfl) (by kernel_rfl) (fun _ _ _ h => h) (Or.inl ⟨by rfl, ?hy0x16⟩) hS ?rest0x16
  case hy0x16 => (intro wS hSw; obtain ⟨Pz, -, -, -⟩ := hSw; obtain ⟨c0, c1, c2, c3, c4, c5, c6, c7, c8, c9, c10, c11, c12⟩ := Whole.c13 (h := T.h) Pz; go_simp; (try with_reducible rfl))
  case rest0x16 =>
  simp only [Act.put, List.getElem_toArray, List.getElem_cons_zero, List.getElem_cons_succ, List.setIfInBounds_toArray, List.set_cons_zero, List.set_cons_succ]
  refine wpAnyH_take (i := 1) (v := ?v1x17) rfl (by kernel_rfl) (by kernel_rfl) (by kernel_rfl) (fun _ _ _ h => h) (Or.inl ⟨by rfl, ?hy1x17⟩) hS ?rest1x17
  case hy1x17 => (intro wS hSw; go_simp; (try with_reducible rfl))
  case rest1x17 =>
  simp only [Act.put, List.getElem_toArray, List.getElem_cons_zero, List.getElem_cons_succ, List.setIfInBounds_toArray, List.set_cons_zero, List.set_cons_succ]
  refine wpAnyH_take (i := 2) (v := ?v2x18) rfl (by kernel_rfl) (by kernel_rfl) (by kernel_rfl) (fun _ _ _ h => h) (Or.inl ⟨by rfl, ?hy2x18⟩) hS ?rest2x18
  case hy2x18 => (intro wS hSw; go_simp; (try with_reducible rfl))
  case rest2x18 =>
  simp only [Act.put, List.getElem_toArray, List.getElem_cons_zero, List.getElem_cons_succ, List.setIfInBounds_toArray, List.set_cons_zero, List.set_cons_succ]
  refine wpAnyH_take (i := 3) (v := ?v3x19) rfl (by kernel_rfl) (by kernel_rfl) (by kernel_rfl) (fun _ _ _ h => h) (Or.inl ⟨by rfl, ?hy3x19⟩) hS ?rest3x19
  case hy3x19 => (intro wS hSw; obtain ⟨-, -, Pz, -⟩ := hSw; obtain ⟨s0, s1, s2⟩ := Pz.s3; go_simp; (try with_reducible rfl))
  case rest3x19 =>
  simp only [Act.put, List.getElem_toArray, List.getElem_cons_zero, List.getElem_cons_succ, List.setIfInBounds_toArray, List.set_cons_zero, List.set_cons_succ]
  refine wpAnyH_ready (rs := [4]) (by kernel_rfl) (by simp) ?_
  refine AllReadyH.cons rfl (fun KK hK => ?_) AllReadyH.nil
  go_simp
  go_at_call 39
  have g1 := Below.drew hb0
  have Q1 := Whole.drew Q
  have P1 := Whole.drew P
  have XB1 := Whole.drew XB
  refine (HF.out _ g1).mono ?_
  rintro _ w2 ⟨rfl, hb2⟩
  have g2 := below_then g1 hb2
  have Q2 := Whole.below Q1 hb2 Q1.lt
  have P2 := Whole.below P1 hb2 P1.lt
  have XB2 := Whole.below XB1 hb2 XB1.lt
  clear hb2 g1 hb0 P XB Q P1 XB1 Q1 HF hS
  refine hK.out _ _ ⟨P2, XB2, HP.out _ g2, g2⟩ (fun hS => ?_)
  clear hK KK
  try simp only [Act.put, List.getElem_toArray, List.getElem_cons_zero, List.getElem_cons_succ, List.setIfInBounds_toArray, List.set_cons_zero, List.set_cons_succ]
  refine wpAnyH_take (i := 5) (v := ?v5x20) rfl (by kernel_rfl) (by kernel_rfl) (by kernel_rfl) (fun _ _ _ h => h) (Or.inl ⟨by rfl, ?hy5x20⟩) hS ?rest5x20
  case hy5x20 => (intro wS hSw; go_simp; (try with_reducible rfl))
  case rest5x20 =>
  simp only [Act.put, List.getElem_toArray, List.getElem_cons_zero, List.getElem_cons_succ, List.setIfInBounds_toArray, List.set_cons_zero, List.set_cons_succ]
  refine wpAnyH_take (i := 6) (v := ?v6x21) rfl (by kernel_rfl) (by kernel_rfl) (by kernel_rfl) (fun _ _ _ h => h) (Or.inl ⟨by rfl, ?hy6x21⟩) hS ?rest6x21
  case hy6x21 => (intro wS hSw; go_simp; (try with_reducible rfl))
  case rest6x21 =>
  simp only [Act.put, List.getElem_toArray, List.getElem_cons_zero, List.getElem_cons_succ, List.setIfInBounds_toArray, List.set_cons_zero, List.set_cons_succ]
  refine wpAnyH_take (i := 7) (v := ?v7x22) rfl (by kernel_rfl) (by kernel_rfl) (by kernel_rfl) (fun _ _ _ h => h) (Or.inl ⟨by rfl, ?hy7x22⟩) hS ?rest7x22
  case hy7x22 => (intro wS hSw; go_simp; (try with_reducible rfl))
  case rest7x22 =>
  simp only [Act.put, List.getElem_toArray, List.getElem_cons_zero, List.getElem_cons_succ, List.setIfInBounds_toArray, List.set_cons_zero, List.set_cons_succ]
  refine wpAnyH_ready (rs := [8]) (by kernel_rfl) (by simp) ?_
  refine AllReadyH.cons rfl (fun KK hK => ?_) AllReadyH.nil
  go_simp
  refine hK.out _ _ hS (fun hS2 => ?_)
  clear hK KK
  try simp only [Act.put, List.getElem_toArray, List.getElem_cons_zero, List.getElem_cons_succ, List.setIfInBounds_toArray, List.set_cons_zero, List.set_cons_succ]
  refine wpAnyH_ready (rs := [9]) (by kernel_rfl) (by simp) ?_
  refine AllReadyH.cons rfl (fun KK hK => ?_) AllReadyH.nil
  go_simp
  refine hK.out _ _ hS2 (fun hS3 => ?_)
  clear hK KK
  try simp only [Act.put, List.getElem_toArray, List.getElem_cons_zero, List.getElem_cons_succ, List.setIfInBounds_toArray, List.set_cons_zero, List.set_cons_succ]
  refine wpAnyH_done (by kernel_rfl) ?_ _
  clear hS hS2 hS3 HP
  go_wp2_with fail
  refine wp_region_held_drew (S := fun W => Whole W w.heap.size 30 T.h.cells ∧ Whole W (w.heap.size + 1) 30 X.h.cells ∧ Below w.heap.size w W) (by kernel_rfl) ⟨Whole.drew P2, Whole.drew XB2, Below.drew g2⟩ (fun hS => ?_)
  refine wpAnyH_take (i := 0) (v := ?v0x23) rfl (by kernel_rfl) (by kernel_rfl) (by kernel_rfl) (fun _ _ _ h => h) (Or.inl ⟨by rfl, ?hy0x23⟩) hS ?rest0x23
  case hy0x23 => (intro wS hSw; obtain ⟨Pz, -, -⟩ := hSw; obtain ⟨c0, c1, c2, c3, c4, c5, c6, c7, c8, c9, c10, c11, c12⟩ := Whole.c13 (h := T.h) Pz; go_simp; (try with_reducible rfl))
  case rest0x23 =>
  simp only [Act.put, List.getElem_toArray, List.getElem_cons_zero, List.getElem_cons_succ, List.setIfInBounds_toArray, List.set_cons_zero, List.set_cons_succ]
  refine wpAnyH_take (i := 1) (v := ?v1x24) rfl (by kernel_rfl) (by kernel_rfl) (by kernel_rfl) (fun _ _ _ h => h) (Or.inl ⟨by rfl, ?hy1x24⟩) hS ?rest1x24
  case hy1x24 => (intro wS hSw; go_simp; (try with_reducible rfl))
  case rest1x24 =>
  simp only [Act.put, List.getElem_toArray, List.getElem_cons_zero, List.getElem_cons_succ, List.setIfInBounds_toArray, List.set_cons_zero, List.set_cons_succ]
  refine wpAnyH_take (i := 3) (v := ?v3x25) rfl (by kernel_rfl) (by kernel_rfl) (by kernel_rfl) (fun _ _ _ h => h) (Or.inl ⟨by rfl, ?hy3x25⟩) hS ?rest3x25
  case hy3x25 => (intro wS hSw; go_simp; (try with_reducible rfl))
  case rest3x25 =>
  simp only [Act.put, List.getElem_toArray, List.getElem_cons_zero, List.getElem_cons_succ, List.setIfInBounds_toArray, List.set_cons_zero, List.set_cons_succ]
  refine wpAnyH_take (i := 4) (v := ?v4x26) rfl (by kernel_rfl) (by kernel_rfl) (by kernel_rfl) (fun _ _ _ h => h) (Or.inl ⟨by rfl, ?hy4x26⟩) hS ?rest4x26
  case hy4x26 => (intro wS hSw; go_simp; (try with_reducible rfl))
  case rest4x26 =>
  simp only [Act.put, List.getElem_toArray, List.getElem_cons_zero, List.getElem_cons_succ, List.setIfInBounds_toArray, List.set_cons_zero, List.set_cons_succ]
  refine wpAnyH_take (i := 5) (v := ?v5x27) rfl (by kernel_rfl) (by kernel_rfl) (by kernel_rfl) (fun _ _ _ h => h) (Or.inl ⟨by rfl, ?hy5x27⟩) hS ?rest5x27
  case hy5x27 => (intro wS hSw; obtain ⟨-, Pz, -⟩ := hSw; obtain ⟨x0, x1, x2, x3, x4, x5, x6, x7, x8, x9, x10, x11, x12⟩ := Whole.c13 (h := X.h) Pz; go_simp; (try with_reducible rfl))
  case rest5x27 =>
  simp only [Act.put, List.getElem_toArray, List.getElem_cons_zero, List.getElem_cons_succ, List.setIfInBounds_toArray, List.set_cons_zero, List.set_cons_succ]
  refine wpAnyH_take (i := 6) (v := ?v6x28) rfl (by kernel_rfl) (by kernel_rfl) (by kernel_rfl) (fun _ _ _ h => h) (Or.inl ⟨by rfl, ?hy6x28⟩) hS ?rest6x28
  case hy6x28 => (intro wS hSw; go_simp; (try with_reducible rfl))
  case rest6x28 =>
  simp only [Act.put, List.getElem_toArray, List.getElem_cons_zero, List.getElem_cons_succ, List.setIfInBounds_toArray, List.set_cons_zero, List.set_cons_succ]
  have g3 := Below.drew g2
  have Q3 := Whole.drew Q2
  have P3 := Whole.drew P2
  have XB3 := Whole.drew XB2
  clear g2 Q2 P2 XB2 hsl
  have hq3 := Q3.lt
  generalize w2.drew = w3 at *
  refine wpAnyH_ready (rs := [2, 11]) (by kernel_rfl) (by simp) ?_
  refine AllReadyH.cons rfl (fun KK hK => ?_) (AllReadyH.cons rfl (fun KK hK => ?_) AllReadyH.nil)
  · go_simp
    go_at_call 40
    refine (HPa.out _ g3).mono ?_
    rintro _ w4 ⟨rfl, hb⟩
    have g4 := below_then g3 hb
    have hz4 := Below.size hb
    have Q4 := Whole.below Q3 hb (Whole.lt Q3)
    have P4 := Whole.below P3 hb (Whole.lt P3)
    have XB4 := Whole.below XB3 hb (Whole.lt XB3)
    clear hb
    refine hK.out _ _ ⟨P4, XB4, g4⟩ (fun hS4 => ?_)
    clear hK KK
    try simp only [Act.put, List.getElem_toArray, List.getElem_cons_zero, List.getElem_cons_succ, List.setIfInBounds_toArray, List.set_cons_zero, List.set_cons_succ]
    refine wpAnyH_ready (rs := [7, 11]) (by kernel_rfl) (by simp) ?_
    refine AllReadyH.cons rfl (fun KK hK => ?_) (AllReadyH.cons rfl (fun KK hK => ?_) AllReadyH.nil)
    · go_simp
      go_at_call 32
      have hwc := Q4.lt
      refine (HRec.out _ g4).mono ?_
      rintro _ w5 ⟨Z, rfl, hZ, hZo, hZ0, hZ1, hb⟩
      have g5 := below_then g4 hb
      have hz5 := Below.size hb
      have Q5 := Whole.below Q4 hb (Whole.lt Q4)
      have P5 := Whole.below P4 hb (Whole.lt P4)
      have XB5 := Whole.below XB4 hb (Whole.lt XB4)
      have HZ := Lib.hid hZ
      have HZo : Hid (Z.Off (fun b => b < top ∨ w.heap.size + 3 ≤ b)) := Lib.hid (hZo.mono fun b hb => by omega)
      have HZ0 := Lib.hid hZ0
      have HZ1 := Lib.hid hZ1
      clear hZ hZo hZ0 hZ1 hb
      refine hK.out _ _ ⟨P5, XB5, g5⟩ (fun hS5 => ?_)
      clear hK KK
      try simp only [Act.put, List.getElem_toArray, List.getElem_cons_zero, List.getElem_cons_succ, List.setIfInBounds_toArray, List.set_cons_zero, List.set_cons_succ]
      refine wpAnyH_take (i := 8) (v := ?v8x29) rfl (by kernel_rfl) (by kernel_rfl) (by kernel_rfl) (fun _ _ _ h => h) (Or.inl ⟨by rfl, ?hy8x29⟩) hS5 ?rest8x29
      case hy8x29 => (intro wS hSw; go_simp; (try with_reducible rfl))
      case rest8x29 =>
      simp only [Act.put, List.getElem_toArray, List.getElem_cons_zero, List.getElem_cons_succ, List.setIfInBounds_toArray, List.set_cons_zero, List.set_cons_succ]
      refine wpAnyH_take (i := 9) (v := ?v9x30) rfl (by kernel_rfl) (by kernel_rfl) (by kernel_rfl) (fun _ _ _ h => h) (Or.inl ⟨by rfl, ?hy9x30⟩) hS5 ?rest9x30
      case hy9x30 => (intro wS hSw; go_simp; (try with_reducible rfl))
      case rest9x30 =>
      simp only [Act.put, List.getElem_toArray, List.getElem_cons_zero, List.getElem_cons_succ, List.setIfInBounds_toArray, List.set_cons_zero, List.set_cons_succ]
      refine wpAnyH_take (i := 10) (v := ?v10x31) rfl (by kernel_rfl) (by kernel_rfl) (by kernel_rfl) (fun _ _ _ h => h) (Or.inl ⟨by rfl, ?hy10x31⟩) hS5 ?rest10x31
      case hy10x31 => (intro wS hSw; go_simp; (try with_reducible rfl))
      case rest10x31 =>
      simp only [Act.put, List.getElem_toArray, List.getElem_cons_zero, List.getElem_cons_succ, List.setIfInBounds_toArray, List.set_cons_zero, List.set_cons_succ]
      refine wpAnyH_ready (rs := [11]) (by kernel_rfl) (by simp) ?_
      refine AllReadyH.cons rfl (fun KK hK => ?_) AllReadyH.nil
      go_simp
      have q1 := (Below.refl w5.heap.size w5).alloc (Nat.le_refl _) (.cells #[.int .i64 0, .bool false, .bool false, .string ⟨#[]⟩, .int .i64 0, .int .i64 0, .int .i64 0, .int .i64 0, .int .i64 0, .string ⟨#[]⟩, .slice none 0 0, .slice none 0 0, .slice none 0 0] 30)
      have Y6 := Whole.new w5 30 #[.int .i64 0, .bool false, .bool false, .string ⟨#[]⟩, .int .i64 0, .int .i64 0, .int .i64 0, .int .i64 0, .int .i64 0, .string ⟨#[]⟩, .slice none 0 0, .slice none 0 0, .slice none 0 0]
      have hyq : w.heap.size + 3 ≤ w5.heap.size := by have := Q5.lt; omega
      have g6 := below_then g5 q1
      have hz6 := Below.size q1
      have Q6 := Whole.below Q5 q1 (Whole.lt Q5)
      have P6 := Whole.below P5 q1 (Whole.lt P5)
      have XB6 := Whole.below XB5 q1 (Whole.lt XB5)
      refine hK.out _ _ ⟨P6, XB6, g6⟩ (fun hS6 => ?_)
      clear hK KK
      try simp only [Act.put, List.getElem_toArray, List.getElem_cons_zero, List.getElem_cons_succ, List.setIfInBounds_toArray, List.set_cons_zero, List.set_cons_succ]
      refine wpAnyH_ready (rs := [12]) (by kernel_rfl) (by simp) ?_
      refine AllReadyH.cons rfl (fun KK hK => ?_) AllReadyH.nil
      rw [if_pos (by rfl)]
      refine wp_store_row 30 _ _ rfl (w5.heap.size) Z.h.cells rfl rfl 30 _ Y6 vh_row rfl (vh_all Z.h) ?_
      have g8 := below_setRow g6 (show w.heap.size ≤ w5.heap.size by omega) Z.h.cells
      have Y8 := Whole.setRow Y6 Z.h.cells
      have P8 := Whole.farRow (B' := w5.heap.size) P6 (by omega) Z.h.cells
      have XB8 := Whole.farRow (B' := w5.heap.size) XB6 (by omega) Z.h.cells
      have Q8 := Whole.farRow (B' := w5.heap.size) Q6 (by omega) Z.h.cells
      have HZ8 := Lib.hid ((HZ.out.later q1).stays (HZ.out.off) (W' := (w5.alloc (.cells #[.int .i64 0, .bool false, .bool false, .string ⟨#[]⟩, .int .i64 0, .int .i64 0, .int .i64 0, .int .i64 0, .int .i64 0, .string ⟨#[]⟩, .slice none 0 0, .slice none 0 0, .slice none 0 0] 30)).setRow (w5.heap.size) Z.h.cells) (fun b hb => setRow_other _ _ _ _ (by omega)) (by rw [size_setRow]; exact Nat.le_refl _))
      clear q1
      obtain ⟨w8, hw8⟩ : ∃ w8, (w5.alloc (.cells #[.int .i64 0, .bool false, .bool false, .string ⟨#[]⟩, .int .i64 0, .int .i64 0, .int .i64 0, .int .i64 0, .int .i64 0, .string ⟨#[]⟩, .slice none 0 0, .slice none 0 0, .slice none 0 0] 30)).setRow (w5.heap.size) Z.h.cells = w8 := ⟨_, rfl⟩
      rw [hw8] at g8 Y8 P8 XB8 Q8 HZ8 ⊢
      clear hw8
      refine hK.out _ _ ⟨P8, XB8, g8⟩ (fun hS8 => ?_)
      clear hK KK
      try simp only [Act.put, List.getElem_toArray, List.getElem_cons_zero, List.getElem_cons_succ, List.setIfInBounds_toArray, List.set_cons_zero, List.set_cons_succ]
      refine wpAnyH_ready (rs := [13]) (by kernel_rfl) (by simp) ?_
      refine AllReadyH.cons rfl (fun KK hK => ?_) AllReadyH.nil
      go_simp
      refine hK.out _ _ hS8 (fun hS9 => ?_)
      clear hK KK
      try simp only [Act.put, List.getElem_toArray, List.getElem_cons_zero, List.getElem_cons_succ, List.setIfInBounds_toArray, List.set_cons_zero, List.set_cons_succ]
      refine wpAnyH_done (by kernel_rfl) ?_ _
      clear hS8 hS9 hS hS4 hS5 hS6 g3 P3 XB3 Q3 g4 P4 XB4 Q4 g5 P5 XB5 Q5 g6 P6 XB6 Q6
      have hone := Lib.hid (vh_all Vh.zero)
      go_wp2_with (refine wpList_store_row rfl 30 _ _ rfl (w.heap.size + 2) Vh.zero.cells rfl rfl 30 _ Q8 vh_row rfl hone.out ?_)
      exact bodyPost_ret (v := .tuple #[.agg Vh.zero.cells, .int .i64 V2]) (ret_val2 (p := 8) (q := 9) rfl rfl (Whole.setRow Q8 Vh.zero.cells)) rfl (HE.out _ (below_setRow g8 (by omega) _))
    · go_simp
      have q1 := (Below.refl w4.heap.size w4).alloc (Nat.le_refl _) (.cells #[.int .i64 0, .bool false, .bool false, .string ⟨#[]⟩, .int .i64 0, .int .i64 0, .int .i64 0, .int .i64 0, .int .i64 0, .string ⟨#[]⟩, .slice none 0 0, .slice none 0 0, .slice none 0 0] 30)
      have Y5 := Whole.new w4 30 #[.int .i64 0, .bool false, .bool false, .string ⟨#[]⟩, .int .i64 0, .int .i64 0, .int .i64 0, .int .i64 0, .int .i64 0, .string ⟨#[]⟩, .slice none 0 0, .slice none 0 0, .slice none 0 0]
      have hyq : w.heap.size + 3 ≤ w4.heap.size := by have := Q4.lt; omega
      have g5 := below_then g4 q1
      have hz5 := Below.size q1
      have Q5 := Whole.below Q4 q1 (Whole.lt Q4)
      have P5 := Whole.below P4 q1 (Whole.lt P4)
      have XB5 := Whole.below XB4 q1 (Whole.lt XB4)
      clear q1
      refine hK.out _ _ ⟨P5, XB5, g5⟩ (fun hS5 => ?_)
      clear hK KK
      try simp only [Act.put, List.getElem_toArray, List.getElem_cons_zero, List.getElem_cons_succ, List.setIfInBounds_toArray, List.set_cons_zero, List.set_cons_succ]
      refine wpAnyH_ready (rs := [7]) (by kernel_rfl) (by simp) ?_
      refine AllReadyH.cons rfl (fun KK hK => ?_) AllReadyH.nil
      go_simp
      go_at_call 32
      have hyc := Y5.lt
      have hwc := Q5.lt
      refine (HRec.out _ g5).mono ?_
      rintro _ w6 ⟨Z, rfl, hZ, hZo, hZ0, hZ1, hb⟩
      have g6 := below_then g5 hb
      have hz6 := Below.size hb
      have Q6 := Whole.below Q5 hb (Whole.lt Q5)
      have P6 := Whole.below P5 hb (Whole.lt P5)
      have XB6 := Whole.below XB5 hb (Whole.lt XB5)
      have Y6 := Whole.below Y5 hb (Whole.lt Y5)
      have HZ := Lib.hid hZ
      have HZo : Hid (Z.Off (fun b => b < top ∨ w.heap.size + 3 ≤ b)) := Lib.hid (hZo.mono fun b hb => by omega)
      have HZc := Lib.hid hZo
      have HZ0 := Lib.hid hZ0
      have HZ1 := Lib.hid hZ1
      clear hZ hZo hZ0 hZ1 hb
      refine hK.out _ _ ⟨P6, XB6, g6⟩ (fun hS6 => ?_)
      clear hK KK
      try simp only [Act.put, List.getElem_toArray, List.getElem_cons_zero, List.getElem_cons_succ, List.setIfInBounds_toArray, List.set_cons_zero, List.set_cons_succ]
      refine wpAnyH_take (i := 8) (v := ?v8x32) rfl (by kernel_rfl) (by kernel_rfl) (by kernel_rfl) (fun _ _ _ h => h) (Or.inl ⟨by rfl, ?hy8x32⟩) hS6 ?rest8x32
      case hy8x32 => (intro wS hSw; go_simp; (try with_reducible rfl))
      case rest8x32 =>
      simp only [Act.put, List.getElem_toArray, List.getElem_cons_zero, List.getElem_cons_succ, List.setIfInBounds_toArray, List.set_cons_zero, List.set_cons_succ]
      refine wpAnyH_take (i := 9) (v := ?v9x33) rfl (by kernel_rfl) (by kernel_rfl) (by kernel_rfl) (fun _ _ _ h => h) (Or.inl ⟨by rfl, ?hy9x33⟩) hS6 ?rest9x33
      case hy9x33 => (intro wS hSw; go_simp; (try with_reducible rfl))
      case rest9x33 =>
      simp only [Act.put, List.getElem_toArray, List.getElem_cons_zero, List.getElem_cons_succ, List.setIfInBounds_toArray, List.set_cons_zero, List.set_cons_succ]
      refine wpAnyH_take (i := 10) (v := ?v10x34) rfl (by kernel_rfl) (by kernel_rfl) (by kernel_rfl) (fun _ _ _ h => h) (Or.inl ⟨by rfl, ?hy10x34⟩) hS6 ?rest10x34
      case hy10x34 => (intro wS hSw; go_simp; (try with_reducible rfl))
      case rest10x34 =>
      simp only [Act.put, List.getElem_toArray, List.getElem_cons_zero, List.getElem_cons_succ, List.setIfInBounds_toArray, List.set_cons_zero, List.set_cons_succ]
      refine wpAnyH_ready (rs := [12]) (by kernel_rfl) (by simp) ?_
      refine AllReadyH.cons rfl (fun KK hK => ?_) AllReadyH.nil
      rw [if_pos (by rfl)]
      refine wp_store_row 30 _ _ rfl (w4.heap.size) Z.h.cells rfl rfl 30 _ Y6 vh_row rfl (vh_all Z.h) ?_
      have g8 := below_setRow g6 (show w.heap.size ≤ w4.heap.size by omega) Z.h.cells
      have Y8 := Whole.setRow Y6 Z.h.cells
      have P8 := Whole.farRow (B' := w4.heap.size) P6 (by omega) Z.h.cells
      have XB8 := Whole.farRow (B' := w4.heap.size) XB6 (by omega) Z.h.cells
      have Q8 := Whole.farRow (B' := w4.heap.size) Q6 (by omega) Z.h.cells
      have HZ8 := Lib.hid (HZ.out.stays HZc.out (W' := w6.setRow (w4.heap.size) Z.h.cells) (fun b hb => setRow_other _ _ _ _ (by omega)) (by rw [size_setRow]; exact Nat.le_refl _))
      obtain ⟨w8, hw8⟩ : ∃ w8, w6.setRow (w4.heap.size) Z.h.cells = w8 := ⟨_, rfl⟩
      rw [hw8] at g8 Y8 P8 XB8 Q8 HZ8 ⊢
      clear hw8
      refine hK.out _ _ ⟨P8, XB8, g8⟩ (fun hS8 => ?_)
      clear hK KK
      try simp only [Act.put, List.getElem_toArray, List.getElem_cons_zero, List.getElem_cons_succ, List.setIfInBounds_toArray, List.set_cons_zero, List.set_cons_succ]
      refine wpAnyH_ready (rs := [13]) (by kernel_rfl) (by simp) ?_
      refine AllReadyH.cons rfl (fun KK hK => ?_) AllReadyH.nil
      go_simp
      refine hK.out _ _ hS8 (fun hS9 => ?_)
      clear hK KK
      try simp only [Act.put, List.getElem_toArray, List.getElem_cons_zero, List.getElem_cons_succ, List.setIfInBounds_toArray, List.set_cons_zero, List.set_cons_succ]
      refine wpAnyH_done (by kernel_rfl) ?_ _
      clear hS8 hS9 hS hS4 hS5 hS6 g3 P3 XB3 Q3 g4 P4 XB4 Q4 g5 P5 XB5 Q5 g6 P6 XB6 Q6
      have hone := Lib.hid (vh_all Vh.zero)
      go_wp2_with (refine wpList_store_row rfl 30 _ _ rfl (w.heap.size + 2) Vh.zero.cells rfl rfl 30 _ Q8 vh_row rfl hone.out ?_)
      exact bodyPost_ret (v := .tuple #[.agg Vh.zero.cells, .int .i64 V2]) (ret_val2 (p := 8) (q := 9) rfl rfl (Whole.setRow Q8 Vh.zero.cells)) rfl (HE.out _ (below_setRow g8 (by omega) _))
  · go_simp
    have q1 := (Below.refl w3.heap.size w3).alloc (Nat.le_refl _) (.cells #[.int .i64 0, .bool false, .bool false, .string ⟨#[]⟩, .int .i64 0, .int .i64 0, .int .i64 0, .int .i64 0, .int .i64 0, .string ⟨#[]⟩, .slice none 0 0, .slice none 0 0, .slice none 0 0] 30)
    have Y4 := Whole.new w3 30 #[.int .i64 0, .bool false, .bool false, .string ⟨#[]⟩, .int .i64 0, .int .i64 0, .int .i64 0, .int .i64 0, .int .i64 0, .string ⟨#[]⟩, .slice none 0 0, .slice none 0 0, .slice none 0 0]
    have hyq : w.heap.size + 3 ≤ w3.heap.size := by have := Q3.lt; omega
    have g4 := below_then g3 q1
    have hz4 := Below.size q1
    have Q4 := Whole.below Q3 q1 (Whole.lt Q3)
    have P4 := Whole.below P3 q1 (Whole.lt P3)
    have XB4 := Whole.below XB3 q1 (Whole.lt XB3)
    clear q1
    refine hK.out _ _ ⟨P4, XB4, g4⟩ (fun hS4 => ?_)
    clear hK KK
    try simp only [Act.put, List.getElem_toArray, List.getElem_cons_zero, List.getElem_cons_succ, List.setIfInBounds_toArray, List.set_cons_zero, List.set_cons_succ]
    refine wpAnyH_ready (rs := [2]) (by kernel_rfl) (by simp) ?_
    refine AllReadyH.cons rfl (fun KK hK => ?_) AllReadyH.nil
    go_simp
    go_at_call 40
    refine (HPa.out _ g4).mono ?_
    rintro _ w5 ⟨rfl, hb⟩
    have g5 := below_then g4 hb
    have hz5 := Below.size hb
    have Q5 := Whole.below Q4 hb (Whole.lt Q4)
    have P5 := Whole.below P4 hb (Whole.lt P4)
    have XB5 := Whole.below XB4 hb (Whole.lt XB4)
    have Y5 := Whole.below Y4 hb (Whole.lt Y4)
    clear hb
    refine hK.out _ _ ⟨P5, XB5, g5⟩ (fun hS5 => ?_)
    clear hK KK
    try simp only [Act.put, List.getElem_toArray, List.getElem_cons_zero, List.getElem_cons_succ, List.setIfInBounds_toArray, List.set_cons_zero, List.set_cons_succ]
    refine wpAnyH_ready (rs := [7]) (by kernel_rfl) (by simp) ?_
    refine AllReadyH.cons rfl (fun KK hK => ?_) AllReadyH.nil
    go_simp
    go_at_call 32
    have hyc := Y5.lt
    have hwc := Q5.lt
    refine (HRec.out _ g5).mono ?_
    rintro _ w6 ⟨Z, rfl, hZ, hZo, hZ0, hZ1, hb⟩
    have g6 := below_then g5 hb
    have hz6 := Below.size hb
    have Q6 := Whole.below Q5 hb (Whole.lt Q5)
    have P6 := Whole.below P5 hb (Whole.lt P5)
    have XB6 := Whole.below XB5 hb (Whole.lt XB5)
    have Y6 := Whole.below Y5 hb (Whole.lt Y5)
    have HZ := Lib.hid hZ
    have HZo : Hid (Z.Off (fun b => b < top ∨ w.heap.size + 3 ≤ b)) := Lib.hid (hZo.mono fun b hb => by omega)
    have HZc := Lib.hid hZo
    have HZ0 := Lib.hid hZ0
    have HZ1 := Lib.hid hZ1
    clear hZ hZo hZ0 hZ1 hb
    refine hK.out _ _ ⟨P6, XB6, g6⟩ (fun hS6 => ?_)
    clear hK KK
    try simp only [Act.put, List.getElem_toArray, List.getElem_cons_zero, List.getElem_cons_succ, List.setIfInBounds_toArray, List.set_cons_zero, List.set_cons_succ]
    refine wpAnyH_take (i := 8) (v := ?v8x35) rfl (by kernel_rfl) (by kernel_rfl) (by kernel_rfl) (fun _ _ _ h => h) (Or.inl ⟨by rfl, ?hy8x35⟩) hS6 ?rest8x35
    case hy8x35 => (intro wS hSw; go_simp; (try with_reducible rfl))
    case rest8x35 =>
    simp only [Act.put, List.getElem_toArray, List.getElem_cons_zero, List.getElem_cons_succ, List.setIfInBounds_toArray, List.set_cons_zero, List.set_cons_succ]
    refine wpAnyH_take (i := 9) (v := ?v9x36) rfl (by kernel_rfl) (by kernel_rfl) (by kernel_rfl) (fun _ _ _ h => h) (Or.inl ⟨by rfl, ?hy9x36⟩) hS6 ?rest9x36
    case hy9x36 => (intro wS hSw; go_simp; (try with_reducible rfl))
    case rest9x36 =>
    simp only [Act.put, List.getElem_toArray, List.getElem_cons_zero, List.getElem_cons_succ, List.setIfInBounds_toArray, List.set_cons_zero, List.set_cons_succ]
    refine wpAnyH_take (i := 10) (v := ?v10x37) rfl (by kernel_rfl) (by kernel_rfl) (by kernel_rfl) (fun _ _ _ h => h) (Or.inl ⟨by rfl, ?hy10x37⟩) hS6 ?rest10x37
    case hy10x37 => (intro wS hSw; go_simp; (try with_reducible rfl))
    case rest10x37 =>
    simp only [Act.put, List.getElem_toArray, List.getElem_cons_zero, List.getElem_cons_succ, List.setIfInBounds_toArray, List.set_cons_zero, List.set_cons_succ]
    refine wpAnyH_ready (rs := [12]) (by kernel_rfl) (by simp) ?_
    refine AllReadyH.cons rfl (fun KK hK => ?_) AllReadyH.nil
    rw [if_pos (by rfl)]
    refine wp_store_row 30 _ _ rfl (w3.heap.size) Z.h.cells rfl rfl 30 _ Y6 vh_row rfl (vh_all Z.h) ?_
    have g8 := below_setRow g6 (show w.heap.size ≤ w3.heap.size by omega) Z.h.cells
    have Y8 := Whole.setRow Y6 Z.h.cells
    have P8 := Whole.farRow (B' := w3.heap.size) P6 (by omega) Z.h.cells
    have XB8 := Whole.farRow (B' := w3.heap.size) XB6 (by omega) Z.h.cells
    have Q8 := Whole.farRow (B' := w3.heap.size) Q6 (by omega) Z.h.cells
    have HZ8 := Lib.hid (HZ.out.stays HZc.out (W' := w6.setRow (w3.heap.size) Z.h.cells) (fun b hb => setRow_other _ _ _ _ (by omega)) (by rw [size_setRow]; exact Nat.le_refl _))
    obtain ⟨w8, hw8⟩ : ∃ w8, w6.setRow (w3.heap.size) Z.h.cells = w8 := ⟨_, rfl⟩
    rw [hw8] at g8 Y8 P8 XB8 Q8 HZ8 ⊢
    clear hw8
    refine hK.out _ _ ⟨P8, XB8, g8⟩ (fun hS8 => ?_)
    clear hK KK
    try simp only [Act.put, List.getElem_toArray, List.getElem_cons_zero, List.getElem_cons_succ, List.setIfInBounds_toArray, List.set_cons_zero, List.set_cons_succ]
    refine wpAnyH_ready (rs := [13]) (by kernel_rfl) (by simp) ?_
    refine AllReadyH.cons rfl (fun KK hK => ?_) AllReadyH.nil
    go_simp
    refine hK.out _ _ hS8 (fun hS9 => ?_)
    clear hK KK
    try simp only [Act.put, List.getElem_toArray, List.getElem_cons_zero, List.getElem_cons_succ, List.setIfInBounds_toArray, List.set_cons_zero, List.set_cons_succ]
    refine wpAnyH_done (by kernel_rfl) ?_ _
    clear hS8 hS9 hS hS4 hS5 hS6 g3 P3 XB3 Q3 g4 P4 XB4 Q4 g5 P5 XB5 Q5 g6 P6 XB6 Q6
    have hone := Lib.hid (vh_all Vh.zero)
    go_wp2_with (refine wpList_store_row rfl 30 _ _ rfl (w.heap.size + 2) Vh.zero.cells rfl rfl 30 _ Q8 vh_row rfl hone.out ?_)
    exact bodyPost_ret (v := .tuple #[.agg Vh.zero.cells, .int .i64 V2]) (ret_val2 (p := 8) (q := 9) rfl rfl (Whole.setRow Q8 Vh.zero.cells)) rfl (HE.out _ (below_setRow g8 (by omega) _))


set_option maxHeartbeats 8000000 in
set_option maxRecDepth 100000 in
theorem rchC {how : Int} {g : Vt → Stp → Vt × Int} {X T : Vt} {top b o c m : Nat} {S : Nat → Stp} {w : World} (ih : RchIs how g X m) (hm : m + 2 ≤ 1048576) (hT : T.In w top) (hX : X.In w top) (hP : Pth.In w top ⟨some ⟨b, o, none⟩, m + 2, c, b, o, S⟩) (ht : top ≤ w.heap.size) (hg : T.good) (hsz : T.size ≤ 65536) (hs : ∀ i, i < m + 2 → stepOk (S i)) (hh : w64 how) (h0 : (T.find (S 0)).2 = 0) (h2 : (Vt.chgV g (m + 1) (fun i => S (i + 1)) (T.part (T.find (S 0)).1.toNat)).2 = 0) :
    Calls Tryd.prog 32 #[.agg T.h.cells, .slice (some ⟨b, o, none⟩) (m + 2 : Nat) c, .agg X.h.cells, .int .i64 how] w (ResOut ((T.setP (T.find (S 0)).1.toNat (Vt.chgV g (m + 1) (fun i => S (i + 1)) (T.part (T.find (S 0)).1.toNat)).1, 0)) top w) := by
  have hb0 := (((Below.refl w.heap.size w).alloc (Nat.le_refl _) (.cells T.h.cells 30)).alloc (by simp) (.cells X.h.cells 30)).alloc (by simp; omega) (.cells Vh.zero.cells 30)
  have P := ((Whole.new w 30 T.h.cells).alloc (.cells X.h.cells 30)).alloc (.cells Vh.zero.cells 30)
  have XB := (Whole.new (w.alloc (.cells T.h.cells 30)) 30 X.h.cells).alloc (.cells Vh.zero.cells 30)
  rw [World.size_alloc] at XB
  have Q := Whole.new ((w.alloc (.cells T.h.cells 30)).alloc (.cells X.h.cells 30)) 30 Vh.zero.cells
  rw [World.size_alloc, World.size_alloc] at Q
  have hbt : b < top := (hP.1 (Nat.succ_pos _)).2
  have hn : w64 (S 0).n := (hP.2.2 0 (Nat.succ_pos _)).2.n
  have hcap : m + 2 ≤ c := hP.2.1.2.1
  have HP := Lib.hid (fun (w1 : World) (hb : Below w.heap.size w w1) => (by have q := ((hP.2.2 0 (Nat.succ_pos _)).1).below (hb.mono ht) hbt; simpa using q : LiesAt w1 b o (S 0).cells))
  have HF := Lib.hid (fun (w1 : World) (hb : Below w.heap.size w w1) => rfind_any (T := T) (s := S 0) (Vt.In.below (hb.mono ht) hT) (Nat.le_trans ht hb.size) hn)
  have HPa := Lib.hid (fun (w1 : World) (hb : Below w.heap.size w w1) => part_any (T := T) (s := S 0) (Vt.In.below (hb.mono ht) hT) (Nat.le_trans ht hb.size) h0)
  have HRec := Lib.hid (fun (w1 : World) (hb : Below w.heap.size w w1) => ih ⟨some ⟨b, o + 3, none⟩, m + 1, c - 1, b, o + 3, fun i => S (i + 1)⟩ (T.part (T.find (S 0)).1.toNat) top w1 rfl (Vt.In.below (hb.mono ht) (hT.part h0)) (Vt.In.below (hb.mono ht) hX) (Pth.In.below (pth_rest hP) (hb.mono ht)) (Nat.le_trans ht hb.size) (Vt.good_part hg h0) (Nat.le_trans (Vt.size_part (by rintro rfl; exact hT.elim) h0) hsz) (fun i hi => hs (i + 1) (by have : i < m + 1 := hi; omega)))
  have HRep := Lib.hid (fun (Z : Vt) (SS : Nat → Prop) (w1 : World) (hb : Below w.heap.size w w1) (hZ : Z.In w1 w1.heap.size) (hZo : Z.Off SS) (h1 : ∀ b, b < top → SS b) (h2 : ∀ b, SS b → b < w1.heap.size) => replace_any (s := S 0) (Vt.In.below (hb.mono ht) hT) hZ hZo h1 h2 (Nat.le_trans ht hb.size) (Vt.good_own hg (by rintro rfl; exact hT.elim)) h0)
  have HSame := Lib.hid (fun (Z V : Vt) (hz : Z.Same V) => Vt.setP_same (i := (T.find (S 0)).1.toNat) hT hz)
  obtain ⟨V, hV⟩ : ∃ V, Vt.chgV g (m + 1) (fun i => S (i + 1)) (T.part (T.find (S 0)).1.toNat) = V := ⟨_, rfl⟩
  rw [hV] at HRec h2 ⊢
  clear hV
  rw [h0] at HF
  generalize T.part (T.find (S 0)).1.toNat = U at *
  have HE : Hid (∀ (Z : Vt) w', Z.In w' w'.heap.size → Z.Off (fun b => b < top ∨ w.heap.size ≤ b) → Z.Same (T.setP (T.find (S 0)).1.toNat V.1) → Below w.heap.size w w' → ResOut ((T.setP (T.find (S 0)).1.toNat V.1, 0) : Vt × Int) top w (.returned (.tuple #[.agg Z.h.cells, .int .i64 0])) w') := Lib.hid fun Z w' a1 a2 a3 hb => res_of (X := Z) rfl a1 a2 (fun _ => a3) (fun h => absurd rfl h) hb
  obtain ⟨V1, V2⟩ := V
  dsimp only at HE HRec h2
  obtain rfl : V2 = 0 := h2
  generalize (T.find (S 0)).1 = f1 at *
  have n1 : (((m + 2 : Nat) : Int) == 1) = false := beq_eq_false_iff_ne.2 (by omega)
  have n2 : ((m : Int) + 2 == 1) = false := beq_eq_false_iff_ne.2 (by omega)
  have n3 : (m + 2 == 1) = false := beq_eq_false_iff_ne.2 (by omega)
  have n4 : (0 : Int) < ((m + 2 : Nat) : Int) := by omega
  have n5 : (0 : Int) < (m : Int) + 2 := by omega
  obtain ⟨a1, ha1, hsl⟩ := slice_rest (b := b) (o := o) (m := m + 1) (c := c) hcap (by omega)
  obtain rfl : a1 = ⟨b, o + 3, none⟩ := by rcases ha1 with h | h; exact h; omega
  have n6 : (1 : Int) ≤ ((m + 2 : Nat) : Int) := by omega
  have n7 : (1 : Int) ≤ (m : Int) + 2 := by omega
  have n8 : m + 1 + 1 = m + 2 := rfl
  clear ha1 n8
  have h1 := hh.1
  have hh2 := hh.2
  clear hT hX hP hg hsz hs hn hh ih
  simp only [Vh.cells, Vh.zero, Stp.cells] at hb0 P XB Q HF ⊢
  go_enter Tryd.func32, Tryd.ntmps32
  go_wp2_with fail
  refine wp_region_held_drew (S := fun W => Whole W w.heap.size 30 T.h.cells ∧ Whole W (w.heap.size + 1) 30 X.h.cells ∧ LiesAt W b o (S 0).cells ∧ Below w.heap.size w W) (by kernel_rfl) ⟨Whole.drew P, Whole.drew XB, HP.out _ (Below.drew hb0), Below.drew hb0⟩ (fun hS => ?_)
  refine wpAnyH_take (i := 0) (v := ?v0x38) rfl (by kernel_rfl) (by kernel_rfl) (by kernel_rfl) (fun _ _ _ h => h) (Or.inl ⟨by rfl, ?hy0x38⟩) hS ?rest0x38
  case hy0x38 => (intro wS hSw; obtain ⟨Pz, -, -, -⟩ := hSw; obtain ⟨c0, c1, c2, c3, c4, c5, c6, c7, c8, c9, c10, c11, c12⟩ := Whole.c13 (h := T.h) Pz; go_simp; (try with_reducible rfl))
  case rest0x38 =>
  simp only [Act.put, List.getElem_toArray, List.getElem_cons_zero, List.getElem_cons_succ, List.setIfInBounds_toArray, List.set_cons_zero, List.set_cons_succ]
  refine wpAnyH_take (i := 1) (v := ?v1x39) rfl (by kernel_rfl) (by kernel_rfl) (by kernel_rfl) (fun _ _ _ h => h) (Or.inl ⟨by rfl, ?hy1x39⟩) hS ?rest1x39
  case hy1x39 => (intro wS hSw; go_simp; (try with_reducible rfl))
  case rest1x39 =>
  simp only [Act.put, List.getElem_toArray, List.getElem_cons_zero, List.getElem_cons_succ, List.setIfInBounds_toArray, List.set_cons_zero, List.set_cons_succ]
  refine wpAnyH_take (i := 2) (v := ?v2x40) rfl (by kernel_rfl) (by kernel_rfl) (by kernel_rfl) (fun _ _ _ h => h) (Or.inl ⟨by rfl, ?hy2x40⟩) hS ?rest2x40
  case hy2x40 => (intro wS hSw; go_simp; (try with_reducible rfl))
  case rest2x40 =>
  simp only [Act.put, List.getElem_toArray, List.getElem_cons_zero, List.getElem_cons_succ, List.setIfInBounds_toArray, List.set_cons_zero, List.set_cons_succ]
  refine wpAnyH_take (i := 3) (v := ?v3x41) rfl (by kernel_rfl) (by kernel_rfl) (by kernel_rfl) (fun _ _ _ h => h) (Or.inl ⟨by rfl, ?hy3x41⟩) hS ?rest3x41
  case hy3x41 => (intro wS hSw; obtain ⟨-, -, Pz, -⟩ := hSw; obtain ⟨s0, s1, s2⟩ := Pz.s3; go_simp; (try with_reducible rfl))
  case rest3x41 =>
  simp only [Act.put, List.getElem_toArray, List.getElem_cons_zero, List.getElem_cons_succ, List.setIfInBounds_toArray, List.set_cons_zero, List.set_cons_succ]
  refine wpAnyH_ready (rs := [4]) (by kernel_rfl) (by simp) ?_
  refine AllReadyH.cons rfl (fun KK hK => ?_) AllReadyH.nil
  go_simp
  go_at_call 39
  have g1 := Below.drew hb0
  have Q1 := Whole.drew Q
  have P1 := Whole.drew P
  have XB1 := Whole.drew XB
  refine (HF.out _ g1).mono ?_
  rintro _ w2 ⟨rfl, hb2⟩
  have g2 := below_then g1 hb2
  have Q2 := Whole.below Q1 hb2 Q1.lt
  have P2 := Whole.below P1 hb2 P1.lt
  have XB2 := Whole.below XB1 hb2 XB1.lt
  clear hb2 g1 hb0 P XB Q P1 XB1 Q1 HF hS
  refine hK.out _ _ ⟨P2, XB2, HP.out _ g2, g2⟩ (fun hS => ?_)
  clear hK KK
  try simp only [Act.put, List.getElem_toArray, List.getElem_cons_zero, List.getElem_cons_succ, List.setIfInBounds_toArray, List.set_cons_zero, List.set_cons_succ]
  refine wpAnyH_take (i := 5) (v := ?v5x42) rfl (by kernel_rfl) (by kernel_rfl) (by kernel_rfl) (fun _ _ _ h => h) (Or.inl ⟨by rfl, ?hy5x42⟩) hS ?rest5x42
  case hy5x42 => (intro wS hSw; go_simp; (try with_reducible rfl))
  case rest5x42 =>
  simp only [Act.put, List.getElem_toArray, List.getElem_cons_zero, List.getElem_cons_succ, List.setIfInBounds_toArray, List.set_cons_zero, List.set_cons_succ]
  refine wpAnyH_take (i := 6) (v := ?v6x43) rfl (by kernel_rfl) (by kernel_rfl) (by kernel_rfl) (fun _ _ _ h => h) (Or.inl ⟨by rfl, ?hy6x43⟩) hS ?rest6x43
  case hy6x43 => (intro wS hSw; go_simp; (try with_reducible rfl))
  case rest6x43 =>
  simp only [Act.put, List.getElem_toArray, List.getElem_cons_zero, List.getElem_cons_succ, List.setIfInBounds_toArray, List.set_cons_zero, List.set_cons_succ]
  refine wpAnyH_take (i := 7) (v := ?v7x44) rfl (by kernel_rfl) (by kernel_rfl) (by kernel_rfl) (fun _ _ _ h => h) (Or.inl ⟨by rfl, ?hy7x44⟩) hS ?rest7x44
  case hy7x44 => (intro wS hSw; go_simp; (try with_reducible rfl))
  case rest7x44 =>
  simp only [Act.put, List.getElem_toArray, List.getElem_cons_zero, List.getElem_cons_succ, List.setIfInBounds_toArray, List.set_cons_zero, List.set_cons_succ]
  refine wpAnyH_ready (rs := [8]) (by kernel_rfl) (by simp) ?_
  refine AllReadyH.cons rfl (fun KK hK => ?_) AllReadyH.nil
  go_simp
  refine hK.out _ _ hS (fun hS2 => ?_)
  clear hK KK
  try simp only [Act.put, List.getElem_toArray, List.getElem_cons_zero, List.getElem_cons_succ, List.setIfInBounds_toArray, List.set_cons_zero, List.set_cons_succ]
  refine wpAnyH_ready (rs := [9]) (by kernel_rfl) (by simp) ?_
  refine AllReadyH.cons rfl (fun KK hK => ?_) AllReadyH.nil
  go_simp
  refine hK.out _ _ hS2 (fun hS3 => ?_)
  clear hK KK
  try simp only [Act.put, List.getElem_toArray, List.getElem_cons_zero, List.getElem_cons_succ, List.setIfInBounds_toArray, List.set_cons_zero, List.set_cons_succ]
  refine wpAnyH_done (by kernel_rfl) ?_ _
  clear hS hS2 hS3 HP
  go_wp2_with fail
  refine wp_region_held_drew (S := fun W => Whole W w.heap.size 30 T.h.cells ∧ Whole W (w.heap.size + 1) 30 X.h.cells ∧ Below w.heap.size w W) (by kernel_rfl) ⟨Whole.drew P2, Whole.drew XB2, Below.drew g2⟩ (fun hS => ?_)
  refine wpAnyH_take (i := 0) (v := ?v0x45) rfl (by kernel_rfl) (by kernel_rfl) (by kernel_rfl) (fun _ _ _ h => h) (Or.inl ⟨by rfl, ?hy0x45⟩) hS ?rest0x45
  case hy0x45 => (intro wS hSw; obtain ⟨Pz, -, -⟩ := hSw; obtain ⟨c0, c1, c2, c3, c4, c5, c6, c7, c8, c9, c10, c11, c12⟩ := Whole.c13 (h := T.h) Pz; go_simp; (try with_reducible rfl))
  case rest0x45 =>
  simp only [Act.put, List.getElem_toArray, List.getElem_cons_zero, List.getElem_cons_succ, List.setIfInBounds_toArray, List.set_cons_zero, List.set_cons_succ]
  refine wpAnyH_take (i := 1) (v := ?v1x46) rfl (by kernel_rfl) (by kernel_rfl) (by kernel_rfl) (fun _ _ _ h => h) (Or.inl ⟨by rfl, ?hy1x46⟩) hS ?rest1x46
  case hy1x46 => (intro wS hSw; go_simp; (try with_reducible rfl))
  case rest1x46 =>
  simp only [Act.put, List.getElem_toArray, List.getElem_cons_zero, List.getElem_cons_succ, List.setIfInBounds_toArray, List.set_cons_zero, List.set_cons_succ]
  refine wpAnyH_take (i := 3) (v := ?v3x47) rfl (by kernel_rfl) (by kernel_rfl) (by kernel_rfl) (fun _ _ _ h => h) (Or.inl ⟨by rfl, ?hy3x47⟩) hS ?rest3x47
  case hy3x47 => (intro wS hSw; go_simp; (try with_reducible rfl))
  case rest3x47 =>
  simp only [Act.put, List.getElem_toArray, List.getElem_cons_zero, List.getElem_cons_succ, List.setIfInBounds_toArray, List.set_cons_zero, List.set_cons_succ]
  refine wpAnyH_take (i := 4) (v := ?v4x48) rfl (by kernel_rfl) (by kernel_rfl) (by kernel_rfl) (fun _ _ _ h => h) (Or.inl ⟨by rfl, ?hy4x48⟩) hS ?rest4x48
  case hy4x48 => (intro wS hSw; go_simp; (try with_reducible rfl))
  case rest4x48 =>
  simp only [Act.put, List.getElem_toArray, List.getElem_cons_zero, List.getElem_cons_succ, List.setIfInBounds_toArray, List.set_cons_zero, List.set_cons_succ]
  refine wpAnyH_take (i := 5) (v := ?v5x49) rfl (by kernel_rfl) (by kernel_rfl) (by kernel_rfl) (fun _ _ _ h => h) (Or.inl ⟨by rfl, ?hy5x49⟩) hS ?rest5x49
  case hy5x49 => (intro wS hSw; obtain ⟨-, Pz, -⟩ := hSw; obtain ⟨x0, x1, x2, x3, x4, x5, x6, x7, x8, x9, x10, x11, x12⟩ := Whole.c13 (h := X.h) Pz; go_simp; (try with_reducible rfl))
  case rest5x49 =>
  simp only [Act.put, List.getElem_toArray, List.getElem_cons_zero, List.getElem_cons_succ, List.setIfInBounds_toArray, List.set_cons_zero, List.set_cons_succ]
  refine wpAnyH_take (i := 6) (v := ?v6x50) rfl (by kernel_rfl) (by kernel_rfl) (by kernel_rfl) (fun _ _ _ h => h) (Or.inl ⟨by rfl, ?hy6x50⟩) hS ?rest6x50
  case hy6x50 => (intro wS hSw; go_simp; (try with_reducible rfl))
  case rest6x50 =>
  simp only [Act.put, List.getElem_toArray, List.getElem_cons_zero, List.getElem_cons_succ, List.setIfInBounds_toArray, List.set_cons_zero, List.set_cons_succ]
  have g3 := Below.drew g2
  have Q3 := Whole.drew Q2
  have P3 := Whole.drew P2
  have XB3 := Whole.drew XB2
  clear g2 Q2 P2 XB2 hsl
  have hq3 := Q3.lt
  generalize w2.drew = w3 at *
  refine wpAnyH_ready (rs := [2, 11]) (by kernel_rfl) (by simp) ?_
  refine AllReadyH.cons rfl (fun KK hK => ?_) (AllReadyH.cons rfl (fun KK hK => ?_) AllReadyH.nil)
  · go_simp
    go_at_call 40
    refine (HPa.out _ g3).mono ?_
    rintro _ w4 ⟨rfl, hb⟩
    have g4 := below_then g3 hb
    have hz4 := Below.size hb
    have Q4 := Whole.below Q3 hb (Whole.lt Q3)
    have P4 := Whole.below P3 hb (Whole.lt P3)
    have XB4 := Whole.below XB3 hb (Whole.lt XB3)
    clear hb
    refine hK.out _ _ ⟨P4, XB4, g4⟩ (fun hS4 => ?_)
    clear hK KK
    try simp only [Act.put, List.getElem_toArray, List.getElem_cons_zero, List.getElem_cons_succ, List.setIfInBounds_toArray, List.set_cons_zero, List.set_cons_succ]
    refine wpAnyH_ready (rs := [7, 11]) (by kernel_rfl) (by simp) ?_
    refine AllReadyH.cons rfl (fun KK hK => ?_) (AllReadyH.cons rfl (fun KK hK => ?_) AllReadyH.nil)
    · go_simp
      go_at_call 32
      have hwc := Q4.lt
      refine (HRec.out _ g4).mono ?_
      rintro _ w5 ⟨Z, rfl, hZ, hZo, hZ0, hZ1, hb⟩
      have g5 := below_then g4 hb
      have hz5 := Below.size hb
      have Q5 := Whole.below Q4 hb (Whole.lt Q4)
      have P5 := Whole.below P4 hb (Whole.lt P4)
      have XB5 := Whole.below XB4 hb (Whole.lt XB4)
      have HZ := Lib.hid hZ
      have HZo : Hid (Z.Off (fun b => b < top ∨ w.heap.size + 3 ≤ b)) := Lib.hid (hZo.mono fun b hb => by omega)
      have HZ0 := Lib.hid hZ0
      have HZ1 := Lib.hid hZ1
      clear hZ hZo hZ0 hZ1 hb
      refine hK.out _ _ ⟨P5, XB5, g5⟩ (fun hS5 => ?_)
      clear hK KK
      try simp only [Act.put, List.getElem_toArray, List.getElem_cons_zero, List.getElem_cons_succ, List.setIfInBounds_toArray, List.set_cons_zero, List.set_cons_succ]
      refine wpAnyH_take (i := 8) (v := ?v8x51) rfl (by kernel_rfl) (by kernel_rfl) (by kernel_rfl) (fun _ _ _ h => h) (Or.inl ⟨by rfl, ?hy8x51⟩) hS5 ?rest8x51
      case hy8x51 => (intro wS hSw; go_simp; (try with_reducible rfl))
      case rest8x51 =>
      simp only [Act.put, List.getElem_toArray, List.getElem_cons_zero, List.getElem_cons_succ, List.setIfInBounds_toArray, List.set_cons_zero, List.set_cons_succ]
      refine wpAnyH_take (i := 9) (v := ?v9x52) rfl (by kernel_rfl) (by kernel_rfl) (by kernel_rfl) (fun _ _ _ h => h) (Or.inl ⟨by rfl, ?hy9x52⟩) hS5 ?rest9x52
      case hy9x52 => (intro wS hSw; go_simp; (try with_reducible rfl))
      case rest9x52 =>
      simp only [Act.put, List.getElem_toArray, List.getElem_cons_zero, List.getElem_cons_succ, List.setIfInBounds_toArray, List.set_cons_zero, List.set_cons_succ]
      refine wpAnyH_take (i := 10) (v := ?v10x53) rfl (by kernel_rfl) (by kernel_rfl) (by kernel_rfl) (fun _ _ _ h => h) (Or.inl ⟨by rfl, ?hy10x53⟩) hS5 ?rest10x53
      case hy10x53 => (intro wS hSw; go_simp; (try with_reducible rfl))
      case rest10x53 =>
      simp only [Act.put, List.getElem_toArray, List.getElem_cons_zero, List.getElem_cons_succ, List.setIfInBounds_toArray, List.set_cons_zero, List.set_cons_succ]
      refine wpAnyH_ready (rs := [11]) (by kernel_rfl) (by simp) ?_
      refine AllReadyH.cons rfl (fun KK hK => ?_) AllReadyH.nil
      go_simp
      have q1 := (Below.refl w5.heap.size w5).alloc (Nat.le_refl _) (.cells #[.int .i64 0, .bool false, .bool false, .string ⟨#[]⟩, .int .i64 0, .int .i64 0, .int .i64 0, .int .i64 0, .int .i64 0, .string ⟨#[]⟩, .slice none 0 0, .slice none 0 0, .slice none 0 0] 30)
      have Y6 := Whole.new w5 30 #[.int .i64 0, .bool false, .bool false, .string ⟨#[]⟩, .int .i64 0, .int .i64 0, .int .i64 0, .int .i64 0, .int .i64 0, .string ⟨#[]⟩, .slice none 0 0, .slice none 0 0, .slice none 0 0]
      have hyq : w.heap.size + 3 ≤ w5.heap.size := by have := Q5.lt; omega
      have g6 := below_then g5 q1
      have hz6 := Below.size q1
      have Q6 := Whole.below Q5 q1 (Whole.lt Q5)
      have P6 := Whole.below P5 q1 (Whole.lt P5)
      have XB6 := Whole.below XB5 q1 (Whole.lt XB5)
      refine hK.out _ _ ⟨P6, XB6, g6⟩ (fun hS6 => ?_)
      clear hK KK
      try simp only [Act.put, List.getElem_toArray, List.getElem_cons_zero, List.getElem_cons_succ, List.setIfInBounds_toArray, List.set_cons_zero, List.set_cons_succ]
      refine wpAnyH_ready (rs := [12]) (by kernel_rfl) (by simp) ?_
      refine AllReadyH.cons rfl (fun KK hK => ?_) AllReadyH.nil
      rw [if_pos (by rfl)]
      refine wp_store_row 30 _ _ rfl (w5.heap.size) Z.h.cells rfl rfl 30 _ Y6 vh_row rfl (vh_all Z.h) ?_
      have g8 := below_setRow g6 (show w.heap.size ≤ w5.heap.size by omega) Z.h.cells
      have Y8 := Whole.setRow Y6 Z.h.cells
      have P8 := Whole.farRow (B' := w5.heap.size) P6 (by omega) Z.h.cells
      have XB8 := Whole.farRow (B' := w5.heap.size) XB6 (by omega) Z.h.cells
      have Q8 := Whole.farRow (B' := w5.heap.size) Q6 (by omega) Z.h.cells
      have HZ8 := Lib.hid ((HZ.out.later q1).stays (HZ.out.off) (W' := (w5.alloc (.cells #[.int .i64 0, .bool false, .bool false, .string ⟨#[]⟩, .int .i64 0, .int .i64 0, .int .i64 0, .int .i64 0, .int .i64 0, .string ⟨#[]⟩, .slice none 0 0, .slice none 0 0, .slice none 0 0] 30)).setRow (w5.heap.size) Z.h.cells) (fun b hb => setRow_other _ _ _ _ (by omega)) (by rw [size_setRow]; exact Nat.le_refl _))
      clear q1
      obtain ⟨w8, hw8⟩ : ∃ w8, (w5.alloc (.cells #[.int .i64 0, .bool false, .bool false, .string ⟨#[]⟩, .int .i64 0, .int .i64 0, .int .i64 0, .int .i64 0, .int .i64 0, .string ⟨#[]⟩, .slice none 0 0, .slice none 0 0, .slice none 0 0] 30)).setRow (w5.heap.size) Z.h.cells = w8 := ⟨_, rfl⟩
      rw [hw8] at g8 Y8 P8 XB8 Q8 HZ8 ⊢
      clear hw8
      refine hK.out _ _ ⟨P8, XB8, g8⟩ (fun hS8 => ?_)
      clear hK KK
      try simp only [Act.put, List.getElem_toArray, List.getElem_cons_zero, List.getElem_cons_succ, List.setIfInBounds_toArray, List.set_cons_zero, List.set_cons_succ]
      refine wpAnyH_ready (rs := [13]) (by kernel_rfl) (by simp) ?_
      refine AllReadyH.cons rfl (fun KK hK => ?_) AllReadyH.nil
      go_simp
      refine hK.out _ _ hS8 (fun hS9 => ?_)
      clear hK KK
      try simp only [Act.put, List.getElem_toArray, List.getElem_cons_zero, List.getElem_cons_succ, List.setIfInBounds_toArray, List.set_cons_zero, List.set_cons_succ]
      refine wpAnyH_done (by kernel_rfl) ?_ _
      clear hS8 hS9 hS hS4 hS5 hS6 g3 P3 XB3 Q3 g4 P4 XB4 Q4 g5 P5 XB5 Q5 g6 P6 XB6 Q6
      obtain ⟨c0, c1, c2, c3, c4, c5, c6, c7, c8, c9, c10, c11, c12⟩ := Whole.c13 (h := T.h) P8
      obtain ⟨y0, y1, y2, y3, y4, y5, y6, y7, y8, y9, y10, y11, y12⟩ := Whole.c13 (h := Z.h) Y8
      go_wp2_with fail
      refine (HRep.out Z (fun b => (b < top ∨ w.heap.size + 3 ≤ b) ∧ b < w8.heap.size) w8 g8 HZ8.out (HZo.out.and HZ8.out.off) (fun b hb => ⟨.inl hb, by have := g8.size; omega⟩) (fun b hb => hb.2)).mono ?_
      rintro _ w9 ⟨Z9, rfl, hZ9, hZ9o, hZ9s, hb9⟩
      have g9 := below_then g8 hb9
      have hq8 := Q8.lt
      have Q9 := Whole.below Q8 hb9 hq8
      have hone := Lib.hid (vh_all Z9.h)
      have hZ9o2 : Z9.Off (fun b => b < top ∨ w.heap.size + 3 ≤ b) := hZ9o.mono fun b hb => by omega
      have HZ9 := Lib.hid (hZ9.stays hZ9o2 (W' := w9.setRow (w.heap.size + 2) Z9.h.cells) (fun b hb => setRow_other _ _ _ _ (by omega)) (by rw [size_setRow]; exact Nat.le_refl _))
      have HZ9o : Hid (Z9.Off (fun b => b < top ∨ w.heap.size ≤ b)) := Lib.hid (hZ9o2.mono fun b hb => by omega)
      have HZ9s := Lib.hid (hZ9s.trans (HSame.out Z V1 (HZ0.out (by trivial))))
      clear hZ9 hZ9o hZ9o2 hZ9s hb9 c0 c1 c2 c3 c4 c5 c6 c7 c8 c9 c10 c11 c12 y0 y1 y2 y3 y4 y5 y6 y7 y8 y9 y10 y11 y12
      go_wp2_with (refine wpList_store_row rfl 30 _ _ rfl (w.heap.size + 2) Z9.h.cells rfl rfl 30 _ Q9 vh_row rfl hone.out ?_)
      exact bodyPost_ret (v := .tuple #[.agg Z9.h.cells, .int .i64 0]) (ret_val2 (p := 8) (q := 9) rfl rfl (Whole.setRow Q9 Z9.h.cells)) rfl (HE.out Z9 _ HZ9.out HZ9o.out HZ9s.out (below_setRow g9 (by omega) _))
    · go_simp
      have q1 := (Below.refl w4.heap.size w4).alloc (Nat.le_refl _) (.cells #[.int .i64 0, .bool false, .bool false, .string ⟨#[]⟩, .int .i64 0, .int .i64 0, .int .i64 0, .int .i64 0, .int .i64 0, .string ⟨#[]⟩, .slice none 0 0, .slice none 0 0, .slice none 0 0] 30)
      have Y5 := Whole.new w4 30 #[.int .i64 0, .bool false, .bool false, .string ⟨#[]⟩, .int .i64 0, .int .i64 0, .int .i64 0, .int .i64 0, .int .i64 0, .string ⟨#[]⟩, .slice none 0 0, .slice none 0 0, .slice none 0 0]
      have hyq : w.heap.size + 3 ≤ w4.heap.size := by have := Q4.lt; omega
      have g5 := below_then g4 q1
      have hz5 := Below.size q1
      have Q5 := Whole.below Q4 q1 (Whole.lt Q4)
      have P5 := Whole.below P4 q1 (Whole.lt P4)
      have XB5 := Whole.below XB4 q1 (Whole.lt XB4)
      clear q1
      refine hK.out _ _ ⟨P5, XB5, g5⟩ (fun hS5 => ?_)
      clear hK KK
      try simp only [Act.put, List.getElem_toArray, List.getElem_cons_zero, List.getElem_cons_succ, List.setIfInBounds_toArray, List.set_cons_zero, List.set_cons_succ]
      refine wpAnyH_ready (rs := [7]) (by kernel_rfl) (by simp) ?_
      refine AllReadyH.cons rfl (fun KK hK => ?_) AllReadyH.nil
      go_simp
      go_at_call 32
      have hyc := Y5.lt
      have hwc := Q5.lt
      refine (HRec.out _ g5).mono ?_
      rintro _ w6 ⟨Z, rfl, hZ, hZo, hZ0, hZ1, hb⟩
      have g6 := below_then g5 hb
      have hz6 := Below.size hb
      have Q6 := Whole.below Q5 hb (Whole.lt Q5)
      have P6 := Whole.below P5 hb (Whole.lt P5)
      have XB6 := Whole.below XB5 hb (Whole.lt XB5)
      have Y6 := Whole.below Y5 hb (Whole.lt Y5)
      have HZ := Lib.hid hZ
      have HZo : Hid (Z.Off (fun b => b < top ∨ w.heap.size + 3 ≤ b)) := Lib.hid (hZo.mono fun b hb => by omega)
      have HZc := Lib.hid hZo
      have HZ0 := Lib.hid hZ0
      have HZ1 := Lib.hid hZ1
      clear hZ hZo hZ0 hZ1 hb
      refine hK.out _ _ ⟨P6, XB6, g6⟩ (fun hS6 => ?_)
      clear hK KK
      try simp only [Act.put, List.getElem_toArray, List.getElem_cons_zero, List.getElem_cons_succ, List.setIfInBounds_toArray, List.set_cons_zero, List.set_cons_succ]
      refine wpAnyH_take (i := 8) (v := ?v8x54) rfl (by kernel_rfl) (by kernel_rfl) (by kernel_rfl) (fun _ _ _ h => h) (Or.inl ⟨by rfl, ?hy8x54⟩) hS6 ?rest8x54
      case hy8x54 => (intro wS hSw; go_simp; (try with_reducible rfl))
      case rest8x54 =>
      simp only [Act.put, List.getElem_toArray, List.getElem_cons_zero, List.getElem_cons_succ, List.setIfInBounds_toArray, List.set_cons_zero, List.set_cons_succ]
      refine wpAnyH_take (i := 9) (v := ?v9x55) rfl (by kernel_rfl) (by kernel_rfl) (by kernel_rfl) (fun _ _ _ h => h) (Or.inl ⟨by rfl, ?hy9x55⟩) hS6 ?rest9x55
      case hy9x55 => (intro wS hSw; go_simp; (try with_reducible rfl))
      case rest9x55 =>
      simp only [Act.put, List.getElem_toArray, List.getElem_cons_zero, List.getElem_cons_succ, List.setIfInBounds_toArray, List.set_cons_zero, List.set_cons_succ]
      refine wpAnyH_take (i := 10) (v := ?v10x56) rfl (by kernel_rfl) (by kernel_rfl) (by kernel_rfl) (fun _ _ _ h => h) (Or.inl ⟨by rfl, ?hy10x56⟩) hS6 ?rest10x56
      case hy10x56 => (intro wS hSw; go_simp; (try with_reducible rfl))
      case rest10x56 =>
      simp only [Act.put, List.getElem_toArray, List.getElem_cons_zero, List.getElem_cons_succ, List.setIfInBounds_toArray, List.set_cons_zero, List.set_cons_succ]
      refine wpAnyH_ready (rs := [12]) (by kernel_rfl) (by simp) ?_
      refine AllReadyH.cons rfl (fun KK hK => ?_) AllReadyH.nil
      rw [if_pos (by rfl)]
      refine wp_store_row 30 _ _ rfl (w4.heap.size) Z.h.cells rfl rfl 30 _ Y6 vh_row rfl (vh_all Z.h) ?_
      have g8 := below_setRow g6 (show w.heap.size ≤ w4.heap.size by omega) Z.h.cells
      have Y8 := Whole.setRow Y6 Z.h.cells
      have P8 := Whole.farRow (B' := w4.heap.size) P6 (by omega) Z.h.cells
      have XB8 := Whole.farRow (B' := w4.heap.size) XB6 (by omega) Z.h.cells
      have Q8 := Whole.farRow (B' := w4.heap.size) Q6 (by omega) Z.h.cells
      have HZ8 := Lib.hid (HZ.out.stays HZc.out (W' := w6.setRow (w4.heap.size) Z.h.cells) (fun b hb => setRow_other _ _ _ _ (by omega)) (by rw [size_setRow]; exact Nat.le_refl _))
      obtain ⟨w8, hw8⟩ : ∃ w8, w6.setRow (w4.heap.size) Z.h.cells = w8 := ⟨_, rfl⟩
      rw [hw8] at g8 Y8 P8 XB8 Q8 HZ8 ⊢
      clear hw8
      refine hK.out _ _ ⟨P8, XB8, g8⟩ (fun hS8 => ?_)
      clear hK KK
      try simp only [Act.put, List.getElem_toArray, List.getElem_cons_zero, List.getElem_cons_succ, List.setIfInBounds_toArray, List.set_cons_zero, List.set_cons_succ]
      refine wpAnyH_ready (rs := [13]) (by kernel_rfl) (by simp) ?_
      refine AllReadyH.cons rfl (fun KK hK => ?_) AllReadyH.nil
      go_simp
      refine hK.out _ _ hS8 (fun hS9 => ?_)
      clear hK KK
      try simp only [Act.put, List.getElem_toArray, List.getElem_cons_zero, List.getElem_cons_succ, List.setIfInBounds_toArray, List.set_cons_zero, List.set_cons_succ]
      refine wpAnyH_done (by kernel_rfl) ?_ _
      clear hS8 hS9 hS hS4 hS5 hS6 g3 P3 XB3 Q3 g4 P4 XB4 Q4 g5 P5 XB5 Q5 g6 P6 XB6 Q6
      obtain ⟨c0, c1, c2, c3, c4, c5, c6, c7, c8, c9, c10, c11, c12⟩ := Whole.c13 (h := T.h) P8
      obtain ⟨y0, y1, y2, y3, y4, y5, y6, y7, y8, y9, y10, y11, y12⟩ := Whole.c13 (h := Z.h) Y8
      go_wp2_with fail
      refine (HRep.out Z (fun b => (b < top ∨ w.heap.size + 3 ≤ b) ∧ b < w8.heap.size) w8 g8 HZ8.out (HZo.out.and HZ8.out.off) (fun b hb => ⟨.inl hb, by have := g8.size; omega⟩) (fun b hb => hb.2)).mono ?_
      rintro _ w9 ⟨Z9, rfl, hZ9, hZ9o, hZ9s, hb9⟩
      have g9 := below_then g8 hb9
      have hq8 := Q8.lt
      have Q9 := Whole.below Q8 hb9 hq8
      have hone := Lib.hid (vh_all Z9.h)
      have hZ9o2 : Z9.Off (fun b => b < top ∨ w.heap.size + 3 ≤ b) := hZ9o.mono fun b hb => by omega
      have HZ9 := Lib.hid (hZ9.stays hZ9o2 (W' := w9.setRow (w.heap.size + 2) Z9.h.cells) (fun b hb => setRow_other _ _ _ _ (by omega)) (by rw [size_setRow]; exact Nat.le_refl _))
      have HZ9o : Hid (Z9.Off (fun b => b < top ∨ w.heap.size ≤ b)) := Lib.hid (hZ9o2.mono fun b hb => by omega)
      have HZ9s := Lib.hid (hZ9s.trans (HSame.out Z V1 (HZ0.out (by trivial))))
      clear hZ9 hZ9o hZ9o2 hZ9s hb9 c0 c1 c2 c3 c4 c5 c6 c7 c8 c9 c10 c11 c12 y0 y1 y2 y3 y4 y5 y6 y7 y8 y9 y10 y11 y12
      go_wp2_with (refine wpList_store_row rfl 30 _ _ rfl (w.heap.size + 2) Z9.h.cells rfl rfl 30 _ Q9 vh_row rfl hone.out ?_)
      exact bodyPost_ret (v := .tuple #[.agg Z9.h.cells, .int .i64 0]) (ret_val2 (p := 8) (q := 9) rfl rfl (Whole.setRow Q9 Z9.h.cells)) rfl (HE.out Z9 _ HZ9.out HZ9o.out HZ9s.out (below_setRow g9 (by omega) _))
  · go_simp
    have q1 := (Below.refl w3.heap.size w3).alloc (Nat.le_refl _) (.cells #[.int .i64 0, .bool false, .bool false, .string ⟨#[]⟩, .int .i64 0, .int .i64 0, .int .i64 0, .int .i64 0, .int .i64 0, .string ⟨#[]⟩, .slice none 0 0, .slice none 0 0, .slice none 0 0] 30)
    have Y4 := Whole.new w3 30 #[.int .i64 0, .bool false, .bool false, .string ⟨#[]⟩, .int .i64 0, .int .i64 0, .int .i64 0, .int .i64 0, .int .i64 0, .string ⟨#[]⟩, .slice none 0 0, .slice none 0 0, .slice none 0 0]
    have hyq : w.heap.size + 3 ≤ w3.heap.size := by have := Q3.lt; omega
    have g4 := below_then g3 q1
    have hz4 := Below.size q1
    have Q4 := Whole.below Q3 q1 (Whole.lt Q3)
    have P4 := Whole.below P3 q1 (Whole.lt P3)
    have XB4 := Whole.below XB3 q1 (Whole.lt XB3)
    clear q1
    refine hK.out _ _ ⟨P4, XB4, g4⟩ (fun hS4 => ?_)
    clear hK KK
    try simp only [Act.put, List.getElem_toArray, List.getElem_cons_zero, List.getElem_cons_succ, List.setIfInBounds_toArray, List.set_cons_zero, List.set_cons_succ]
    refine wpAnyH_ready (rs := [2]) (by kernel_rfl) (by simp) ?_
    refine AllReadyH.cons rfl (fun KK hK => ?_) AllReadyH.nil
    go_simp
    go_at_call 40
    refine (HPa.out _ g4).mono ?_
    rintro _ w5 ⟨rfl, hb⟩
    have g5 := below_then g4 hb
    have hz5 := Below.size hb
    have Q5 := Whole.below Q4 hb (Whole.lt Q4)
    have P5 := Whole.below P4 hb (Whole.lt P4)
    have XB5 := Whole.below XB4 hb (Whole.lt XB4)
    have Y5 := Whole.below Y4 hb (Whole.lt Y4)
    clear hb
    refine hK.out _ _ ⟨P5, XB5, g5⟩ (fun hS5 => ?_)
    clear hK KK
    try simp only [Act.put, List.getElem_toArray, List.getElem_cons_zero, List.getElem_cons_succ, List.setIfInBounds_toArray, List.set_cons_zero, List.set_cons_succ]
    refine wpAnyH_ready (rs := [7]) (by kernel_rfl) (by simp) ?_
    refine AllReadyH.cons rfl (fun KK hK => ?_) AllReadyH.nil
    go_simp
    go_at_call 32
    have hyc := Y5.lt
    have hwc := Q5.lt
    refine (HRec.out _ g5).mono ?_
    rintro _ w6 ⟨Z, rfl, hZ, hZo, hZ0, hZ1, hb⟩
    have g6 := below_then g5 hb
    have hz6 := Below.size hb
    have Q6 := Whole.below Q5 hb (Whole.lt Q5)
    have P6 := Whole.below P5 hb (Whole.lt P5)
    have XB6 := Whole.below XB5 hb (Whole.lt XB5)
    have Y6 := Whole.below Y5 hb (Whole.lt Y5)
    have HZ := Lib.hid hZ
    have HZo : Hid (Z.Off (fun b => b < top ∨ w.heap.size + 3 ≤ b)) := Lib.hid (hZo.mono fun b hb => by omega)
    have HZc := Lib.hid hZo
    have HZ0 := Lib.hid hZ0
    have HZ1 := Lib.hid hZ1
    clear hZ hZo hZ0 hZ1 hb
    refine hK.out _ _ ⟨P6, XB6, g6⟩ (fun hS6 => ?_)
    clear hK KK
    try simp only [Act.put, List.getElem_toArray, List.getElem_cons_zero, List.getElem_cons_succ, List.setIfInBounds_toArray, List.set_cons_zero, List.set_cons_succ]
    refine wpAnyH_take (i := 8) (v := ?v8x57) rfl (by kernel_rfl) (by kernel_rfl) (by kernel_rfl) (fun _ _ _ h => h) (Or.inl ⟨by rfl, ?hy8x57⟩) hS6 ?rest8x57
    case hy8x57 => (intro wS hSw; go_simp; (try with_reducible rfl))
    case rest8x57 =>
    simp only [Act.put, List.getElem_toArray, List.getElem_cons_zero, List.getElem_cons_succ, List.setIfInBounds_toArray, List.set_cons_zero, List.set_cons_succ]
    refine wpAnyH_take (i := 9) (v := ?v9x58) rfl (by kernel_rfl) (by kernel_rfl) (by kernel_rfl) (fun _ _ _ h => h) (Or.inl ⟨by rfl, ?hy9x58⟩) hS6 ?rest9x58
    case hy9x58 => (intro wS hSw; go_simp; (try with_reducible rfl))
    case rest9x58 =>
    simp only [Act.put, List.getElem_toArray, List.getElem_cons_zero, List.getElem_cons_succ, List.setIfInBounds_toArray, List.set_cons_zero, List.set_cons_succ]
    refine wpAnyH_take (i := 10) (v := ?v10x59) rfl (by kernel_rfl) (by kernel_rfl) (by kernel_rfl) (fun _ _ _ h => h) (Or.inl ⟨by rfl, ?hy10x59⟩) hS6 ?rest10x59
    case hy10x59 => (intro wS hSw; go_simp; (try with_reducible rfl))
    case rest10x59 =>
    simp only [Act.put, List.getElem_toArray, List.getElem_cons_zero, List.getElem_cons_succ, List.setIfInBounds_toArray, List.set_cons_zero, List.set_cons_succ]
    refine wpAnyH_ready (rs := [12]) (by kernel_rfl) (by simp) ?_
    refine AllReadyH.cons rfl (fun KK hK => ?_) AllReadyH.nil
    rw [if_pos (by rfl)]
    refine wp_store_row 30 _ _ rfl (w3.heap.size) Z.h.cells rfl rfl 30 _ Y6 vh_row rfl (vh_all Z.h) ?_
    have g8 := below_setRow g6 (show w.heap.size ≤ w3.heap.size by omega) Z.h.cells
    have Y8 := Whole.setRow Y6 Z.h.cells
    have P8 := Whole.farRow (B' := w3.heap.size) P6 (by omega) Z.h.cells
    have XB8 := Whole.farRow (B' := w3.heap.size) XB6 (by omega) Z.h.cells
    have Q8 := Whole.farRow (B' := w3.heap.size) Q6 (by omega) Z.h.cells
    have HZ8 := Lib.hid (HZ.out.stays HZc.out (W' := w6.setRow (w3.heap.size) Z.h.cells) (fun b hb => setRow_other _ _ _ _ (by omega)) (by rw [size_setRow]; exact Nat.le_refl _))
    obtain ⟨w8, hw8⟩ : ∃ w8, w6.setRow (w3.heap.size) Z.h.cells = w8 := ⟨_, rfl⟩
    rw [hw8] at g8 Y8 P8 XB8 Q8 HZ8 ⊢
    clear hw8
    refine hK.out _ _ ⟨P8, XB8, g8⟩ (fun hS8 => ?_)
    clear hK KK
    try simp only [Act.put, List.getElem_toArray, List.getElem_cons_zero, List.getElem_cons_succ, List.setIfInBounds_toArray, List.set_cons_zero, List.set_cons_succ]
    refine wpAnyH_ready (rs := [13]) (by kernel_rfl) (by simp) ?_
    refine AllReadyH.cons rfl (fun KK hK => ?_) AllReadyH.nil
    go_simp
    refine hK.out _ _ hS8 (fun hS9 => ?_)
    clear hK KK
    try simp only [Act.put, List.getElem_toArray, List.getElem_cons_zero, List.getElem_cons_succ, List.setIfInBounds_toArray, List.set_cons_zero, List.set_cons_succ]
    refine wpAnyH_done (by kernel_rfl) ?_ _
    clear hS8 hS9 hS hS4 hS5 hS6 g3 P3 XB3 Q3 g4 P4 XB4 Q4 g5 P5 XB5 Q5 g6 P6 XB6 Q6
    obtain ⟨c0, c1, c2, c3, c4, c5, c6, c7, c8, c9, c10, c11, c12⟩ := Whole.c13 (h := T.h) P8
    obtain ⟨y0, y1, y2, y3, y4, y5, y6, y7, y8, y9, y10, y11, y12⟩ := Whole.c13 (h := Z.h) Y8
    go_wp2_with fail
    refine (HRep.out Z (fun b => (b < top ∨ w.heap.size + 3 ≤ b) ∧ b < w8.heap.size) w8 g8 HZ8.out (HZo.out.and HZ8.out.off) (fun b hb => ⟨.inl hb, by have := g8.size; omega⟩) (fun b hb => hb.2)).mono ?_
    rintro _ w9 ⟨Z9, rfl, hZ9, hZ9o, hZ9s, hb9⟩
    have g9 := below_then g8 hb9
    have hq8 := Q8.lt
    have Q9 := Whole.below Q8 hb9 hq8
    have hone := Lib.hid (vh_all Z9.h)
    have hZ9o2 : Z9.Off (fun b => b < top ∨ w.heap.size + 3 ≤ b) := hZ9o.mono fun b hb => by omega
    have HZ9 := Lib.hid (hZ9.stays hZ9o2 (W' := w9.setRow (w.heap.size + 2) Z9.h.cells) (fun b hb => setRow_other _ _ _ _ (by omega)) (by rw [size_setRow]; exact Nat.le_refl _))
    have HZ9o : Hid (Z9.Off (fun b => b < top ∨ w.heap.size ≤ b)) := Lib.hid (hZ9o2.mono fun b hb => by omega)
    have HZ9s := Lib.hid (hZ9s.trans (HSame.out Z V1 (HZ0.out (by trivial))))
    clear hZ9 hZ9o hZ9o2 hZ9s hb9 c0 c1 c2 c3 c4 c5 c6 c7 c8 c9 c10 c11 c12 y0 y1 y2 y3 y4 y5 y6 y7 y8 y9 y10 y11 y12
    go_wp2_with (refine wpList_store_row rfl 30 _ _ rfl (w.heap.size + 2) Z9.h.cells rfl rfl 30 _ Q9 vh_row rfl hone.out ?_)
    exact bodyPost_ret (v := .tuple #[.agg Z9.h.cells, .int .i64 0]) (ret_val2 (p := 8) (q := 9) rfl rfl (Whole.setRow Q9 Z9.h.cells)) rfl (HE.out Z9 _ HZ9.out HZ9o.out HZ9s.out (below_setRow g9 (by omega) _))


theorem rch_any {how : Int} {g : Vt → Stp → Vt × Int} {X : Vt} (hL : LastIs how g X) (hh : w64 how) : ∀ n, RchIs how g X n := by
  intro n
  induction n with
  | zero =>
    rintro ⟨a, n, c, b, o, S⟩ T top w hn hT hX hp ht hg hsz hs
    obtain rfl : n = 1 := hn
    obtain ⟨e, hbt⟩ := hp.1 (Nat.one_pos)
    have q := hp.2.2 0 Nat.one_pos
    dsimp only at e q hbt hs
    subst e
    rw [Nat.zero_mul, Nat.add_zero] at q
    rw [Vt.chgV_one]
    exact rch0 hL hT hX q.1 hbt ht hg hsz (hs 0 Nat.one_pos) q.2.n hh
  | succ m ih =>
    rintro ⟨a, n, c, b, o, S⟩ T top w hn hT hX hp ht hg hsz hs
    obtain rfl : n = m + 2 := hn
    obtain ⟨e, hbt⟩ := hp.1 (Nat.succ_pos _)
    have hm := hp.2.1.1
    dsimp only at e hbt hs hm
    subst e
    show Calls _ _ _ _ (ResOut (Vt.chgV g (m + 2) S T) top w)
    by_cases h0 : (T.find (S 0)).2 = 0
    · by_cases h2 : (Vt.chgV g (m + 1) (fun i => S (i + 1)) (T.part (T.find (S 0)).1.toNat)).2 = 0
      · rw [Vt.chgV_ok h0 h2]; exact rchC ih hm hT hX hp ht hg hsz hs hh h0 h2
      · rw [Vt.chgV_sub h0 h2]; exact rchB ih hm hT hX hp ht hg hsz hs hh h0 h2
    · rw [Vt.chgV_bad h0]; exact rchA ih hm hT hX hp ht hg hsz hs hh h0
end Go.Proofs.YtfkfboiblgoamaaDoor
