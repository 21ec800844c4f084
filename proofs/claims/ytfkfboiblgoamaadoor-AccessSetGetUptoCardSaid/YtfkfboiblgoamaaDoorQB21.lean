/- Laid together for a claim: VtRpL. -/
import Derived.Test.YtfkfboiblgoamaaDoorQB18
import Derived.Deep.Cut
import Derived.Deep.DeepCutAuto
/- Values with another part: datakitref09.Replace of a list. -/
namespace Go.Proofs.YtfkfboiblgoamaaDoor
open Go.RowKit
set_option linter.unusedSimpArgs false
set_option linter.unusedVariables false

set_option maxHeartbeats 8000000 in
set_option maxRecDepth 100000 in
theorem replaceL {h : Vh} {Y : Nat → Int} {L : Nat → Vt} {K : Nat → ByteArray} {F : Nat → Vt} {X : Vt} {top i : Nat} {w : World} (hT : (Vt.mk h Y L K F).In w top) (hX : X.In w w.heap.size) {SS : Nat → Prop} (hXo : X.Off SS) (hSt : ∀ b, b < top → SS b) (hSl : ∀ b, SS b → b < w.heap.size) (ht : top ≤ w.heap.size) (ho : h.own = true) (hk : h.k = 6) (hi : i < h.ln) :
    Calls Tryd.prog 49 #[.agg h.cells, .int .i64 i, .agg X.h.cells] w (FnS ((Vt.mk h Y L K F).setL i X) SS w) := by
  have HX := Lib.hid (fun (w1 : World) (hb : Below w.heap.size w w1) => (hX.below hb).up hb.size)
  have HXo := Lib.hid hXo
  have HSt := Lib.hid hSt
  have HSl := Lib.hid hSl
  clear hXo hSt hSl
  have HXs := Lib.hid (Vt.Same.rfl' hX.whole)
  clear hX
  have hb0 := (((((Below.refl w.heap.size w).alloc (Nat.le_refl _) (.cells h.cells 30)).alloc (by simp) (.cells X.h.cells 30)).alloc (by simp; omega) (.cells Vh.zero.cells 30)).alloc (by simp; omega) (.cells (Vh.lst h.k none 0 0 0).cells 30))
  have P := ((((Whole.new w 30 h.cells).alloc (.cells X.h.cells 30)).alloc (.cells Vh.zero.cells 30)).alloc (.cells (Vh.lst h.k none 0 0 0).cells 30))
  have XB := (((Whole.new (w.alloc (.cells h.cells 30)) 30 X.h.cells).alloc (.cells Vh.zero.cells 30)).alloc (.cells (Vh.lst h.k none 0 0 0).cells 30))
  rw [World.size_alloc] at XB
  have Q := ((Whole.new ((w.alloc (.cells h.cells 30)).alloc (.cells X.h.cells 30)) 30 Vh.zero.cells).alloc (.cells (Vh.lst h.k none 0 0 0).cells 30))
  rw [World.size_alloc, World.size_alloc] at Q
  have O := (Whole.new (((w.alloc (.cells h.cells 30)).alloc (.cells X.h.cells 30)).alloc (.cells Vh.zero.cells 30)) 30 (Vh.lst h.k none 0 0 0).cells)
  rw [World.size_alloc, World.size_alloc, World.size_alloc] at O
  obtain ⟨i0, hi0, hz0, hz1, hz2⟩ := info_parts Tryd.infoVal
  have hokh := hT.1
  obtain ⟨e1, hlt⟩ := hT.2.2.2.1 (show 0 < h.ln by omega)
  have HWh := Lib.hid (fun t (ht : t < h.ln) => Vt.Same.rfl' (hT.whole.1 t ht))
  have HLrow := Lib.hid (fun (w1 : World) (hb : Below w.heap.size w w1) => fun j (hj : j < h.ln) => ((hT.below (hb.mono ht)).2.2.2.2.1 j hj))
  have hz : h.fn = 0 := (Vh.own_parts ho).2.2.2.2.2.2.2.2 (by omega)
  have HOwn := Lib.hid ho
  have Hk := Lib.hid hk
  have hln := hokh.ln
  have hk1 := hokh.k.1
  have hk2 := hokh.k.2
  have i3 : (h.ln : Int) ≤ 1048576 := by omega
  have i4 : (0 : Int) ≤ h.ln := by omega
  have i1 : (0 : Int) ≤ i := by omega
  have i2 : (i : Int) < h.ln := by omega
  clear hokh hT ho hk
  obtain ⟨k, b', n', dd, e, tk, td, tn, tz, x, ba, bn, bc, la, ln, lc, fa, fn, fc, bb, bo, lb, lo, fb, fo⟩ := h
  dsimp only at e1 hlt hln hk1 hk2 hz i3 i4 HLrow HWh Hk P O hb0 Q XB i2 hi
  subst e1 hz
  obtain ⟨M, hM⟩ : ∃ M : Nat → Vt, M = fun j => if j = i then X else L j := ⟨_, rfl⟩
  have HM := Lib.hid hM
  clear hM
  have hPl := P.lt
  simp only [Vh.cells, Vh.zero, Vh.lst] at hb0 Q O XB ⊢
  go_enter Tryd.func49, Tryd.ntmps49
  go_wp2_with fail
  go_loopw [8] (fun s wr => ∃ (j : Nat) (u : Value), j ≤ ln ∧ s = .int .i64 j ∧ RowG (fun x : Vt => x.h.cells) id 13 30 (w.heap.size + 4) SS (fun t X => X = M t) wr u j ∧ Whole wr w.heap.size 30 (Vh.cells ⟨k, b', n', dd, e, tk, td, tn, tz, x, ba, bn, bc, some ⟨lb, lo, none⟩, ln, lc, fa, 0, fc, bb, bo, lb, lo, fb, fo⟩) ∧ Whole wr (w.heap.size + 1) 30 #[.int .i64 X.h.k, .bool X.h.b, .bool X.h.n, .string X.h.d, .int .i64 X.h.e, .int .i64 X.h.tk, .int .i64 X.h.td, .int .i64 X.h.tn, .int .i64 X.h.tz, .string X.h.x, .slice X.h.ba X.h.bn X.h.bc, .slice X.h.la X.h.ln X.h.lc, .slice X.h.fa X.h.fn X.h.fc] ∧ Whole wr (w.heap.size + 2) 30 Vh.zero.cells ∧ Whole wr (w.heap.size + 3) 30 #[.int .i64 k, .bool false, .bool false, .string ⟨#[]⟩, .int .i64 0, .int .i64 0, .int .i64 0, .int .i64 0, .int .i64 0, .string ⟨#[]⟩, .slice none 0 0, u, .slice none 0 0] ∧ Below w.heap.size w wr) (fun s _ => ln - (intOf s).toNat)
  case atStart => exact ⟨0, .slice none 0 0, by omega, rfl, RowG.nil, P, XB, Q, O, hb0⟩
  case round =>
    clear P Q O XB hb0
    obtain ⟨j, u, hj, rfl, hrow, P, XB, Q, O, hbr⟩ := hrel
    have hji : (0 : Int) ≤ j := by omega
    have hOl := Whole.lt O
    by_cases hjn : j < ln
    · have hji2 : (j : Int) < ln := by omega
      obtain ⟨hl, hin⟩ := HLrow.out wr hbr j hjn
      have cP := Whole.cell P 11
      simp only [Vh.cells, List.getElem?_toArray, List.getElem?_cons_succ, List.getElem?_cons_zero] at cP
      obtain ⟨l0, l1, l2, l3, l4, l5, l6, l7, l8, l9, l10, l11, l12⟩ := hl.c13
      by_cases hjeq : j = i
      · subst hjeq
        have B1 := (Below.refl wr.heap.size wr).alloc (Nat.le_refl _) (.cells #[.int .i64 (L j).h.k, .bool (L j).h.b, .bool (L j).h.n, .string (L j).h.d, .int .i64 (L j).h.e, .int .i64 (L j).h.tk, .int .i64 (L j).h.td, .int .i64 (L j).h.tn, .int .i64 (L j).h.tz, .string (L j).h.x, .slice (L j).h.ba (L j).h.bn (L j).h.bc, .slice (L j).h.la (L j).h.ln (L j).h.lc, .slice (L j).h.fa (L j).h.fn (L j).h.fc] 30)
        have EB : Whole (wr.alloc (.cells #[.int .i64 (L j).h.k, .bool (L j).h.b, .bool (L j).h.n, .string (L j).h.d, .int .i64 (L j).h.e, .int .i64 (L j).h.tk, .int .i64 (L j).h.td, .int .i64 (L j).h.tn, .int .i64 (L j).h.tz, .string (L j).h.x, .slice (L j).h.ba (L j).h.bn (L j).h.bc, .slice (L j).h.la (L j).h.ln (L j).h.lc, .slice (L j).h.fa (L j).h.fn (L j).h.fc] 30)) wr.heap.size 30 #[.int .i64 (L j).h.k, .bool (L j).h.b, .bool (L j).h.n, .string (L j).h.d, .int .i64 (L j).h.e, .int .i64 (L j).h.tk, .int .i64 (L j).h.td, .int .i64 (L j).h.tn, .int .i64 (L j).h.tz, .string (L j).h.x, .slice (L j).h.ba (L j).h.bn (L j).h.bc, .slice (L j).h.la (L j).h.ln (L j).h.lc, .slice (L j).h.fa (L j).h.fn (L j).h.fc] := Whole.new wr _ _
        obtain ⟨x0, x1, x2, x3, x4, x5, x6, x7, x8, x9, x10, x11, x12⟩ := Whole.c13 (h := X.h) (XB.alloc (.cells #[.int .i64 (L j).h.k, .bool (L j).h.b, .bool (L j).h.n, .string (L j).h.d, .int .i64 (L j).h.e, .int .i64 (L j).h.tk, .int .i64 (L j).h.td, .int .i64 (L j).h.tn, .int .i64 (L j).h.tz, .string (L j).h.x, .slice (L j).h.ba (L j).h.bn (L j).h.bc, .slice (L j).h.la (L j).h.ln (L j).h.lc, .slice (L j).h.fa (L j).h.fn (L j).h.fc] 30))
        have hone := Lib.hid (vh_all X.h)
        have HMj : Hid (X = M j) := Lib.hid (by rw [HM.out]; dsimp only; rw [if_pos rfl])
        obtain ⟨W5, hW5⟩ : ∃ W5, W5 = (wr.alloc (.cells #[.int .i64 (L j).h.k, .bool (L j).h.b, .bool (L j).h.n, .string (L j).h.d, .int .i64 (L j).h.e, .int .i64 (L j).h.tk, .int .i64 (L j).h.td, .int .i64 (L j).h.tn, .int .i64 (L j).h.tz, .string (L j).h.x, .slice (L j).h.ba (L j).h.bn (L j).h.bc, .slice (L j).h.la (L j).h.ln (L j).h.lc, .slice (L j).h.fa (L j).h.fn (L j).h.fc] 30)).setRow wr.heap.size #[.int .i64 X.h.k, .bool X.h.b, .bool X.h.n, .string X.h.d, .int .i64 X.h.e, .int .i64 X.h.tk, .int .i64 X.h.td, .int .i64 X.h.tn, .int .i64 X.h.tz, .string X.h.x, .slice X.h.ba X.h.bn X.h.bc, .slice X.h.la X.h.ln X.h.lc, .slice X.h.fa X.h.fn X.h.fc] := ⟨_, rfl⟩
        have hB5 : Below wr.heap.size wr W5 := by rw [hW5]; exact below_setRow B1 (Nat.le_refl _) _
        have E5 : Whole W5 wr.heap.size 30 #[.int .i64 X.h.k, .bool X.h.b, .bool X.h.n, .string X.h.d, .int .i64 X.h.e, .int .i64 X.h.tk, .int .i64 X.h.td, .int .i64 X.h.tn, .int .i64 X.h.tz, .string X.h.x, .slice X.h.ba X.h.bn X.h.bc, .slice X.h.la X.h.ln X.h.lc, .slice X.h.fa X.h.fn X.h.fc] := by rw [hW5]; exact EB.setRow _
        have HW5 := Lib.hid hW5
        clear B1 hW5
        have hb5 := below_then hbr hB5
        have hrow5 := hrow.below hB5
        have P5 := Whole.below P hB5 (Whole.lt P)
        have XB5 := Whole.below XB hB5 (Whole.lt XB)
        have Q5 := Whole.below Q hB5 (Whole.lt Q)
        have O5 := Whole.below O hB5 (Whole.lt O)
        have hw5 := hB5.size
        have HZin : Hid (X.In W5 W5.heap.size) := Lib.hid (HX.out W5 hb5)
        have HZo : Hid (X.Off SS) := HXo
        obtain ⟨e0, e1, e2, e3, e4, e5, e6, e7, e8, e9, e10, e11, e12⟩ := Whole.c13 (h := X.h) E5
        have oO := Whole.cell O5 11
        have fO := Whole.frozen O5 11
        simp only [List.getElem?_toArray, List.getElem?_cons_succ, List.getElem?_cons_zero] at oO
        obtain ⟨f, hown, hf⟩ := (hrow5.alloc (.cells #[.int .i64 X.h.k, .bool X.h.b, .bool X.h.n, .string X.h.d, .int .i64 X.h.e, .int .i64 X.h.tk, .int .i64 X.h.td, .int .i64 X.h.tn, .int .i64 X.h.tz, .string X.h.x, .slice X.h.ba X.h.bn X.h.bc, .slice X.h.la X.h.ln X.h.lc, .slice X.h.fa X.h.fn X.h.fc] 30))
        have Hf := Lib.hid hf
        have s1 := Lib.hid (cells_new W5 30 (X).h.cells)
        have s2 := Lib.hid (vh_one (X).h)
        have s3 : Hid (j + 1 ≤ maxLen) := Lib.hid (by unfold maxLen; omega)
        have s4 : Hid ((j + 1) * 168 ≤ 140737488355328) := Lib.hid (by omega)
        have s5 : Hid ((w.heap.size + 4) ≤ (W5.alloc (.cells #[.int .i64 X.h.k, .bool X.h.b, .bool X.h.n, .string X.h.d, .int .i64 X.h.e, .int .i64 X.h.tk, .int .i64 X.h.td, .int .i64 X.h.tn, .int .i64 X.h.tz, .string X.h.x, .slice X.h.ba X.h.bn X.h.bc, .slice X.h.la X.h.ln X.h.lc, .slice X.h.fa X.h.fn X.h.fc] 30)).heap.size) := Lib.hid (by rw [World.size_alloc]; omega)
        go_wp2_with (first | (refine wpList_store_row rfl 30 _ _ rfl wr.heap.size #[.int .i64 X.h.k, .bool X.h.b, .bool X.h.n, .string X.h.d, .int .i64 X.h.e, .int .i64 X.h.tk, .int .i64 X.h.td, .int .i64 X.h.tn, .int .i64 X.h.tz, .string X.h.x, .slice X.h.ba X.h.bn X.h.bc, .slice X.h.la X.h.ln X.h.lc, .slice X.h.fa X.h.fn X.h.fc] rfl rfl 30 _ EB vh_row rfl hone.out ?_; rw [← HW5.out]) | (at_builtin; refine wpList_append_told _ rfl _ _ 27 rfl (w.heap.size + 4) 30 i0 _ 13 168 Tryd.underlying27 hi0 hz0 hz1 hz2 rfl (by decide) _ _ _ rfl hown ⟨W5.heap.size, 0, none⟩ 1 1 (X).h.cells.toList rfl rfl s1.out s2.out s3.out s4.out s5.out Nat.one_pos ?_))
        clear s1 s2 s3 s4 s5
        intro v' w3 hown3 hgrow hat
        obtain ⟨gg, cap, rfl, -, -⟩ := own_form hown3 (Nat.succ_pos _)
        have HOw := fun g (hg : u.ownBlock = some g) => hown.lt g hg
        have hrow3 : RowG (fun x : Vt => x.h.cells) id 13 30 (w.heap.size + 4) SS (fun t X => X = M t) w3 (.slice (some ⟨gg, 0, none⟩) (j + 1) cap) (j + 1) :=
          RowG.push (x := X) hown Hf.out (HZin.out.later ((Below.refl _ _).alloc (Nat.le_refl _) _)) HZo.out (fun g hg => HZo.out.mono fun b hb => by have hb' := HSl.out b hb; have := (HOw g hg).1; omega) HMj.out hown3 hgrow (by simp only [World.size_alloc]; exact hat)
        have far : ∀ B, B < (w.heap.size + 4) → some B ≠ u.ownBlock := fun B hB e => by have := (HOw B e.symm).1; omega
        have P3 := Whole.kept (Whole.alloc P5 (.cells #[.int .i64 X.h.k, .bool X.h.b, .bool X.h.n, .string X.h.d, .int .i64 X.h.e, .int .i64 X.h.tk, .int .i64 X.h.td, .int .i64 X.h.tn, .int .i64 X.h.tz, .string X.h.x, .slice X.h.ba X.h.bn X.h.bc, .slice X.h.la X.h.ln X.h.lc, .slice X.h.fa X.h.fn X.h.fc] 30)) hgrow (far _ (by omega))
        have XB3 := Whole.kept (Whole.alloc XB5 (.cells #[.int .i64 X.h.k, .bool X.h.b, .bool X.h.n, .string X.h.d, .int .i64 X.h.e, .int .i64 X.h.tk, .int .i64 X.h.td, .int .i64 X.h.tn, .int .i64 X.h.tz, .string X.h.x, .slice X.h.ba X.h.bn X.h.bc, .slice X.h.la X.h.ln X.h.lc, .slice X.h.fa X.h.fn X.h.fc] 30)) hgrow (far _ (by omega))
        have Q3 := Whole.kept (Whole.alloc Q5 (.cells #[.int .i64 X.h.k, .bool X.h.b, .bool X.h.n, .string X.h.d, .int .i64 X.h.e, .int .i64 X.h.tk, .int .i64 X.h.td, .int .i64 X.h.tn, .int .i64 X.h.tz, .string X.h.x, .slice X.h.ba X.h.bn X.h.bc, .slice X.h.la X.h.ln X.h.lc, .slice X.h.fa X.h.fn X.h.fc] 30)) hgrow (far _ (by omega))
        have O3 := Whole.kept (Whole.alloc O5 (.cells #[.int .i64 X.h.k, .bool X.h.b, .bool X.h.n, .string X.h.d, .int .i64 X.h.e, .int .i64 X.h.tk, .int .i64 X.h.td, .int .i64 X.h.tn, .int .i64 X.h.tz, .string X.h.x, .slice X.h.ba X.h.bn X.h.bc, .slice X.h.la X.h.ln X.h.lc, .slice X.h.fa X.h.fn X.h.fc] 30)) hgrow (far _ (by omega))
        have hb3 := (hb5.alloc hb5.size (.cells #[.int .i64 X.h.k, .bool X.h.b, .bool X.h.n, .string X.h.d, .int .i64 X.h.e, .int .i64 X.h.tk, .int .i64 X.h.td, .int .i64 X.h.tn, .int .i64 X.h.tz, .string X.h.x, .slice X.h.ba X.h.bn X.h.bc, .slice X.h.la X.h.ln X.h.lc, .slice X.h.fa X.h.fn X.h.fc] 30)).grown hgrow (by rw [World.size_alloc]; omega) (fun g hg => by have := (HOw g hg).1; omega)
        clear hown Hf hown3 hgrow hat hrow5 hb5 P5 XB5 Q5 O5 oO fO HOw far HZin HZo hbr hrow P XB Q O hB5 hin E5 EB x0 x1 x2 x3 x4 x5 x6 x7 x8 x9 x10 x11 x12 hone cP hl e0 e1 e2 e3 e4 e5 e6 e7 e8 e9 e10 e11 e12 l0 l1 l2 l3 l4 l5 l6 l7 l8 l9 l10 l11 l12 HW5
        have oO := Whole.cell O3 11
        have fO := Whole.frozen O3 11
        simp only [List.getElem?_toArray, List.getElem?_cons_succ, List.getElem?_cons_zero] at oO
        have O4 := Whole.set O3 11 (.slice (some ⟨gg, 0, none⟩) (j + 1) cap)
        have P4 := Whole.far (p := ⟨w.heap.size + 1 + 1 + 1, 11, none⟩) P3 (by show w.heap.size ≠ w.heap.size + 1 + 1 + 1; omega) (.slice (some ⟨gg, 0, none⟩) (j + 1) cap)
        have XB4 := Whole.far (p := ⟨w.heap.size + 1 + 1 + 1, 11, none⟩) XB3 (by show w.heap.size + 1 ≠ w.heap.size + 1 + 1 + 1; omega) (.slice (some ⟨gg, 0, none⟩) (j + 1) cap)
        have Q4 := Whole.far (p := ⟨w.heap.size + 1 + 1 + 1, 11, none⟩) Q3 (by show w.heap.size + 1 + 1 ≠ w.heap.size + 1 + 1 + 1; omega) (.slice (some ⟨gg, 0, none⟩) (j + 1) cap)
        have hb4 := hb3.setCell (p := ⟨w.heap.size + 1 + 1 + 1, 11, none⟩) (by show w.heap.size ≤ w.heap.size + 1 + 1 + 1; omega) (.slice (some ⟨gg, 0, none⟩) (j + 1) cap)
        have hrow4 := hrow3.turn (grown_set w3 (w.heap.size + 1 + 1 + 1) 11 (.slice (some ⟨gg, 0, none⟩) (j + 1) cap)) (by omega) (fun b hb => by have hb' := HSl.out b hb; omega)
        clear P3 XB3 Q3 O3 hb3 hrow3
        go_wp2_with fail
        clear oO fO
        go_roundw
        case rel => exact ⟨j + 1, _, by omega, by go_num, hrow4, P4, XB4, Q4, O4, hb4⟩
        case measure => simp [intOf]; omega
      · have hB5 := (Below.refl wr.heap.size wr).alloc (Nat.le_refl _) (.cells #[.int .i64 (L j).h.k, .bool (L j).h.b, .bool (L j).h.n, .string (L j).h.d, .int .i64 (L j).h.e, .int .i64 (L j).h.tk, .int .i64 (L j).h.td, .int .i64 (L j).h.tn, .int .i64 (L j).h.tz, .string (L j).h.x, .slice (L j).h.ba (L j).h.bn (L j).h.bc, .slice (L j).h.la (L j).h.ln (L j).h.lc, .slice (L j).h.fa (L j).h.fn (L j).h.fc] 30)
        have hne : (j == i) = false := beq_eq_false_iff_ne.2 hjeq
        have hne2 : ((j : Int) == (i : Int)) = false := beq_eq_false_iff_ne.2 (by omega)
        have E5 : Whole (wr.alloc (.cells #[.int .i64 (L j).h.k, .bool (L j).h.b, .bool (L j).h.n, .string (L j).h.d, .int .i64 (L j).h.e, .int .i64 (L j).h.tk, .int .i64 (L j).h.td, .int .i64 (L j).h.tn, .int .i64 (L j).h.tz, .string (L j).h.x, .slice (L j).h.ba (L j).h.bn (L j).h.bc, .slice (L j).h.la (L j).h.ln (L j).h.lc, .slice (L j).h.fa (L j).h.fn (L j).h.fc] 30)) wr.heap.size 30 #[.int .i64 (L j).h.k, .bool (L j).h.b, .bool (L j).h.n, .string (L j).h.d, .int .i64 (L j).h.e, .int .i64 (L j).h.tk, .int .i64 (L j).h.td, .int .i64 (L j).h.tn, .int .i64 (L j).h.tz, .string (L j).h.x, .slice (L j).h.ba (L j).h.bn (L j).h.bc, .slice (L j).h.la (L j).h.ln (L j).h.lc, .slice (L j).h.fa (L j).h.fn (L j).h.fc] := Whole.new wr _ _
        have HMj : Hid ((L j) = M j) := Lib.hid (by rw [HM.out]; dsimp only; rw [if_neg hjeq])
        have hb5 := below_then hbr hB5
        have hrow5 := hrow.below hB5
        have P5 := Whole.below P hB5 (Whole.lt P)
        have XB5 := Whole.below XB hB5 (Whole.lt XB)
        have Q5 := Whole.below Q hB5 (Whole.lt Q)
        have O5 := Whole.below O hB5 (Whole.lt O)
        have hw5 := hB5.size
        have HZin : Hid ((L j).In (wr.alloc (.cells #[.int .i64 (L j).h.k, .bool (L j).h.b, .bool (L j).h.n, .string (L j).h.d, .int .i64 (L j).h.e, .int .i64 (L j).h.tk, .int .i64 (L j).h.td, .int .i64 (L j).h.tn, .int .i64 (L j).h.tz, .string (L j).h.x, .slice (L j).h.ba (L j).h.bn (L j).h.bc, .slice (L j).h.la (L j).h.ln (L j).h.lc, .slice (L j).h.fa (L j).h.fn (L j).h.fc] 30)) (wr.alloc (.cells #[.int .i64 (L j).h.k, .bool (L j).h.b, .bool (L j).h.n, .string (L j).h.d, .int .i64 (L j).h.e, .int .i64 (L j).h.tk, .int .i64 (L j).h.td, .int .i64 (L j).h.tn, .int .i64 (L j).h.tz, .string (L j).h.x, .slice (L j).h.ba (L j).h.bn (L j).h.bc, .slice (L j).h.la (L j).h.ln (L j).h.lc, .slice (L j).h.fa (L j).h.fn (L j).h.fc] 30)).heap.size) := Lib.hid ((hin.below (hB5.mono (Nat.le_trans ht hbr.size))).up (Nat.le_trans ht hb5.size))
        have HZo : Hid ((L j).Off SS) := Lib.hid (hin.off.mono HSt.out)
        obtain ⟨e0, e1, e2, e3, e4, e5, e6, e7, e8, e9, e10, e11, e12⟩ := Whole.c13 (h := (L j).h) E5
        have oO := Whole.cell O5 11
        have fO := Whole.frozen O5 11
        simp only [List.getElem?_toArray, List.getElem?_cons_succ, List.getElem?_cons_zero] at oO
        obtain ⟨f, hown, hf⟩ := (hrow5.alloc (.cells #[.int .i64 (L j).h.k, .bool (L j).h.b, .bool (L j).h.n, .string (L j).h.d, .int .i64 (L j).h.e, .int .i64 (L j).h.tk, .int .i64 (L j).h.td, .int .i64 (L j).h.tn, .int .i64 (L j).h.tz, .string (L j).h.x, .slice (L j).h.ba (L j).h.bn (L j).h.bc, .slice (L j).h.la (L j).h.ln (L j).h.lc, .slice (L j).h.fa (L j).h.fn (L j).h.fc] 30))
        have Hf := Lib.hid hf
        have s1 := Lib.hid (by have q := cells_new (wr.alloc (.cells #[.int .i64 (L j).h.k, .bool (L j).h.b, .bool (L j).h.n, .string (L j).h.d, .int .i64 (L j).h.e, .int .i64 (L j).h.tk, .int .i64 (L j).h.td, .int .i64 (L j).h.tn, .int .i64 (L j).h.tz, .string (L j).h.x, .slice (L j).h.ba (L j).h.bn (L j).h.bc, .slice (L j).h.la (L j).h.ln (L j).h.lc, .slice (L j).h.fa (L j).h.fn (L j).h.fc] 30)) 30 ((L j)).h.cells; rw [World.size_alloc] at q; exact q)
        have s2 := Lib.hid (vh_one ((L j)).h)
        have s3 : Hid (j + 1 ≤ maxLen) := Lib.hid (by unfold maxLen; omega)
        have s4 : Hid ((j + 1) * 168 ≤ 140737488355328) := Lib.hid (by omega)
        have s5 : Hid ((w.heap.size + 4) ≤ ((wr.alloc (.cells #[.int .i64 (L j).h.k, .bool (L j).h.b, .bool (L j).h.n, .string (L j).h.d, .int .i64 (L j).h.e, .int .i64 (L j).h.tk, .int .i64 (L j).h.td, .int .i64 (L j).h.tn, .int .i64 (L j).h.tz, .string (L j).h.x, .slice (L j).h.ba (L j).h.bn (L j).h.bc, .slice (L j).h.la (L j).h.ln (L j).h.lc, .slice (L j).h.fa (L j).h.fn (L j).h.fc] 30)).alloc (.cells #[.int .i64 (L j).h.k, .bool (L j).h.b, .bool (L j).h.n, .string (L j).h.d, .int .i64 (L j).h.e, .int .i64 (L j).h.tk, .int .i64 (L j).h.td, .int .i64 (L j).h.tn, .int .i64 (L j).h.tz, .string (L j).h.x, .slice (L j).h.ba (L j).h.bn (L j).h.bc, .slice (L j).h.la (L j).h.ln (L j).h.lc, .slice (L j).h.fa (L j).h.fn (L j).h.fc] 30)).heap.size) := Lib.hid (by rw [World.size_alloc]; omega)
        go_wp2_with (first | (at_builtin; refine wpList_append_told _ rfl _ _ 27 rfl (w.heap.size + 4) 30 i0 _ 13 168 Tryd.underlying27 hi0 hz0 hz1 hz2 rfl (by decide) _ _ _ rfl hown ⟨wr.heap.size + 1, 0, none⟩ 1 1 ((L j)).h.cells.toList rfl rfl s1.out s2.out s3.out s4.out s5.out Nat.one_pos ?_))
        clear s1 s2 s3 s4 s5
        intro v' w3 hown3 hgrow hat
        obtain ⟨gg, cap, rfl, -, -⟩ := own_form hown3 (Nat.succ_pos _)
        have HOw := fun g (hg : u.ownBlock = some g) => hown.lt g hg
        have hrow3 : RowG (fun x : Vt => x.h.cells) id 13 30 (w.heap.size + 4) SS (fun t X => X = M t) w3 (.slice (some ⟨gg, 0, none⟩) (j + 1) cap) (j + 1) :=
          RowG.push (x := (L j)) hown Hf.out (HZin.out.later ((Below.refl _ _).alloc (Nat.le_refl _) _)) HZo.out (fun g hg => HZo.out.mono fun b hb => by have hb' := HSl.out b hb; have := (HOw g hg).1; omega) HMj.out hown3 hgrow (by simp only [World.size_alloc]; exact hat)
        have far : ∀ B, B < (w.heap.size + 4) → some B ≠ u.ownBlock := fun B hB e => by have := (HOw B e.symm).1; omega
        have P3 := Whole.kept (Whole.alloc P5 (.cells #[.int .i64 (L j).h.k, .bool (L j).h.b, .bool (L j).h.n, .string (L j).h.d, .int .i64 (L j).h.e, .int .i64 (L j).h.tk, .int .i64 (L j).h.td, .int .i64 (L j).h.tn, .int .i64 (L j).h.tz, .string (L j).h.x, .slice (L j).h.ba (L j).h.bn (L j).h.bc, .slice (L j).h.la (L j).h.ln (L j).h.lc, .slice (L j).h.fa (L j).h.fn (L j).h.fc] 30)) hgrow (far _ (by omega))
        have XB3 := Whole.kept (Whole.alloc XB5 (.cells #[.int .i64 (L j).h.k, .bool (L j).h.b, .bool (L j).h.n, .string (L j).h.d, .int .i64 (L j).h.e, .int .i64 (L j).h.tk, .int .i64 (L j).h.td, .int .i64 (L j).h.tn, .int .i64 (L j).h.tz, .string (L j).h.x, .slice (L j).h.ba (L j).h.bn (L j).h.bc, .slice (L j).h.la (L j).h.ln (L j).h.lc, .slice (L j).h.fa (L j).h.fn (L j).h.fc] 30)) hgrow (far _ (by omega))
        have Q3 := Whole.kept (Whole.alloc Q5 (.cells #[.int .i64 (L j).h.k, .bool (L j).h.b, .bool (L j).h.n, .string (L j).h.d, .int .i64 (L j).h.e, .int .i64 (L j).h.tk, .int .i64 (L j).h.td, .int .i64 (L j).h.tn, .int .i64 (L j).h.tz, .string (L j).h.x, .slice (L j).h.ba (L j).h.bn (L j).h.bc, .slice (L j).h.la (L j).h.ln (L j).h.lc, .slice (L j).h.fa (L j).h.fn (L j).h.fc] 30)) hgrow (far _ (by omega))
        have O3 := Whole.kept (Whole.alloc O5 (.cells #[.int .i64 (L j).h.k, .bool (L j).h.b, .bool (L j).h.n, .string (L j).h.d, .int .i64 (L j).h.e, .int .i64 (L j).h.tk, .int .i64 (L j).h.td, .int .i64 (L j).h.tn, .int .i64 (L j).h.tz, .string (L j).h.x, .slice (L j).h.ba (L j).h.bn (L j).h.bc, .slice (L j).h.la (L j).h.ln (L j).h.lc, .slice (L j).h.fa (L j).h.fn (L j).h.fc] 30)) hgrow (far _ (by omega))
        have hb3 := (hb5.alloc hb5.size (.cells #[.int .i64 (L j).h.k, .bool (L j).h.b, .bool (L j).h.n, .string (L j).h.d, .int .i64 (L j).h.e, .int .i64 (L j).h.tk, .int .i64 (L j).h.td, .int .i64 (L j).h.tn, .int .i64 (L j).h.tz, .string (L j).h.x, .slice (L j).h.ba (L j).h.bn (L j).h.bc, .slice (L j).h.la (L j).h.ln (L j).h.lc, .slice (L j).h.fa (L j).h.fn (L j).h.fc] 30)).grown hgrow (by rw [World.size_alloc]; omega) (fun g hg => by have := (HOw g hg).1; omega)
        clear hown Hf hown3 hgrow hat hrow5 hb5 P5 XB5 Q5 O5 oO fO HOw far HZin HZo hbr hrow P XB Q O hB5 hin E5 hne hne2 cP hl e0 e1 e2 e3 e4 e5 e6 e7 e8 e9 e10 e11 e12 l0 l1 l2 l3 l4 l5 l6 l7 l8 l9 l10 l11 l12
        have oO := Whole.cell O3 11
        have fO := Whole.frozen O3 11
        simp only [List.getElem?_toArray, List.getElem?_cons_succ, List.getElem?_cons_zero] at oO
        have O4 := Whole.set O3 11 (.slice (some ⟨gg, 0, none⟩) (j + 1) cap)
        have P4 := Whole.far (p := ⟨w.heap.size + 1 + 1 + 1, 11, none⟩) P3 (by show w.heap.size ≠ w.heap.size + 1 + 1 + 1; omega) (.slice (some ⟨gg, 0, none⟩) (j + 1) cap)
        have XB4 := Whole.far (p := ⟨w.heap.size + 1 + 1 + 1, 11, none⟩) XB3 (by show w.heap.size + 1 ≠ w.heap.size + 1 + 1 + 1; omega) (.slice (some ⟨gg, 0, none⟩) (j + 1) cap)
        have Q4 := Whole.far (p := ⟨w.heap.size + 1 + 1 + 1, 11, none⟩) Q3 (by show w.heap.size + 1 + 1 ≠ w.heap.size + 1 + 1 + 1; omega) (.slice (some ⟨gg, 0, none⟩) (j + 1) cap)
        have hb4 := hb3.setCell (p := ⟨w.heap.size + 1 + 1 + 1, 11, none⟩) (by show w.heap.size ≤ w.heap.size + 1 + 1 + 1; omega) (.slice (some ⟨gg, 0, none⟩) (j + 1) cap)
        have hrow4 := hrow3.turn (grown_set w3 (w.heap.size + 1 + 1 + 1) 11 (.slice (some ⟨gg, 0, none⟩) (j + 1) cap)) (by omega) (fun b hb => by have hb' := HSl.out b hb; omega)
        clear P3 XB3 Q3 O3 hb3 hrow3
        go_wp2_with fail
        clear oO fO
        go_roundw
        case rel => exact ⟨j + 1, _, by omega, by go_num, hrow4, P4, XB4, Q4, O4, hb4⟩
        case measure => simp [intOf]; omega
    · obtain rfl : j = ln := by omega
      obtain ⟨-, a', c', b1, rfl, -, -, -⟩ := RowG.done (fun x : Vt => vh_size x.h) hrow
      have HE : Hid (∀ W', Below w.heap.size w W' → RowG (fun x : Vt => x.h.cells) id 13 30 (w.heap.size + 4) SS (fun t X => X = M t) W' (.slice a' j c') j → FnS ((Vt.mk ⟨k, b', n', dd, e, tk, td, tn, tz, x, ba, bn, bc, some ⟨lb, lo, none⟩, j, lc, fa, 0, fc, bb, bo, lb, lo, fb, fo⟩ Y L K F).setL i X) SS w (.returned (.agg #[.int .i64 6, .bool false, .bool false, .string ⟨#[]⟩, .int .i64 0, .int .i64 0, .int .i64 0, .int .i64 0, .int .i64 0, .string ⟨#[]⟩, .slice none 0 0, .slice a' j c', .slice none 0 0])) W') := Lib.hid fun W' hb hr =>
        lst_out (M := M) hr (by omega) (by omega) hb (fun t Z ht hq => by rw [hq, HM.out]; dsimp only; first | (split <;> first | exact HXs.out | exact HWh.out _ (by omega))) (fun a c b M' hM' => by rw [HM.out] at hM'; exact lst_same HOwn.out Hk.out hM')
      have Hr := Lib.hid hrow
      obtain rfl : k = 6 := Hk.out
      clear hrow
      obtain ⟨c0, c1, c2, c3, c4, c5, c6, c7, c8, c9, c10, c11, c12⟩ := Whole.c13 (h := (Vh.lst 6 a' j c' 0)) O
      have c12' := Whole.cell P 12
      have c11' := Whole.cell P 11
      simp only [Vh.lst, Vh.cells, List.getElem?_toArray, List.getElem?_cons_succ, List.getElem?_cons_zero] at c0 c1 c2 c3 c4 c5 c6 c7 c8 c9 c10 c11 c12 c12' c11'
      go_wp2_with fail
      go_loopw [10] (fun s wx => s = .int .i64 0 ∧ wx = wr) (fun _ _ => 0)
      case atStart => exact ⟨rfl, rfl⟩
      case round =>
        obtain ⟨rfl, rfl⟩ := hrel
        have hone := Lib.hid (vh_all (Vh.lst 6 a' j c' 0))
        go_wp2_with (refine wpList_store_row rfl 30 _ _ rfl (w.heap.size + 2) (Vh.lst 6 a' j c' 0).cells rfl rfl 30 _ Q vh_row rfl hone.out ?_)
        exact bodyPost_ret (v := .agg (Vh.lst 6 a' j c' 0).cells) (ret_val (p := 6) rfl rfl (Q.setRow _)) rfl (HE.out _ (below_setRow hbr (by omega) _) (Hr.out.turn (grown_row _ _ _) (by omega) (fun b hb => by have hb' := HSl.out b hb; omega)))
end Go.Proofs.YtfkfboiblgoamaaDoor
