/- Laid together for a claim: VtRpF, VtRefW. -/
import Derived.Test.YtfkfboiblgoamaaDoorQB18
import Derived.Deep.Cut
import Derived.Deep.DeepCutAuto
import Derived.Test.YtfkfboiblgoamaaDoorQB19
import Derived.Test.YtfkfboiblgoamaaDoorQB20
import Derived.Test.YtfkfboiblgoamaaDoorQB21
/- Values with another part: datakitref09.Replace of a map. -/
namespace Go.Proofs.YtfkfboiblgoamaaDoor
open Go.RowKit
set_option linter.unusedSimpArgs false
set_option linter.unusedVariables false

set_option maxHeartbeats 8000000 in
set_option maxRecDepth 100000 in
theorem replaceF {h : Vh} {Y : Nat → Int} {L : Nat → Vt} {K : Nat → ByteArray} {F : Nat → Vt} {X : Vt} {top i : Nat} {w : World} (hT : (Vt.mk h Y L K F).In w top) (hX : X.In w w.heap.size) {SS : Nat → Prop} (hXo : X.Off SS) (hSt : ∀ b, b < top → SS b) (hSl : ∀ b, SS b → b < w.heap.size) (ht : top ≤ w.heap.size) (ho : h.own = true) (hk : h.k = 7) (hi : i < h.fn) :
    Calls Tryd.prog 49 #[.agg h.cells, .int .i64 i, .agg X.h.cells] w (FnS ((Vt.mk h Y L K F).setF i X) SS w) := by
  have HX := Lib.hid (fun (w1 : World) (hb : Below w.heap.size w w1) => (hX.below hb).up hb.size)
  have HXo := Lib.hid hXo
  have HSt := Lib.hid hSt
  have HSl := Lib.hid hSl
  clear hXo hSt hSl
  have HXs := Lib.hid (Vt.Same.rfl' hX.whole)
  clear hX
  have hb0 := (((((Below.refl w.heap.size w).alloc (Nat.le_refl _) (.cells h.cells 30)).alloc (by simp) (.cells X.h.cells 30)).alloc (by simp; omega) (.cells Vh.zero.cells 30)).alloc (by simp; omega) (.cells (Vh.fld h.k none 0 0 0).cells 30))
  have P := ((((Whole.new w 30 h.cells).alloc (.cells X.h.cells 30)).alloc (.cells Vh.zero.cells 30)).alloc (.cells (Vh.fld h.k none 0 0 0).cells 30))
  have XB := (((Whole.new (w.alloc (.cells h.cells 30)) 30 X.h.cells).alloc (.cells Vh.zero.cells 30)).alloc (.cells (Vh.fld h.k none 0 0 0).cells 30))
  rw [World.size_alloc] at XB
  have Q := ((Whole.new ((w.alloc (.cells h.cells 30)).alloc (.cells X.h.cells 30)) 30 Vh.zero.cells).alloc (.cells (Vh.fld h.k none 0 0 0).cells 30))
  rw [World.size_alloc, World.size_alloc] at Q
  have O := (Whole.new (((w.alloc (.cells h.cells 30)).alloc (.cells X.h.cells 30)).alloc (.cells Vh.zero.cells 30)) 30 (Vh.fld h.k none 0 0 0).cells)
  rw [World.size_alloc, World.size_alloc, World.size_alloc] at O
  obtain ⟨i0, hi0, hz0, hz1, hz2⟩ := info_parts Tryd.infoFld
  have hokh := hT.1
  obtain ⟨e1, hlt⟩ := hT.2.2.2.2.2.1 (show 0 < h.fn by omega)
  have HWh := Lib.hid (fun t (ht : t < h.fn) => And.intro (hT.2.2.2.2.2.2 t ht).2.1 (Vt.Same.rfl' (hT.whole.2 t ht)))
  have HLrow := Lib.hid (fun (w1 : World) (hb : Below w.heap.size w w1) => fun j (hj : j < h.fn) => (And.intro (lies_fcs ((hT.below (hb.mono ht)).2.2.2.2.2.2 j hj).1 ((hT.below (hb.mono ht)).2.2.2.2.2.2 j hj).2.2.1) ((hT.below (hb.mono ht)).2.2.2.2.2.2 j hj).2.2.2 : LiesAt w1 h.fb (h.fo + j * 14) (fcs (K j, F j)) ∧ (F j).In w1 top))
  have hz : h.ln = 0 := (Vh.own_parts ho).2.2.2.2.2.2.2.1 (by omega)
  have HOwn := Lib.hid ho
  have Hk := Lib.hid hk
  have hln := hokh.fn
  have hk1 := hokh.k.1
  have hk2 := hokh.k.2
  have i3 : (h.fn : Int) ≤ 1048576 := by omega
  have i4 : (0 : Int) ≤ h.fn := by omega
  have i1 : (0 : Int) ≤ i := by omega
  have i2 : (i : Int) < h.fn := by omega
  clear hokh hT ho hk
  obtain ⟨k, b', n', dd, e, tk, td, tn, tz, x, ba, bn, bc, la, ln, lc, fa, fn, fc, bb, bo, lb, lo, fb, fo⟩ := h
  dsimp only at e1 hlt hln hk1 hk2 hz i3 i4 HLrow HWh Hk P O hb0 Q XB i2 hi
  subst e1 hz
  obtain ⟨M, hM⟩ : ∃ M : Nat → ByteArray × Vt, M = fun j => (K j, if j = i then X else F j) := ⟨_, rfl⟩
  have HM := Lib.hid hM
  clear hM
  have hPl := P.lt
  simp only [Vh.cells, Vh.zero, Vh.fld] at hb0 Q O XB ⊢
  go_enter Tryd.func49, Tryd.ntmps49
  go_wp2_with fail
  go_loopw [8] (fun s wr => s = .int .i64 0 ∧ Whole wr w.heap.size 30 (Vh.cells ⟨k, b', n', dd, e, tk, td, tn, tz, x, ba, bn, bc, la, 0, lc, some ⟨fb, fo, none⟩, fn, fc, bb, bo, lb, lo, fb, fo⟩) ∧ Whole wr (w.heap.size + 1) 30 #[.int .i64 X.h.k, .bool X.h.b, .bool X.h.n, .string X.h.d, .int .i64 X.h.e, .int .i64 X.h.tk, .int .i64 X.h.td, .int .i64 X.h.tn, .int .i64 X.h.tz, .string X.h.x, .slice X.h.ba X.h.bn X.h.bc, .slice X.h.la X.h.ln X.h.lc, .slice X.h.fa X.h.fn X.h.fc] ∧ Whole wr (w.heap.size + 2) 30 Vh.zero.cells ∧ Whole wr (w.heap.size + 3) 30 #[.int .i64 k, .bool false, .bool false, .string ⟨#[]⟩, .int .i64 0, .int .i64 0, .int .i64 0, .int .i64 0, .int .i64 0, .string ⟨#[]⟩, .slice none 0 0, .slice none 0 0, .slice none 0 0] ∧ Below w.heap.size w wr) (fun _ _ => 0)
  case atStart => exact ⟨rfl, P, XB, Q, O, hb0⟩
  case round =>
    rename World => wa
    clear P Q O XB hb0
    obtain ⟨rfl, P, XB, Q, O, hb0⟩ := hrel
    have c11' := Whole.cell P 11
    simp only [Vh.cells, List.getElem?_toArray, List.getElem?_cons_succ, List.getElem?_cons_zero] at c11'
    go_wp2_with fail
    clear c11'
    go_loopw [10] (fun s wr => ∃ (j : Nat) (u : Value), j ≤ fn ∧ s = .int .i64 j ∧ RowG fcs Prod.snd 14 61 (w.heap.size + 4) SS (fun t X => X = M t) wr u j ∧ Whole wr w.heap.size 30 (Vh.cells ⟨k, b', n', dd, e, tk, td, tn, tz, x, ba, bn, bc, la, 0, lc, some ⟨fb, fo, none⟩, fn, fc, bb, bo, lb, lo, fb, fo⟩) ∧ Whole wr (w.heap.size + 1) 30 #[.int .i64 X.h.k, .bool X.h.b, .bool X.h.n, .string X.h.d, .int .i64 X.h.e, .int .i64 X.h.tk, .int .i64 X.h.td, .int .i64 X.h.tn, .int .i64 X.h.tz, .string X.h.x, .slice X.h.ba X.h.bn X.h.bc, .slice X.h.la X.h.ln X.h.lc, .slice X.h.fa X.h.fn X.h.fc] ∧ Whole wr (w.heap.size + 2) 30 Vh.zero.cells ∧ Whole wr (w.heap.size + 3) 30 #[.int .i64 k, .bool false, .bool false, .string ⟨#[]⟩, .int .i64 0, .int .i64 0, .int .i64 0, .int .i64 0, .int .i64 0, .string ⟨#[]⟩, .slice none 0 0, .slice none 0 0, u] ∧ Below w.heap.size w wr) (fun s _ => fn - (intOf s).toNat)
    case atStart => exact ⟨0, .slice none 0 0, by omega, rfl, RowG.nil, P, XB, Q, O, hb0⟩
    case round =>
      clear P Q O XB hb0
      obtain ⟨j, u, hj, rfl, hrow, P, XB, Q, O, hbr⟩ := hrel
      have hji : (0 : Int) ≤ j := by omega
      have hOl := Whole.lt O
      by_cases hjn : j < fn
      · have hji2 : (j : Int) < fn := by omega
        obtain ⟨hl, hin⟩ := HLrow.out wr hbr j hjn
        have cP := Whole.cell P 12
        simp only [Vh.cells, List.getElem?_toArray, List.getElem?_cons_succ, List.getElem?_cons_zero] at cP
        obtain ⟨l0, l1, l2, l3, l4, l5, l6, l7, l8, l9, l10, l11, l12, l13⟩ := lies_c14 hl
        by_cases hjeq : j = i
        · subst hjeq
          have B1 := (Below.refl wr.heap.size wr).alloc (Nat.le_refl _) (.cells #[.string (K j), .int .i64 (F j).h.k, .bool (F j).h.b, .bool (F j).h.n, .string (F j).h.d, .int .i64 (F j).h.e, .int .i64 (F j).h.tk, .int .i64 (F j).h.td, .int .i64 (F j).h.tn, .int .i64 (F j).h.tz, .string (F j).h.x, .slice (F j).h.ba (F j).h.bn (F j).h.bc, .slice (F j).h.la (F j).h.ln (F j).h.lc, .slice (F j).h.fa (F j).h.fn (F j).h.fc] 61)
          have EB : Whole (wr.alloc (.cells #[.string (K j), .int .i64 (F j).h.k, .bool (F j).h.b, .bool (F j).h.n, .string (F j).h.d, .int .i64 (F j).h.e, .int .i64 (F j).h.tk, .int .i64 (F j).h.td, .int .i64 (F j).h.tn, .int .i64 (F j).h.tz, .string (F j).h.x, .slice (F j).h.ba (F j).h.bn (F j).h.bc, .slice (F j).h.la (F j).h.ln (F j).h.lc, .slice (F j).h.fa (F j).h.fn (F j).h.fc] 61)) wr.heap.size 61 #[.string (K j), .int .i64 (F j).h.k, .bool (F j).h.b, .bool (F j).h.n, .string (F j).h.d, .int .i64 (F j).h.e, .int .i64 (F j).h.tk, .int .i64 (F j).h.td, .int .i64 (F j).h.tn, .int .i64 (F j).h.tz, .string (F j).h.x, .slice (F j).h.ba (F j).h.bn (F j).h.bc, .slice (F j).h.la (F j).h.ln (F j).h.lc, .slice (F j).h.fa (F j).h.fn (F j).h.fc] := Whole.new wr _ _
          obtain ⟨x0, x1, x2, x3, x4, x5, x6, x7, x8, x9, x10, x11, x12⟩ := Whole.c13 (h := X.h) (XB.alloc (.cells #[.string (K j), .int .i64 (F j).h.k, .bool (F j).h.b, .bool (F j).h.n, .string (F j).h.d, .int .i64 (F j).h.e, .int .i64 (F j).h.tk, .int .i64 (F j).h.td, .int .i64 (F j).h.tn, .int .i64 (F j).h.tz, .string (F j).h.x, .slice (F j).h.ba (F j).h.bn (F j).h.bc, .slice (F j).h.la (F j).h.ln (F j).h.lc, .slice (F j).h.fa (F j).h.fn (F j).h.fc] 61))
          have hone := Lib.hid (vh_all X.h)
          have HMj : Hid ((K j, X) = M j) := Lib.hid (by rw [HM.out]; dsimp only; rw [if_pos rfl])
          have HTh := Lib.hid (there_fch (y := K j) (h := (F j).h) EB)
          obtain ⟨W5, hW5⟩ : ∃ W5, W5 = (wr.alloc (.cells #[.string (K j), .int .i64 (F j).h.k, .bool (F j).h.b, .bool (F j).h.n, .string (F j).h.d, .int .i64 (F j).h.e, .int .i64 (F j).h.tk, .int .i64 (F j).h.td, .int .i64 (F j).h.tn, .int .i64 (F j).h.tz, .string (F j).h.x, .slice (F j).h.ba (F j).h.bn (F j).h.bc, .slice (F j).h.la (F j).h.ln (F j).h.lc, .slice (F j).h.fa (F j).h.fn (F j).h.fc] 61)).setCells wr.heap.size 1 (#[.int .i64 X.h.k, .bool X.h.b, .bool X.h.n, .string X.h.d, .int .i64 X.h.e, .int .i64 X.h.tk, .int .i64 X.h.td, .int .i64 X.h.tn, .int .i64 X.h.tz, .string X.h.x, .slice X.h.ba X.h.bn X.h.bc, .slice X.h.la X.h.ln X.h.lc, .slice X.h.fa X.h.fn X.h.fc] : Array Value).toList := ⟨_, rfl⟩
          have hB5 : Below wr.heap.size wr W5 := by rw [hW5]; exact below_setCells (Nat.le_refl wr.heap.size) _ 1 B1
          have E5 : Whole W5 wr.heap.size 61 (fch (K j) X.h) := by rw [hW5]; exact Whole.setF (y := K j) (h := (F j).h) EB X.h
          have HW5 := Lib.hid hW5
          clear B1 hW5
          have hb5 := below_then hbr hB5
          have hrow5 := hrow.below hB5
          have P5 := Whole.below P hB5 (Whole.lt P)
          have XB5 := Whole.below XB hB5 (Whole.lt XB)
          have Q5 := Whole.below Q hB5 (Whole.lt Q)
          have O5 := Whole.below O hB5 (Whole.lt O)
          have hw5 := hB5.size
          have HZin : Hid (X.In W5 W5.heap.size) := Lib.hid (HX.out W5 hb5)
          have HZo : Hid (X.Off SS) := HXo
          obtain ⟨e0, e1, e2, e3, e4, e5, e6, e7, e8, e9, e10, e11, e12, e13, -⟩ := fb_of (y := K j) (h := X.h) E5 (Below.refl _ W5)
          have oO := Whole.cell O5 12
          have fO := Whole.frozen O5 12
          simp only [List.getElem?_toArray, List.getElem?_cons_succ, List.getElem?_cons_zero] at oO
          obtain ⟨f, hown, hf⟩ := (hrow5.alloc (.cells #[.string (K j), .int .i64 X.h.k, .bool X.h.b, .bool X.h.n, .string X.h.d, .int .i64 X.h.e, .int .i64 X.h.tk, .int .i64 X.h.td, .int .i64 X.h.tn, .int .i64 X.h.tz, .string X.h.x, .slice X.h.ba X.h.bn X.h.bc, .slice X.h.la X.h.ln X.h.lc, .slice X.h.fa X.h.fn X.h.fc] 61))
          have Hf := Lib.hid hf
          have s1 := Lib.hid (cells_new W5 61 (fcs (K j, X)))
          have s2 := Lib.hid (fcs_one (K j, X))
          have s3 : Hid (j + 1 ≤ maxLen) := Lib.hid (by unfold maxLen; omega)
          have s4 : Hid ((j + 1) * 184 ≤ 140737488355328) := Lib.hid (by omega)
          have s5 : Hid ((w.heap.size + 4) ≤ (W5.alloc (.cells #[.string (K j), .int .i64 X.h.k, .bool X.h.b, .bool X.h.n, .string X.h.d, .int .i64 X.h.e, .int .i64 X.h.tk, .int .i64 X.h.td, .int .i64 X.h.tn, .int .i64 X.h.tz, .string X.h.x, .slice X.h.ba X.h.bn X.h.bc, .slice X.h.la X.h.ln X.h.lc, .slice X.h.fa X.h.fn X.h.fc] 61)).heap.size) := Lib.hid (by rw [World.size_alloc]; omega)
          go_wp2_with (first | (refine wpList_store_mid rfl 30 _ _ rfl wr.heap.size 1 #[.int .i64 X.h.k, .bool X.h.b, .bool X.h.n, .string X.h.d, .int .i64 X.h.e, .int .i64 X.h.tk, .int .i64 X.h.td, .int .i64 X.h.tn, .int .i64 X.h.tz, .string X.h.x, .slice X.h.ba X.h.bn X.h.bc, .slice X.h.la X.h.ln X.h.lc, .slice X.h.fa X.h.fn X.h.fc] rfl rfl HTh.out vh_row hone.out ?_; rw [← HW5.out]) | (at_builtin; refine wpList_append_told _ rfl _ _ 28 rfl (w.heap.size + 4) 61 i0 _ 14 184 Tryd.underlying28 hi0 hz0 hz1 hz2 rfl (by decide) _ _ _ rfl hown ⟨W5.heap.size, 0, none⟩ 1 1 (fcs (K j, X)).toList rfl rfl s1.out s2.out s3.out s4.out s5.out Nat.one_pos ?_))
          clear s1 s2 s3 s4 s5
          intro v' w3 hown3 hgrow hat
          obtain ⟨gg, cap, rfl, -, -⟩ := own_form hown3 (Nat.succ_pos _)
          have HOw := fun g (hg : u.ownBlock = some g) => hown.lt g hg
          have hrow3 : RowG fcs Prod.snd 14 61 (w.heap.size + 4) SS (fun t X => X = M t) w3 (.slice (some ⟨gg, 0, none⟩) (j + 1) cap) (j + 1) :=
            RowG.push (x := (K j, X)) hown Hf.out (HZin.out.later ((Below.refl _ _).alloc (Nat.le_refl _) _)) HZo.out (fun g hg => HZo.out.mono fun b hb => by have hb' := HSl.out b hb; have := (HOw g hg).1; omega) HMj.out hown3 hgrow (by simp only [World.size_alloc]; exact hat)
          have far : ∀ B, B < (w.heap.size + 4) → some B ≠ u.ownBlock := fun B hB e => by have := (HOw B e.symm).1; omega
          have P3 := Whole.kept (Whole.alloc P5 (.cells #[.string (K j), .int .i64 X.h.k, .bool X.h.b, .bool X.h.n, .string X.h.d, .int .i64 X.h.e, .int .i64 X.h.tk, .int .i64 X.h.td, .int .i64 X.h.tn, .int .i64 X.h.tz, .string X.h.x, .slice X.h.ba X.h.bn X.h.bc, .slice X.h.la X.h.ln X.h.lc, .slice X.h.fa X.h.fn X.h.fc] 61)) hgrow (far _ (by omega))
          have XB3 := Whole.kept (Whole.alloc XB5 (.cells #[.string (K j), .int .i64 X.h.k, .bool X.h.b, .bool X.h.n, .string X.h.d, .int .i64 X.h.e, .int .i64 X.h.tk, .int .i64 X.h.td, .int .i64 X.h.tn, .int .i64 X.h.tz, .string X.h.x, .slice X.h.ba X.h.bn X.h.bc, .slice X.h.la X.h.ln X.h.lc, .slice X.h.fa X.h.fn X.h.fc] 61)) hgrow (far _ (by omega))
          have Q3 := Whole.kept (Whole.alloc Q5 (.cells #[.string (K j), .int .i64 X.h.k, .bool X.h.b, .bool X.h.n, .string X.h.d, .int .i64 X.h.e, .int .i64 X.h.tk, .int .i64 X.h.td, .int .i64 X.h.tn, .int .i64 X.h.tz, .string X.h.x, .slice X.h.ba X.h.bn X.h.bc, .slice X.h.la X.h.ln X.h.lc, .slice X.h.fa X.h.fn X.h.fc] 61)) hgrow (far _ (by omega))
          have O3 := Whole.kept (Whole.alloc O5 (.cells #[.string (K j), .int .i64 X.h.k, .bool X.h.b, .bool X.h.n, .string X.h.d, .int .i64 X.h.e, .int .i64 X.h.tk, .int .i64 X.h.td, .int .i64 X.h.tn, .int .i64 X.h.tz, .string X.h.x, .slice X.h.ba X.h.bn X.h.bc, .slice X.h.la X.h.ln X.h.lc, .slice X.h.fa X.h.fn X.h.fc] 61)) hgrow (far _ (by omega))
          have hb3 := (hb5.alloc hb5.size (.cells #[.string (K j), .int .i64 X.h.k, .bool X.h.b, .bool X.h.n, .string X.h.d, .int .i64 X.h.e, .int .i64 X.h.tk, .int .i64 X.h.td, .int .i64 X.h.tn, .int .i64 X.h.tz, .string X.h.x, .slice X.h.ba X.h.bn X.h.bc, .slice X.h.la X.h.ln X.h.lc, .slice X.h.fa X.h.fn X.h.fc] 61)).grown hgrow (by rw [World.size_alloc]; omega) (fun g hg => by have := (HOw g hg).1; omega)
          clear hown Hf hown3 hgrow hat hrow5 hb5 P5 XB5 Q5 O5 oO fO HOw far HZin HZo hbr hrow P XB Q O hB5 hin E5 EB x0 x1 x2 x3 x4 x5 x6 x7 x8 x9 x10 x11 x12 hone cP hl e0 e1 e2 e3 e4 e5 e6 e7 e8 e9 e10 e11 e12 e13 l0 l1 l2 l3 l4 l5 l6 l7 l8 l9 l10 l11 l12 l13 HTh HW5
          have oO := Whole.cell O3 12
          have fO := Whole.frozen O3 12
          simp only [List.getElem?_toArray, List.getElem?_cons_succ, List.getElem?_cons_zero] at oO
          have O4 := Whole.set O3 12 (.slice (some ⟨gg, 0, none⟩) (j + 1) cap)
          have P4 := Whole.far (p := ⟨w.heap.size + 1 + 1 + 1, 12, none⟩) P3 (by show w.heap.size ≠ w.heap.size + 1 + 1 + 1; omega) (.slice (some ⟨gg, 0, none⟩) (j + 1) cap)
          have XB4 := Whole.far (p := ⟨w.heap.size + 1 + 1 + 1, 12, none⟩) XB3 (by show w.heap.size + 1 ≠ w.heap.size + 1 + 1 + 1; omega) (.slice (some ⟨gg, 0, none⟩) (j + 1) cap)
          have Q4 := Whole.far (p := ⟨w.heap.size + 1 + 1 + 1, 12, none⟩) Q3 (by show w.heap.size + 1 + 1 ≠ w.heap.size + 1 + 1 + 1; omega) (.slice (some ⟨gg, 0, none⟩) (j + 1) cap)
          have hb4 := hb3.setCell (p := ⟨w.heap.size + 1 + 1 + 1, 12, none⟩) (by show w.heap.size ≤ w.heap.size + 1 + 1 + 1; omega) (.slice (some ⟨gg, 0, none⟩) (j + 1) cap)
          have hrow4 := hrow3.turn (grown_set w3 (w.heap.size + 1 + 1 + 1) 12 (.slice (some ⟨gg, 0, none⟩) (j + 1) cap)) (by omega) (fun b hb => by have hb' := HSl.out b hb; omega)
          clear P3 XB3 Q3 O3 hb3 hrow3
          go_wp2_with fail
          clear oO fO
          go_roundw
          case rel => exact ⟨j + 1, _, by omega, by go_num, hrow4, P4, XB4, Q4, O4, hb4⟩
          case measure => simp [intOf]; omega
        · have hB5 := (Below.refl wr.heap.size wr).alloc (Nat.le_refl _) (.cells #[.string (K j), .int .i64 (F j).h.k, .bool (F j).h.b, .bool (F j).h.n, .string (F j).h.d, .int .i64 (F j).h.e, .int .i64 (F j).h.tk, .int .i64 (F j).h.td, .int .i64 (F j).h.tn, .int .i64 (F j).h.tz, .string (F j).h.x, .slice (F j).h.ba (F j).h.bn (F j).h.bc, .slice (F j).h.la (F j).h.ln (F j).h.lc, .slice (F j).h.fa (F j).h.fn (F j).h.fc] 61)
          have hne : (j == i) = false := beq_eq_false_iff_ne.2 hjeq
          have hne2 : ((j : Int) == (i : Int)) = false := beq_eq_false_iff_ne.2 (by omega)
          have E5 : Whole (wr.alloc (.cells #[.string (K j), .int .i64 (F j).h.k, .bool (F j).h.b, .bool (F j).h.n, .string (F j).h.d, .int .i64 (F j).h.e, .int .i64 (F j).h.tk, .int .i64 (F j).h.td, .int .i64 (F j).h.tn, .int .i64 (F j).h.tz, .string (F j).h.x, .slice (F j).h.ba (F j).h.bn (F j).h.bc, .slice (F j).h.la (F j).h.ln (F j).h.lc, .slice (F j).h.fa (F j).h.fn (F j).h.fc] 61)) wr.heap.size 61 #[.string (K j), .int .i64 (F j).h.k, .bool (F j).h.b, .bool (F j).h.n, .string (F j).h.d, .int .i64 (F j).h.e, .int .i64 (F j).h.tk, .int .i64 (F j).h.td, .int .i64 (F j).h.tn, .int .i64 (F j).h.tz, .string (F j).h.x, .slice (F j).h.ba (F j).h.bn (F j).h.bc, .slice (F j).h.la (F j).h.ln (F j).h.lc, .slice (F j).h.fa (F j).h.fn (F j).h.fc] := Whole.new wr _ _
          have HMj : Hid ((K j, F j) = M j) := Lib.hid (by rw [HM.out]; dsimp only; rw [if_neg hjeq])
          have hb5 := below_then hbr hB5
          have hrow5 := hrow.below hB5
          have P5 := Whole.below P hB5 (Whole.lt P)
          have XB5 := Whole.below XB hB5 (Whole.lt XB)
          have Q5 := Whole.below Q hB5 (Whole.lt Q)
          have O5 := Whole.below O hB5 (Whole.lt O)
          have hw5 := hB5.size
          have HZin : Hid ((F j).In (wr.alloc (.cells #[.string (K j), .int .i64 (F j).h.k, .bool (F j).h.b, .bool (F j).h.n, .string (F j).h.d, .int .i64 (F j).h.e, .int .i64 (F j).h.tk, .int .i64 (F j).h.td, .int .i64 (F j).h.tn, .int .i64 (F j).h.tz, .string (F j).h.x, .slice (F j).h.ba (F j).h.bn (F j).h.bc, .slice (F j).h.la (F j).h.ln (F j).h.lc, .slice (F j).h.fa (F j).h.fn (F j).h.fc] 61)) (wr.alloc (.cells #[.string (K j), .int .i64 (F j).h.k, .bool (F j).h.b, .bool (F j).h.n, .string (F j).h.d, .int .i64 (F j).h.e, .int .i64 (F j).h.tk, .int .i64 (F j).h.td, .int .i64 (F j).h.tn, .int .i64 (F j).h.tz, .string (F j).h.x, .slice (F j).h.ba (F j).h.bn (F j).h.bc, .slice (F j).h.la (F j).h.ln (F j).h.lc, .slice (F j).h.fa (F j).h.fn (F j).h.fc] 61)).heap.size) := Lib.hid ((hin.below (hB5.mono (Nat.le_trans ht hbr.size))).up (Nat.le_trans ht hb5.size))
          have HZo : Hid ((F j).Off SS) := Lib.hid (hin.off.mono HSt.out)
          obtain ⟨e0, e1, e2, e3, e4, e5, e6, e7, e8, e9, e10, e11, e12, e13, -⟩ := fb_of (y := K j) (h := (F j).h) E5 (Below.refl _ (wr.alloc (.cells #[.string (K j), .int .i64 (F j).h.k, .bool (F j).h.b, .bool (F j).h.n, .string (F j).h.d, .int .i64 (F j).h.e, .int .i64 (F j).h.tk, .int .i64 (F j).h.td, .int .i64 (F j).h.tn, .int .i64 (F j).h.tz, .string (F j).h.x, .slice (F j).h.ba (F j).h.bn (F j).h.bc, .slice (F j).h.la (F j).h.ln (F j).h.lc, .slice (F j).h.fa (F j).h.fn (F j).h.fc] 61)))
          have oO := Whole.cell O5 12
          have fO := Whole.frozen O5 12
          simp only [List.getElem?_toArray, List.getElem?_cons_succ, List.getElem?_cons_zero] at oO
          obtain ⟨f, hown, hf⟩ := (hrow5.alloc (.cells #[.string (K j), .int .i64 (F j).h.k, .bool (F j).h.b, .bool (F j).h.n, .string (F j).h.d, .int .i64 (F j).h.e, .int .i64 (F j).h.tk, .int .i64 (F j).h.td, .int .i64 (F j).h.tn, .int .i64 (F j).h.tz, .string (F j).h.x, .slice (F j).h.ba (F j).h.bn (F j).h.bc, .slice (F j).h.la (F j).h.ln (F j).h.lc, .slice (F j).h.fa (F j).h.fn (F j).h.fc] 61))
          have Hf := Lib.hid hf
          have s1 := Lib.hid (by have q := cells_new (wr.alloc (.cells #[.string (K j), .int .i64 (F j).h.k, .bool (F j).h.b, .bool (F j).h.n, .string (F j).h.d, .int .i64 (F j).h.e, .int .i64 (F j).h.tk, .int .i64 (F j).h.td, .int .i64 (F j).h.tn, .int .i64 (F j).h.tz, .string (F j).h.x, .slice (F j).h.ba (F j).h.bn (F j).h.bc, .slice (F j).h.la (F j).h.ln (F j).h.lc, .slice (F j).h.fa (F j).h.fn (F j).h.fc] 61)) 61 (fcs (K j, F j)); rw [World.size_alloc] at q; exact q)
          have s2 := Lib.hid (fcs_one (K j, F j))
          have s3 : Hid (j + 1 ≤ maxLen) := Lib.hid (by unfold maxLen; omega)
          have s4 : Hid ((j + 1) * 184 ≤ 140737488355328) := Lib.hid (by omega)
          have s5 : Hid ((w.heap.size + 4) ≤ ((wr.alloc (.cells #[.string (K j), .int .i64 (F j).h.k, .bool (F j).h.b, .bool (F j).h.n, .string (F j).h.d, .int .i64 (F j).h.e, .int .i64 (F j).h.tk, .int .i64 (F j).h.td, .int .i64 (F j).h.tn, .int .i64 (F j).h.tz, .string (F j).h.x, .slice (F j).h.ba (F j).h.bn (F j).h.bc, .slice (F j).h.la (F j).h.ln (F j).h.lc, .slice (F j).h.fa (F j).h.fn (F j).h.fc] 61)).alloc (.cells #[.string (K j), .int .i64 (F j).h.k, .bool (F j).h.b, .bool (F j).h.n, .string (F j).h.d, .int .i64 (F j).h.e, .int .i64 (F j).h.tk, .int .i64 (F j).h.td, .int .i64 (F j).h.tn, .int .i64 (F j).h.tz, .string (F j).h.x, .slice (F j).h.ba (F j).h.bn (F j).h.bc, .slice (F j).h.la (F j).h.ln (F j).h.lc, .slice (F j).h.fa (F j).h.fn (F j).h.fc] 61)).heap.size) := Lib.hid (by rw [World.size_alloc]; omega)
          go_wp2_with (first | (at_builtin; refine wpList_append_told _ rfl _ _ 28 rfl (w.heap.size + 4) 61 i0 _ 14 184 Tryd.underlying28 hi0 hz0 hz1 hz2 rfl (by decide) _ _ _ rfl hown ⟨wr.heap.size + 1, 0, none⟩ 1 1 (fcs (K j, F j)).toList rfl rfl s1.out s2.out s3.out s4.out s5.out Nat.one_pos ?_))
          clear s1 s2 s3 s4 s5
          intro v' w3 hown3 hgrow hat
          obtain ⟨gg, cap, rfl, -, -⟩ := own_form hown3 (Nat.succ_pos _)
          have HOw := fun g (hg : u.ownBlock = some g) => hown.lt g hg
          have hrow3 : RowG fcs Prod.snd 14 61 (w.heap.size + 4) SS (fun t X => X = M t) w3 (.slice (some ⟨gg, 0, none⟩) (j + 1) cap) (j + 1) :=
            RowG.push (x := (K j, F j)) hown Hf.out (HZin.out.later ((Below.refl _ _).alloc (Nat.le_refl _) _)) HZo.out (fun g hg => HZo.out.mono fun b hb => by have hb' := HSl.out b hb; have := (HOw g hg).1; omega) HMj.out hown3 hgrow (by simp only [World.size_alloc]; exact hat)
          have far : ∀ B, B < (w.heap.size + 4) → some B ≠ u.ownBlock := fun B hB e => by have := (HOw B e.symm).1; omega
          have P3 := Whole.kept (Whole.alloc P5 (.cells #[.string (K j), .int .i64 (F j).h.k, .bool (F j).h.b, .bool (F j).h.n, .string (F j).h.d, .int .i64 (F j).h.e, .int .i64 (F j).h.tk, .int .i64 (F j).h.td, .int .i64 (F j).h.tn, .int .i64 (F j).h.tz, .string (F j).h.x, .slice (F j).h.ba (F j).h.bn (F j).h.bc, .slice (F j).h.la (F j).h.ln (F j).h.lc, .slice (F j).h.fa (F j).h.fn (F j).h.fc] 61)) hgrow (far _ (by omega))
          have XB3 := Whole.kept (Whole.alloc XB5 (.cells #[.string (K j), .int .i64 (F j).h.k, .bool (F j).h.b, .bool (F j).h.n, .string (F j).h.d, .int .i64 (F j).h.e, .int .i64 (F j).h.tk, .int .i64 (F j).h.td, .int .i64 (F j).h.tn, .int .i64 (F j).h.tz, .string (F j).h.x, .slice (F j).h.ba (F j).h.bn (F j).h.bc, .slice (F j).h.la (F j).h.ln (F j).h.lc, .slice (F j).h.fa (F j).h.fn (F j).h.fc] 61)) hgrow (far _ (by omega))
          have Q3 := Whole.kept (Whole.alloc Q5 (.cells #[.string (K j), .int .i64 (F j).h.k, .bool (F j).h.b, .bool (F j).h.n, .string (F j).h.d, .int .i64 (F j).h.e, .int .i64 (F j).h.tk, .int .i64 (F j).h.td, .int .i64 (F j).h.tn, .int .i64 (F j).h.tz, .string (F j).h.x, .slice (F j).h.ba (F j).h.bn (F j).h.bc, .slice (F j).h.la (F j).h.ln (F j).h.lc, .slice (F j).h.fa (F j).h.fn (F j).h.fc] 61)) hgrow (far _ (by omega))
          have O3 := Whole.kept (Whole.alloc O5 (.cells #[.string (K j), .int .i64 (F j).h.k, .bool (F j).h.b, .bool (F j).h.n, .string (F j).h.d, .int .i64 (F j).h.e, .int .i64 (F j).h.tk, .int .i64 (F j).h.td, .int .i64 (F j).h.tn, .int .i64 (F j).h.tz, .string (F j).h.x, .slice (F j).h.ba (F j).h.bn (F j).h.bc, .slice (F j).h.la (F j).h.ln (F j).h.lc, .slice (F j).h.fa (F j).h.fn (F j).h.fc] 61)) hgrow (far _ (by omega))
          have hb3 := (hb5.alloc hb5.size (.cells #[.string (K j), .int .i64 (F j).h.k, .bool (F j).h.b, .bool (F j).h.n, .string (F j).h.d, .int .i64 (F j).h.e, .int .i64 (F j).h.tk, .int .i64 (F j).h.td, .int .i64 (F j).h.tn, .int .i64 (F j).h.tz, .string (F j).h.x, .slice (F j).h.ba (F j).h.bn (F j).h.bc, .slice (F j).h.la (F j).h.ln (F j).h.lc, .slice (F j).h.fa (F j).h.fn (F j).h.fc] 61)).grown hgrow (by rw [World.size_alloc]; omega) (fun g hg => by have := (HOw g hg).1; omega)
          clear hown Hf hown3 hgrow hat hrow5 hb5 P5 XB5 Q5 O5 oO fO HOw far HZin HZo hbr hrow P XB Q O hB5 hin E5 hne hne2 cP hl e0 e1 e2 e3 e4 e5 e6 e7 e8 e9 e10 e11 e12 e13 l0 l1 l2 l3 l4 l5 l6 l7 l8 l9 l10 l11 l12 l13
          have oO := Whole.cell O3 12
          have fO := Whole.frozen O3 12
          simp only [List.getElem?_toArray, List.getElem?_cons_succ, List.getElem?_cons_zero] at oO
          have O4 := Whole.set O3 12 (.slice (some ⟨gg, 0, none⟩) (j + 1) cap)
          have P4 := Whole.far (p := ⟨w.heap.size + 1 + 1 + 1, 12, none⟩) P3 (by show w.heap.size ≠ w.heap.size + 1 + 1 + 1; omega) (.slice (some ⟨gg, 0, none⟩) (j + 1) cap)
          have XB4 := Whole.far (p := ⟨w.heap.size + 1 + 1 + 1, 12, none⟩) XB3 (by show w.heap.size + 1 ≠ w.heap.size + 1 + 1 + 1; omega) (.slice (some ⟨gg, 0, none⟩) (j + 1) cap)
          have Q4 := Whole.far (p := ⟨w.heap.size + 1 + 1 + 1, 12, none⟩) Q3 (by show w.heap.size + 1 + 1 ≠ w.heap.size + 1 + 1 + 1; omega) (.slice (some ⟨gg, 0, none⟩) (j + 1) cap)
          have hb4 := hb3.setCell (p := ⟨w.heap.size + 1 + 1 + 1, 12, none⟩) (by show w.heap.size ≤ w.heap.size + 1 + 1 + 1; omega) (.slice (some ⟨gg, 0, none⟩) (j + 1) cap)
          have hrow4 := hrow3.turn (grown_set w3 (w.heap.size + 1 + 1 + 1) 12 (.slice (some ⟨gg, 0, none⟩) (j + 1) cap)) (by omega) (fun b hb => by have hb' := HSl.out b hb; omega)
          clear P3 XB3 Q3 O3 hb3 hrow3
          go_wp2_with fail
          clear oO fO
          go_roundw
          case rel => exact ⟨j + 1, _, by omega, by go_num, hrow4, P4, XB4, Q4, O4, hb4⟩
          case measure => simp [intOf]; omega
      · obtain rfl : j = fn := by omega
        obtain ⟨-, a', c', b1, rfl, -, -, -⟩ := RowG.done fcs_size hrow
        have HE : Hid (∀ W', Below w.heap.size w W' → RowG fcs Prod.snd 14 61 (w.heap.size + 4) SS (fun t X => X = M t) W' (.slice a' j c') j → FnS ((Vt.mk ⟨k, b', n', dd, e, tk, td, tn, tz, x, ba, bn, bc, la, 0, lc, some ⟨fb, fo, none⟩, j, fc, bb, bo, lb, lo, fb, fo⟩ Y L K F).setF i X) SS w (.returned (.agg #[.int .i64 7, .bool false, .bool false, .string ⟨#[]⟩, .int .i64 0, .int .i64 0, .int .i64 0, .int .i64 0, .int .i64 0, .string ⟨#[]⟩, .slice none 0 0, .slice none 0 0, .slice a' j c'])) W') := Lib.hid fun W' hb hr =>
          fld_out (K := fun t => (M t).1) (M := fun t => (M t).2) hr (by omega) (by omega) hb (fun t x ht hq => by rw [hq, HM.out]; dsimp only; exact ⟨rfl, (HWh.out t (by omega)).1, by split <;> first | exact HXs.out | exact (HWh.out _ (by omega)).2⟩)
            (fun a c b K' M' hM' => by rw [HM.out] at hM'; exact fld_same HOwn.out Hk.out hM')
        have Hr := Lib.hid hrow
        obtain rfl : k = 7 := Hk.out
        clear hrow
        obtain ⟨c0, c1, c2, c3, c4, c5, c6, c7, c8, c9, c10, c11, c12⟩ := Whole.c13 (h := (Vh.fld 7 a' j c' 0)) O
        have c12' := Whole.cell P 12
        have c11' := Whole.cell P 11
        simp only [Vh.fld, Vh.cells, List.getElem?_toArray, List.getElem?_cons_succ, List.getElem?_cons_zero] at c0 c1 c2 c3 c4 c5 c6 c7 c8 c9 c10 c11 c12 c12' c11'
        have hone := Lib.hid (vh_all (Vh.fld 7 a' j c' 0))
        go_wp2_with (refine wpList_store_row rfl 30 _ _ rfl (w.heap.size + 2) (Vh.fld 7 a' j c' 0).cells rfl rfl 30 _ Q vh_row rfl hone.out ?_)
        exact bodyPost_ret (v := .agg (Vh.fld 7 a' j c' 0).cells) (ret_val (p := 6) rfl rfl (Q.setRow _)) rfl (HE.out _ (below_setRow hbr (by omega) _) (Hr.out.turn (grown_row _ _ _) (by omega) (fun b hb => by have hb' := HSl.out b hb; omega)))
end Go.Proofs.YtfkfboiblgoamaaDoor
/- The reference's Replace and Without, whatever the value. -/
namespace Go.Proofs.YtfkfboiblgoamaaDoor
open Go.RowKit

theorem without_any {T : Vt} {s : Stp} {top : Nat} {w : World} (hT : T.In w top) (ht : top ≤ w.heap.size) (ho : T.h.own = true) (h0 : (T.find s).2 = 0) :
    Calls Tryd.prog 57 #[.agg T.h.cells, .int .i64 (T.find s).1] w (FnOut (T.wo s) top w) := by
  cases hx : s.ix with
  | true =>
    obtain ⟨_, k6, hi, hei⟩ := Vt.part_ix h0 hx
    have hwo : T.wo s = T.dropL (T.find s).1.toNat := by unfold Vt.wo; rw [if_pos hx]
    rw [hwo, hei]
    generalize (T.find s).1.toNat = i at *
    cases T with
    | nil => exact hT.elim
    | mk h Y L K F => exact withoutL hT ht ho k6 hi
  | false =>
    obtain ⟨_, k7, hi, hei, _⟩ := Vt.part_key h0 hx
    have hwo : T.wo s = T.dropF (T.find s).1.toNat := by unfold Vt.wo; rw [if_neg (by simp [hx])]
    rw [hwo, hei]
    generalize (T.find s).1.toNat = i at *
    cases T with
    | nil => exact hT.elim
    | mk h Y L K F => exact withoutF hT ht ho k7 hi
theorem replace_any {T X : Vt} {s : Stp} {top : Nat} {w : World} (hT : T.In w top) (hX : X.In w w.heap.size) {SS : Nat → Prop} (hXo : X.Off SS) (hSt : ∀ b, b < top → SS b) (hSl : ∀ b, SS b → b < w.heap.size) (ht : top ≤ w.heap.size) (ho : T.h.own = true) (h0 : (T.find s).2 = 0) :
    Calls Tryd.prog 49 #[.agg T.h.cells, .int .i64 (T.find s).1, .agg X.h.cells] w (FnS (T.setP (T.find s).1.toNat X) SS w) := by
  rw [Vt.setP_ix h0]
  cases hx : s.ix with
  | true =>
    obtain ⟨_, k6, hi, hei⟩ := Vt.part_ix h0 hx
    rw [if_pos rfl, hei]
    generalize (T.find s).1.toNat = i at *
    cases T with
    | nil => exact hT.elim
    | mk h Y L K F => exact replaceL hT hX hXo hSt hSl ht ho k6 hi
  | false =>
    obtain ⟨_, k7, hi, hei, _⟩ := Vt.part_key h0 hx
    rw [if_neg (by simp), hei]
    generalize (T.find s).1.toNat = i at *
    cases T with
    | nil => exact hT.elim
    | mk h Y L K F => exact replaceF hT hX hXo hSt hSl ht ho k7 hi
end Go.Proofs.YtfkfboiblgoamaaDoor
