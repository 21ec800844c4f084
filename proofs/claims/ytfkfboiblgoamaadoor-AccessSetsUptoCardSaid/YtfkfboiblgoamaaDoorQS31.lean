/- Laid together for one claim: VtMore. -/
import Derived.Test.YtfkfboiblgoamaaDoorQS30
import Derived.Deep.Cut
import Derived.Deep.DeepCutAuto
/- Values with one more field: datakitref09.More. -/
namespace Go.Proofs.YtfkfboiblgoamaaDoor
open Go.RowKit
set_option linter.unusedSimpArgs false
set_option linter.unusedVariables false

set_option maxHeartbeats 8000000 in
set_option maxRecDepth 100000 in
theorem more_any {h : Vh} {Y : Nat → Int} {L : Nat → Vt} {K : Nat → ByteArray} {F : Nat → Vt} {X : Vt} {key : ByteArray} {top : Nat} {w : World} (hT : (Vt.mk h Y L K F).In w top) (hX : X.In w w.heap.size) {SS : Nat → Prop} (hXo : X.Off SS) (hSt : ∀ b, b < top → SS b) (hSl : ∀ b, SS b → b < w.heap.size) (ht : top ≤ w.heap.size) (ho : h.own = true) (hk : h.k = 7) (hkey : key.size ≤ 1048576) (hfn : h.fn < 1048576) :
    Calls Tryd.prog 56 #[.agg h.cells, .string key, .agg X.h.cells] w (FnS ((Vt.mk h Y L K F).moreF key X) SS w) := by
  have HX := Lib.hid (fun (w1 : World) (hb : Below w.heap.size w w1) => (hX.below hb).up hb.size)
  have HXo := Lib.hid hXo
  have HSt := Lib.hid hSt
  have HSl := Lib.hid hSl
  have HXs := Lib.hid (Vt.Same.rfl' hX.whole)
  clear hX hXo hSt hSl
  have hb0 := (((((Below.refl w.heap.size w).alloc (Nat.le_refl _) (.cells h.cells 30)).alloc (by simp) (.cells X.h.cells 30)).alloc (by simp; omega) (.cells Vh.zero.cells 30)).alloc (by simp; omega) (.cells (Vh.fld 7 none 0 0 0).cells 30))
  have P := ((((Whole.new w 30 h.cells).alloc (.cells X.h.cells 30)).alloc (.cells Vh.zero.cells 30)).alloc (.cells (Vh.fld 7 none 0 0 0).cells 30))
  have XB := (((Whole.new (w.alloc (.cells h.cells 30)) 30 X.h.cells).alloc (.cells Vh.zero.cells 30)).alloc (.cells (Vh.fld 7 none 0 0 0).cells 30))
  rw [World.size_alloc] at XB
  have Q := ((Whole.new ((w.alloc (.cells h.cells 30)).alloc (.cells X.h.cells 30)) 30 Vh.zero.cells).alloc (.cells (Vh.fld 7 none 0 0 0).cells 30))
  rw [World.size_alloc, World.size_alloc] at Q
  have O := (Whole.new (((w.alloc (.cells h.cells 30)).alloc (.cells X.h.cells 30)).alloc (.cells Vh.zero.cells 30)) 30 (Vh.fld 7 none 0 0 0).cells)
  rw [World.size_alloc, World.size_alloc, World.size_alloc] at O
  obtain ⟨i0, hi0, hz0, hz1, hz2⟩ := info_parts Tryd.infoFld
  have hokh := hT.1
  have HAd := Lib.hid (hT.2.2.2.2.2.1)
  have HWh := Lib.hid (fun t (ht : t < h.fn) => And.intro (hT.2.2.2.2.2.2 t ht).2.1 (Vt.Same.rfl' (hT.whole.2 t ht)))
  have HLrow := Lib.hid (fun (w1 : World) (hb : Below w.heap.size w w1) => fun j (hj : j < h.fn) => (And.intro (lies_fcs ((hT.below (hb.mono ht)).2.2.2.2.2.2 j hj).1 ((hT.below (hb.mono ht)).2.2.2.2.2.2 j hj).2.2.1) ((hT.below (hb.mono ht)).2.2.2.2.2.2 j hj).2.2.2 : LiesAt w1 h.fb (h.fo + j * 14) (fcs (K j, F j)) ∧ (F j).In w1 top))
  have hz : h.ln = 0 := (Vh.own_parts ho).2.2.2.2.2.2.2.1 (by omega)
  have HOwn := Lib.hid ho
  have Hk := Lib.hid hk
  have hln := hokh.fn
  have hk1 := hokh.k.1
  have hk2 := hokh.k.2
  have i3 : (h.fn : Int) ≤ 1048576 := by omega
  have i4 : (0 : Int) ≤ h.fn := by omega
  clear hokh hT ho hk
  obtain ⟨k, b', n', dd, e, tk, td, tn, tz, x, ba, bn, bc, la, ln, lc, fa, fn, fc, bb, bo, lb, lo, fb, fo⟩ := h
  dsimp only at HAd hln hk1 hk2 hz i3 i4 HLrow HWh Hk P O hb0 Q XB hfn HAd
  subst hz
  obtain ⟨M, hM⟩ : ∃ M : Nat → ByteArray × Vt, M = fun j => if j < fn then (K j, F j) else (key, X) := ⟨_, rfl⟩
  have HM := Lib.hid hM
  have HKy := Lib.hid hkey
  clear hM hkey
  simp only [Vh.cells, Vh.zero, Vh.fld] at hb0 Q O XB P ⊢
  have oO := Whole.cell O 12
  have fO := Whole.frozen O 12
  have cP := Whole.cell P 12
  simp only [List.getElem?_toArray, List.getElem?_cons_succ, List.getElem?_cons_zero] at oO cP
  have s1 := Lib.hid (fun (hp : 0 < fn) => (⟨⟨fb, fo, none⟩, (HAd.out hp).1, rowL_src (fun j => fcs_size (K j, F j)) (fun j hj => (HLrow.out _ hb0 j hj).1)⟩ : ∃ ad, fa = some ad ∧ ∀ j u, (catN (fun j => fcs (K j, F j)) fn)[j]? = some u → World.cell? _ (ad.add j) = some u))
  have s2 := Lib.hid (catN_one (fun j => fcs_one (K j, F j)) fn)
  have s0 := Lib.hid (catN_len (fun j => fcs_size (K j, F j)) fn)
  have s3 : Hid (fn ≤ maxLen) := Lib.hid (by unfold maxLen; omega)
  have s4 : Hid (fn * 184 ≤ 140737488355328) := Lib.hid (by omega)
  have hOl := Whole.lt O
  have s5 := Lib.hid hOl
  go_enter Tryd.func56, Tryd.ntmps56
  go_wp2_with (first | (at_builtin; refine wpList_append_fresh _ rfl _ _ 28 rfl (w.heap.size + 4) 61 i0 _ 14 184 Tryd.underlying28 hi0 hz0 hz1 hz2 rfl (by decide) rfl fa fn fc (catN (fun j => fcs (K j, F j)) fn) rfl s0.out s1.out s2.out s3.out s4.out s5.out ?_))
  clear s0 s1 s2 s3 s4 s5 oO cP fO
  intro v1 w1 hown1 hgrow1 hat1
  clear hat1
  have P1 := Whole.kept P hgrow1 (by simp)
  have XB1 := Whole.kept XB hgrow1 (by simp)
  have Q1 := Whole.kept Q hgrow1 (by simp)
  have O1 := Whole.kept O hgrow1 (by simp)
  have hb1 := hb0.grown hgrow1 (Nat.le_trans (by omega) (Nat.le_of_lt hOl)) (fun g hg => by cases hg)
  have hoB := Lib.hid (fun b (e : v1.ownBlock = some b) => (hown1.lt b e).1)
  obtain ⟨a1, c1, b1, rfl, -, -, -⟩ := own_lies (fun j => fcs_size (K j, F j)) hown1
  have hrow1 : RowG fcs Prod.snd 14 61 (w.heap.size + 4) SS (fun t x => x = M t) w1 (.slice a1 fn c1) fn := ⟨fun j => (K j, F j), hown1, fun j hj => ⟨(HLrow.out w1 hb1 j hj).2.up (Nat.le_trans ht hb1.size), (HLrow.out w1 hb1 j hj).2.off.mono fun b hb => ⟨HSt.out b hb, fun e => by have := hoB.out b e.symm; omega⟩, by rw [HM.out]; exact (if_pos hj).symm⟩⟩
  clear P XB Q O hgrow1 hown1 hb0 hoB hOl
  have oO := Whole.cell O1 12
  have fO := Whole.frozen O1 12
  simp only [List.getElem?_toArray, List.getElem?_cons_succ, List.getElem?_cons_zero] at oO
  have hO1 := Whole.lt O1
  go_upto_region 3 with fail
  clear oO fO
  have O5 := Whole.set O1 12 (.slice a1 fn c1)
  have P5 := Whole.far (p := ⟨w.heap.size + 1 + 1 + 1, 12, none⟩) P1 (by show w.heap.size ≠ w.heap.size + 1 + 1 + 1; omega) (.slice a1 fn c1)
  have XB5 := Whole.far (p := ⟨w.heap.size + 1 + 1 + 1, 12, none⟩) XB1 (by show w.heap.size + 1 ≠ w.heap.size + 1 + 1 + 1; omega) (.slice a1 fn c1)
  have Q5 := Whole.far (p := ⟨w.heap.size + 1 + 1 + 1, 12, none⟩) Q1 (by show w.heap.size + 1 + 1 ≠ w.heap.size + 1 + 1 + 1; omega) (.slice a1 fn c1)
  have hb5 := hb1.setCell (p := ⟨w.heap.size + 1 + 1 + 1, 12, none⟩) (by show w.heap.size ≤ w.heap.size + 1 + 1 + 1; omega) (.slice a1 fn c1)
  have hrow5 := hrow1.turn (grown_set w1 (w.heap.size + 1 + 1 + 1) 12 (.slice a1 fn c1)) (by omega) (fun b hb => by have hb' := HSl.out b hb; omega)
  clear P1 XB1 Q1 O1 hb1 hrow1
  generalize w1.setCell ⟨w.heap.size + 1 + 1 + 1, 12, none⟩ (.slice a1 fn c1) = w5 at *
  have O5 : Whole w5 (w.heap.size + 3) 30 #[.int .i64 7, .bool false, .bool false, .string ⟨#[]⟩, .int .i64 0, .int .i64 0, .int .i64 0, .int .i64 0, .int .i64 0, .string ⟨#[]⟩, .slice none 0 0, .slice none 0 0, .slice a1 fn c1] := O5
  have hw5 := Whole.lt O5
  have HZin : Hid (X.In w5 w5.heap.size) := Lib.hid (HX.out w5 hb5)
  have HZo := HXo
  have HMj : Hid ((key, X) = M fn) := Lib.hid (by rw [HM.out]; exact (if_neg (Nat.lt_irrefl _)).symm)
  have hb5s := hb5.size
  obtain ⟨x0, x1, x2, x3, x4, x5, x6, x7, x8, x9, x10, x11, x12⟩ := Whole.c13 (h := X.h) XB5
  have oO := Whole.cell O5 12
  have fO := Whole.frozen O5 12
  simp only [List.getElem?_toArray, List.getElem?_cons_succ, List.getElem?_cons_zero] at oO
  obtain ⟨f, hown, hf⟩ := (hrow5.alloc (.cells #[.string key, .int .i64 X.h.k, .bool X.h.b, .bool X.h.n, .string X.h.d, .int .i64 X.h.e, .int .i64 X.h.tk, .int .i64 X.h.td, .int .i64 X.h.tn, .int .i64 X.h.tz, .string X.h.x, .slice X.h.ba X.h.bn X.h.bc, .slice X.h.la X.h.ln X.h.lc, .slice X.h.fa X.h.fn X.h.fc] 61))
  have Hf := Lib.hid hf
  have s1 := Lib.hid (cells_new w5 61 (fcs (key, X)))
  have s2 := Lib.hid (fcs_one (key, X))
  have s3 : Hid (fn + 1 ≤ maxLen) := Lib.hid (by unfold maxLen; omega)
  have s4 : Hid ((fn + 1) * 184 ≤ 140737488355328) := Lib.hid (by omega)
  have s5 : Hid ((w.heap.size + 4) ≤ (w5.alloc (.cells #[.string key, .int .i64 X.h.k, .bool X.h.b, .bool X.h.n, .string X.h.d, .int .i64 X.h.e, .int .i64 X.h.tk, .int .i64 X.h.td, .int .i64 X.h.tn, .int .i64 X.h.tz, .string X.h.x, .slice X.h.ba X.h.bn X.h.bc, .slice X.h.la X.h.ln X.h.lc, .slice X.h.fa X.h.fn X.h.fc] 61)).heap.size) := Lib.hid (by rw [World.size_alloc]; omega)
  go_wp2_with (first | (at_builtin; refine wpList_append_told _ rfl _ _ 28 rfl (w.heap.size + 4) 61 i0 _ 14 184 Tryd.underlying28 hi0 hz0 hz1 hz2 rfl (by decide) _ _ _ rfl hown ⟨w5.heap.size, 0, none⟩ 1 1 (fcs (key, X)).toList rfl rfl s1.out s2.out s3.out s4.out s5.out Nat.one_pos ?_))
  clear s1 s2 s3 s4 s5
  intro v' w3 hown3 hgrow hat
  obtain ⟨gg, cap, rfl, -, -⟩ := own_form hown3 (Nat.succ_pos _)
  have HOw := fun g (hg : (Value.slice a1 fn c1).ownBlock = some g) => hown.lt g hg
  have hrow3 : RowG fcs Prod.snd 14 61 (w.heap.size + 4) SS (fun t X => X = M t) w3 (.slice (some ⟨gg, 0, none⟩) (fn + 1) cap) (fn + 1) :=
    RowG.push (x := (key, X)) hown Hf.out (HZin.out.later ((Below.refl _ _).alloc (Nat.le_refl _) _)) HZo.out (fun g hg => HZo.out.mono fun b hb => by have hb' := HSl.out b hb; have := (HOw g hg).1; omega) HMj.out hown3 hgrow (by simp only [World.size_alloc]; exact hat)
  have far : ∀ B, B < (w.heap.size + 4) → some B ≠ (Value.slice a1 fn c1).ownBlock := fun B hB e => by have := (HOw B e.symm).1; omega
  have P3 := Whole.kept (Whole.alloc P5 (.cells #[.string key, .int .i64 X.h.k, .bool X.h.b, .bool X.h.n, .string X.h.d, .int .i64 X.h.e, .int .i64 X.h.tk, .int .i64 X.h.td, .int .i64 X.h.tn, .int .i64 X.h.tz, .string X.h.x, .slice X.h.ba X.h.bn X.h.bc, .slice X.h.la X.h.ln X.h.lc, .slice X.h.fa X.h.fn X.h.fc] 61)) hgrow (far _ (by omega))
  have XB3 := Whole.kept (Whole.alloc XB5 (.cells #[.string key, .int .i64 X.h.k, .bool X.h.b, .bool X.h.n, .string X.h.d, .int .i64 X.h.e, .int .i64 X.h.tk, .int .i64 X.h.td, .int .i64 X.h.tn, .int .i64 X.h.tz, .string X.h.x, .slice X.h.ba X.h.bn X.h.bc, .slice X.h.la X.h.ln X.h.lc, .slice X.h.fa X.h.fn X.h.fc] 61)) hgrow (far _ (by omega))
  have Q3 := Whole.kept (Whole.alloc Q5 (.cells #[.string key, .int .i64 X.h.k, .bool X.h.b, .bool X.h.n, .string X.h.d, .int .i64 X.h.e, .int .i64 X.h.tk, .int .i64 X.h.td, .int .i64 X.h.tn, .int .i64 X.h.tz, .string X.h.x, .slice X.h.ba X.h.bn X.h.bc, .slice X.h.la X.h.ln X.h.lc, .slice X.h.fa X.h.fn X.h.fc] 61)) hgrow (far _ (by omega))
  have O3 := Whole.kept (Whole.alloc O5 (.cells #[.string key, .int .i64 X.h.k, .bool X.h.b, .bool X.h.n, .string X.h.d, .int .i64 X.h.e, .int .i64 X.h.tk, .int .i64 X.h.td, .int .i64 X.h.tn, .int .i64 X.h.tz, .string X.h.x, .slice X.h.ba X.h.bn X.h.bc, .slice X.h.la X.h.ln X.h.lc, .slice X.h.fa X.h.fn X.h.fc] 61)) hgrow (far _ (by omega))
  have hb3 := (hb5.alloc hb5.size (.cells #[.string key, .int .i64 X.h.k, .bool X.h.b, .bool X.h.n, .string X.h.d, .int .i64 X.h.e, .int .i64 X.h.tk, .int .i64 X.h.td, .int .i64 X.h.tn, .int .i64 X.h.tz, .string X.h.x, .slice X.h.ba X.h.bn X.h.bc, .slice X.h.la X.h.ln X.h.lc, .slice X.h.fa X.h.fn X.h.fc] 61)).grown hgrow (by rw [World.size_alloc]; omega) (fun g hg => by have := (HOw g hg).1; omega)
  clear hown Hf hown3 hgrow hat hrow5 hb5 P5 XB5 Q5 O5 oO fO HOw far HZin HZo x0 x1 x2 x3 x4 x5 x6 x7 x8 x9 x10 x11 x12 hw5 hb5s
  have oO := Whole.cell O3 12
  have fO := Whole.frozen O3 12
  simp only [List.getElem?_toArray, List.getElem?_cons_succ, List.getElem?_cons_zero] at oO
  have O4 := Whole.set O3 12 (.slice (some ⟨gg, 0, none⟩) (fn + 1) cap)
  have P4 := Whole.far (p := ⟨w.heap.size + 1 + 1 + 1, 12, none⟩) P3 (by show w.heap.size ≠ w.heap.size + 1 + 1 + 1; omega) (.slice (some ⟨gg, 0, none⟩) (fn + 1) cap)
  have XB4 := Whole.far (p := ⟨w.heap.size + 1 + 1 + 1, 12, none⟩) XB3 (by show w.heap.size + 1 ≠ w.heap.size + 1 + 1 + 1; omega) (.slice (some ⟨gg, 0, none⟩) (fn + 1) cap)
  have Q4 := Whole.far (p := ⟨w.heap.size + 1 + 1 + 1, 12, none⟩) Q3 (by show w.heap.size + 1 + 1 ≠ w.heap.size + 1 + 1 + 1; omega) (.slice (some ⟨gg, 0, none⟩) (fn + 1) cap)
  have hb4 := hb3.setCell (p := ⟨w.heap.size + 1 + 1 + 1, 12, none⟩) (by show w.heap.size ≤ w.heap.size + 1 + 1 + 1; omega) (.slice (some ⟨gg, 0, none⟩) (fn + 1) cap)
  have hrow4 := hrow3.turn (grown_set w3 (w.heap.size + 1 + 1 + 1) 12 (.slice (some ⟨gg, 0, none⟩) (fn + 1) cap)) (by omega) (fun b hb => by have hb' := HSl.out b hb; omega)
  clear P3 XB3 Q3 O3 hb3 hrow3
  obtain ⟨c0, c1', c2, c3, c4, c5, c6, c7, c8, c9, c10, c11, c12⟩ := Whole.c13 (h := (Vh.fld 7 (some ⟨gg, 0, none⟩) (fn + 1) cap 0)) O4
  simp only [Vh.fld, Vh.cells] at c0 c1' c2 c3 c4 c5 c6 c7 c8 c9 c10 c11 c12
  have hone := Lib.hid (vh_all (Vh.fld 7 (some ⟨gg, 0, none⟩) (fn + 1) cap 0))
  have HE : Hid (∀ W', Below w.heap.size w W' → RowG fcs Prod.snd 14 61 (w.heap.size + 4) SS (fun t X => X = M t) W' (.slice (some ⟨gg, 0, none⟩) (fn + 1) cap) (fn + 1) → FnS ((Vt.mk ⟨k, b', n', dd, e, tk, td, tn, tz, x, ba, bn, bc, la, 0, lc, fa, fn, fc, bb, bo, lb, lo, fb, fo⟩ Y L K F).moreF key X) SS w (.returned (.agg #[.int .i64 7, .bool false, .bool false, .string ⟨#[]⟩, .int .i64 0, .int .i64 0, .int .i64 0, .int .i64 0, .int .i64 0, .string ⟨#[]⟩, .slice none 0 0, .slice none 0 0, .slice (some ⟨gg, 0, none⟩) (fn + 1) cap])) W') := Lib.hid fun W' hb hr =>
    fld_out (K := fun t => (M t).1) (M := fun t => (M t).2) hr (by omega) (by omega) hb (fun t x ht hq => by rw [hq, HM.out]; dsimp only; rcases Nat.lt_or_ge t fn with q | q; { simp only [if_pos q]; exact ⟨trivial, HWh.out t q⟩ }; { simp only [if_neg (Nat.not_lt.2 q)]; exact ⟨trivial, HKy.out, HXs.out⟩ })
      (fun a c b K' M' hM' => fld_same (L := L) HOwn.out Hk.out (fun t ht => by have := hM' t ht; rw [HM.out] at this; dsimp only at this; by_cases q : t < fn <;> simp only [q, if_true, if_false] at this ⊢ <;> exact this))
  go_wp2_with (refine wpList_store_row rfl 30 _ _ rfl (w.heap.size + 2) (Vh.fld 7 (some ⟨gg, 0, none⟩) (fn + 1) cap 0).cells rfl rfl 30 _ Q4 vh_row rfl hone.out ?_)
  exact bodyPost_ret (v := .agg (Vh.fld 7 (some ⟨gg, 0, none⟩) (fn + 1) cap 0).cells) (ret_val (p := 6) rfl rfl (Q4.setRow _)) rfl (HE.out _ (below_setRow hb4 (by omega) _) (hrow4.turn (grown_row _ _ _) (by omega) (fun b hb => by have hb' := HSl.out b hb; omega)))
end Go.Proofs.YtfkfboiblgoamaaDoor
