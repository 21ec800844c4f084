/- Laid together for one claim: VtMore, VtLast1, VtRrnM. -/
import Derived.Test.YtfkfboiblgoamaaQN16
import Derived.Deep.Cut
import Derived.Deep.DeepCutAuto
import Derived.Test.YtfkfboiblgoamaaQN21
import Derived.Test.YtfkfboiblgoamaaQN22
import Derived.Test.YtfkfboiblgoamaaQN24
import Derived.Test.YtfkfboiblgoamaaQN18
import Derived.Test.YtfkfboiblgoamaaQN23
/- Values with one more field: datakitref09.More. -/
namespace Go.Proofs.Ytfkfboiblgoamaa
open Go.RowKit
set_option linter.unusedSimpArgs false
set_option linter.unusedVariables false

set_option maxHeartbeats 8000000 in
set_option maxRecDepth 100000 in
theorem more_any {h : Vh} {Y : Nat → Int} {L : Nat → Vt} {K : Nat → ByteArray} {F : Nat → Vt} {X : Vt} {key : ByteArray} {top : Nat} {w : World} (hT : (Vt.mk h Y L K F).In w top) (hX : X.In w w.heap.size) {SS : Nat → Prop} (hXo : X.Off SS) (hSt : ∀ b, b < top → SS b) (hSl : ∀ b, SS b → b < w.heap.size) (ht : top ≤ w.heap.size) (ho : h.own = true) (hk : h.k = 7) (hkey : key.size ≤ 1048576) (hfn : h.fn < 1048576) :
    Calls Try.prog 59 #[.agg h.cells, .string key, .agg X.h.cells] w (FnS ((Vt.mk h Y L K F).moreF key X) SS w) := by
  have HX := Lib.hid (fun (w1 : World) (hb : Below w.heap.size w w1) => (hX.below hb).up hb.size)
  have HXo := Lib.hid hXo
  have HSt := Lib.hid hSt
  have HSl := Lib.hid hSl
  have HXs := Lib.hid (Vt.Same.rfl' hX.whole)
  clear hX hXo hSt hSl
  have hb0 := (((((Below.refl w.heap.size w).alloc (Nat.le_refl _) (.cells h.cells 30)).alloc (by simp) (.cells X.h.cells 30)).alloc (by simp; omega) (.cells Vh.zero.cells 30)).alloc (by simp; omega) (.cells (Vh.fld 7 none 0 0 0).cells 30))
  have P := ((((Whole.new w 30 h.cells).alloc (.cells X.h.cells 30)).alloc (.cells Vh.zero.cells 30)).alloc (.cells (Vh.fld 7 none 0 0 0).cells 30))
  have XB := (((Whole.new (w.alloc (.cells h.cells 30)) 30 X.h.cells).alloc (.cells Vh.zero.cells 30)).alloc (.cells (Vh.fld 7 none 0 0 0).cells 30))
  rw [World.size_alloc] at XB
  have Q := ((Whole.new ((w.alloc (.cells h.cells 30)).alloc (.cells X.h.cells 30)) 30 Vh.zero.cells).alloc (.cells (Vh.fld 7 none 0 0 0).cells 30))
  rw [World.size_alloc, World.size_alloc] at Q
  have O := (Whole.new (((w.alloc (.cells h.cells 30)).alloc (.cells X.h.cells 30)).alloc (.cells Vh.zero.cells 30)) 30 (Vh.fld 7 none 0 0 0).cells)
  rw [World.size_alloc, World.size_alloc, World.size_alloc] at O
  obtain ⟨i0, hi0, hz0, hz1, hz2⟩ := info_parts Try.infoFld
  have hokh := hT.1
  have HAd := Lib.hid (hT.2.2.2.2.2.1)
  have HWh := Lib.hid (fun t (ht : t < h.fn) => And.intro (hT.2.2.2.2.2.2 t ht).2.1 (Vt.Same.rfl' (hT.whole.2 t ht)))
  have HLrow := Lib.hid (fun (w1 : World) (hb : Below w.heap.size w w1) => fun j (hj : j < h.fn) => (And.intro (lies_fcs ((hT.below (hb.mono ht)).2.2.2.2.2.2 j hj).1 ((hT.below (hb.mono ht)).2.2.2.2.2.2 j hj).2.2.1) ((hT.below (hb.mono ht)).2.2.2.2.2.2 j hj).2.2.2 : LiesAt w1 h.fb (h.fo + j * 14) (fcs (K j, F j)) ∧ (F j).In w1 top))
  have hz : h.ln = 0 := (Vh.own_parts ho).2.2.2.2.2.2.2.1 (by omega)
  have HOwn := Lib.hid ho
  have Hk := Lib.hid hk
  have hln := hokh.fn
  have hk1 := hokh.k.1
  have hk2 := hokh.k.2
  have i3 : (h.fn : Int) ≤ 1048576 := by omega
  have i4 : (0 : Int) ≤ h.fn := by omega
  clear hokh hT ho hk
  obtain ⟨k, b', n', dd, e, tk, td, tn, tz, x, ba, bn, bc, la, ln, lc, fa, fn, fc, bb, bo, lb, lo, fb, fo⟩ := h
  dsimp only at HAd hln hk1 hk2 hz i3 i4 HLrow HWh Hk P O hb0 Q XB hfn HAd
  subst hz
  obtain ⟨M, hM⟩ : ∃ M : Nat → ByteArray × Vt, M = fun j => if j < fn then (K j, F j) else (key, X) := ⟨_, rfl⟩
  have HM := Lib.hid hM
  have HKy := Lib.hid hkey
  clear hM hkey
  simp only [Vh.cells, Vh.zero, Vh.fld] at hb0 Q O XB P ⊢
  have oO := Whole.cell O 12
  have fO := Whole.frozen O 12
  have cP := Whole.cell P 12
  simp only [List.getElem?_toArray, List.getElem?_cons_succ, List.getElem?_cons_zero] at oO cP
  have s1 := Lib.hid (fun (hp : 0 < fn) => (⟨⟨fb, fo, none⟩, (HAd.out hp).1, rowL_src (fun j => fcs_size (K j, F j)) (fun j hj => (HLrow.out _ hb0 j hj).1)⟩ : ∃ ad, fa = some ad ∧ ∀ j u, (catN (fun j => fcs (K j, F j)) fn)[j]? = some u → World.cell? _ (ad.add j) = some u))
  have s2 := Lib.hid (catN_one (fun j => fcs_one (K j, F j)) fn)
  have s0 := Lib.hid (catN_len (fun j => fcs_size (K j, F j)) fn)
  have s3 : Hid (fn ≤ maxLen) := Lib.hid (by unfold maxLen; omega)
  have s4 : Hid (fn * 184 ≤ 140737488355328) := Lib.hid (by omega)
  have hOl := Whole.lt O
  have s5 := Lib.hid hOl
  go_enter Try.func59, Try.ntmps59
  go_wp2_with (first | (at_builtin; refine wpList_append_fresh _ rfl _ _ 28 rfl (w.heap.size + 4) 65 i0 _ 14 184 Try.underlying28 hi0 hz0 hz1 hz2 rfl (by decide) rfl fa fn fc (catN (fun j => fcs (K j, F j)) fn) rfl s0.out s1.out s2.out s3.out s4.out s5.out ?_))
  clear s0 s1 s2 s3 s4 s5 oO cP fO
  intro v1 w1 hown1 hgrow1 hat1
  clear hat1
  have P1 := Whole.kept P hgrow1 (by simp)
  have XB1 := Whole.kept XB hgrow1 (by simp)
  have Q1 := Whole.kept Q hgrow1 (by simp)
  have O1 := Whole.kept O hgrow1 (by simp)
  have hb1 := hb0.grown hgrow1 (Nat.le_trans (by omega) (Nat.le_of_lt hOl)) (fun g hg => by cases hg)
  have hoB := Lib.hid (fun b (e : v1.ownBlock = some b) => (hown1.lt b e).1)
  obtain ⟨a1, c1, b1, rfl, -, -, -⟩ := own_lies (fun j => fcs_size (K j, F j)) hown1
  have hrow1 : RowG fcs Prod.snd 14 65 (w.heap.size + 4) SS (fun t x => x = M t) w1 (.slice a1 fn c1) fn := ⟨fun j => (K j, F j), hown1, fun j hj => ⟨(HLrow.out w1 hb1 j hj).2.up (Nat.le_trans ht hb1.size), (HLrow.out w1 hb1 j hj).2.off.mono fun b hb => ⟨HSt.out b hb, fun e => by have := hoB.out b e.symm; omega⟩, by rw [HM.out]; exact (if_pos hj).symm⟩⟩
  clear P XB Q O hgrow1 hown1 hb0 hoB hOl
  have oO := Whole.cell O1 12
  have fO := Whole.frozen O1 12
  simp only [List.getElem?_toArray, List.getElem?_cons_succ, List.getElem?_cons_zero] at oO
  have hO1 := Whole.lt O1
  go_upto_region 3 with fail
  clear oO fO
  have O5 := Whole.set O1 12 (.slice a1 fn c1)
  have P5 := Whole.far (p := ⟨w.heap.size + 1 + 1 + 1, 12, none⟩) P1 (by show w.heap.size ≠ w.heap.size + 1 + 1 + 1; omega) (.slice a1 fn c1)
  have XB5 := Whole.far (p := ⟨w.heap.size + 1 + 1 + 1, 12, none⟩) XB1 (by show w.heap.size + 1 ≠ w.heap.size + 1 + 1 + 1; omega) (.slice a1 fn c1)
  have Q5 := Whole.far (p := ⟨w.heap.size + 1 + 1 + 1, 12, none⟩) Q1 (by show w.heap.size + 1 + 1 ≠ w.heap.size + 1 + 1 + 1; omega) (.slice a1 fn c1)
  have hb5 := hb1.setCell (p := ⟨w.heap.size + 1 + 1 + 1, 12, none⟩) (by show w.heap.size ≤ w.heap.size + 1 + 1 + 1; omega) (.slice a1 fn c1)
  have hrow5 := hrow1.turn (grown_set w1 (w.heap.size + 1 + 1 + 1) 12 (.slice a1 fn c1)) (by omega) (fun b hb => by have hb' := HSl.out b hb; omega)
  clear P1 XB1 Q1 O1 hb1 hrow1
  generalize w1.setCell ⟨w.heap.size + 1 + 1 + 1, 12, none⟩ (.slice a1 fn c1) = w5 at *
  have O5 : Whole w5 (w.heap.size + 3) 30 #[.int .i64 7, .bool false, .bool false, .string ⟨#[]⟩, .int .i64 0, .int .i64 0, .int .i64 0, .int .i64 0, .int .i64 0, .string ⟨#[]⟩, .slice none 0 0, .slice none 0 0, .slice a1 fn c1] := O5
  have hw5 := Whole.lt O5
  have HZin : Hid (X.In w5 w5.heap.size) := Lib.hid (HX.out w5 hb5)
  have HZo := HXo
  have HMj : Hid ((key, X) = M fn) := Lib.hid (by rw [HM.out]; exact (if_neg (Nat.lt_irrefl _)).symm)
  have hb5s := hb5.size
  obtain ⟨x0, x1, x2, x3, x4, x5, x6, x7, x8, x9, x10, x11, x12⟩ := Whole.c13 (h := X.h) XB5
  have oO := Whole.cell O5 12
  have fO := Whole.frozen O5 12
  simp only [List.getElem?_toArray, List.getElem?_cons_succ, List.getElem?_cons_zero] at oO
  obtain ⟨f, hown, hf⟩ := (hrow5.alloc (.cells #[.string key, .int .i64 X.h.k, .bool X.h.b, .bool X.h.n, .string X.h.d, .int .i64 X.h.e, .int .i64 X.h.tk, .int .i64 X.h.td, .int .i64 X.h.tn, .int .i64 X.h.tz, .string X.h.x, .slice X.h.ba X.h.bn X.h.bc, .slice X.h.la X.h.ln X.h.lc, .slice X.h.fa X.h.fn X.h.fc] 65))
  have Hf := Lib.hid hf
  have s1 := Lib.hid (cells_new w5 65 (fcs (key, X)))
  have s2 := Lib.hid (fcs_one (key, X))
  have s3 : Hid (fn + 1 ≤ maxLen) := Lib.hid (by unfold maxLen; omega)
  have s4 : Hid ((fn + 1) * 184 ≤ 140737488355328) := Lib.hid (by omega)
  have s5 : Hid ((w.heap.size + 4) ≤ (w5.alloc (.cells #[.string key, .int .i64 X.h.k, .bool X.h.b, .bool X.h.n, .string X.h.d, .int .i64 X.h.e, .int .i64 X.h.tk, .int .i64 X.h.td, .int .i64 X.h.tn, .int .i64 X.h.tz, .string X.h.x, .slice X.h.ba X.h.bn X.h.bc, .slice X.h.la X.h.ln X.h.lc, .slice X.h.fa X.h.fn X.h.fc] 65)).heap.size) := Lib.hid (by rw [World.size_alloc]; omega)
  go_wp2_with (first | (at_builtin; refine wpList_append_told _ rfl _ _ 28 rfl (w.heap.size + 4) 65 i0 _ 14 184 Try.underlying28 hi0 hz0 hz1 hz2 rfl (by decide) _ _ _ rfl hown ⟨w5.heap.size, 0, none⟩ 1 1 (fcs (key, X)).toList rfl rfl s1.out s2.out s3.out s4.out s5.out Nat.one_pos ?_))
  clear s1 s2 s3 s4 s5
  intro v' w3 hown3 hgrow hat
  obtain ⟨gg, cap, rfl, -, -⟩ := own_form hown3 (Nat.succ_pos _)
  have HOw := fun g (hg : (Value.slice a1 fn c1).ownBlock = some g) => hown.lt g hg
  have hrow3 : RowG fcs Prod.snd 14 65 (w.heap.size + 4) SS (fun t X => X = M t) w3 (.slice (some ⟨gg, 0, none⟩) (fn + 1) cap) (fn + 1) :=
    RowG.push (x := (key, X)) hown Hf.out (HZin.out.later ((Below.refl _ _).alloc (Nat.le_refl _) _)) HZo.out (fun g hg => HZo.out.mono fun b hb => by have hb' := HSl.out b hb; have := (HOw g hg).1; omega) HMj.out hown3 hgrow (by simp only [World.size_alloc]; exact hat)
  have far : ∀ B, B < (w.heap.size + 4) → some B ≠ (Value.slice a1 fn c1).ownBlock := fun B hB e => by have := (HOw B e.symm).1; omega
  have P3 := Whole.kept (Whole.alloc P5 (.cells #[.string key, .int .i64 X.h.k, .bool X.h.b, .bool X.h.n, .string X.h.d, .int .i64 X.h.e, .int .i64 X.h.tk, .int .i64 X.h.td, .int .i64 X.h.tn, .int .i64 X.h.tz, .string X.h.x, .slice X.h.ba X.h.bn X.h.bc, .slice X.h.la X.h.ln X.h.lc, .slice X.h.fa X.h.fn X.h.fc] 65)) hgrow (far _ (by omega))
  have XB3 := Whole.kept (Whole.alloc XB5 (.cells #[.string key, .int .i64 X.h.k, .bool X.h.b, .bool X.h.n, .string X.h.d, .int .i64 X.h.e, .int .i64 X.h.tk, .int .i64 X.h.td, .int .i64 X.h.tn, .int .i64 X.h.tz, .string X.h.x, .slice X.h.ba X.h.bn X.h.bc, .slice X.h.la X.h.ln X.h.lc, .slice X.h.fa X.h.fn X.h.fc] 65)) hgrow (far _ (by omega))
  have Q3 := Whole.kept (Whole.alloc Q5 (.cells #[.string key, .int .i64 X.h.k, .bool X.h.b, .bool X.h.n, .string X.h.d, .int .i64 X.h.e, .int .i64 X.h.tk, .int .i64 X.h.td, .int .i64 X.h.tn, .int .i64 X.h.tz, .string X.h.x, .slice X.h.ba X.h.bn X.h.bc, .slice X.h.la X.h.ln X.h.lc, .slice X.h.fa X.h.fn X.h.fc] 65)) hgrow (far _ (by omega))
  have O3 := Whole.kept (Whole.alloc O5 (.cells #[.string key, .int .i64 X.h.k, .bool X.h.b, .bool X.h.n, .string X.h.d, .int .i64 X.h.e, .int .i64 X.h.tk, .int .i64 X.h.td, .int .i64 X.h.tn, .int .i64 X.h.tz, .string X.h.x, .slice X.h.ba X.h.bn X.h.bc, .slice X.h.la X.h.ln X.h.lc, .slice X.h.fa X.h.fn X.h.fc] 65)) hgrow (far _ (by omega))
  have hb3 := (hb5.alloc hb5.size (.cells #[.string key, .int .i64 X.h.k, .bool X.h.b, .bool X.h.n, .string X.h.d, .int .i64 X.h.e, .int .i64 X.h.tk, .int .i64 X.h.td, .int .i64 X.h.tn, .int .i64 X.h.tz, .string X.h.x, .slice X.h.ba X.h.bn X.h.bc, .slice X.h.la X.h.ln X.h.lc, .slice X.h.fa X.h.fn X.h.fc] 65)).grown hgrow (by rw [World.size_alloc]; omega) (fun g hg => by have := (HOw g hg).1; omega)
  clear hown Hf hown3 hgrow hat hrow5 hb5 P5 XB5 Q5 O5 oO fO HOw far HZin HZo x0 x1 x2 x3 x4 x5 x6 x7 x8 x9 x10 x11 x12 hw5 hb5s
  have oO := Whole.cell O3 12
  have fO := Whole.frozen O3 12
  simp only [List.getElem?_toArray, List.getElem?_cons_succ, List.getElem?_cons_zero] at oO
  have O4 := Whole.set O3 12 (.slice (some ⟨gg, 0, none⟩) (fn + 1) cap)
  have P4 := Whole.far (p := ⟨w.heap.size + 1 + 1 + 1, 12, none⟩) P3 (by show w.heap.size ≠ w.heap.size + 1 + 1 + 1; omega) (.slice (some ⟨gg, 0, none⟩) (fn + 1) cap)
  have XB4 := Whole.far (p := ⟨w.heap.size + 1 + 1 + 1, 12, none⟩) XB3 (by show w.heap.size + 1 ≠ w.heap.size + 1 + 1 + 1; omega) (.slice (some ⟨gg, 0, none⟩) (fn + 1) cap)
  have Q4 := Whole.far (p := ⟨w.heap.size + 1 + 1 + 1, 12, none⟩) Q3 (by show w.heap.size + 1 + 1 ≠ w.heap.size + 1 + 1 + 1; omega) (.slice (some ⟨gg, 0, none⟩) (fn + 1) cap)
  have hb4 := hb3.setCell (p := ⟨w.heap.size + 1 + 1 + 1, 12, none⟩) (by show w.heap.size ≤ w.heap.size + 1 + 1 + 1; omega) (.slice (some ⟨gg, 0, none⟩) (fn + 1) cap)
  have hrow4 := hrow3.turn (grown_set w3 (w.heap.size + 1 + 1 + 1) 12 (.slice (some ⟨gg, 0, none⟩) (fn + 1) cap)) (by omega) (fun b hb => by have hb' := HSl.out b hb; omega)
  clear P3 XB3 Q3 O3 hb3 hrow3
  obtain ⟨c0, c1', c2, c3, c4, c5, c6, c7, c8, c9, c10, c11, c12⟩ := Whole.c13 (h := (Vh.fld 7 (some ⟨gg, 0, none⟩) (fn + 1) cap 0)) O4
  simp only [Vh.fld, Vh.cells] at c0 c1' c2 c3 c4 c5 c6 c7 c8 c9 c10 c11 c12
  have hone := Lib.hid (vh_all (Vh.fld 7 (some ⟨gg, 0, none⟩) (fn + 1) cap 0))
  have HE : Hid (∀ W', Below w.heap.size w W' → RowG fcs Prod.snd 14 65 (w.heap.size + 4) SS (fun t X => X = M t) W' (.slice (some ⟨gg, 0, none⟩) (fn + 1) cap) (fn + 1) → FnS ((Vt.mk ⟨k, b', n', dd, e, tk, td, tn, tz, x, ba, bn, bc, la, 0, lc, fa, fn, fc, bb, bo, lb, lo, fb, fo⟩ Y L K F).moreF key X) SS w (.returned (.agg #[.int .i64 7, .bool false, .bool false, .string ⟨#[]⟩, .int .i64 0, .int .i64 0, .int .i64 0, .int .i64 0, .int .i64 0, .string ⟨#[]⟩, .slice none 0 0, .slice none 0 0, .slice (some ⟨gg, 0, none⟩) (fn + 1) cap])) W') := Lib.hid fun W' hb hr =>
    fld_out (K := fun t => (M t).1) (M := fun t => (M t).2) hr (by omega) (by omega) hb (fun t x ht hq => by rw [hq, HM.out]; dsimp only; rcases Nat.lt_or_ge t fn with q | q; { simp only [if_pos q]; exact ⟨trivial, HWh.out t q⟩ }; { simp only [if_neg (Nat.not_lt.2 q)]; exact ⟨trivial, HKy.out, HXs.out⟩ })
      (fun a c b K' M' hM' => fld_same (L := L) HOwn.out Hk.out (fun t ht => by have := hM' t ht; rw [HM.out] at this; dsimp only at this; by_cases q : t < fn <;> simp only [q, if_true, if_false] at this ⊢ <;> exact this))
  go_wp2_with (refine wpList_store_row rfl 30 _ _ rfl (w.heap.size + 2) (Vh.fld 7 (some ⟨gg, 0, none⟩) (fn + 1) cap 0).cells rfl rfl 30 _ Q4 vh_row rfl hone.out ?_)
  exact bodyPost_ret (v := .agg (Vh.fld 7 (some ⟨gg, 0, none⟩) (fn + 1) cap 0).cells) (ret_val (p := 6) rfl rfl (Q4.setRow _)) rfl (HE.out _ (below_setRow hb4 (by omega) _) (hrow4.turn (grown_row _ _ _) (by omega) (fun b hb => by have hb' := HSl.out b hb; omega)))
end Go.Proofs.Ytfkfboiblgoamaa
/- What the reference makes at the last step: datakitref09.last, how = 1. -/
namespace Go.Proofs.Ytfkfboiblgoamaa
open Go.RowKit
set_option linter.unusedSimpArgs false
set_option linter.unusedVariables false

/-- What 'last' makes. -/
noncomputable def Vt.last1 (X T : Vt) (s : Stp) : Vt × Int := if (T.find s).2 = 0 then (T.setP (T.find s).1.toNat X, 0) else if (T.find s).2 = 7 ∧ s.ix = false then (T.moreF s.key X, 0) else (.z, (T.find s).2)

theorem find_7 {T : Vt} {s : Stp} (h : (T.find s).2 = 7) : if s.ix = true then T.h.k = 6 else T.h.k = 7 := by
  unfold Vt.find at h
  split at h
  · rename_i q
    rw [if_pos q]
    split at h
    · cases h
    · rename_i q2; exact Classical.byContradiction q2
  · rename_i q
    rw [if_neg q]
    split at h
    · cases h
    · rename_i q2; exact Classical.byContradiction q2

theorem mored_any {T X : Vt} {key : ByteArray} {top : Nat} {w : World} (hT : T.In w top) (hX : X.In w w.heap.size) {SS : Nat → Prop} (hXo : X.Off SS) (hSt : ∀ b, b < top → SS b) (hSl : ∀ b, SS b → b < w.heap.size) (ht : top ≤ w.heap.size) (ho : T.h.own = true) (hk : T.h.k = 7) (hkey : key.size ≤ 1048576) (hfn : T.h.fn < 1048576) :
    Calls Try.prog 59 #[.agg T.h.cells, .string key, .agg X.h.cells] w (FnS (T.moreF key X) SS w) := by
  cases T with
  | nil => exact hT.elim
  | mk h Y L K F => exact more_any hT hX hXo hSt hSl ht ho hk hkey hfn

set_option maxHeartbeats 8000000 in
set_option maxRecDepth 100000 in
theorem last1_6 {T X : Vt} {s : Stp} {top : Nat} {w : World} (hT : T.In w top) (hX : X.In w top) (ht : top ≤ w.heap.size) (ho : T.h.own = true) (hs : w64 s.n) (h0 : (T.find s).2 = 6) :
    Calls Try.prog 53 #[.agg T.h.cells, .agg s.cells, .agg X.h.cells, .int .i64 1] w (ResOut (.z, 6) top w) := by
  obtain ⟨f1, hf1⟩ : ∃ f, T.find s = (f, 6) := ⟨_, Prod.ext rfl h0⟩
  have HE : Hid (∀ w', Below w.heap.size w w' → ResOut ((.z, 6) : Vt × Int) top w (.returned (.tuple #[.agg Vh.zero.cells, .int .i64 6])) w') := Lib.hid fun w' hb => res_of (X := .z) rfl (Vt.z_in _ _) (Vt.z_off _) (fun h => absurd h (by decide)) (fun _ => rfl) hb
  have hb0 := ((((Below.refl w.heap.size w).alloc (Nat.le_refl _) (.cells T.h.cells 30)).alloc (by simp) (.cells s.cells 59)).alloc (by simp; omega) (.cells X.h.cells 30)).alloc (by simp; omega) (.cells Vh.zero.cells 30)
  have P := (((Whole.new w 30 T.h.cells).alloc (.cells s.cells 59)).alloc (.cells X.h.cells 30)).alloc (.cells Vh.zero.cells 30)
  have S3 := ((Whole.new (w.alloc (.cells T.h.cells 30)) 59 s.cells).alloc (.cells X.h.cells 30)).alloc (.cells Vh.zero.cells 30)
  rw [World.size_alloc] at S3
  have XB := (Whole.new ((w.alloc (.cells T.h.cells 30)).alloc (.cells s.cells 59)) 30 X.h.cells).alloc (.cells Vh.zero.cells 30)
  rw [World.size_alloc, World.size_alloc] at XB
  have Q := Whole.new (((w.alloc (.cells T.h.cells 30)).alloc (.cells s.cells 59)).alloc (.cells X.h.cells 30)) 30 Vh.zero.cells
  rw [World.size_alloc, World.size_alloc, World.size_alloc] at Q
  have HF := Lib.hid (fun (w1 : World) (hb : Below w.heap.size w w1) => rfind_any (T := T) (s := s) (Vt.In.below (hb.mono ht) hT) (Nat.le_trans ht hb.size) hs)
  rw [hf1] at HF
  clear hT hX ho h0 hf1
  simp only [Vh.cells, Vh.zero, Stp.cells] at hb0 P S3 XB Q HF ⊢
  go_enter Try.func53, Try.ntmps53
  go_wp2_with fail
  refine (HF.out _ hb0).mono ?_; rintro _ w1 ⟨rfl, hb1⟩
  have g1 := below_then hb0 hb1
  have P1 := Whole.below P hb1 (Whole.lt P)
  have S31 := Whole.below S3 hb1 (Whole.lt S3)
  have XB1 := Whole.below XB hb1 (Whole.lt XB)
  have Q1 := Whole.below Q hb1 (Whole.lt Q)
  clear HF hb0 hb1 P S3 XB Q
  obtain ⟨s0, s1, s2⟩ := Whole.b3 (s := s) S31
  have hone := Lib.hid (vh_all Vh.zero)
  go_wp2_with (refine wpList_store_row rfl 30 _ _ rfl (w.heap.size + 3) Vh.zero.cells rfl rfl 30 _ Q1 vh_row rfl hone.out ?_)
  exact bodyPost_ret (v := .tuple #[.agg Vh.zero.cells, .int .i64 6]) (ret_val2 (p := 8) (q := 9) rfl rfl (Whole.setRow Q1 Vh.zero.cells)) rfl (HE.out _ (below_setRow g1 (by omega) _))

set_option maxHeartbeats 8000000 in
set_option maxRecDepth 100000 in
theorem last1_7 {T X : Vt} {s : Stp} {top : Nat} {w : World} (hT : T.In w top) (hX : X.In w top) (ht : top ≤ w.heap.size) (ho : T.h.own = true) (hs : w64 s.n) (h0 : (T.find s).2 = 7) (hix : s.ix = true) :
    Calls Try.prog 53 #[.agg T.h.cells, .agg s.cells, .agg X.h.cells, .int .i64 1] w (ResOut (.z, 7) top w) := by
  have Hix := Lib.hid hix
  clear hix
  obtain ⟨f1, hf1⟩ : ∃ f, T.find s = (f, 7) := ⟨_, Prod.ext rfl h0⟩
  have HE : Hid (∀ w', Below w.heap.size w w' → ResOut ((.z, 7) : Vt × Int) top w (.returned (.tuple #[.agg Vh.zero.cells, .int .i64 7])) w') := Lib.hid fun w' hb => res_of (X := .z) rfl (Vt.z_in _ _) (Vt.z_off _) (fun h => absurd h (by decide)) (fun _ => rfl) hb
  have hb0 := ((((Below.refl w.heap.size w).alloc (Nat.le_refl _) (.cells T.h.cells 30)).alloc (by simp) (.cells s.cells 59)).alloc (by simp; omega) (.cells X.h.cells 30)).alloc (by simp; omega) (.cells Vh.zero.cells 30)
  have P := (((Whole.new w 30 T.h.cells).alloc (.cells s.cells 59)).alloc (.cells X.h.cells 30)).alloc (.cells Vh.zero.cells 30)
  have S3 := ((Whole.new (w.alloc (.cells T.h.cells 30)) 59 s.cells).alloc (.cells X.h.cells 30)).alloc (.cells Vh.zero.cells 30)
  rw [World.size_alloc] at S3
  have XB := (Whole.new ((w.alloc (.cells T.h.cells 30)).alloc (.cells s.cells 59)) 30 X.h.cells).alloc (.cells Vh.zero.cells 30)
  rw [World.size_alloc, World.size_alloc] at XB
  have Q := Whole.new (((w.alloc (.cells T.h.cells 30)).alloc (.cells s.cells 59)).alloc (.cells X.h.cells 30)) 30 Vh.zero.cells
  rw [World.size_alloc, World.size_alloc, World.size_alloc] at Q
  have HF := Lib.hid (fun (w1 : World) (hb : Below w.heap.size w w1) => rfind_any (T := T) (s := s) (Vt.In.below (hb.mono ht) hT) (Nat.le_trans ht hb.size) hs)
  rw [hf1] at HF
  clear hT hX ho h0 hf1
  simp only [Vh.cells, Vh.zero, Stp.cells] at hb0 P S3 XB Q HF ⊢
  go_enter Try.func53, Try.ntmps53
  go_wp2_with fail
  refine (HF.out _ hb0).mono ?_; rintro _ w1 ⟨rfl, hb1⟩
  have g1 := below_then hb0 hb1
  have P1 := Whole.below P hb1 (Whole.lt P)
  have S31 := Whole.below S3 hb1 (Whole.lt S3)
  have XB1 := Whole.below XB hb1 (Whole.lt XB)
  have Q1 := Whole.below Q hb1 (Whole.lt Q)
  clear HF hb0 hb1 P S3 XB Q
  obtain ⟨s0, s1, s2⟩ := Whole.b3 (s := s) S31
  rw [Hix.out] at s0
  clear Hix
  have hone := Lib.hid (vh_all Vh.zero)
  go_wp2_with (refine wpList_store_row rfl 30 _ _ rfl (w.heap.size + 3) Vh.zero.cells rfl rfl 30 _ Q1 vh_row rfl hone.out ?_)
  exact bodyPost_ret (v := .tuple #[.agg Vh.zero.cells, .int .i64 7]) (ret_val2 (p := 8) (q := 9) rfl rfl (Whole.setRow Q1 Vh.zero.cells)) rfl (HE.out _ (below_setRow g1 (by omega) _))

set_option maxHeartbeats 8000000 in
set_option maxRecDepth 100000 in
theorem last1_0 {T X : Vt} {s : Stp} {top : Nat} {w : World} (hT : T.In w top) (hX : X.In w top) (ht : top ≤ w.heap.size) (ho : T.h.own = true) (hs : w64 s.n) (h0 : (T.find s).2 = 0) :
    Calls Try.prog 53 #[.agg T.h.cells, .agg s.cells, .agg X.h.cells, .int .i64 1] w (ResOut (T.setP (T.find s).1.toNat X, 0) top w) := by
  obtain ⟨f1, hf1⟩ : ∃ f, T.find s = (f, 0) := ⟨_, Prod.ext rfl h0⟩
  have HC := Lib.hid (fun (w1 : World) (hb : Below w.heap.size w w1) => replace_any (s := s) (Vt.In.below (hb.mono ht) hT) ((Vt.In.below (hb.mono ht) hX).up (Nat.le_trans ht hb.size)) (SS := (· < top)) hX.off (fun _ q => q) (fun b q => Nat.lt_of_lt_of_le q (Nat.le_trans ht hb.size)) (Nat.le_trans ht hb.size) ho h0)
  obtain ⟨V, hV⟩ : ∃ V, T.setP (T.find s).1.toNat X = V := ⟨_, rfl⟩
  rw [hV] at HC ⊢
  clear hV
  rw [hf1] at HC
  have HE : Hid (∀ (Z : Vt) w', Z.In w' w'.heap.size → Z.Off (fun b => b < top ∨ w.heap.size ≤ b) → Z.Same V → Below w.heap.size w w' → ResOut (V, 0) top w (.returned (.tuple #[.agg Z.h.cells, .int .i64 0])) w') := Lib.hid fun Z w' h1 h3 h2 hb => res_of (X := Z) rfl h1 h3 (fun _ => h2) (fun h => absurd rfl h) hb
  have hb0 := ((((Below.refl w.heap.size w).alloc (Nat.le_refl _) (.cells T.h.cells 30)).alloc (by simp) (.cells s.cells 59)).alloc (by simp; omega) (.cells X.h.cells 30)).alloc (by simp; omega) (.cells Vh.zero.cells 30)
  have P := (((Whole.new w 30 T.h.cells).alloc (.cells s.cells 59)).alloc (.cells X.h.cells 30)).alloc (.cells Vh.zero.cells 30)
  have S3 := ((Whole.new (w.alloc (.cells T.h.cells 30)) 59 s.cells).alloc (.cells X.h.cells 30)).alloc (.cells Vh.zero.cells 30)
  rw [World.size_alloc] at S3
  have XB := (Whole.new ((w.alloc (.cells T.h.cells 30)).alloc (.cells s.cells 59)) 30 X.h.cells).alloc (.cells Vh.zero.cells 30)
  rw [World.size_alloc, World.size_alloc] at XB
  have Q := Whole.new (((w.alloc (.cells T.h.cells 30)).alloc (.cells s.cells 59)).alloc (.cells X.h.cells 30)) 30 Vh.zero.cells
  rw [World.size_alloc, World.size_alloc, World.size_alloc] at Q
  have HF := Lib.hid (fun (w1 : World) (hb : Below w.heap.size w w1) => rfind_any (T := T) (s := s) (Vt.In.below (hb.mono ht) hT) (Nat.le_trans ht hb.size) hs)
  rw [hf1] at HF
  clear hT hX ho h0 hf1
  simp only [Vh.cells, Vh.zero, Stp.cells] at hb0 P S3 XB Q HF ⊢
  go_enter Try.func53, Try.ntmps53
  go_wp2_with fail
  refine (HF.out _ hb0).mono ?_; rintro _ w1 ⟨rfl, hb1⟩
  have g1 := below_then hb0 hb1
  have P1 := Whole.below P hb1 (Whole.lt P)
  have S31 := Whole.below S3 hb1 (Whole.lt S3)
  have XB1 := Whole.below XB hb1 (Whole.lt XB)
  have Q1 := Whole.below Q hb1 (Whole.lt Q)
  clear HF hb0 hb1 P S3 XB Q
  obtain ⟨c0, c1, c2, c3, c4, c5, c6, c7, c8, c9, c10, c11, c12⟩ := Whole.c13 (h := T.h) P1
  obtain ⟨s0, s1, s2⟩ := Whole.b3 (s := s) S31
  obtain ⟨x0, x1, x2, x3, x4, x5, x6, x7, x8, x9, x10, x11, x12⟩ := Whole.c13 (h := X.h) XB1
  simp only [Vh.cells, Stp.cells] at HC
  go_wp2_with fail
  refine (HC.out _ g1).mono ?_; rintro _ w2 ⟨Z, rfl, hZ, hZo, hZs, hb2⟩
  have g2 := below_then g1 hb2
  have hw1 := g1.size
  have hQ1 := Q1.lt
  have Q2 := Q1.below hb2 Q1.lt
  have hone := Lib.hid (vh_all Z.h)
  have hZ2 := Lib.hid (hZ.stays hZo (W' := w2.setRow (w.heap.size + 3) Z.h.cells) (fun b hb => setRow_other _ _ _ _ (by omega)) (by rw [size_setRow]; exact Nat.le_refl _))
  have hZs2 := Lib.hid hZs
  have hZo2 : Hid (Z.Off (fun b => b < top ∨ w.heap.size ≤ b)) := Lib.hid (hZo.mono fun b hb => by omega)
  clear c0 c1 c2 c3 c4 c5 c6 c7 c8 c9 c10 c11 c12 s0 s1 s2 x0 x1 x2 x3 x4 x5 x6 x7 x8 x9 x10 x11 x12 HC hZ hZo hZs hb2 g1 P1 S31 XB1 Q1 hQ1
  go_wp2_with (refine wpList_store_row rfl 30 _ _ rfl (w.heap.size + 3) Z.h.cells rfl rfl 30 _ Q2 vh_row rfl hone.out ?_)
  exact bodyPost_ret (v := .tuple #[.agg Z.h.cells, .int .i64 0]) (ret_val2 (p := 8) (q := 9) rfl rfl (Q2.setRow Z.h.cells)) rfl (HE.out Z _ hZ2.out hZo2.out hZs2.out (below_setRow g2 (by omega) _))

set_option maxHeartbeats 8000000 in
set_option maxRecDepth 100000 in
theorem last1_m {T X : Vt} {s : Stp} {top : Nat} {w : World} (hT : T.In w top) (hX : X.In w top) (ht : top ≤ w.heap.size) (ho : T.h.own = true) (hs : w64 s.n) (h0 : (T.find s).2 = 7) (hix : s.ix = false) (hk7 : T.h.k = 7) (hkey : s.key.size ≤ 1048576) (hfn : T.h.fn < 1048576) :
    Calls Try.prog 53 #[.agg T.h.cells, .agg s.cells, .agg X.h.cells, .int .i64 1] w (ResOut (T.moreF s.key X, 0) top w) := by
  have Hix := Lib.hid hix
  clear hix
  obtain ⟨f1, hf1⟩ : ∃ f, T.find s = (f, 7) := ⟨_, Prod.ext rfl h0⟩
  have HC := Lib.hid (fun (w1 : World) (hb : Below w.heap.size w w1) => mored_any (Vt.In.below (hb.mono ht) hT) ((Vt.In.below (hb.mono ht) hX).up (Nat.le_trans ht hb.size)) (SS := (· < top)) hX.off (fun _ q => q) (fun b q => Nat.lt_of_lt_of_le q (Nat.le_trans ht hb.size)) (Nat.le_trans ht hb.size) ho hk7 hkey hfn)
  obtain ⟨V, hV⟩ : ∃ V, T.moreF s.key X = V := ⟨_, rfl⟩
  rw [hV] at HC ⊢
  clear hV
  have HE : Hid (∀ (Z : Vt) w', Z.In w' w'.heap.size → Z.Off (fun b => b < top ∨ w.heap.size ≤ b) → Z.Same V → Below w.heap.size w w' → ResOut (V, 0) top w (.returned (.tuple #[.agg Z.h.cells, .int .i64 0])) w') := Lib.hid fun Z w' h1 h3 h2 hb => res_of (X := Z) rfl h1 h3 (fun _ => h2) (fun h => absurd rfl h) hb
  have hb0 := ((((Below.refl w.heap.size w).alloc (Nat.le_refl _) (.cells T.h.cells 30)).alloc (by simp) (.cells s.cells 59)).alloc (by simp; omega) (.cells X.h.cells 30)).alloc (by simp; omega) (.cells Vh.zero.cells 30)
  have P := (((Whole.new w 30 T.h.cells).alloc (.cells s.cells 59)).alloc (.cells X.h.cells 30)).alloc (.cells Vh.zero.cells 30)
  have S3 := ((Whole.new (w.alloc (.cells T.h.cells 30)) 59 s.cells).alloc (.cells X.h.cells 30)).alloc (.cells Vh.zero.cells 30)
  rw [World.size_alloc] at S3
  have XB := (Whole.new ((w.alloc (.cells T.h.cells 30)).alloc (.cells s.cells 59)) 30 X.h.cells).alloc (.cells Vh.zero.cells 30)
  rw [World.size_alloc, World.size_alloc] at XB
  have Q := Whole.new (((w.alloc (.cells T.h.cells 30)).alloc (.cells s.cells 59)).alloc (.cells X.h.cells 30)) 30 Vh.zero.cells
  rw [World.size_alloc, World.size_alloc, World.size_alloc] at Q
  have HF := Lib.hid (fun (w1 : World) (hb : Below w.heap.size w w1) => rfind_any (T := T) (s := s) (Vt.In.below (hb.mono ht) hT) (Nat.le_trans ht hb.size) hs)
  rw [hf1] at HF
  clear hT hX ho h0 hf1 hk7 hkey hfn
  simp only [Vh.cells, Vh.zero, Stp.cells] at hb0 P S3 XB Q HF ⊢
  go_enter Try.func53, Try.ntmps53
  go_wp2_with fail
  refine (HF.out _ hb0).mono ?_; rintro _ w1 ⟨rfl, hb1⟩
  have g1 := below_then hb0 hb1
  have P1 := Whole.below P hb1 (Whole.lt P)
  have S31 := Whole.below S3 hb1 (Whole.lt S3)
  have XB1 := Whole.below XB hb1 (Whole.lt XB)
  have Q1 := Whole.below Q hb1 (Whole.lt Q)
  clear HF hb0 hb1 P S3 XB Q
  obtain ⟨c0, c1, c2, c3, c4, c5, c6, c7, c8, c9, c10, c11, c12⟩ := Whole.c13 (h := T.h) P1
  obtain ⟨s0, s1, s2⟩ := Whole.b3 (s := s) S31
  obtain ⟨x0, x1, x2, x3, x4, x5, x6, x7, x8, x9, x10, x11, x12⟩ := Whole.c13 (h := X.h) XB1
  rw [Hix.out] at s0
  clear Hix
  simp only [Vh.cells, Stp.cells] at HC
  go_wp2_with fail
  refine (HC.out _ g1).mono ?_; rintro _ w2 ⟨Z, rfl, hZ, hZo, hZs, hb2⟩
  have g2 := below_then g1 hb2
  have hw1 := g1.size
  have hQ1 := Q1.lt
  have Q2 := Q1.below hb2 Q1.lt
  have hone := Lib.hid (vh_all Z.h)
  have hZ2 := Lib.hid (hZ.stays hZo (W' := w2.setRow (w.heap.size + 3) Z.h.cells) (fun b hb => setRow_other _ _ _ _ (by omega)) (by rw [size_setRow]; exact Nat.le_refl _))
  have hZs2 := Lib.hid hZs
  have hZo2 : Hid (Z.Off (fun b => b < top ∨ w.heap.size ≤ b)) := Lib.hid (hZo.mono fun b hb => by omega)
  clear c0 c1 c2 c3 c4 c5 c6 c7 c8 c9 c10 c11 c12 s0 s1 s2 x0 x1 x2 x3 x4 x5 x6 x7 x8 x9 x10 x11 x12 HC hZ hZo hZs hb2 g1 P1 S31 XB1 Q1 hQ1
  go_wp2_with (refine wpList_store_row rfl 30 _ _ rfl (w.heap.size + 3) Z.h.cells rfl rfl 30 _ Q2 vh_row rfl hone.out ?_)
  exact bodyPost_ret (v := .tuple #[.agg Z.h.cells, .int .i64 0]) (ret_val2 (p := 8) (q := 9) rfl rfl (Q2.setRow Z.h.cells)) rfl (HE.out Z _ hZ2.out hZo2.out hZs2.out (below_setRow g2 (by omega) _))

theorem last1_any {T X : Vt} {s : Stp} {top : Nat} {w : World} (hT : T.In w top) (hX : X.In w top) (ht : top ≤ w.heap.size) (ho : T.h.own = true) (hs : w64 s.n) (hsz : T.size ≤ 65536) (hso : stepOk s) :
    Calls Try.prog 53 #[.agg T.h.cells, .agg s.cells, .agg X.h.cells, .int .i64 1] w (ResOut (Vt.last1 X T s) top w) := by
  unfold Vt.last1
  rcases find_rng T s with h | h | h
  · rw [if_pos h]; exact last1_0 hT hX ht ho hs h
  · rw [if_neg (by omega), if_neg (fun q => by omega), h]; exact last1_6 hT hX ht ho hs h
  · rw [if_neg (by omega)]
    have h7 := find_7 h
    cases hix : s.ix with
    | true => rw [if_neg (fun q => by cases q.2), h]; exact last1_7 hT hX ht ho hs h hix
    | false =>
      rw [hix, if_neg (by decide)] at h7
      rw [if_pos ⟨h, rfl⟩]
      have hk : s.key.size ≤ 1024 := by unfold stepOk at hso; rw [hix, if_neg (by decide)] at hso; exact hso.2.1
      exact last1_m hT hX ht ho hs h hix h7 (by omega) (by have := Vt.fn_le_size h7; omega)
end Go.Proofs.Ytfkfboiblgoamaa
/- The reference's Rename: plain. -/
namespace Go.Proofs.Ytfkfboiblgoamaa
open Go.RowKit

theorem Vt.chg_succ {f : Vt → Vt} {n : Nat} {S : Nat → Stp} {T : Vt} (h : (T.find (S 0)).2 = 0) : Vt.chg f (n + 1) S T = T.setP (T.find (S 0)).1.toNat (Vt.chg f n (fun i => S (i + 1)) (T.part (T.find (S 0)).1.toNat)) := by
  rw [Vt.setP_ix h, Vt.chg]
  cases hx : (S 0).ix with
  | true => rw [(Vt.part_ix h hx).1, if_pos rfl, if_pos rfl]
  | false => rw [(Vt.part_key h hx).1, if_neg (by simp), if_neg (by simp)]
theorem Vt.chg_same {f g : Vt → Vt} {W : World} {top : Nat} : ∀ {n : Nat} {S : Nat → Stp} {T : Vt}, T.In W top → (T.atN S n).2 = 0 → (f (T.atN S n).1).Same (g (T.atN S n).1) → (Vt.chg f n S T).Same (Vt.chg g n S T) := by
  intro n
  induction n with
  | zero => intro S T _ _ h; exact h
  | succ n ih =>
    intro S T hT h hs
    have h0 : (T.find (S 0)).2 = 0 := Vt.atN_find (k := 0) h (by omega)
    rw [Vt.atN_shift h0] at h hs
    rw [Vt.chg_succ h0, Vt.chg_succ h0]
    exact Vt.setP_same hT (ih (hT.part h0) h hs)
theorem Vt.chg_last {f : Vt → Vt} : ∀ {n : Nat} {S : Nat → Stp} {T : Vt}, (T.atN S (n + 1)).2 = 0 → Vt.chg f (n + 1) S T = Vt.chg (fun U => U.setP (U.find (S n)).1.toNat (f (U.part (U.find (S n)).1.toNat))) n S T := by
  intro n
  induction n with
  | zero => intro S T h; exact Vt.chg_succ (n := 0) (Vt.atN_find (k := 0) h (by omega))
  | succ n ih =>
    intro S T h
    have h0 : (T.find (S 0)).2 = 0 := Vt.atN_find (k := 0) h (by omega)
    have h' := h
    rw [Vt.atN_shift h0] at h'
    rw [Vt.chg_succ h0, ih h', Vt.chg_succ h0]
theorem last1_is (X : Vt) : LastIs 1 (Vt.last1 X) X := fun T s top w hT hX ht hg hsz hso hn => last1_any hT hX ht (Vt.good_own hg (by rintro rfl; exact hT.elim)) hn hsz hso
theorem Vt.off_any {X : Vt} {n : Nat} : X.Off (fun b => b < n ∨ n ≤ b) := by
  induction X with
  | nil => exact trivial
  | mk h Y L K F ihL ihF => exact ⟨fun _ => Nat.lt_or_ge _ _, fun _ => Nat.lt_or_ge _ _, fun i _ => ihL i, fun _ => Nat.lt_or_ge _ _, fun i _ => ihF i⟩
/-- What the reference makes above the map. -/
theorem ren_above {T Z : Vt} {S : Nat → Stp} {k : Nat} {key : ByteArray} {s : Stp} {W : World} {top : Nat} (hT : T.In W top) (h : (T.atN S (k + 1)).2 = 0) (hZ : Z.Same ((T.atN S (k + 1)).1.ren s key)) :
    (Vt.chgV (Vt.last1 Z) (k + 1) S T).2 = 0 ∧ (Vt.chgV (Vt.last1 Z) (k + 1) S T).1.Same (Vt.chg (fun U => U.ren s key) (k + 1) S T) := by
  have hk := Vt.atN_le h (Nat.le_succ k)
  have hf := Vt.atN_find h (Nat.lt_succ_self k)
  have e := Vt.chgV_chg (g := Vt.last1 Z) (f := fun U => U.setP (U.find (S k)).1.toNat Z) hk (by unfold Vt.last1; rw [if_pos hf])
  rw [e]
  refine ⟨rfl, ?_⟩
  rw [Vt.chg_last h]
  refine Vt.chg_same hT hk ?_
  refine Vt.setP_same (Vt.In.atN hT S k) ?_
  rw [Vt.atN_next hk hf] at hZ
  exact hZ
/-- A valid path's beginning is valid. -/
theorem pathB_pre {S : Nat → Stp} {n m : Nat} (h : pathB S n = true) (hm : m ≤ n) : pathB S m = true := by
  obtain ⟨a, b⟩ := pathB_ok h
  exact pathB_yes ⟨by omega, fun i hi => b i (by omega)⟩
theorem keq_no {a b : ByteArray} (h : a ≠ b) : (a.toList == b.toList) = false := by
  refine beq_eq_false_iff_ne.2 fun q => h ?_
  rw [Lib.toList_data, Lib.toList_data] at q
  exact ByteArray.ext (Array.toList_inj.1 q)
theorem keq_yes {a b : ByteArray} (h : a = b) : (a.toList == b.toList) = true := by rw [h]; exact beq_iff_eq.2 rfl
end Go.Proofs.Ytfkfboiblgoamaa
