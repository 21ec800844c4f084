/- Laid together for a claim: VkAdded, Base. -/
import Derived.Test.YtfkfboiblgoamaaDoorQB26
import Derived.Test.YtfkfboiblgoamaaDoorQB23
import Derived.Test.YtfkfboiblgoamaaDoorQB18
import Derived.Test.YtfkfboiblgoamaaDoorQB13
import Derived.Deep.Cut
import Derived.Deep.DeepCutAuto
import Derived.Below
import Derived.ChangeSame
import Derived.ProofKit
/- access.added: the fields of a value and one more. -/
namespace Go.Proofs.YtfkfboiblgoamaaDoor
open Go.RowKit
set_option linter.unusedSimpArgs false
set_option linter.unusedVariables false

theorem moreF_end {h : Vh} {Y : Nat → Int} {L : Nat → Vt} {K : Nat → ByteArray} {F : Nat → Vt} {X : Vt} {w W : World} {n0 gg g9 cap : Nat} {key : ByteArray} {M : Nat → ByteArray × Vt} (hT : (Vt.mk h Y L K F).In w n0) (hX : X.In w n0) (hb : Below w.heap.size w W) (hn0 : n0 ≤ w.heap.size) (hgg : w.heap.size ≤ gg) (hkey : key.size ≤ 1048576) (hfn : h.fn + 1 ≤ 1048576)
    (hM : M = fun j => if j < h.fn then (K j, F j) else (key, X)) (hr : RowG fcs Prod.snd 14 61 gg (· < n0) (fun t x => x = M t) W (.slice (some ⟨g9, 0, none⟩) (h.fn + 1) cap) (h.fn + 1)) :
    FnOut ((Vt.mk h Y L K F).moreF key X) n0 w (.returned (.agg #[.int .i64 h.k, .bool h.b, .bool h.n, .string h.d, .int .i64 h.e, .int .i64 h.tk, .int .i64 h.td, .int .i64 h.tn, .int .i64 h.tz, .string h.x, .slice h.ba h.bn h.bc, .slice h.la h.ln h.lc, .slice (some ⟨g9, 0, none⟩) (h.fn + 1) cap])) W := by
  obtain ⟨f, a, c, b, e, hcc, ha, hrows⟩ := hr.done fcs_size
  injection e with e1 e2 e3
  obtain ⟨a1, a2, a3⟩ := ha (Nat.succ_pos _)
  have e4 : g9 = b := by rw [a1] at e1; have := Option.some.inj e1; injection this
  subst e3 e4
  have hz := hb.size
  have hTW := hT.below (hb.mono hn0)
  have hfM : ∀ j, j < h.fn + 1 → f j = M j := fun j hj => (hrows j hj).2.2.2
  obtain ⟨h1, h2⟩ := fields_anew (S := fun b => b < n0 ∨ w.heap.size ≤ b) (K' := fun j => (f j).1) (M := fun j => (f j).2) (c' := cap) (m := h.fn + 1) hT (hb.mono hn0) (by omega) a3 (.inr (Nat.le_trans hgg a2)) (fun b hb => .inl hb) hfn hcc (fun j hj => (hrows j hj).1)
    (fun j hj => ⟨by
      rw [hfM j hj, hM]
      dsimp only
      by_cases q : j < h.fn
      · rw [if_pos q]; exact (hTW.2.2.2.2.2.2 j q).2.1
      · rw [if_neg q]; exact hkey, (hrows j hj).2.1, (hrows j hj).2.2.1.mono fun b hb => .inl hb⟩)
  refine ⟨_, rfl, h1, h2, ?_, hb⟩
  refine ⟨(fun e => by cases e), ⟨rfl, rfl, rfl, rfl, rfl, rfl, rfl, rfl, rfl, rfl, rfl, rfl, rfl⟩, fun _ _ => rfl, fun j hj => Vt.Same.rfl' (hT.whole.1 j hj), fun j hj => ?_⟩
  have hj' : j < h.fn + 1 := hj
  dsimp only
  rw [hfM j hj', hM]
  dsimp only
  by_cases q : j < h.fn
  · rw [if_pos q]; exact ⟨(if_pos q).symm, by rw [show ((Vt.mk h Y L K F).moreF key X).F j = F j from if_pos q]; exact Vt.Same.rfl' (hT.whole.2 j q)⟩
  · rw [if_neg q]; exact ⟨(if_neg q).symm, by rw [show ((Vt.mk h Y L K F).moreF key X).F j = X from if_neg q]; exact Vt.Same.rfl' hX.whole⟩
set_option maxHeartbeats 2000000 in
set_option maxRecDepth 100000 in
theorem added_any {U X : Vt} {key : ByteArray} {n0 : Nat} {w : World} (hU : U.In w n0) (hX : X.In w n0) (hn0 : n0 ≤ w.heap.size) (hkey : key.size ≤ 1048576) (hfn : U.h.fn + 1 ≤ 1048576) :
    Calls Tryd.prog 29 #[.agg U.h.cells, .string key, .agg X.h.cells] w (FnOut (U.moreF key X) n0 w) := by
  cases U with
  | nil => exact hU.elim
  | mk h Y L K F =>
  rw [show (Vt.mk h Y L K F).h = h from rfl] at *
  have hb0 := (((Below.refl w.heap.size w).alloc (Nat.le_refl _) (.cells h.cells 30)).alloc (by simp) (.cells X.h.cells 30)).alloc (by simp; omega) (.cells Vh.zero.cells 30)
  have P := ((Whole.new w 30 h.cells).alloc (.cells X.h.cells 30)).alloc (.cells Vh.zero.cells 30)
  have PX := (Whole.new (w.alloc (.cells h.cells 30)) 30 X.h.cells).alloc (.cells Vh.zero.cells 30)
  rw [World.size_alloc] at PX
  have Q := Whole.new ((w.alloc (.cells h.cells 30)).alloc (.cells X.h.cells 30)) 30 Vh.zero.cells
  rw [World.size_alloc, World.size_alloc] at Q
  have HW := Lib.hid (fun (w1 : World) (hb : Below w.heap.size w w1) => hU.below (hb.mono hn0))
  have HXi := Lib.hid (fun (w1 : World) (hb : Below w.heap.size w w1) => Vt.In.below (hb.mono hn0) hX)
  have HLrow := Lib.hid (fun (w1 : World) (hb : Below w.heap.size w w1) => fun j (hj : j < h.fn) => lies_fcs ((HW.out w1 hb).2.2.2.2.2.2 j hj).1 ((HW.out w1 hb).2.2.2.2.2.2 j hj).2.2.1)
  have HAd := Lib.hid (fun (q : 0 < h.fn) => hU.2.2.2.2.2.1 q)
  obtain ⟨i0, hi0, hz0, hz1, hz2⟩ := info_parts Tryd.infoFld
  have hlc := hU.1.fc
  have i3 : (h.fn : Int) + 1 ≤ 1048576 := by omega
  have i4 : (0 : Int) ≤ h.fn := by omega
  clear hU hX
  obtain ⟨k, b', n', dd, e, tk, td, tn, tz, x, ba, bn, bc, la, ln, lc, fa, fn, fc, bb, bo, lb, lo, fb, fo⟩ := h
  dsimp only at hlc hfn i3 i4 HLrow HAd P
  have d1 : Hid (i0.bytes * (fn + 1) ≤ 281474976710656) := Lib.hid (by rw [hz2]; omega)
  have d2 : Hid (fn + 1 ≤ maxLen) := Lib.hid (by unfold maxLen; omega)
  obtain ⟨c0, c1, c2, c3, c4, c5, c6, c7, c8, c9, c10, c11, c12⟩ := Whole.c13 P
  simp only [Vh.cells, Vh.zero] at hb0 P PX Q c0 c1 c2 c3 c4 c5 c6 c7 c8 c9 c10 c11 c12 ⊢
  go_enter Tryd.func29, Tryd.ntmps29
  go_wp2_with (refine wpList_make_cap _ rfl _ _ 28 rfl 61 i0 (.agg (#[.string ⟨#[]⟩] ++ Vh.zero.cells)) 14 Tryd.underlying28 hi0 hz0 hz1 .i64 .i64 _ _ fn (fn + 1) rfl rfl rfl (by omega) (Nat.le_succ _) d1.out d2.out ?_)
  intro w2 cur HG hcs hgr2
  obtain ⟨gg, hgg⟩ : ∃ gg, w.heap.size + 3 = gg := ⟨_, rfl⟩
  simp only [World.size_alloc, Nat.add_assoc, Nat.reduceAdd] at HG hgr2 ⊢
  rw [hgg] at HG ⊢
  have b2 : Below (w.heap.size + 3) _ w2 := ⟨hgr2.os, hgr2.tape, hgr2.output, hgr2.size, fun t ht => hgr2.block t (by simp; omega) (by simp)⟩
  have g2 := hb0.trans (b2.mono (by omega))
  have P2 := Whole.below P b2 (by omega)
  have PX2 := Whole.below PX b2 (by omega)
  have Q2 := Whole.below Q b2 (by omega)
  clear c0 c1 c2 c3 c4 c5 c6 c7 c8 c9 c10 c11 c12
  have c11 := Whole.cell P2 12
  simp only [List.getElem?_toArray, List.getElem?_cons_succ, List.getElem?_cons_zero] at c11
  have hgglt := HG.lt
  have e1' : Hid ((catN (fun j => fcs (K j, F j)) fn).length = Nat.min fn fn * 14) := Lib.hid (by rw [catN_len (fun j => fcs_size (K j, F j)), show Nat.min fn fn = fn from Nat.min_self fn])
  have e2' := Lib.hid (fun (q : 0 < (catN (fun j => fcs (K j, F j)) fn).length) => (⟨rfl, ⟨fb, fo, none⟩, (HAd.out (by rw [catN_len (fun j => fcs_size (K j, F j))] at q; omega)).1, rowL_src (fun j => fcs_size (K j, F j)) (HLrow.out w2 g2)⟩ : (some (⟨gg, 0, none⟩ : Addr) = some ⟨gg, 0, none⟩ ∧ ∃ ad, fa = some ad ∧ ∀ j v, (catN (fun j => fcs (K j, F j)) fn)[j]? = some v → w2.cell? (ad.add j) = some v)))
  have e3' : Hid (0 + (catN (fun j => fcs (K j, F j)) fn).length ≤ cur.size) := Lib.hid (by rw [catN_len (fun j => fcs_size (K j, F j)), hcs]; omega)
  have e4' := Lib.hid (catN_one (fun j => fcs_one (K j, F j)) fn)
  have HOW := Lib.hid (row_owned (base := gg) (n := fn) (fun j => fcs_size (K j, F j)) HG hcs (Nat.le_succ _) d2.out (Nat.le_refl _))
  have HGh := Lib.hid HG
  clear hgr2 b2 hcs HG P PX Q hb0
  go_upto_region 3 with (refine wpList_copy_wide _ rfl _ _ 28 28 rfl 61 14 Tryd.underlying28 fld_row (by decide) (some ⟨gg, 0, none⟩) fa fn (fn + 1) fn fc rfl rfl gg 0 cur 61 HGh.out (catN (fun j => fcs (K j, F j)) fn) e1'.out e2'.out e3'.out e4'.out ?_)
  have hs3 : gg < (w2.setRow gg (spl cur 0 (catN (fun j => fcs (K j, F j)) fn))).heap.size := by rw [size_setRow]; exact hgglt
  have P3 := P2.farRow (B' := gg) (by omega) (spl cur 0 (catN (fun j => fcs (K j, F j)) fn))
  have PX3 := PX2.farRow (B' := gg) (by omega) (spl cur 0 (catN (fun j => fcs (K j, F j)) fn))
  have Q3 := Q2.farRow (B' := gg) (by omega) (spl cur 0 (catN (fun j => fcs (K j, F j)) fn))
  have g3 := below_setRow g2 (show w.heap.size ≤ gg by omega) (spl cur 0 (catN (fun j => fcs (K j, F j)) fn))
  clear e1' e2' e3' e4' HGh P2 PX2 Q2 g2 hgglt c11
  generalize w2.setRow gg (spl cur 0 (catN (fun j => fcs (K j, F j)) fn)) = w3 at *
  obtain ⟨M, hM⟩ : ∃ M : Nat → ByteArray × Vt, M = fun j => if j < fn then (K j, F j) else (key, X) := ⟨_, rfl⟩
  have HM := Lib.hid hM
  clear hM
  have hn0w : n0 ≤ w3.heap.size := Nat.le_trans hn0 g3.size
  have HR3 : RowG fcs Prod.snd 14 61 gg (· < n0) (fun t x => x = M t) w3 (.slice (some ⟨gg, 0, none⟩) fn (fn + 1)) fn := ⟨fun j => (K j, F j), HOW.out, fun i hi => ⟨((HW.out w3 g3).2.2.2.2.2.2 i hi).2.2.2.up hn0w, ((HW.out w3 g3).2.2.2.2.2.2 i hi).2.2.2.off.mono (fun b hb => ⟨hb, fun q => by
    have hb' : b < n0 := hb
    have q' : b = gg := Option.some.inj q
    omega⟩), by rw [HM.out]; dsimp only; rw [if_pos hi]⟩⟩
  have HMj : Hid ((key, X) = M fn) := Lib.hid (by rw [HM.out]; dsimp only; rw [if_neg (Nat.lt_irrefl _)])
  have HX3 := Lib.hid ((HXi.out w3 g3).up hn0w)
  have HXo : Hid (X.Off (· < n0)) := Lib.hid (HXi.out w3 g3).off
  obtain ⟨c0, c1, c2, c3, c4, c5, c6, c7, c8, c9, c10, c11, c12⟩ := Whole.c13 (h := X.h) PX3
  obtain ⟨f, hown, hf⟩ := HR3.alloc (.cells #[.string key, .int .i64 X.h.k, .bool X.h.b, .bool X.h.n, .string X.h.d, .int .i64 X.h.e, .int .i64 X.h.tk, .int .i64 X.h.td, .int .i64 X.h.tn, .int .i64 X.h.tz, .string X.h.x, .slice X.h.ba X.h.bn X.h.bc, .slice X.h.la X.h.ln X.h.lc, .slice X.h.fa X.h.fn X.h.fc] 61)
  have Hf := Lib.hid hf
  have s1 := Lib.hid (cells_new w3 61 (fcs (key, X)))
  have s2 := Lib.hid (fcs_one (key, X))
  have s3 : Hid (fn + 1 ≤ maxLen) := Lib.hid d2.out
  have s4 : Hid ((fn + 1) * 184 ≤ 140737488355328) := Lib.hid (by omega)
  have s5 : Hid (gg ≤ (w3.alloc (.cells #[.string key, .int .i64 X.h.k, .bool X.h.b, .bool X.h.n, .string X.h.d, .int .i64 X.h.e, .int .i64 X.h.tk, .int .i64 X.h.td, .int .i64 X.h.tn, .int .i64 X.h.tz, .string X.h.x, .slice X.h.ba X.h.bn X.h.bc, .slice X.h.la X.h.ln X.h.lc, .slice X.h.fa X.h.fn X.h.fc] 61)).heap.size) := Lib.hid (by rw [World.size_alloc]; omega)
  have f12 := Whole.frozen P3 12
  clear hf HOW HR3
  go_wp2_with (first | (at_builtin; refine wpList_append_told _ rfl _ _ 28 rfl gg 61 i0 _ 14 184 Tryd.underlying28 hi0 hz0 hz1 hz2 rfl (by decide) _ _ _ rfl hown ⟨w3.heap.size, 0, none⟩ 1 1 (fcs (key, X)).toList rfl rfl s1.out s2.out s3.out s4.out s5.out Nat.one_pos ?_))
  clear s1 s2 s3 s4 s5
  intro v' w9 hown9 hgrow hat
  obtain ⟨g9, cap, rfl, -, -⟩ := own_form hown9 (Nat.succ_pos _)
  have hrow9 : RowG fcs Prod.snd 14 61 gg (· < n0) (fun t x => x = M t) w9 (.slice (some ⟨g9, 0, none⟩) (fn + 1) cap) (fn + 1) :=
    RowG.push (x := (key, X)) hown Hf.out (HX3.out.later ((Below.refl _ _).alloc (Nat.le_refl _) _)) HXo.out (fun g hg => HXo.out.mono fun b hb => by have hb' : b < n0 := hb; have := (hown.lt g hg).1; omega) HMj.out hown9 hgrow (by simp only [World.size_alloc]; exact hat)
  have hgr : ∀ b, b < gg → some b ≠ (Value.slice (some ⟨gg, 0, none⟩) fn (fn + 1)).ownBlock := fun b hb q => by have q' : b = gg := Option.some.inj q; omega
  have P9 := Whole.kept (Whole.alloc P3 (.cells #[.string key, .int .i64 X.h.k, .bool X.h.b, .bool X.h.n, .string X.h.d, .int .i64 X.h.e, .int .i64 X.h.tk, .int .i64 X.h.td, .int .i64 X.h.tn, .int .i64 X.h.tz, .string X.h.x, .slice X.h.ba X.h.bn X.h.bc, .slice X.h.la X.h.ln X.h.lc, .slice X.h.fa X.h.fn X.h.fc] 61)) hgrow (hgr _ (by omega))
  have Q9 := Whole.kept (Whole.alloc Q3 (.cells #[.string key, .int .i64 X.h.k, .bool X.h.b, .bool X.h.n, .string X.h.d, .int .i64 X.h.e, .int .i64 X.h.tk, .int .i64 X.h.td, .int .i64 X.h.tn, .int .i64 X.h.tz, .string X.h.x, .slice X.h.ba X.h.bn X.h.bc, .slice X.h.la X.h.ln X.h.lc, .slice X.h.fa X.h.fn X.h.fc] 61)) hgrow (hgr _ (by omega))
  have g9' := (g3.alloc g3.size (.cells #[.string key, .int .i64 X.h.k, .bool X.h.b, .bool X.h.n, .string X.h.d, .int .i64 X.h.e, .int .i64 X.h.tk, .int .i64 X.h.td, .int .i64 X.h.tn, .int .i64 X.h.tz, .string X.h.x, .slice X.h.ba X.h.bn X.h.bc, .slice X.h.la X.h.ln X.h.lc, .slice X.h.fa X.h.fn X.h.fc] 61)).grown hgrow (by rw [World.size_alloc]; have := g3.size; omega) (fun g hg => by have q' : gg = g := Option.some.inj hg; omega)
  clear f12 c0 c1 c2 c3 c4 c5 c6 c7 c8 c9 c10 c11 c12 P3 PX3 Q3 g3 Hf hown hown9 hgrow hat HMj HX3 HXo hgr
  have c12 := Whole.cell P9 12
  have f12 := Whole.frozen P9 12
  simp only [List.getElem?_toArray, List.getElem?_cons_succ, List.getElem?_cons_zero] at c12
  go_upto_region 4 with (fail)
  have P4 : Whole (w9.setCell ⟨w.heap.size, 12, none⟩ (.slice (some ⟨g9, 0, none⟩) (fn + 1) cap)) w.heap.size 30 (Vh.cells ⟨k, b', n', dd, e, tk, td, tn, tz, x, ba, bn, bc, la, ln, lc, some ⟨g9, 0, none⟩, fn + 1, cap, 0, 0, 0, 0, 0, 0⟩) := Whole.set P9 12 (.slice (some ⟨g9, 0, none⟩) (fn + 1) cap)
  have Q4 := Whole.far (p := ⟨w.heap.size, 12, none⟩) Q9 (by show _ ≠ w.heap.size; omega) (.slice (some ⟨g9, 0, none⟩) (fn + 1) cap)
  have g4 := g9'.setCell (p := ⟨w.heap.size, 12, none⟩) (Nat.le_refl _) (.slice (some ⟨g9, 0, none⟩) (fn + 1) cap)
  have hrow4 := Lib.hid (hrow9.turn (grown_set w9 w.heap.size 12 (.slice (some ⟨g9, 0, none⟩) (fn + 1) cap)) (by omega) (fun b hb => by have hb' : b < n0 := hb; omega))
  clear c12 f12 P9 Q9 g9' hrow9
  generalize w9.setCell ⟨w.heap.size, 12, none⟩ (.slice (some ⟨g9, 0, none⟩) (fn + 1) cap) = w4 at *
  obtain ⟨c0, c1, c2, c3, c4, c5, c6, c7, c8, c9, c10, c11, c12⟩ := Whole.c13 P4
  dsimp only at c0 c1 c2 c3 c4 c5 c6 c7 c8 c9 c10 c11 c12
  have hone := Lib.hid (vh_all ⟨k, b', n', dd, e, tk, td, tn, tz, x, ba, bn, bc, la, ln, lc, some ⟨g9, 0, none⟩, fn + 1, cap, 0, 0, 0, 0, 0, 0⟩)
  go_wp2_with (refine wpList_store_row rfl 30 _ _ rfl (w.heap.size + 2) (Vh.cells ⟨k, b', n', dd, e, tk, td, tn, tz, x, ba, bn, bc, la, ln, lc, some ⟨g9, 0, none⟩, fn + 1, cap, 0, 0, 0, 0, 0, 0⟩) rfl rfl 30 _ Q4 vh_row rfl hone.out ?_)
  have Q7 := Whole.setRow Q4 (Vh.cells ⟨k, b', n', dd, e, tk, td, tn, tz, x, ba, bn, bc, la, ln, lc, some ⟨g9, 0, none⟩, fn + 1, cap, 0, 0, 0, 0, 0, 0⟩)
  have g7 := below_setRow g4 (show w.heap.size ≤ w.heap.size + 2 by omega) (Vh.cells ⟨k, b', n', dd, e, tk, td, tn, tz, x, ba, bn, bc, la, ln, lc, some ⟨g9, 0, none⟩, fn + 1, cap, 0, 0, 0, 0, 0, 0⟩)
  have hrow7 := hrow4.out.turn (grown_row w4 (w.heap.size + 2) (Vh.cells ⟨k, b', n', dd, e, tk, td, tn, tz, x, ba, bn, bc, la, ln, lc, some ⟨g9, 0, none⟩, fn + 1, cap, 0, 0, 0, 0, 0, 0⟩)) (by omega) (fun b hb => by have hb' : b < n0 := hb; omega)
  exact bodyPost_ret (v := .agg #[.int .i64 k, .bool b', .bool n', .string dd, .int .i64 e, .int .i64 tk, .int .i64 td, .int .i64 tn, .int .i64 tz, .string x, .slice ba bn bc, .slice la ln lc, .slice (some ⟨g9, 0, none⟩) (fn + 1) cap]) (ret_val (p := 6) rfl rfl Q7) rfl (moreF_end (HW.out w (Below.refl _ _)) (HXi.out w (Below.refl _ _)) g7 hn0 (by omega) hkey hfn HM.out hrow7)
end Go.Proofs.YtfkfboiblgoamaaDoor
/- Small lemmas that every law's last step uses: the row's post out of a world below which nothing has turned. -/
namespace Go.Proofs.YtfkfboiblgoamaaDoor
open Go.RowKit Go.WideShapes Go.ChangeShapes
section
variable {H : Type} {enc : TypeId × Value → H} {P : Program}
theorem post_of_below {f : Func} {s : ChangeSpec} {apart fresh handsOn again : Bool} {W W' : World} {args : Array Value} {v : Value} {ds gs : List (DataW H)} {before pa pv : List MemPlace}
    (hW : DataW.Whole enc P f.params.toList s.vars apart W args.toList ds gs before)
    (hres : ∀ (b : Nat) (sp : Nat → Bool) (hd : Bool), DataW.TrodAll enc P W' b sp hd f.resultTypes.toList (v.resultList f.resultTypes.size) (s.fn H (ds ++ gs)).results [])
    (hargs : ∀ sp : Nat → Bool, (∀ p ∈ before, sp p.block = true) → DataW.TrodAll enc P W' 0 sp true f.params.toList args.toList (s.fn H (ds ++ gs)).args pa)
    (hvars : ∀ sp : Nat → Bool, (∀ p ∈ before, sp p.block = true) → DataW.TrodVars enc P W' sp s.vars (s.fn H (ds ++ gs)).vars pv)
    (hps : before = pa ++ pv) (hb : Below W.heap.size W W')
    (hok : ∀ (j : Nat) (t : TypeId) (r : Value), f.resultTypes[j]? = some t → (v.resultList f.resultTypes.size)[j]? = some r → Value.okWide P W' .any 0 t r) :
    s.post enc P f apart fresh handsOn again W args v W' := by
  have hlt : ∀ p ∈ before, p.block < W.heap.size := fun p hp => hW.lt p hp
  have hold : ∀ p ∈ before, (fun b => decide (b < W.heap.size)) p.block = true := fun p hp => by simpa using hlt p hp
  refine ⟨ds, gs, before, [], pa, pv, hW, hres _ _ _, hargs _ hold, hvars _ hold, World.keptBut_mono (fun p hp => ⟨hp, ?_⟩) (hb.frame (· ∈ before)), fun _ => ?_⟩
  · rw [hps, List.mem_append] at hp
    exact Or.inr hp
  · obtain ⟨_, _, _, _, _, hz, hn⟩ := hW
    refine ⟨hok, _, _, ([] ++ pa) ++ pv, ⟨[] ++ pa, pv, trodAll_append (hargs _ (fun _ _ => rfl)) (hres _ _ _), hvars _ (fun _ _ => rfl), rfl, ?_, ?_⟩, ?_⟩
    · intro b off hp
      have hin : MemPlace.cell b off ∈ before := by rw [hps]; simpa using hp
      rw [hb.frozen (hlt _ hin)]
      exact hz b off hin
    · intro ha
      have := hn ha
      rw [hps] at this
      simpa using this
    · intro p hp _
      rw [hps]
      simpa using hp
end
end Go.Proofs.YtfkfboiblgoamaaDoor
