/- Laid together for a claim: VkIns2. -/
import Derived.Test.YtfkfboiblgoamaaDoorQI02
import Derived.Test.YtfkfboiblgoamaaDoorQB14
import Derived.StillTailTactics
/- Values with one more element: access.Insert$2. -/
namespace Go.Proofs.YtfkfboiblgoamaaDoor
open Go.RowKit
set_option linter.unusedSimpArgs false
set_option linter.unusedVariables false

set_option maxHeartbeats 8000000 in
set_option maxRecDepth 100000 in
theorem ins2_ok {s : Stp} {X : Vt} {cb xb : Nat} {W0 : World} {n0 : Nat} (hcb : cb < n0) (hs0 : w64 s.n) (hS : LiesAt W0 cb 0 s.cells) (hxb : xb < n0) (hX : Whole W0 xb 30 X.h.cells) (hXT : X.In W0 n0) (hsn : 0 ≤ s.n) (hn0 : n0 ≤ W0.heap.size) :
    FnOk 36 #[.pointer (some ⟨cb, 0, none⟩), .pointer (some ⟨xb, 0, none⟩)] (fun U => U.insL s.n.toNat X) (fun U => s.n ≤ (U.h.ln : Int) ∧ U.h.ln < 1048576) W0 n0 := by
  intro w U hw hU hpre
  obtain ⟨hnl, hln1⟩ := hpre
  show Calls Tryd.prog 36 #[.agg U.h.cells, .pointer (some ⟨cb, 0, none⟩), .pointer (some ⟨xb, 0, none⟩)] w _
  have hsw := hw.size
  have hn0w := Nat.le_trans hn0 hsw
  have hb0 := ((Below.refl w.heap.size w).alloc (Nat.le_refl _) (.cells U.h.cells 30)).alloc (by simp) (.cells Vh.zero.cells 30)
  have P := (Whole.new w 30 U.h.cells).alloc (.cells Vh.zero.cells 30)
  have Q := Whole.new (w.alloc (.cells U.h.cells 30)) 30 Vh.zero.cells
  rw [World.size_alloc] at Q
  have HLs := Lib.hid (fun (w1 : World) (hb : Below w.heap.size w w1) => (hS.below hw hcb).below (hb.mono hn0w) hcb)
  have HXb := Lib.hid (fun (w1 : World) (hb : Below w.heap.size w w1) => (hX.below hw hxb).below (hb.mono hn0w) hxb)
  have HXi := Lib.hid (Vt.In.below hw hXT)
  obtain ⟨ix, key, sn⟩ := s
  dsimp only at hnl hsn hs0 HLs ⊢
  obtain ⟨i, rfl⟩ := Int.eq_ofNat_of_zero_le hsn
  rw [Int.toNat_natCast]
  cases U with
  | nil => exact hU.elim
  | mk h Y L K F =>
  rw [show (Vt.mk h Y L K F).h = h from rfl] at *
  have HT := Lib.hid hU
  have HW := Lib.hid (fun (w1 : World) (hb : Below w.heap.size w w1) => hU.below (hb.mono hn0w))
  have hokh := hU.1
  obtain ⟨i0, hi0, hz0, hz1, hz2⟩ := info_parts Tryd.infoVal
  have HLrow := Lib.hid (fun (w1 : World) (hb : Below w.heap.size w w1) => fun j (hj : j < h.ln) => ((HW.out w1 hb).2.2.2.2.1 j hj).1)
  have HAd := Lib.hid (HT.out.2.2.2.1)
  have hln := hokh.ln
  have hlc := hokh.lc
  have hi : i ≤ h.ln := by omega
  have i1 : (0 : Int) ≤ i := by omega
  have i2 : (i : Int) ≤ h.ln := by omega
  have i3 : (h.ln : Int) < 1048576 := by omega
  have i4 : (0 : Int) ≤ h.ln := by omega
  clear hokh hw hU hS hX hXT hsn hs0 hnl
  obtain ⟨k, b', n', dd, e, tk, td, tn, tz, x, ba, bn, bc, la, ln, lc, fa, fn, fc, bb, bo, lb, lo, fb, fo⟩ := h
  dsimp only at hln hlc i2 i3 i4 hi hln1 HLrow HAd P
  have hPlt := P.lt
  simp only [Vh.cells, Vh.zero] at hb0 Q ⊢
  obtain ⟨l0, l1, l2⟩ := (HLs.out _ hb0).s3
  simp only [Nat.zero_add] at l0 l1 l2
  have c11 := Whole.cell P 11
  simp only [Vh.cells, Vh.zero, List.getElem?_toArray, List.getElem?_cons_succ, List.getElem?_cons_zero] at l0 l1 l2 c11
  have hq1 := Q.lt
  have d0 : (ln : Int) + 1 = ((ln + 1 : Nat) : Int) := by omega
  have D0 := Lib.hid d0
  have d1 : Hid (i0.bytes * (ln + 1) ≤ 281474976710656) := Lib.hid (by rw [hz2]; omega)
  have d2 : Hid (ln + 1 ≤ maxLen) := Lib.hid (by unfold maxLen; omega)
  obtain ⟨gg, hgg⟩ : ∃ gg, w.heap.size + 2 = gg := ⟨_, rfl⟩
  have Hgg := Lib.hid hgg
  have hg0 : w.heap.size + 1 < gg := by omega
  clear d0 hgg
  go_enter Tryd.func36, Tryd.ntmps36
  go_wp2_with (refine wpList_make_full _ rfl _ _ 27 rfl (w.heap.size + 2) 30 i0 (.agg Vh.zero.cells) 13 Tryd.underlying27 hi0 hz0 hz1 .i64 .i64 ((ln : Int) + 1) ((ln : Int) + 1) (ln + 1) rfl rfl D0.out D0.out d1.out d2.out (by simp) ?_)
  intro w2 hown2 hgr2
  simp only [World.size_alloc, Nat.add_assoc, Nat.reduceAdd] at hown2 hgr2 ⊢
  obtain ⟨cur, HG, hcs⟩ := made_whole hown2
  have b2 : Below (w.heap.size + 2) _ w2 := ⟨hgr2.os, hgr2.tape, hgr2.output, hgr2.size, fun t ht => hgr2.block t (by simp; omega) (by simp)⟩
  have g2 := hb0.trans (b2.mono (by omega))
  have P2 := Whole.below P b2 (by omega)
  have Q2 := Whole.below Q b2 (by omega)
  rw [Hgg.out] at HG ⊢
  clear l0 l1 l2 c11 hown2 hgr2 b2 hb0 P Q
  obtain ⟨l0, l1, l2⟩ := (HLs.out _ g2).s3
  simp only [Nat.zero_add] at l0 l1 l2
  have c11 := Whole.cell P2 11
  simp only [Vh.cells, List.getElem?_toArray, List.getElem?_cons_succ, List.getElem?_cons_zero] at c11
  have hgglt := HG.lt
  have HR3 := Lib.hid (fun (W' : World) => row_three (g := gg) (t := 30) (fun j => vh_size (L j).h) (vh_size X.h) hi hcs)
  obtain ⟨hft1, hsz1, hft2, hsz2, -⟩ := HR3.out w2
  obtain ⟨a1, ha1, hsl1⟩ := slice_headG Tryd.underlying27 elem_vals vh_row (a := la) (b := lb) (o := lo) (n := ln) (c := lc) (i := i) (by omega)
  have e1' : Hid ((catN (fun j => (L j).h.cells) i).length = Nat.min i (ln + 1) * 13) := Lib.hid (by rw [catN_len (fun j => vh_size (L j).h), show Nat.min i (ln + 1) = i from Nat.min_eq_left (by omega)])
  have e2' := Lib.hid (fun (q : 0 < (catN (fun j => (L j).h.cells) i).length) => (⟨rfl, ⟨lb, lo, none⟩, ha1 (HAd.out (by rw [catN_len (fun j => vh_size (L j).h)] at q; omega)).1, rowL_src (fun j => vh_size (L j).h) (fun j hj => HLrow.out w2 g2 j (by omega))⟩ : (some (⟨gg, 0, none⟩ : Addr) = some ⟨gg, 0, none⟩ ∧ ∃ ad, a1 = some ad ∧ ∀ j v, (catN (fun j => (L j).h.cells) i)[j]? = some v → w2.cell? (ad.add j) = some v)))
  have e3' := Lib.hid hft1
  have e4' := Lib.hid (catN_one (fun j => vh_one (L j).h) i)
  have HGh := Lib.hid HG
  have Hsz1 := Lib.hid hsz1
  have Hft2 := Lib.hid hft2
  have Hsz2 := Lib.hid hsz2
  clear HG d1 d2 D0 hq1 hPlt ha1 hft1 hsz1 hft2 hsz2
  go_upto_region 3 with (refine wpList_copy_wide _ rfl _ _ 27 27 rfl 30 13 Tryd.underlying27 vh_row (by decide) (some ⟨gg, 0, none⟩) a1 (ln + 1) (ln + 1) i lc rfl rfl gg 0 cur 30 HGh.out (catN (fun j => (L j).h.cells) i) e1'.out e2'.out e3'.out e4'.out ?_)
  have G3 := Whole.setRow HGh.out (spl cur 0 (catN (fun j => (L j).h.cells) i))
  have P3 := Whole.farRow (B' := gg) P2 (by omega) (spl cur 0 (catN (fun j => (L j).h.cells) i))
  have Q3 := Whole.farRow (B' := gg) Q2 (by omega) (spl cur 0 (catN (fun j => (L j).h.cells) i))
  have g3 := below_setRow g2 (show w.heap.size ≤ gg by omega) (spl cur 0 (catN (fun j => (L j).h.cells) i))
  clear e1' e2' e3' e4' HGh P2 Q2 g2 hgglt c11 l0 l1 l2 hsl1
  obtain ⟨C3, hC3⟩ : ∃ C3, spl cur 0 (catN (fun j => (L j).h.cells) i) = C3 := ⟨_, rfl⟩
  rw [hC3] at G3 P3 Q3 g3 HR3 Hft2 Hsz2 Hsz1 ⊢
  clear hC3
  generalize w2.setRow gg C3 = w3 at *
  obtain ⟨l0, l1, l2⟩ := (HLs.out _ g3).s3
  simp only [Nat.zero_add] at l0 l1 l2
  obtain ⟨x0, x1, x2, x3, x4, x5, x6, x7, x8, x9, x10, x11, x12⟩ := Whole.c13 (h := X.h) (HXb.out _ g3)
  have HTh : Hid (w3.there gg (i * 13) X.h.cells.size) := Lib.hid (whole_there G3 (by have := Hft2.out; simpa using this))
  have hone := Lib.hid (vh_all X.h)
  go_upto_region 4 with (refine wpList_store_mid rfl 30 _ _ rfl gg (i * 13) #[.int .i64 X.h.k, .bool X.h.b, .bool X.h.n, .string X.h.d, .int .i64 X.h.e, .int .i64 X.h.tk, .int .i64 X.h.td, .int .i64 X.h.tn, .int .i64 X.h.tz, .string X.h.x, .slice X.h.ba X.h.bn X.h.bc, .slice X.h.la X.h.ln X.h.lc, .slice X.h.fa X.h.fn X.h.fc] rfl rfl HTh.out vh_row hone.out ?_)
  have G4 := Whole.setCells X.h.cells.toList (i * 13) G3
  have P4 : Whole (w3.setCells gg (i * 13) X.h.cells.toList) w.heap.size 30 _ := (heap_setCells (show w.heap.size ≠ gg by omega) _ _ _).trans P3
  have Q4 : Whole (w3.setCells gg (i * 13) X.h.cells.toList) (w.heap.size + 1) 30 _ := (heap_setCells (show w.heap.size + 1 ≠ gg by omega) _ _ _).trans Q3
  have g4 := below_setCells (show w.heap.size ≤ gg by omega) X.h.cells.toList (i * 13) g3
  clear HTh hone G3 P3 Q3 g3 l0 l1 l2 x0 x1 x2 x3 x4 x5 x6 x7 x8 x9 x10 x11 x12
  obtain ⟨C4, hC4⟩ : ∃ C4, setN C3 (i * 13) X.h.cells.toList = C4 := ⟨_, rfl⟩
  rw [hC4] at G4 HR3 Hsz2
  clear hC4 Hft2 Hsz1
  obtain ⟨w4, hw4⟩ : ∃ w4, w3.setCells gg (i * 13) X.h.cells.toList = w4 := ⟨_, rfl⟩
  have hw4' : w3.setCells gg (i * 13) (#[.int .i64 X.h.k, .bool X.h.b, .bool X.h.n, .string X.h.d, .int .i64 X.h.e, .int .i64 X.h.tk, .int .i64 X.h.td, .int .i64 X.h.tn, .int .i64 X.h.tz, .string X.h.x, .slice X.h.ba X.h.bn X.h.bc, .slice X.h.la X.h.ln X.h.lc, .slice X.h.fa X.h.fn X.h.fc] : Array Value).toList = w4 := hw4
  rw [hw4] at G4 P4 Q4 g4
  first | rw [hw4'] | (simp only [] at hw4'; rw [hw4'])
  clear hw4 hw4'
  obtain ⟨l0, l1, l2⟩ := (HLs.out _ g4).s3
  simp only [Nat.zero_add] at l0 l1 l2
  have c11 := Whole.cell P4 11
  simp only [Vh.cells, List.getElem?_toArray, List.getElem?_cons_succ, List.getElem?_cons_zero] at c11
  obtain ⟨a2, ha2, hsl2⟩ := slice_fromG Tryd.underlying27 elem_vals vh_row (a := some ⟨gg, 0, none⟩) (b := gg) (o := 0) (n := ln + 1) (c := ln + 1) (i := i + 1) (z := (i : Int) + 1) (by omega) (by omega)
  obtain ⟨a3, ha3, hsl3⟩ := slice_fromG Tryd.underlying27 elem_vals vh_row (a := la) (b := lb) (o := lo) (n := ln) (c := lc) (i := i) (z := i) rfl hi
  have hwr : IntKind.i64.wrap ((i : Int) + 1) = (i : Int) + 1 := by rw [IntKind.wrap_i64]; omega
  have Ha2 := Lib.hid ha2
  have Ha3 := Lib.hid ha3
  clear ha2 ha3
  go_still_tail 10, (by kernel_rfl)
  change wpList _ _ _ _ _ w4.drew
  have P5 : Whole w4.drew w.heap.size 30 _ := P4
  have Q5 : Whole w4.drew (w.heap.size + 1) 30 _ := Q4
  have G5 : Whole w4.drew gg 30 C4 := G4
  have g5 := g4.drew
  have hs5 : gg < w4.drew.heap.size := G4.lt
  clear hsl2 hsl3 hwr c11 l0 l1 l2 P4 Q4 G4 g4
  generalize w4.drew = w5 at *
  have e1' : Hid ((catN (fun j => (L (i + j)).h.cells) (ln - i)).length = Nat.min (ln - i) (ln - i) * 13) := Lib.hid (by rw [catN_len (fun j => vh_size (L (i + j)).h), show Nat.min (ln - i) (ln - i) = ln - i from Nat.min_self _])
  have e2' : Hid (0 < (catN (fun j => (L (i + j)).h.cells) (ln - i)).length → a2 = some ⟨gg, (i + 1) * 13, none⟩ ∧ ∃ ad, a3 = some ad ∧ ∀ j v, (catN (fun j => (L (i + j)).h.cells) (ln - i))[j]? = some v → w5.cell? (ad.add j) = some v) := Lib.hid fun hp => by
    rw [catN_len (fun j => vh_size (L (i + j)).h)] at hp
    have hp2 : 0 < ln - i := Nat.pos_of_mul_pos_right hp
    refine ⟨by rw [Ha2.out (by omega) rfl, Nat.zero_add], ⟨lb, lo + i * 13, none⟩, Ha3.out (by omega) (HAd.out (by omega)).1, rowL_src (fun j => vh_size (L (i + j)).h) (fun j hj => ?_)⟩
    have := HLrow.out w5 g5 (i + j) (by omega)
    rw [show lo + (i + j) * 13 = lo + i * 13 + j * 13 by omega] at this
    exact this
  have e3' : Hid ((i + 1) * 13 + (catN (fun j => (L (i + j)).h.cells) (ln - i)).length ≤ C4.size) := Lib.hid (by rw [catN_len (fun j => vh_size (L (i + j)).h), Hsz2.out]; omega)
  have e4' := Lib.hid (catN_one (fun j => vh_one (L (i + j)).h) (ln - i))
  have HG5 := Lib.hid G5
  clear G5
  refine wpList_copy_wide _ rfl _ _ 27 27 rfl 30 13 Tryd.underlying27 vh_row (by decide) a2 a3 (ln - i) (ln - i) (ln - i) (lc - i) rfl rfl gg ((i + 1) * 13) C4 30 HG5.out (catN (fun j => (L (i + j)).h.cells) (ln - i)) e1'.out e2'.out e3'.out e4'.out ?_
  have HR5 := Lib.hid ((HR3.out w5).2.2.2.2 w5 HG5.out)
  have P6 := Whole.farRow (B' := gg) P5 (by omega) (spl C4 ((i + 1) * 13) (catN (fun j => (L (i + j)).h.cells) (ln - i)))
  have Q6 := Whole.farRow (B' := gg) Q5 (by omega) (spl C4 ((i + 1) * 13) (catN (fun j => (L (i + j)).h.cells) (ln - i)))
  have g6 := below_setRow g5 (show w.heap.size ≤ gg by omega) (spl C4 ((i + 1) * 13) (catN (fun j => (L (i + j)).h.cells) (ln - i)))
  have hs6 : gg < (w5.setRow gg (spl C4 ((i + 1) * 13) (catN (fun j => (L (i + j)).h.cells) (ln - i)))).heap.size := by rw [size_setRow]; exact hs5
  clear e1' e2' e3' e4' P5 Q5 g5 hs5 HG5 HR3 Hsz2 Ha2 Ha3
  generalize w5.setRow gg (spl C4 ((i + 1) * 13) (catN (fun j => (L (i + j)).h.cells) (ln - i))) = w6 at *
  have c11 := Whole.cell P6 11
  have f11 := Whole.frozen P6 11
  simp only [Vh.cells, List.getElem?_toArray, List.getElem?_cons_succ, List.getElem?_cons_zero] at c11
  go_upto_region 6 with (fail)
  have P7 : Whole (w6.setCell ⟨w.heap.size, 11, none⟩ (.slice (some ⟨gg, 0, none⟩) (ln + 1) (ln + 1))) w.heap.size 30 (Vh.cells ⟨k, b', n', dd, e, tk, td, tn, tz, x, ba, bn, bc, some ⟨gg, 0, none⟩, ln + 1, ln + 1, fa, fn, fc, 0, 0, 0, 0, 0, 0⟩) := Whole.set P6 11 (.slice (some ⟨gg, 0, none⟩) (ln + 1) (ln + 1))
  have Q7 := Whole.far (p := ⟨w.heap.size, 11, none⟩) Q6 (by simp) (.slice (some ⟨gg, 0, none⟩) (ln + 1) (ln + 1))
  have g7 := g6.setCell (p := ⟨w.heap.size, 11, none⟩) (Nat.le_refl _) (.slice (some ⟨gg, 0, none⟩) (ln + 1) (ln + 1))
  have h7 : Hid (∀ t, t ≠ w.heap.size → (w6.setCell ⟨w.heap.size, 11, none⟩ (.slice (some ⟨gg, 0, none⟩) (ln + 1) (ln + 1))).heap[t]? = w6.heap[t]?) := Lib.hid fun t ht => Below.heap_setCell _ _ _ _ (by simpa using ht)
  have z7 : Hid ((w6.setCell ⟨w.heap.size, 11, none⟩ (.slice (some ⟨gg, 0, none⟩) (ln + 1) (ln + 1))).heap.size = w6.heap.size) := Lib.hid (by simp)
  clear P6 Q6 c11 f11 g6
  generalize w6.setCell ⟨w.heap.size, 11, none⟩ (.slice (some ⟨gg, 0, none⟩) (ln + 1) (ln + 1)) = w7 at *
  obtain ⟨c0, c1, c2, c3, c4, c5, c6, c7, c8, c9, c10, c11, c12⟩ := Whole.c13 P7
  dsimp only at c0 c1 c2 c3 c4 c5 c6 c7 c8 c9 c10 c11 c12
  have hone := Lib.hid (vh_all ⟨k, b', n', dd, e, tk, td, tn, tz, x, ba, bn, bc, some ⟨gg, 0, none⟩, ln + 1, ln + 1, fa, fn, fc, 0, 0, 0, 0, 0, 0⟩)
  go_wp2_with (refine wpList_store_row rfl 30 _ _ rfl (w.heap.size + 1) (Vh.cells ⟨k, b', n', dd, e, tk, td, tn, tz, x, ba, bn, bc, some ⟨gg, 0, none⟩, ln + 1, ln + 1, fa, fn, fc, 0, 0, 0, 0, 0, 0⟩) rfl rfl 30 _ Q7 vh_row rfl hone.out ?_)
  have Q8 := Whole.setRow Q7 (Vh.cells ⟨k, b', n', dd, e, tk, td, tn, tz, x, ba, bn, bc, some ⟨gg, 0, none⟩, ln + 1, ln + 1, fa, fn, fc, 0, 0, 0, 0, 0, 0⟩)
  have g8 := below_setRow g7 (Nat.le_succ _) (Vh.cells ⟨k, b', n', dd, e, tk, td, tn, tz, x, ba, bn, bc, some ⟨gg, 0, none⟩, ln + 1, ln + 1, fa, fn, fc, 0, 0, 0, 0, 0, 0⟩)
  have h8 : ∀ t, t ≠ w.heap.size + 1 → (w7.setRow (w.heap.size + 1) (Vh.cells ⟨k, b', n', dd, e, tk, td, tn, tz, x, ba, bn, bc, some ⟨gg, 0, none⟩, ln + 1, ln + 1, fa, fn, fc, 0, 0, 0, 0, 0, 0⟩)).heap[t]? = w7.heap[t]? := fun t ht => setRow_other _ _ _ _ ht
  have z8 : (w7.setRow (w.heap.size + 1) (Vh.cells ⟨k, b', n', dd, e, tk, td, tn, tz, x, ba, bn, bc, some ⟨gg, 0, none⟩, ln + 1, ln + 1, fa, fn, fc, 0, 0, 0, 0, 0, 0⟩)).heap.size = w7.heap.size := size_setRow _ _ _
  clear c0 c1 c2 c3 c4 c5 c6 c7 c8 c9 c10 c11 c12 P7 Q7 g7
  generalize w7.setRow (w.heap.size + 1) (Vh.cells ⟨k, b', n', dd, e, tk, td, tn, tz, x, ba, bn, bc, some ⟨gg, 0, none⟩, ln + 1, ln + 1, fa, fn, fc, 0, 0, 0, 0, 0, 0⟩) = w8 at *
  have Z7 := z7.out
  refine bodyPost_ret (v := .agg #[.int .i64 k, .bool b', .bool n', .string dd, .int .i64 e, .int .i64 tk, .int .i64 td, .int .i64 tn, .int .i64 tz, .string x, .slice ba bn bc, .slice (some ⟨gg, 0, none⟩) (ln + 1) (ln + 1), .slice fa fn fc]) (ret_val (p := 4) rfl rfl Q8) rfl (insL_end HT.out HXi.out hi hln1 g8 hn0w (by omega) (by omega) (fun j hj => ?_))
  have q := HR5.out j hj
  intro t ht
  exact (World.cell?_of_block (a := ⟨gg, j * 13 + t, none⟩) ((h8 gg (by omega)).trans (h7.out gg (by omega)))).trans (q t ht)
end Go.Proofs.YtfkfboiblgoamaaDoor
