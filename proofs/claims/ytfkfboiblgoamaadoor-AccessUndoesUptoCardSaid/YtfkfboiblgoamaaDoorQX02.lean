/- Laid together for a claim: VtRm1. -/
import Derived.Test.YtfkfboiblgoamaaDoorQB15
import Derived.Test.YtfkfboiblgoamaaDoorQB16
import Derived.StillTailTactics
/- Values without a part, walked: access.Remove$1. -/
namespace Go.Proofs.YtfkfboiblgoamaaDoor
open Go.RowKit


set_option maxHeartbeats 8000000 in
set_option maxRecDepth 100000 in
theorem rmL {s : Stp} {cb : Nat} {W0 : World} {n0 : Nat} (hcb : cb < n0) (hs0 : w64 s.n) (hS : LiesAt W0 cb 0 s.cells) (hn0 : n0 ≤ W0.heap.size) {U : Vt} {w : World} (hw : Below n0 W0 w) (hU : U.In w n0) (hfind : (U.find s).2 = 0) (hix : s.ix = true) :
    Calls Tryd.prog 41 #[.agg U.h.cells, .pointer (some ⟨cb, 0, none⟩)] w (FnOut (U.wo s) n0 w) := by
  have hsw := hw.size
  have hn0w := Nat.le_trans hn0 hsw
  have hb0 := ((Below.refl w.heap.size w).alloc (Nat.le_refl _) (.cells U.h.cells 30)).alloc (by simp) (.cells Vh.zero.cells 30)
  have P := (Whole.new w 30 U.h.cells).alloc (.cells Vh.zero.cells 30)
  have Q := Whole.new (w.alloc (.cells U.h.cells 30)) 30 Vh.zero.cells
  rw [World.size_alloc] at Q
  have HLs := Lib.hid (fun (w1 : World) (hb : Below w.heap.size w w1) => (hS.below hw hcb).below (hb.mono hn0w) hcb)
  have HFd := Lib.hid (fun (w1 : World) (hb : Below w.heap.size w w1) => find_any (T := U) (s := s) (Vt.In.below (hb.mono hn0w) hU) (Nat.le_trans hn0w hb.size) hs0)
  obtain ⟨-, hkk, hi, hei⟩ := (Vt.part_ix hfind hix)
  rw [hfind] at HFd
  have hwo : U.wo s = U.dropL (U.find s).1.toNat := by unfold Vt.wo; rw [if_pos hix]
  rw [hwo]
  clear hwo
  generalize hI : (U.find s).1.toNat = i at *
  rw [hei] at HFd
  clear hei hfind hI
  cases U with
  | nil => exact hU.elim
  | mk h Y L K F =>
  dsimp only [Vt.h] at hkk hi
  rw [show (Vt.mk h Y L K F).h = h from rfl] at *
  have HT := Lib.hid hU
  have HW := Lib.hid (fun (w1 : World) (hb : Below w.heap.size w w1) => hU.below (hb.mono hn0w))
  have hokh := hU.1
  obtain ⟨i0, hi0, hz0, hz1, hz2⟩ := info_parts Tryd.infoVal
  have HLrow := Lib.hid (fun (w1 : World) (hb : Below w.heap.size w w1) => fun j (hj : j < h.ln) => ((HW.out w1 hb).2.2.2.2.1 j hj).1)
  obtain ⟨e1, hlt⟩ := (HT.out.2.2.2.1 (show 0 < h.ln by omega))
  have hln := hokh.ln
  have hlc := hokh.lc
  have hk := hokh.k
  have hk1 := hk.1
  have hk2 := hk.2
  have i1 : (0 : Int) ≤ i := by omega
  have i2 : (i : Int) < h.ln := by omega
  have i3 : (h.ln : Int) ≤ 1048576 := by omega
  have i4 : (1 : Int) ≤ h.ln := by omega
  clear hk hkk hokh hw hU hS
  obtain ⟨k, b', n', dd, e, tk, td, tn, tz, x, ba, bn, bc, la, ln, lc, fa, fn, fc, bb, bo, lb, lo, fb, fo⟩ := h
  dsimp only at e1 hlt hln hlc hk1 hk2 i2 i3 i4 hi HLrow P
  subst e1
  obtain ⟨ix, key, sn⟩ := s
  dsimp only at hix
  subst hix
  have hPlt := P.lt
  simp only [Vh.cells, Vh.zero] at hb0 Q HFd ⊢
  obtain ⟨l0, l1, l2⟩ := (HLs.out _ hb0).s3
  simp only [Nat.zero_add] at l0 l1 l2
  obtain ⟨c0, c1, c2, c3, c4, c5, c6, c7, c8, c9, c10, c11, c12⟩ := Whole.c13 P
  simp only [Vh.cells, Vh.zero] at l0 l1 l2 c0 c1 c2 c3 c4 c5 c6 c7 c8 c9 c10 c11 c12
  go_enter Tryd.func41, Tryd.ntmps41
  go_wp2_with fail
  refine (HFd.out _ hb0).mono ?_; rintro _ w1 ⟨rfl, hb1⟩
  have P1 := P.below hb1 hPlt
  have Q1 := Q.below hb1 (Whole.lt Q)
  have g1 := below_then hb0 hb1
  clear l0 l1 l2 c0 c1 c2 c3 c4 c5 c6 c7 c8 c9 c10 c11 c12
  obtain ⟨l0, l1, l2⟩ := (HLs.out _ g1).s3
  simp only [Nat.zero_add] at l0 l1 l2
  have c11 := Whole.cell P1 11
  simp only [Vh.cells, List.getElem?_toArray, List.getElem?_cons_succ, List.getElem?_cons_zero] at c11
  have hq1 := Q1.lt
  have d0 : (ln : Int) - 1 = ((ln - 1 : Nat) : Int) := by omega
  have D0 := Lib.hid d0
  have d1 : Hid (i0.bytes * (ln - 1) ≤ 281474976710656) := Lib.hid (by rw [hz2]; omega)
  have d2 : Hid (ln - 1 ≤ maxLen) := Lib.hid (by unfold maxLen; omega)
  clear d0 hb0 hb1 P Q HFd
  go_wp2_with (refine wpList_make_full _ rfl _ _ 27 rfl w1.heap.size 30 i0 (.agg Vh.zero.cells) 13 Tryd.underlying27 hi0 hz0 hz1 .i64 .i64 ((ln : Int) - 1) ((ln : Int) - 1) (ln - 1) rfl rfl D0.out D0.out d1.out d2.out (Nat.le_refl _) ?_)
  intro w2 hown2 hgr2
  obtain ⟨cur, HG, hcs⟩ := made_whole hown2
  have b2 : Below w1.heap.size w1 w2 := ⟨hgr2.os, hgr2.tape, hgr2.output, hgr2.size, fun t ht => hgr2.block t ht (by simp)⟩
  have g2 := below_then g1 b2
  have P2 := Whole.below P1 b2 (Whole.lt P1)
  have Q2 := Q1.below b2 Q1.lt
  have c11 := Whole.cell P2 11
  simp only [Vh.cells, List.getElem?_toArray, List.getElem?_cons_succ, List.getElem?_cons_zero] at c11
  obtain ⟨gg, hgg⟩ : ∃ gg, w1.heap.size = gg := ⟨_, rfl⟩
  have hgglt : gg < w2.heap.size := by rw [← hgg]; exact HG.lt
  have hg0 : w.heap.size + 1 < gg := by omega
  rw [hgg] at HG ⊢
  obtain ⟨M, hM⟩ : ∃ M : Nat → Vt, M = fun j => if j < i then L j else L (j + 1) := ⟨_, rfl⟩
  have hMl : ∀ j, j < i → M j = L j := fun j hj => by rw [hM]; exact if_pos hj
  have hMr : ∀ j, M (i + j) = L (i + 1 + j) := fun j => by rw [hM]; show (if i + j < i then L (i + j) else L (i + j + 1)) = L (i + 1 + j); rw [if_neg (by omega), show i + j + 1 = i + 1 + j by omega]
  have hcat1 : catN (fun j => (L j).h.cells) i = catN (fun j => (M j).h.cells) i := catN_congr (fun j hj => by rw [hMl j hj])
  have hcat2 : catN (fun j => (fun t => (L t).h.cells) (i + 1 + j)) (ln - 1 - i) = catN (fun j => (fun t => (M t).h.cells) (i + j)) (ln - 1 - i) := catN_congr (fun j hj => by dsimp only; rw [hMr j])
  have hsl1 := slice_head Tryd.underlying27 elem_vals vh_row (b := lb) (o := lo) (n := ln) (c := lc) (i := i) (by omega) (by omega)
  have e1' : Hid ((catN (fun j => (L j).h.cells) i).length = Nat.min i (ln - 1) * 13) := Lib.hid (by rw [catN_len (fun j => vh_size (L j).h), show Nat.min i (ln - 1) = i from Nat.min_eq_left (by omega)])
  have e2' := Lib.hid (fun (_ : 0 < (catN (fun j => (L j).h.cells) i).length) => (⟨rfl, ⟨lb, lo, none⟩, rfl, rowL_src (fun j => vh_size (L j).h) (fun j hj => HLrow.out w2 g2 j (by omega))⟩ : (some (⟨gg, 0, none⟩ : Addr) = some ⟨gg, 0, none⟩ ∧ ∃ ad, some (⟨lb, lo, none⟩ : Addr) = some ad ∧ ∀ j v, (catN (fun j => (L j).h.cells) i)[j]? = some v → w2.cell? (ad.add j) = some v)))
  have e3' : Hid (0 + (catN (fun j => (L j).h.cells) i).length ≤ cur.size) := Lib.hid (by rw [catN_len (fun j => vh_size (L j).h), hcs]; omega)
  have e4' := Lib.hid (catN_one (fun j => vh_one (L j).h) i)
  have HCs := Lib.hid hcs
  have HGh := Lib.hid HG
  have HM := Lib.hid hM
  have H1 := Lib.hid hcat1
  have H2 := Lib.hid hcat2
  clear hown2 hgr2 b2 hgg hcs g1 P1 Q1 hq1 d1 d2 hM hMl hMr hcat1 hcat2 HG
  go_wp2_with (refine wpList_copy_wide _ rfl _ _ 27 27 rfl 30 13 Tryd.underlying27 vh_row (by decide) (some ⟨gg, 0, none⟩) (some ⟨lb, lo, none⟩) (ln - 1) (ln - 1) i lc rfl rfl gg 0 cur 30 HGh.out (catN (fun j => (L j).h.cells) i) e1'.out e2'.out e3'.out e4'.out ?_)
  have hT2 := row_two (fun j => vh_size (M j).h) (show i ≤ ln - 1 by omega) HGh.out HCs.out
  rw [← H1.out] at hT2
  obtain ⟨G3, hsz3, hfin⟩ := hT2
  have HFin := Lib.hid hfin
  have Hsz3 := Lib.hid hsz3
  have P3 := Whole.farRow (B' := gg) P2 (by omega) (spl cur 0 (catN (fun j => (L j).h.cells) i))
  have Q3 := Q2.farRow (B' := gg) (by omega) (spl cur 0 (catN (fun j => (L j).h.cells) i))
  have g3 := below_setRow g2 (show w.heap.size ≤ gg by omega) (spl cur 0 (catN (fun j => (L j).h.cells) i))
  have hs3 : gg < (w2.setRow gg (spl cur 0 (catN (fun j => (L j).h.cells) i))).heap.size := by rw [size_setRow]; exact hgglt
  clear e1' e2' e3' e4' HCs HGh P2 Q2 g2 hgglt c11 l0 l1 l2 hfin hsz3 hsl1 H1
  generalize w2.setRow gg (spl cur 0 (catN (fun j => (L j).h.cells) i)) = w3 at *
  generalize spl cur 0 (catN (fun j => (L j).h.cells) i) = C3 at *
  have c11 := Whole.cell P3 11
  simp only [Vh.cells, List.getElem?_toArray, List.getElem?_cons_succ, List.getElem?_cons_zero] at c11
  obtain ⟨a2, ha2, hsl2⟩ := slice_from Tryd.underlying27 elem_vals vh_row (b := gg) (o := 0) (n := ln - 1) (c := ln - 1) (i := i) (z := i) rfl (by omega)
  obtain ⟨a3, ha3, hsl3⟩ := slice_from Tryd.underlying27 elem_vals vh_row (b := lb) (o := lo) (n := ln) (c := lc) (i := i + 1) (z := (i : Int) + 1) (by omega) (by omega)
  have hwr : IntKind.i64.wrap ((i : Int) + 1) = (i : Int) + 1 := by rw [IntKind.wrap_i64]; omega
  have Ha2 := Lib.hid ha2
  have Ha3 := Lib.hid ha3
  clear ha2 ha3
  go_wp2_with fail
  go_still_tail 8, (by kernel_rfl)
  change wpList _ _ _ _ _ w3.drew
  have P4 : Whole w3.drew w.heap.size 30 _ := P3
  have Q4 : Whole w3.drew (w.heap.size + 1) 30 _ := Q3
  have G4 : Whole w3.drew gg 30 C3 := G3
  have g4 := g3.drew
  have hs4 : gg < w3.drew.heap.size := hs3
  clear hsl2 hsl3 hwr c11 P3 Q3 G3 g3 hs3
  generalize w3.drew = w4 at *
  have e1' : Hid ((catN (fun j => (fun t => (L t).h.cells) (i + 1 + j)) (ln - 1 - i)).length = Nat.min (ln - (i + 1)) (ln - 1 - i) * 13) := Lib.hid (by rw [catN_len (fun j => vh_size (L (i + 1 + j)).h), show Nat.min (ln - (i + 1)) (ln - 1 - i) = ln - 1 - i from Nat.min_eq_right (by omega)])
  have e2' : Hid (0 < (catN (fun j => (fun t => (L t).h.cells) (i + 1 + j)) (ln - 1 - i)).length → some a2 = some ⟨gg, i * 13, none⟩ ∧ ∃ ad, some a3 = some ad ∧ ∀ j v, (catN (fun j => (fun t => (L t).h.cells) (i + 1 + j)) (ln - 1 - i))[j]? = some v → w4.cell? (ad.add j) = some v) := Lib.hid fun hp => by
    rw [catN_len (fun j => vh_size (L (i + 1 + j)).h)] at hp
    have hp2 : 0 < ln - 1 - i := Nat.pos_of_mul_pos_right hp
    refine ⟨by rw [Ha2.out (by omega) (by omega), Nat.zero_add], ⟨lb, lo + (i + 1) * 13, none⟩, by rw [Ha3.out (by omega) (by omega)], rowL_src (fun j => vh_size (L (i + 1 + j)).h) (fun j hj => ?_)⟩
    have := HLrow.out w4 g4 (i + 1 + j) (by omega)
    rw [show lo + (i + 1 + j) * 13 = lo + (i + 1) * 13 + j * 13 by omega] at this
    exact this
  have e3' : Hid (i * 13 + (catN (fun j => (fun t => (L t).h.cells) (i + 1 + j)) (ln - 1 - i)).length ≤ C3.size) := Lib.hid (by rw [catN_len (fun j => vh_size (L (i + 1 + j)).h), Hsz3.out]; omega)
  have e4' := Lib.hid (catN_one (fun j => vh_one (L (i + 1 + j)).h) (ln - 1 - i))
  have HG4 := Lib.hid G4
  clear G4
  refine wpList_copy_wide _ rfl _ _ 27 27 rfl 30 13 Tryd.underlying27 vh_row (by decide) (some a2) (some a3) (ln - 1 - i) (ln - 1 - i) (ln - (i + 1)) (lc - (i + 1)) rfl rfl gg (i * 13) C3 30 HG4.out (catN (fun j => (fun t => (L t).h.cells) (i + 1 + j)) (ln - 1 - i)) e1'.out e2'.out e3'.out e4'.out ?_
  have hrow5 := HFin.out w4 HG4.out
  rw [← H2.out] at hrow5
  have HR5 := Lib.hid hrow5
  have P5 := Whole.farRow (B' := gg) P4 (by omega) (spl C3 (i * 13) (catN (fun j => (fun t => (L t).h.cells) (i + 1 + j)) (ln - 1 - i)))
  have Q5 := Whole.farRow (B' := gg) Q4 (by omega) (spl C3 (i * 13) (catN (fun j => (fun t => (L t).h.cells) (i + 1 + j)) (ln - 1 - i)))
  have g5 := below_setRow g4 (show w.heap.size ≤ gg by omega) (spl C3 (i * 13) (catN (fun j => (fun t => (L t).h.cells) (i + 1 + j)) (ln - 1 - i)))
  have hs5 : gg < (w4.setRow gg (spl C3 (i * 13) (catN (fun j => (fun t => (L t).h.cells) (i + 1 + j)) (ln - 1 - i)))).heap.size := by rw [size_setRow]; exact hs4
  clear e1' e2' e3' e4' P4 Q4 g4 hs4 HG4 HFin Hsz3 H2 Ha2 Ha3 hrow5
  generalize w4.setRow gg (spl C3 (i * 13) (catN (fun j => (fun t => (L t).h.cells) (i + 1 + j)) (ln - 1 - i))) = w5 at *
  have c11 := Whole.cell P5 11
  have f11 := Whole.frozen P5 11
  simp only [Vh.cells, List.getElem?_toArray, List.getElem?_cons_succ, List.getElem?_cons_zero] at c11
  go_upto_region 7 with (fail)
  have P6 : Whole (w5.setCell ⟨w.heap.size, 11, none⟩ (.slice (some ⟨gg, 0, none⟩) (ln - 1) (ln - 1))) w.heap.size 30 (Vh.cells ⟨k, b', n', dd, e, tk, td, tn, tz, x, ba, bn, bc, some ⟨gg, 0, none⟩, ln - 1, ln - 1, fa, fn, fc, 0, 0, 0, 0, 0, 0⟩) := Whole.set P5 11 (.slice (some ⟨gg, 0, none⟩) (ln - 1) (ln - 1))
  have Q6 := Whole.far (p := ⟨w.heap.size, 11, none⟩) Q5 (by simp) (.slice (some ⟨gg, 0, none⟩) (ln - 1) (ln - 1))
  have g6 := g5.setCell (p := ⟨w.heap.size, 11, none⟩) (Nat.le_refl _) (.slice (some ⟨gg, 0, none⟩) (ln - 1) (ln - 1))
  have h6 : Hid (∀ t, t ≠ w.heap.size → (w5.setCell ⟨w.heap.size, 11, none⟩ (.slice (some ⟨gg, 0, none⟩) (ln - 1) (ln - 1))).heap[t]? = w5.heap[t]?) := Lib.hid fun t ht => Below.heap_setCell _ _ _ _ (by simpa using ht)
  have z6 : Hid ((w5.setCell ⟨w.heap.size, 11, none⟩ (.slice (some ⟨gg, 0, none⟩) (ln - 1) (ln - 1))).heap.size = w5.heap.size) := Lib.hid (by simp)
  clear P5 Q5 c11 f11 g5
  generalize w5.setCell ⟨w.heap.size, 11, none⟩ (.slice (some ⟨gg, 0, none⟩) (ln - 1) (ln - 1)) = w6 at *
  obtain ⟨c0, c1, c2, c3, c4, c5, c6, c7, c8, c9, c10, c11, c12⟩ := Whole.c13 P6
  dsimp only at c0 c1 c2 c3 c4 c5 c6 c7 c8 c9 c10 c11 c12
  have hone := Lib.hid (vh_all ⟨k, b', n', dd, e, tk, td, tn, tz, x, ba, bn, bc, some ⟨gg, 0, none⟩, ln - 1, ln - 1, fa, fn, fc, 0, 0, 0, 0, 0, 0⟩)
  go_wp2_with (refine wpList_store_row rfl 30 _ _ rfl (w.heap.size + 1) (Vh.cells ⟨k, b', n', dd, e, tk, td, tn, tz, x, ba, bn, bc, some ⟨gg, 0, none⟩, ln - 1, ln - 1, fa, fn, fc, 0, 0, 0, 0, 0, 0⟩) rfl rfl 30 _ Q6 vh_row rfl hone.out ?_)
  have Q7 := Whole.setRow Q6 (Vh.cells ⟨k, b', n', dd, e, tk, td, tn, tz, x, ba, bn, bc, some ⟨gg, 0, none⟩, ln - 1, ln - 1, fa, fn, fc, 0, 0, 0, 0, 0, 0⟩)
  have g7 := below_setRow g6 (Nat.le_succ _) (Vh.cells ⟨k, b', n', dd, e, tk, td, tn, tz, x, ba, bn, bc, some ⟨gg, 0, none⟩, ln - 1, ln - 1, fa, fn, fc, 0, 0, 0, 0, 0, 0⟩)
  have h7 : ∀ t, t ≠ w.heap.size + 1 → (w6.setRow (w.heap.size + 1) (Vh.cells ⟨k, b', n', dd, e, tk, td, tn, tz, x, ba, bn, bc, some ⟨gg, 0, none⟩, ln - 1, ln - 1, fa, fn, fc, 0, 0, 0, 0, 0, 0⟩)).heap[t]? = w6.heap[t]? := fun t ht => setRow_other _ _ _ _ ht
  have z7 : (w6.setRow (w.heap.size + 1) (Vh.cells ⟨k, b', n', dd, e, tk, td, tn, tz, x, ba, bn, bc, some ⟨gg, 0, none⟩, ln - 1, ln - 1, fa, fn, fc, 0, 0, 0, 0, 0, 0⟩)).heap.size = w6.heap.size := size_setRow _ _ _
  clear c0 c1 c2 c3 c4 c5 c6 c7 c8 c9 c10 c11 c12 P6 Q6 g6
  generalize w6.setRow (w.heap.size + 1) (Vh.cells ⟨k, b', n', dd, e, tk, td, tn, tz, x, ba, bn, bc, some ⟨gg, 0, none⟩, ln - 1, ln - 1, fa, fn, fc, 0, 0, 0, 0, 0, 0⟩) = w7 at *
  have Z6 := z6.out
  refine bodyPost_ret (v := .agg #[.int .i64 k, .bool b', .bool n', .string dd, .int .i64 e, .int .i64 tk, .int .i64 td, .int .i64 tn, .int .i64 tz, .string x, .slice ba bn bc, .slice (some ⟨gg, 0, none⟩) (ln - 1) (ln - 1), .slice fa fn fc]) (ret_val (p := 3) rfl rfl Q7) rfl (dropL_end HT.out hi g7 hn0w (by omega) (by omega) HM.out (fun j hj => ?_))
  intro t ht
  exact (World.cell?_of_block (a := ⟨gg, j * 13 + t, none⟩) ((h7 gg (by omega)).trans (h6.out gg (by omega)))).trans (HR5.out j hj t ht)


set_option maxHeartbeats 8000000 in
set_option maxRecDepth 100000 in
theorem rmF {s : Stp} {cb : Nat} {W0 : World} {n0 : Nat} (hcb : cb < n0) (hs0 : w64 s.n) (hS : LiesAt W0 cb 0 s.cells) (hn0 : n0 ≤ W0.heap.size) {U : Vt} {w : World} (hw : Below n0 W0 w) (hU : U.In w n0) (hfind : (U.find s).2 = 0) (hix : s.ix = false) :
    Calls Tryd.prog 41 #[.agg U.h.cells, .pointer (some ⟨cb, 0, none⟩)] w (FnOut (U.wo s) n0 w) := by
  have hsw := hw.size
  have hn0w := Nat.le_trans hn0 hsw
  have hb0 := ((Below.refl w.heap.size w).alloc (Nat.le_refl _) (.cells U.h.cells 30)).alloc (by simp) (.cells Vh.zero.cells 30)
  have P := (Whole.new w 30 U.h.cells).alloc (.cells Vh.zero.cells 30)
  have Q := Whole.new (w.alloc (.cells U.h.cells 30)) 30 Vh.zero.cells
  rw [World.size_alloc] at Q
  have HLs := Lib.hid (fun (w1 : World) (hb : Below w.heap.size w w1) => (hS.below hw hcb).below (hb.mono hn0w) hcb)
  have HFd := Lib.hid (fun (w1 : World) (hb : Below w.heap.size w w1) => find_any (T := U) (s := s) (Vt.In.below (hb.mono hn0w) hU) (Nat.le_trans hn0w hb.size) hs0)
  obtain ⟨-, hkk, hi, hei, -⟩ := (Vt.part_key hfind hix)
  rw [hfind] at HFd
  have hwo : U.wo s = U.dropF (U.find s).1.toNat := by unfold Vt.wo; rw [if_neg (by simp [hix])]
  rw [hwo]
  clear hwo
  generalize hI : (U.find s).1.toNat = i at *
  rw [hei] at HFd
  clear hei hfind hI
  cases U with
  | nil => exact hU.elim
  | mk h Y L K F =>
  dsimp only [Vt.h] at hkk hi
  rw [show (Vt.mk h Y L K F).h = h from rfl] at *
  have HT := Lib.hid hU
  have HW := Lib.hid (fun (w1 : World) (hb : Below w.heap.size w w1) => hU.below (hb.mono hn0w))
  have hokh := hU.1
  obtain ⟨i0, hi0, hz0, hz1, hz2⟩ := info_parts Tryd.infoFld
  have HLrow := Lib.hid (fun (w1 : World) (hb : Below w.heap.size w w1) => fun j (hj : j < h.fn) => lies_fcs ((HW.out w1 hb).2.2.2.2.2.2 j hj).1 ((HW.out w1 hb).2.2.2.2.2.2 j hj).2.2.1)
  obtain ⟨e1, hlt⟩ := (HT.out.2.2.2.2.2.1 (show 0 < h.fn by omega))
  have hln := hokh.fn
  have hlc := hokh.fc
  have hk := hokh.k
  have hk1 := hk.1
  have hk2 := hk.2
  have i1 : (0 : Int) ≤ i := by omega
  have i2 : (i : Int) < h.fn := by omega
  have i3 : (h.fn : Int) ≤ 1048576 := by omega
  have i4 : (1 : Int) ≤ h.fn := by omega
  clear hk hkk hokh hw hU hS
  obtain ⟨k, b', n', dd, e, tk, td, tn, tz, x, ba, bn, bc, la, ln, lc, fa, fn, fc, bb, bo, lb, lo, fb, fo⟩ := h
  dsimp only at e1 hlt hln hlc hk1 hk2 i2 i3 i4 hi HLrow P
  subst e1
  obtain ⟨ix, key, sn⟩ := s
  dsimp only at hix
  subst hix
  have hPlt := P.lt
  simp only [Vh.cells, Vh.zero] at hb0 Q HFd ⊢
  obtain ⟨l0, l1, l2⟩ := (HLs.out _ hb0).s3
  simp only [Nat.zero_add] at l0 l1 l2
  obtain ⟨c0, c1, c2, c3, c4, c5, c6, c7, c8, c9, c10, c11, c12⟩ := Whole.c13 P
  simp only [Vh.cells, Vh.zero] at l0 l1 l2 c0 c1 c2 c3 c4 c5 c6 c7 c8 c9 c10 c11 c12
  go_enter Tryd.func41, Tryd.ntmps41
  go_wp2_with fail
  refine (HFd.out _ hb0).mono ?_; rintro _ w1 ⟨rfl, hb1⟩
  have P1 := P.below hb1 hPlt
  have Q1 := Q.below hb1 (Whole.lt Q)
  have g1 := below_then hb0 hb1
  clear l0 l1 l2 c0 c1 c2 c3 c4 c5 c6 c7 c8 c9 c10 c11 c12
  obtain ⟨l0, l1, l2⟩ := (HLs.out _ g1).s3
  simp only [Nat.zero_add] at l0 l1 l2
  have c11 := Whole.cell P1 12
  simp only [Vh.cells, List.getElem?_toArray, List.getElem?_cons_succ, List.getElem?_cons_zero] at c11
  have hq1 := Q1.lt
  have d0 : (fn : Int) - 1 = ((fn - 1 : Nat) : Int) := by omega
  have D0 := Lib.hid d0
  have d1 : Hid (i0.bytes * (fn - 1) ≤ 281474976710656) := Lib.hid (by rw [hz2]; omega)
  have d2 : Hid (fn - 1 ≤ maxLen) := Lib.hid (by unfold maxLen; omega)
  clear d0 hb0 hb1 P Q HFd
  go_wp2_with (refine wpList_make_full _ rfl _ _ 28 rfl w1.heap.size 61 i0 (.agg (#[.string ⟨#[]⟩] ++ Vh.zero.cells)) 14 Tryd.underlying28 hi0 hz0 hz1 .i64 .i64 ((fn : Int) - 1) ((fn : Int) - 1) (fn - 1) rfl rfl D0.out D0.out d1.out d2.out (Nat.le_refl _) ?_)
  intro w2 hown2 hgr2
  obtain ⟨cur, HG, hcs⟩ := made_whole hown2
  have b2 : Below w1.heap.size w1 w2 := ⟨hgr2.os, hgr2.tape, hgr2.output, hgr2.size, fun t ht => hgr2.block t ht (by simp)⟩
  have g2 := below_then g1 b2
  have P2 := Whole.below P1 b2 (Whole.lt P1)
  have Q2 := Q1.below b2 Q1.lt
  have c11 := Whole.cell P2 12
  simp only [Vh.cells, List.getElem?_toArray, List.getElem?_cons_succ, List.getElem?_cons_zero] at c11
  obtain ⟨gg, hgg⟩ : ∃ gg, w1.heap.size = gg := ⟨_, rfl⟩
  have hgglt : gg < w2.heap.size := by rw [← hgg]; exact HG.lt
  have hg0 : w.heap.size + 1 < gg := by omega
  rw [hgg] at HG ⊢
  obtain ⟨M, hM⟩ : ∃ M : Nat → ByteArray × Vt, M = fun j => if j < i then (K j, F j) else (K (j + 1), F (j + 1)) := ⟨_, rfl⟩
  have hMl : ∀ j, j < i → M j = (K j, F j) := fun j hj => by rw [hM]; exact if_pos hj
  have hMr : ∀ j, M (i + j) = (K (i + 1 + j), F (i + 1 + j)) := fun j => by rw [hM]; show (if i + j < i then (K (i + j), F (i + j)) else (K (i + j + 1), F (i + j + 1))) = (K (i + 1 + j), F (i + 1 + j)); rw [if_neg (by omega), show i + j + 1 = i + 1 + j by omega]
  have hcat1 : catN (fun j => fcs (K j, F j)) i = catN (fun j => fcs (M j)) i := catN_congr (fun j hj => by rw [hMl j hj])
  have hcat2 : catN (fun j => (fun t => fcs (K t, F t)) (i + 1 + j)) (fn - 1 - i) = catN (fun j => (fun t => fcs (M t)) (i + j)) (fn - 1 - i) := catN_congr (fun j hj => by dsimp only; rw [hMr j])
  have hsl1 := slice_head Tryd.underlying28 elem_flds fld_row (b := fb) (o := fo) (n := fn) (c := fc) (i := i) (by omega) (by omega)
  have e1' : Hid ((catN (fun j => fcs (K j, F j)) i).length = Nat.min i (fn - 1) * 14) := Lib.hid (by rw [catN_len (fun j => fcs_size (K j, F j)), show Nat.min i (fn - 1) = i from Nat.min_eq_left (by omega)])
  have e2' := Lib.hid (fun (_ : 0 < (catN (fun j => fcs (K j, F j)) i).length) => (⟨rfl, ⟨fb, fo, none⟩, rfl, rowL_src (fun j => fcs_size (K j, F j)) (fun j hj => HLrow.out w2 g2 j (by omega))⟩ : (some (⟨gg, 0, none⟩ : Addr) = some ⟨gg, 0, none⟩ ∧ ∃ ad, some (⟨fb, fo, none⟩ : Addr) = some ad ∧ ∀ j v, (catN (fun j => fcs (K j, F j)) i)[j]? = some v → w2.cell? (ad.add j) = some v)))
  have e3' : Hid (0 + (catN (fun j => fcs (K j, F j)) i).length ≤ cur.size) := Lib.hid (by rw [catN_len (fun j => fcs_size (K j, F j)), hcs]; omega)
  have e4' := Lib.hid (catN_one (fun j => fcs_one (K j, F j)) i)
  have HCs := Lib.hid hcs
  have HGh := Lib.hid HG
  have HM := Lib.hid hM
  have H1 := Lib.hid hcat1
  have H2 := Lib.hid hcat2
  clear hown2 hgr2 b2 hgg hcs g1 P1 Q1 hq1 d1 d2 hM hMl hMr hcat1 hcat2 HG
  go_wp2_with (refine wpList_copy_wide _ rfl _ _ 28 28 rfl 61 14 Tryd.underlying28 fld_row (by decide) (some ⟨gg, 0, none⟩) (some ⟨fb, fo, none⟩) (fn - 1) (fn - 1) i fc rfl rfl gg 0 cur 61 HGh.out (catN (fun j => fcs (K j, F j)) i) e1'.out e2'.out e3'.out e4'.out ?_)
  have hT2 := row_two (fun j => fcs_size (M j)) (show i ≤ fn - 1 by omega) HGh.out HCs.out
  rw [← H1.out] at hT2
  obtain ⟨G3, hsz3, hfin⟩ := hT2
  have HFin := Lib.hid hfin
  have Hsz3 := Lib.hid hsz3
  have P3 := Whole.farRow (B' := gg) P2 (by omega) (spl cur 0 (catN (fun j => fcs (K j, F j)) i))
  have Q3 := Q2.farRow (B' := gg) (by omega) (spl cur 0 (catN (fun j => fcs (K j, F j)) i))
  have g3 := below_setRow g2 (show w.heap.size ≤ gg by omega) (spl cur 0 (catN (fun j => fcs (K j, F j)) i))
  have hs3 : gg < (w2.setRow gg (spl cur 0 (catN (fun j => fcs (K j, F j)) i))).heap.size := by rw [size_setRow]; exact hgglt
  clear e1' e2' e3' e4' HCs HGh P2 Q2 g2 hgglt c11 l0 l1 l2 hfin hsz3 hsl1 H1
  generalize w2.setRow gg (spl cur 0 (catN (fun j => fcs (K j, F j)) i)) = w3 at *
  generalize spl cur 0 (catN (fun j => fcs (K j, F j)) i) = C3 at *
  have c11 := Whole.cell P3 12
  simp only [Vh.cells, List.getElem?_toArray, List.getElem?_cons_succ, List.getElem?_cons_zero] at c11
  obtain ⟨a2, ha2, hsl2⟩ := slice_from Tryd.underlying28 elem_flds fld_row (b := gg) (o := 0) (n := fn - 1) (c := fn - 1) (i := i) (z := i) rfl (by omega)
  obtain ⟨a3, ha3, hsl3⟩ := slice_from Tryd.underlying28 elem_flds fld_row (b := fb) (o := fo) (n := fn) (c := fc) (i := i + 1) (z := (i : Int) + 1) (by omega) (by omega)
  have hwr : IntKind.i64.wrap ((i : Int) + 1) = (i : Int) + 1 := by rw [IntKind.wrap_i64]; omega
  have Ha2 := Lib.hid ha2
  have Ha3 := Lib.hid ha3
  clear ha2 ha3
  go_wp2_with fail
  go_still_tail 8, (by kernel_rfl)
  change wpList _ _ _ _ _ w3.drew
  have P4 : Whole w3.drew w.heap.size 30 _ := P3
  have Q4 : Whole w3.drew (w.heap.size + 1) 30 _ := Q3
  have G4 : Whole w3.drew gg 61 C3 := G3
  have g4 := g3.drew
  have hs4 : gg < w3.drew.heap.size := hs3
  clear hsl2 hsl3 hwr c11 P3 Q3 G3 g3 hs3
  generalize w3.drew = w4 at *
  have e1' : Hid ((catN (fun j => (fun t => fcs (K t, F t)) (i + 1 + j)) (fn - 1 - i)).length = Nat.min (fn - (i + 1)) (fn - 1 - i) * 14) := Lib.hid (by rw [catN_len (fun j => fcs_size (K (i + 1 + j), F (i + 1 + j))), show Nat.min (fn - (i + 1)) (fn - 1 - i) = fn - 1 - i from Nat.min_eq_right (by omega)])
  have e2' : Hid (0 < (catN (fun j => (fun t => fcs (K t, F t)) (i + 1 + j)) (fn - 1 - i)).length → some a2 = some ⟨gg, i * 14, none⟩ ∧ ∃ ad, some a3 = some ad ∧ ∀ j v, (catN (fun j => (fun t => fcs (K t, F t)) (i + 1 + j)) (fn - 1 - i))[j]? = some v → w4.cell? (ad.add j) = some v) := Lib.hid fun hp => by
    rw [catN_len (fun j => fcs_size (K (i + 1 + j), F (i + 1 + j)))] at hp
    have hp2 : 0 < fn - 1 - i := Nat.pos_of_mul_pos_right hp
    refine ⟨by rw [Ha2.out (by omega) (by omega), Nat.zero_add], ⟨fb, fo + (i + 1) * 14, none⟩, by rw [Ha3.out (by omega) (by omega)], rowL_src (fun j => fcs_size (K (i + 1 + j), F (i + 1 + j))) (fun j hj => ?_)⟩
    have := HLrow.out w4 g4 (i + 1 + j) (by omega)
    rw [show fo + (i + 1 + j) * 14 = fo + (i + 1) * 14 + j * 14 by omega] at this
    exact this
  have e3' : Hid (i * 14 + (catN (fun j => (fun t => fcs (K t, F t)) (i + 1 + j)) (fn - 1 - i)).length ≤ C3.size) := Lib.hid (by rw [catN_len (fun j => fcs_size (K (i + 1 + j), F (i + 1 + j))), Hsz3.out]; omega)
  have e4' := Lib.hid (catN_one (fun j => fcs_one (K (i + 1 + j), F (i + 1 + j))) (fn - 1 - i))
  have HG4 := Lib.hid G4
  clear G4
  refine wpList_copy_wide _ rfl _ _ 28 28 rfl 61 14 Tryd.underlying28 fld_row (by decide) (some a2) (some a3) (fn - 1 - i) (fn - 1 - i) (fn - (i + 1)) (fc - (i + 1)) rfl rfl gg (i * 14) C3 61 HG4.out (catN (fun j => (fun t => fcs (K t, F t)) (i + 1 + j)) (fn - 1 - i)) e1'.out e2'.out e3'.out e4'.out ?_
  have hrow5 := HFin.out w4 HG4.out
  rw [← H2.out] at hrow5
  have HR5 := Lib.hid hrow5
  have P5 := Whole.farRow (B' := gg) P4 (by omega) (spl C3 (i * 14) (catN (fun j => (fun t => fcs (K t, F t)) (i + 1 + j)) (fn - 1 - i)))
  have Q5 := Whole.farRow (B' := gg) Q4 (by omega) (spl C3 (i * 14) (catN (fun j => (fun t => fcs (K t, F t)) (i + 1 + j)) (fn - 1 - i)))
  have g5 := below_setRow g4 (show w.heap.size ≤ gg by omega) (spl C3 (i * 14) (catN (fun j => (fun t => fcs (K t, F t)) (i + 1 + j)) (fn - 1 - i)))
  have hs5 : gg < (w4.setRow gg (spl C3 (i * 14) (catN (fun j => (fun t => fcs (K t, F t)) (i + 1 + j)) (fn - 1 - i)))).heap.size := by rw [size_setRow]; exact hs4
  clear e1' e2' e3' e4' P4 Q4 g4 hs4 HG4 HFin Hsz3 H2 Ha2 Ha3 hrow5
  generalize w4.setRow gg (spl C3 (i * 14) (catN (fun j => (fun t => fcs (K t, F t)) (i + 1 + j)) (fn - 1 - i))) = w5 at *
  have c11 := Whole.cell P5 12
  have f11 := Whole.frozen P5 12
  simp only [Vh.cells, List.getElem?_toArray, List.getElem?_cons_succ, List.getElem?_cons_zero] at c11
  go_upto_region 12 with (fail)
  have P6 : Whole (w5.setCell ⟨w.heap.size, 12, none⟩ (.slice (some ⟨gg, 0, none⟩) (fn - 1) (fn - 1))) w.heap.size 30 (Vh.cells ⟨k, b', n', dd, e, tk, td, tn, tz, x, ba, bn, bc, la, ln, lc, some ⟨gg, 0, none⟩, fn - 1, fn - 1, 0, 0, 0, 0, 0, 0⟩) := Whole.set P5 12 (.slice (some ⟨gg, 0, none⟩) (fn - 1) (fn - 1))
  have Q6 := Whole.far (p := ⟨w.heap.size, 12, none⟩) Q5 (by simp) (.slice (some ⟨gg, 0, none⟩) (fn - 1) (fn - 1))
  have g6 := g5.setCell (p := ⟨w.heap.size, 12, none⟩) (Nat.le_refl _) (.slice (some ⟨gg, 0, none⟩) (fn - 1) (fn - 1))
  have h6 : Hid (∀ t, t ≠ w.heap.size → (w5.setCell ⟨w.heap.size, 12, none⟩ (.slice (some ⟨gg, 0, none⟩) (fn - 1) (fn - 1))).heap[t]? = w5.heap[t]?) := Lib.hid fun t ht => Below.heap_setCell _ _ _ _ (by simpa using ht)
  have z6 : Hid ((w5.setCell ⟨w.heap.size, 12, none⟩ (.slice (some ⟨gg, 0, none⟩) (fn - 1) (fn - 1))).heap.size = w5.heap.size) := Lib.hid (by simp)
  clear P5 Q5 c11 f11 g5
  generalize w5.setCell ⟨w.heap.size, 12, none⟩ (.slice (some ⟨gg, 0, none⟩) (fn - 1) (fn - 1)) = w6 at *
  obtain ⟨c0, c1, c2, c3, c4, c5, c6, c7, c8, c9, c10, c11, c12⟩ := Whole.c13 P6
  dsimp only at c0 c1 c2 c3 c4 c5 c6 c7 c8 c9 c10 c11 c12
  have hone := Lib.hid (vh_all ⟨k, b', n', dd, e, tk, td, tn, tz, x, ba, bn, bc, la, ln, lc, some ⟨gg, 0, none⟩, fn - 1, fn - 1, 0, 0, 0, 0, 0, 0⟩)
  go_wp2_with (refine wpList_store_row rfl 30 _ _ rfl (w.heap.size + 1) (Vh.cells ⟨k, b', n', dd, e, tk, td, tn, tz, x, ba, bn, bc, la, ln, lc, some ⟨gg, 0, none⟩, fn - 1, fn - 1, 0, 0, 0, 0, 0, 0⟩) rfl rfl 30 _ Q6 vh_row rfl hone.out ?_)
  have Q7 := Whole.setRow Q6 (Vh.cells ⟨k, b', n', dd, e, tk, td, tn, tz, x, ba, bn, bc, la, ln, lc, some ⟨gg, 0, none⟩, fn - 1, fn - 1, 0, 0, 0, 0, 0, 0⟩)
  have g7 := below_setRow g6 (Nat.le_succ _) (Vh.cells ⟨k, b', n', dd, e, tk, td, tn, tz, x, ba, bn, bc, la, ln, lc, some ⟨gg, 0, none⟩, fn - 1, fn - 1, 0, 0, 0, 0, 0, 0⟩)
  have h7 : ∀ t, t ≠ w.heap.size + 1 → (w6.setRow (w.heap.size + 1) (Vh.cells ⟨k, b', n', dd, e, tk, td, tn, tz, x, ba, bn, bc, la, ln, lc, some ⟨gg, 0, none⟩, fn - 1, fn - 1, 0, 0, 0, 0, 0, 0⟩)).heap[t]? = w6.heap[t]? := fun t ht => setRow_other _ _ _ _ ht
  have z7 : (w6.setRow (w.heap.size + 1) (Vh.cells ⟨k, b', n', dd, e, tk, td, tn, tz, x, ba, bn, bc, la, ln, lc, some ⟨gg, 0, none⟩, fn - 1, fn - 1, 0, 0, 0, 0, 0, 0⟩)).heap.size = w6.heap.size := size_setRow _ _ _
  clear c0 c1 c2 c3 c4 c5 c6 c7 c8 c9 c10 c11 c12 P6 Q6 g6
  generalize w6.setRow (w.heap.size + 1) (Vh.cells ⟨k, b', n', dd, e, tk, td, tn, tz, x, ba, bn, bc, la, ln, lc, some ⟨gg, 0, none⟩, fn - 1, fn - 1, 0, 0, 0, 0, 0, 0⟩) = w7 at *
  have Z6 := z6.out
  refine bodyPost_ret (v := .agg #[.int .i64 k, .bool b', .bool n', .string dd, .int .i64 e, .int .i64 tk, .int .i64 td, .int .i64 tn, .int .i64 tz, .string x, .slice ba bn bc, .slice la ln lc, .slice (some ⟨gg, 0, none⟩) (fn - 1) (fn - 1)]) (ret_val (p := 3) rfl rfl Q7) rfl (dropF_end HT.out hi g7 hn0w (by omega) (by omega) HM.out (fun j hj => ?_))
  intro t ht
  exact (World.cell?_of_block (a := ⟨gg, j * 14 + t, none⟩) ((h7 gg (by omega)).trans (h6.out gg (by omega)))).trans (HR5.out j hj t ht)


/-- The closure of Remove. -/
theorem rm_ok {s : Stp} {cb : Nat} {W0 : World} {n0 : Nat} (hcb : cb < n0) (hs0 : w64 s.n) (hS : LiesAt W0 cb 0 s.cells) (hn0 : n0 ≤ W0.heap.size) :
    FnOk 41 #[.pointer (some ⟨cb, 0, none⟩)] (fun U => U.wo s) (fun U => (U.find s).2 = 0) W0 n0 := by
  intro w U hw hU hf
  show Calls Tryd.prog 41 #[.agg U.h.cells, .pointer (some ⟨cb, 0, none⟩)] w _
  cases hix : s.ix with
  | false => exact rmF hcb hs0 hS hn0 hw hU hf hix
  | true => exact rmL hcb hs0 hS hn0 hw hU hf hix
end Go.Proofs.YtfkfboiblgoamaaDoor
