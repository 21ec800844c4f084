/- Laid together for a claim: VtChgS2. -/
import Derived.Test.YtfkfboiblgoamaaDoorQB15
import Derived.Test.YtfkfboiblgoamaaDoorQB16
/- Values changed at a path, walked: access.change with access.Set$2. -/
namespace Go.Proofs.YtfkfboiblgoamaaDoor.VtChgS2
open Go.RowKit

set_option maxHeartbeats 8000000 in
set_option maxRecDepth 100000 in
theorem zero {cp0 cp1 : Value} {g : Vt → Vt} {pre : Vt → Prop} {W0 : World} {n0 : Nat} (HF : FnOk 28 #[cp0, cp1] g pre W0 n0) (hn0 : n0 ≤ W0.heap.size) {T : Vt} {a : Option Addr} {cp : Nat} {w : World} (hw : Below n0 W0 w) (hT : T.In w n0) (hp : pre T) :
    Calls Tryd.prog 26 #[.agg T.h.cells, .slice a 0 cp, .func (.func 28) #[] #[cp0, cp1]] w (FnOut (g T) n0 w) := by
  have hsw := hw.size
  have hb0 := ((Below.refl w.heap.size w).alloc (Nat.le_refl _) (.cells T.h.cells 30)).alloc (by simp) (.cells Vh.zero.cells 30)
  have Q := Whole.new (w.alloc (.cells T.h.cells 30)) 30 Vh.zero.cells
  rw [World.size_alloc] at Q
  have HC := Lib.hid (show Calls Tryd.prog 28 #[.agg T.h.cells, cp0, cp1] _ _ from HF ((w.alloc (.cells T.h.cells 30)).alloc (.cells Vh.zero.cells 30)) T (hw.trans (hb0.mono (Nat.le_trans hn0 hw.size))) (Vt.In.below (hb0.mono (Nat.le_trans hn0 hw.size)) hT) hp)
  clear HF hT hp hw
  simp only [Vh.cells, Vh.zero] at HC Q hb0 ⊢
  go_enter Tryd.func26, Tryd.ntmps26
  go_wp2_with fail
  refine HC.out.mono ?_; rintro _ w1 ⟨X, rfl, hX, hXo, hXs, hb1⟩
  have Q1 := Q.below hb1 Q.lt
  have g1 := below_then hb0 hb1
  have hone := Lib.hid (vh_all X.h)
  have Hs := Lib.hid hXs
  clear HC Q hb0 hXs
  go_wp2_with (refine wpList_store_row rfl 30 _ _ rfl (w.heap.size + 1) X.h.cells rfl rfl 30 _ Q1 vh_row rfl hone.out ?_)
  have Q2 := Q1.setRow X.h.cells
  have hsz := Q1.lt
  simp at hXo
  refine bodyPost_ret (v := .agg X.h.cells) (ret_val (p := 6) rfl rfl Q2) rfl ⟨X, rfl, hX.stays hXo (fun b hb => setRow_other _ _ _ _ (by omega)) (by rw [size_setRow]; omega), hXo.mono fun b hb => by omega, Hs.out, below_setRow g1 (by omega) _⟩

def ChgIs (FN : Nat) (CAP : Array Value) (g : Vt → Vt) (pre : Vt → Prop) (W0 : World) (n0 n : Nat) : Prop :=
  ∀ (p : Pth) (T : Vt) (w : World), p.n = n → Below n0 W0 w → T.In w n0 → p.In w n0 → (T.atN p.S n).2 = 0 → pre (T.atN p.S n).1 →
    Calls Tryd.prog 26 #[.agg T.h.cells, .slice p.a p.n p.c, .func (.func FN) #[] CAP] w (FnOut (Vt.chg g n p.S T) n0 w)

set_option maxHeartbeats 8000000 in
set_option maxRecDepth 100000 in
theorem stepL {cp0 cp1 : Value} {g : Vt → Vt} {pre : Vt → Prop} {W0 : World} {n0 m : Nat} (hn0 : n0 ≤ W0.heap.size) (ih : ChgIs 28 #[cp0, cp1] g pre W0 n0 m) {c b o : Nat} {S : Nat → Stp} {T : Vt} {w : World} (hw : Below n0 W0 w) (hT : T.In w n0) (hP : Pth.In w n0 ⟨some ⟨b, o, none⟩, m + 1, c, b, o, S⟩) (h0 : (T.atN S (m + 1)).2 = 0) (hpre : pre (T.atN S (m + 1)).1) (hix : (S 0).ix = true) :
    Calls Tryd.prog 26 #[.agg T.h.cells, .slice (some ⟨b, o, none⟩) (m + 1) c, .func (.func 28) #[] #[cp0, cp1]] w (FnOut (Vt.chg g (m + 1) S T) n0 w) := by
  have hsw := hw.size
  have hb0 := ((Below.refl w.heap.size w).alloc (Nat.le_refl _) (.cells T.h.cells 30)).alloc (by simp) (.cells Vh.zero.cells 30)
  have P := (Whole.new w 30 T.h.cells).alloc (.cells Vh.zero.cells 30)
  have Q := Whole.new (w.alloc (.cells T.h.cells 30)) 30 Vh.zero.cells
  rw [World.size_alloc] at Q
  have hT0 := hT
  have hP0 := hP
  obtain ⟨ha, ⟨hn1, hnc, hcm⟩, hS⟩ := hP
  dsimp only at ha hn1 hnc hcm hS
  have hblt := (ha (Nat.succ_pos m)).2
  obtain ⟨hl0, hs0⟩ := hS 0 (Nat.succ_pos m)
  rw [Nat.zero_mul, Nat.add_zero] at hl0
  have hfind : (T.find (S 0)).2 = 0 := Vt.atN_find h0 (Nat.succ_pos m)
  have hsh := Vt.atN_shift hfind m
  rw [hsh] at h0 hpre
  have hn0w := Nat.le_trans hn0 hsw
  have HLs := Lib.hid (fun (w1 : World) (hb : Below w.heap.size w w1) => hl0.below (hb.mono hn0w) hblt)
  have HFd := Lib.hid (fun (w1 : World) (hb : Below w.heap.size w w1) => find_any (T := T) (s := S 0) (Vt.In.below (hb.mono hn0w) hT) (Nat.le_trans hn0w hb.size) hs0.n)
  obtain ⟨hpart, hkk, hi, hei, -⟩ := (show _ ∧ _ ∧ _ ∧ _ ∧ True from ⟨(Vt.part_ix hfind hix).1, (Vt.part_ix hfind hix).2.1, (Vt.part_ix hfind hix).2.2.1, (Vt.part_ix hfind hix).2.2.2, trivial⟩)
  rw [hfind] at HFd
  rw [hpart] at h0 hpre
  have hchg : Vt.chg g (m + 1) S T = T.setL (T.find (S 0)).1.toNat (Vt.chg g m (fun t => S (t + 1)) (T.L (T.find (S 0)).1.toNat)) := by
    show (if (S 0).ix = true then _ else _) = _
    rw [hix]
    rfl
  rw [hchg]
  clear hchg
  generalize hI : (T.find (S 0)).1.toNat = i at *
  rw [hei] at HFd
  clear hei hpart hsh hfind hI
  -- the path's rest
  have hQ : Pth.In w n0 ⟨some ⟨b, o + 3, none⟩, m, c - 1, b, o + 3, fun t => S (t + 1)⟩ := by
    refine ⟨fun _ => ⟨rfl, hblt⟩, ⟨by dsimp only; omega, by dsimp only; omega, by dsimp only; omega⟩, fun t ht => ?_⟩
    have := hS (t + 1) (Nat.succ_lt_succ ht)
    rw [show o + (t + 1) * 3 = o + 3 + t * 3 by omega] at this
    exact this
  have hQ1 : Pth.In w n0 ⟨some ⟨b, o, none⟩, m, c - 1, b, o + 3, fun t => S (t + 1)⟩ ∨ 0 < m := by
    by_cases hm : 0 < m
    · exact .inr hm
    · exact .inl ⟨fun q => absurd q hm, hQ.2⟩
  cases T with
  | nil => exact hT.elim
  | mk h Y L K F =>
  dsimp only [Vt.h] at hkk hi
  rw [show (Vt.mk h Y L K F).h = h from rfl] at *
  have HREC : Hid (∀ (a1 : Addr) (w1 : World), (a1 = ⟨b, o + 3, none⟩ ∨ m = 0) → Below w.heap.size w w1 → Calls Tryd.prog 26 #[.agg (L i).h.cells, .slice (some a1) m (c - 1), .func (.func 28) #[] #[cp0, cp1]] w1 (FnOut (Vt.chg g m (fun t => S (t + 1)) (L i)) n0 w1)) := Lib.hid fun a1 w1 ha1 hb1 => by
    have hkin : (L i).In w n0 := (hT.2.2.2.2.1 i hi).2
    refine ih ⟨some a1, m, c - 1, b, o + 3, fun t => S (t + 1)⟩ (L i) w1 rfl (hw.trans (hb1.mono hn0w)) (hkin.below (hb1.mono hn0w)) (Pth.In.below ?_ (hb1.mono hn0w)) h0 hpre
    rcases ha1 with rfl | rfl
    · exact hQ
    · exact ⟨fun q => absurd q (Nat.lt_irrefl _), hQ.2⟩
  have hokh := hT.1
  have HT := Lib.hid hT
  have HW := Lib.hid (fun (w1 : World) (hb : Below w.heap.size w w1) => hT.below (hb.mono hn0w))
  clear ih hQ hQ1 hS ha hl0 hs0 hT0 hP0 h0 hpre hw hT
  obtain ⟨i0, hi0, hz0, hz1, hz2⟩ := info_parts Tryd.infoVal
  have i1 : (0 : Int) ≤ i := by omega
  have m1 : (m : Int) ≤ 1048576 := by omega
  have m0 : (0 : Int) ≤ m := by omega
  have HLrow := Lib.hid (fun (w1 : World) (hb : Below w.heap.size w w1) => fun j (hj : j < h.ln) => ((HW.out w1 hb).2.2.2.2.1 j hj).1)
  obtain ⟨e1, hlt⟩ := (HT.out.2.2.2.1 (show 0 < h.ln by omega))
  have hln := hokh.ln
  have hk := hokh.k
  have hk1 := hk.1
  have hk2 := hk.2
  have i2 : (i : Int) < h.ln := by omega
  have i3 : (h.ln : Int) ≤ 1048576 := by omega
  clear hk hkk hokh
  obtain ⟨k, b', n', dd, e, tk, td, tn, tz, x, ba, bn, bc, la, ln, lc, fa, fn, fc, bb, bo, lb, lo, fb, fo⟩ := h
  dsimp only at e1 hlt hln hk1 hk2 i2 i3 hi HLrow P
  subst e1
  generalize S 0 = s at *
  obtain ⟨ix, key, sn⟩ := s
  dsimp only at hix
  subst hix
  have hPlt := P.lt
  simp only [Vh.cells, Vh.zero] at hb0 Q HFd ⊢
  go_enter Tryd.func26, Tryd.ntmps26
  go_wp2_with fail
  have PA := Whole.c13 P
  dsimp only at PA
  obtain ⟨c0, c1, c2, c3, c4, c5, c6, c7, c8, c9, c10, c11, c12⟩ := PA
  obtain ⟨l0, l1, l2⟩ := (HLs.out _ hb0).s3
  simp only [Vh.cells, Vh.zero] at l0 l1 l2 c0 c1 c2 c3 c4 c5 c6 c7 c8 c9 c10 c11 c12
  clear c0 c1 c2 c3 c4 c5 c6 c7 c8 c9 c10 c11 c12 l0 l1 l2
  go_region_held3 (fun W => W.cell? ⟨w.heap.size, 0, none⟩ = some (.int .i64 k) ∧ W.cell? ⟨w.heap.size, 1, none⟩ = some (.bool b') ∧ W.cell? ⟨w.heap.size, 2, none⟩ = some (.bool n') ∧ W.cell? ⟨w.heap.size, 3, none⟩ = some (.string dd) ∧ W.cell? ⟨w.heap.size, 4, none⟩ = some (.int .i64 e) ∧ W.cell? ⟨w.heap.size, 5, none⟩ = some (.int .i64 tk) ∧ W.cell? ⟨w.heap.size, 6, none⟩ = some (.int .i64 td) ∧ W.cell? ⟨w.heap.size, 7, none⟩ = some (.int .i64 tn) ∧ W.cell? ⟨w.heap.size, 8, none⟩ = some (.int .i64 tz) ∧ W.cell? ⟨w.heap.size, 9, none⟩ = some (.string x) ∧ W.cell? ⟨w.heap.size, 10, none⟩ = some (.slice ba bn bc) ∧ W.cell? ⟨w.heap.size, 11, none⟩ = some (.slice (some ⟨lb, lo, none⟩) ln lc) ∧ W.cell? ⟨w.heap.size, 12, none⟩ = some (.slice fa fn fc) ∧ W.cell? ⟨b, o, none⟩ = some (.bool true) ∧ W.cell? ⟨b, o + 1, none⟩ = some (.string key) ∧ W.cell? ⟨b, o + 2, none⟩ = some (.int .i64 sn) ∧ Below w.heap.size w W) (first | exact v13_of (G := ⟨k, b', n', dd, e, tk, td, tn, tz, x, ba, bn, bc, some ⟨lb, lo, none⟩, ln, lc, fa, fn, fc, bb, bo, lb, lo, fb, fo⟩) (s := ⟨true, key, sn⟩) (Whole.drew P) (HLs.out _ (Below.drew hb0)) (Below.drew hb0) | exact v13_of (G := ⟨k, b', n', dd, e, tk, td, tn, tz, x, ba, bn, bc, some ⟨lb, lo, none⟩, ln, lc, fa, fn, fc, bb, bo, lb, lo, fb, fo⟩) (s := ⟨true, key, sn⟩) P1 (HLs.out _ g1) g1)
    (first
      | (go_at_call 24
         refine (HFd.out _ (Below.drew hb0)).mono ?_
         rintro _ w1 ⟨rfl, hb1⟩
         have P1 := Whole.below (Whole.drew P) hb1 hPlt
         have g1 := below_then (Below.drew hb0) hb1)
      | fail)
  have Q1 := Whole.below (Whole.drew Q) hb1 (Whole.lt Q)
  have c11 := Whole.cell P1 11
  obtain ⟨l0, l1, l2⟩ := (HLs.out _ g1).s3
  simp only [Vh.cells, List.getElem?_toArray, List.getElem?_cons_succ, List.getElem?_cons_zero] at c11
  have hq1 := Q1.lt
  clear hb0 hb1 P Q HFd
  have d1 : Hid (i0.bytes * ln ≤ 281474976710656) := Lib.hid (by rw [hz2]; omega)
  have d2 : Hid (ln ≤ maxLen) := Lib.hid (by unfold maxLen; omega)
  go_wp2_with (refine wpList_make_full _ rfl _ _ 27 rfl w1.heap.size 30 i0 (.agg Vh.zero.cells) 13 Tryd.underlying27 hi0 hz0 hz1 .i64 .i64 ln ln ln rfl rfl rfl rfl d1.out d2.out (Nat.le_refl _) ?_)
  intro w2 hown2 hgr2
  obtain ⟨cur, HG, hcs⟩ := made_whole hown2
  have b2 : Below w1.heap.size w1 w2 := ⟨hgr2.os, hgr2.tape, hgr2.output, hgr2.size, fun t ht => hgr2.block t ht (by simp)⟩
  have g2 := below_then g1 b2
  have P2 := Whole.below P1 b2 (Whole.lt P1)
  have Q2 := Q1.below b2 Q1.lt
  have c11 := Whole.cell P2 11
  obtain ⟨l0, l1, l2⟩ := (HLs.out _ g2).s3
  simp only [Vh.cells, List.getElem?_toArray, List.getElem?_cons_succ, List.getElem?_cons_zero] at c11
  obtain ⟨gg, hgg⟩ : ∃ gg, w1.heap.size = gg := ⟨_, rfl⟩
  have hgglt : gg < w2.heap.size := by rw [← hgg]; exact HG.lt
  have hg0 : w.heap.size + 1 < gg := by omega
  rw [hgg] at HG ⊢
  have e1' : Hid ((catN (fun j => (L j).h.cells) ln).length = Nat.min ln ln * 13) := Lib.hid (by rw [catN_len (fun j => vh_size (L j).h), show Nat.min ln ln = ln from Nat.min_self ln])
  have e2' := Lib.hid (fun (_ : 0 < (catN (fun j => (L j).h.cells) ln).length) => (⟨rfl, ⟨lb, lo, none⟩, rfl, rowL_src (fun j => vh_size (L j).h) (HLrow.out w2 g2)⟩ : (some (⟨gg, 0, none⟩ : Addr) = some ⟨gg, 0, none⟩ ∧ ∃ ad, some (⟨lb, lo, none⟩ : Addr) = some ad ∧ ∀ j v, (catN (fun j => (L j).h.cells) ln)[j]? = some v → w2.cell? (ad.add j) = some v)))
  have e3' : Hid (0 + (catN (fun j => (L j).h.cells) ln).length ≤ cur.size) := Lib.hid (by rw [catN_len (fun j => vh_size (L j).h), hcs]; omega)
  have e4' := Lib.hid (catN_one (fun j => vh_one (L j).h) ln)
  have HCs := Lib.hid hcs
  have HGh := Lib.hid HG
  clear hown2 hgr2 b2 hgg hcs g1 P1 Q1 hq1 d1 d2
  go_wp2_with (refine wpList_copy_wide _ rfl _ _ 27 27 rfl 30 13 Tryd.underlying27 vh_row (by decide) (some ⟨gg, 0, none⟩) (some ⟨lb, lo, none⟩) ln ln ln lc rfl rfl gg 0 cur 30 HGh.out (catN (fun j => (L j).h.cells) ln) e1'.out e2'.out e3'.out e4'.out ?_)
  obtain ⟨G3, hrow3⟩ := row_copied (fun j => vh_size (L j).h) HGh.out HCs.out
  have P3 := Whole.farRow (B' := gg) P2 (by omega) (spl cur 0 (catN (fun j => (L j).h.cells) ln))
  have Q3 := Q2.farRow (B' := gg) (by omega) (spl cur 0 (catN (fun j => (L j).h.cells) ln))
  have g3 := below_setRow g2 (show w.heap.size ≤ gg by omega) (spl cur 0 (catN (fun j => (L j).h.cells) ln))
  have hs3 : gg < (w2.setRow gg (spl cur 0 (catN (fun j => (L j).h.cells) ln))).heap.size := by rw [size_setRow]; exact hgglt
  have Hrow3 := Lib.hid hrow3
  have HGs : Hid ((catN (fun j => (L j).h.cells) ln).toArray.size = ln * 13) := Lib.hid (by simp [catN_len (fun j => vh_size (L j).h)])
  clear e1' e2' e3' e4' HCs HGh HG P2 Q2 g2 hgglt c11 l0 l1 l2 hrow3
  generalize w2.setRow gg (spl cur 0 (catN (fun j => (L j).h.cells) ln)) = w3 at *
  generalize (catN (fun j => (L j).h.cells) ln).toArray = C3 at *
  obtain ⟨s0, s1, s2, s3, s4, s5, s6, s7, s8, s9, s10, s11, s12⟩ := (Hrow3.out i hi).c13
  have hPQ : w.heap.size + 1 < w3.heap.size := Q3.lt
  go_wp2_with fail
  obtain ⟨a1, ha1, hsl⟩ := slice_rest (b := b) (o := o) hnc (by omega)
  have Ha1 := Lib.hid ha1
  clear ha1
  refine wp_region_held_drew (S := fun _ => True) (by kernel_rfl) trivial (fun _ => ?_)
  refine wpAnyH_take (i := 0) (v := ?v0) rfl (by kernel_rfl) (by kernel_rfl) (by kernel_rfl) (fun _ _ _ h => h) (Or.inl ⟨by rfl, ?hy0⟩) trivial ?rest0
  case hy0 => ((intro w hSw); go_simp; (try with_reducible rfl))
  case rest0 =>
  simp only [Act.put, List.getElem_toArray, List.getElem_cons_zero, List.setIfInBounds_toArray, List.set_cons_zero, List.set_cons_succ]
  refine wpAnyH_take (i := 1) (v := ?v1) rfl (by kernel_rfl) (by kernel_rfl) (by kernel_rfl) (fun _ _ _ h => h) (Or.inl ⟨by rfl, ?hy1⟩) trivial ?rest1
  case hy1 => ((intro w hSw); go_simp; (try with_reducible rfl))
  case rest1 =>
  simp only [Act.put, List.getElem_toArray, List.getElem_cons_zero, List.getElem_cons_succ, List.setIfInBounds_toArray, List.set_cons_zero, List.set_cons_succ]
  refine wpAnyH_take (i := 2) (v := ?v2) rfl (by kernel_rfl) (by kernel_rfl) (by kernel_rfl) (fun _ _ _ h => h) (Or.inl ⟨by rfl, ?hy2⟩) trivial ?rest2
  case hy2 => ((intro w hSw); go_simp; (try with_reducible rfl))
  case rest2 =>
  simp only [Act.put, List.getElem_toArray, List.getElem_cons_zero, List.getElem_cons_succ, List.setIfInBounds_toArray, List.set_cons_zero, List.set_cons_succ]
  refine wpAnyH_take (i := 3) (v := ?v3) rfl (by kernel_rfl) (by kernel_rfl) (by kernel_rfl) (fun _ _ _ h => h) (Or.inl ⟨by rfl, ?hy3⟩) trivial ?rest3
  case hy3 => ((intro w hSw); go_simp; (try with_reducible rfl))
  case rest3 =>
  simp only [Act.put, List.getElem_toArray, List.getElem_cons_zero, List.getElem_cons_succ, List.setIfInBounds_toArray, List.set_cons_zero, List.set_cons_succ]
  refine wpAnyH_take (i := 4) (v := ?v4) rfl (by kernel_rfl) (by kernel_rfl) (by kernel_rfl) (fun _ _ _ h => h) (Or.inl ⟨by rfl, ?hy4⟩) trivial ?rest4
  case hy4 => ((intro w hSw); go_simp; (try with_reducible rfl))
  case rest4 =>
  simp only [Act.put, List.getElem_toArray, List.getElem_cons_zero, List.getElem_cons_succ, List.setIfInBounds_toArray, List.set_cons_zero, List.set_cons_succ]
  refine wpAnyH_take (i := 6) (v := ?v6) rfl (by kernel_rfl) (by kernel_rfl) (by kernel_rfl) (fun _ _ _ h => h) (Or.inl ⟨by rfl, ?hy6⟩) trivial ?rest6
  case hy6 => ((intro w hSw); go_simp; (try with_reducible rfl))
  case rest6 =>
  simp only [Act.put, List.getElem_toArray, List.getElem_cons_zero, List.getElem_cons_succ, List.setIfInBounds_toArray, List.set_cons_zero, List.set_cons_succ]
  refine wpAnyH_take (i := 7) (v := ?v7) rfl (by kernel_rfl) (by kernel_rfl) (by kernel_rfl) (fun _ _ _ h => h) (Or.inl ⟨by rfl, ?hy7⟩) trivial ?rest7
  case hy7 => ((intro w hSw); go_simp; (try with_reducible rfl))
  case rest7 =>
  simp only [Act.put, List.getElem_toArray, List.getElem_cons_zero, List.getElem_cons_succ, List.setIfInBounds_toArray, List.set_cons_zero, List.set_cons_succ]
  refine wpAnyH_take (i := 8) (v := ?v8) rfl (by kernel_rfl) (by kernel_rfl) (by kernel_rfl) (fun _ _ _ h => h) (Or.inl ⟨by rfl, ?hy8⟩) trivial ?rest8
  case hy8 => ((intro w hSw); go_simp; (try with_reducible rfl))
  case rest8 =>
  simp only [Act.put, List.getElem_toArray, List.getElem_cons_zero, List.getElem_cons_succ, List.setIfInBounds_toArray, List.set_cons_zero, List.set_cons_succ]
  clear hsl
  refine wpAnyH_ready (rs := [5]) (by kernel_rfl) (by simp) ?_
  refine AllReadyH.cons rfl (fun K hK => ?_) AllReadyH.nil
  go_simp
  refine hK.out _ _ trivial (fun _ => ?_)
  clear hK K
  try simp only [Act.put, List.getElem_toArray, List.getElem_cons_zero, List.getElem_cons_succ, List.setIfInBounds_toArray, List.set_cons_zero, List.set_cons_succ]
  refine wpAnyH_ready (rs := [9]) (by kernel_rfl) (by simp) ?_
  refine AllReadyH.cons rfl (fun K hK => ?_) AllReadyH.nil
  go_simp
  go_at_call 26
  refine (HREC.out a1 _ Ha1.out (Below.drew g3)).mono ?_
  rintro _ w4 ⟨X, rfl, hX, hXo, hXs, hb4⟩
  refine hK.out _ _ trivial (fun _ => ?_)
  clear hK K
  try simp only [Act.put, List.getElem_toArray, List.getElem_cons_zero, List.getElem_cons_succ, List.setIfInBounds_toArray, List.set_cons_zero, List.set_cons_succ]
  have g4 := below_then (Below.drew g3) hb4
  have G4 := Whole.below (Whole.drew G3) hb4 hs3
  have hrow4 := Lib.hid (fun j (hj : j < ln) => ((Hrow3.out j hj).below (Below.refl w3.heap.size w3).drew hs3).below hb4 hs3)
  have hfit : i * 13 + 13 ≤ C3.size := by
    have h1 := HGs.out
    have h2 : (i + 1) * 13 ≤ ln * 13 := Nat.mul_le_mul_right 13 hi
    omega
  have HTh := Lib.hid (whole_there G4 hfit)
  refine wpAnyH_take (i := 10) (v := ?v10) rfl (by kernel_rfl) (by kernel_rfl) (by kernel_rfl) (fun _ _ _ h => h) (Or.inl ⟨by rfl, ?hy10⟩) trivial ?rest10
  case hy10 => ((intro w hSw); go_simp; (try with_reducible rfl))
  case rest10 =>
  simp only [Act.put, List.getElem_toArray, List.getElem_cons_zero, List.getElem_cons_succ, List.setIfInBounds_toArray, List.set_cons_zero, List.set_cons_succ]
  refine wpAnyH_ready (rs := [11]) (by kernel_rfl) (by simp) ?_
  refine AllReadyH.cons rfl (fun K hK => ?_) AllReadyH.nil
  rw [if_pos (by rfl)]
  refine wp_store_mid 30 _ _ rfl gg (i * 13) X.h.cells rfl rfl HTh.out vh_row (vh_all X.h) ?_
  refine hK.out _ _ trivial (fun _ => ?_)
  clear hK K
  simp only [Act.put]
  refine wpAnyH_done (by kernel_rfl) ?_ _
  have hrow5 := Lib.hid (row_set (fun j => vh_size (L j).h) (vh_size X.h) hi G4 (by have := HGs.out; omega) hrow4.out)
  have P4 := Whole.below (Whole.drew P3) hb4 (show w.heap.size < w3.heap.size by omega)
  have Q4 := Whole.below (Whole.drew Q3) hb4 hPQ
  have P5 : Whole (w4.setCells gg (i * 13) X.h.cells.toList) w.heap.size 30 _ := (heap_setCells (by omega) X.h.cells.toList w4 (i * 13)).trans P4
  have Q5 : Whole (w4.setCells gg (i * 13) X.h.cells.toList) (w.heap.size + 1) 30 _ := (heap_setCells (by omega) X.h.cells.toList w4 (i * 13)).trans Q4
  have g5 := below_setCells (show w.heap.size ≤ gg by omega) X.h.cells.toList (i * 13) g4
  have h5 := Lib.hid (fun t (ht : t ≠ gg) => heap_setCells ht X.h.cells.toList w4 (i * 13))
  have z5 := Lib.hid (size_setCells (g := gg) X.h.cells.toList w4 (i * 13))
  have hz4 : Hid (w3.heap.size ≤ w4.heap.size) := Lib.hid hb4.size
  have HX := Lib.hid hX
  have HXo := Lib.hid hXo
  have HXs := Lib.hid hXs
  clear P3 Q3 P4 Q4 G3 G4 g3 g4 hb4 hrow4 HTh hfit HGs hX hXo hXs Hrow3 HREC
  generalize w4.setCells gg (i * 13) X.h.cells.toList = w5 at *
  have c11 := Whole.cell P5 11
  have f11 := Whole.frozen P5 11
  simp only [Vh.cells, List.getElem?_toArray, List.getElem?_cons_succ, List.getElem?_cons_zero] at c11
  go_upto_region 9 with (fail)
  have P6 : Whole (w5.setCell ⟨w.heap.size, 11, none⟩ (.slice (some ⟨gg, 0, none⟩) ln ln)) w.heap.size 30 (Vh.cells ⟨k, b', n', dd, e, tk, td, tn, tz, x, ba, bn, bc, some ⟨gg, 0, none⟩, ln, ln, fa, fn, fc, 0, 0, 0, 0, 0, 0⟩) := Whole.set P5 11 (.slice (some ⟨gg, 0, none⟩) ln ln)
  have Q6 := Whole.far (p := ⟨w.heap.size, 11, none⟩) Q5 (by simp) (.slice (some ⟨gg, 0, none⟩) ln ln)
  have g6 := g5.setCell (p := ⟨w.heap.size, 11, none⟩) (Nat.le_refl _) (.slice (some ⟨gg, 0, none⟩) ln ln)
  have h6 : Hid (∀ t, t ≠ w.heap.size → (w5.setCell ⟨w.heap.size, 11, none⟩ (.slice (some ⟨gg, 0, none⟩) ln ln)).heap[t]? = w5.heap[t]?) := Lib.hid fun t ht => Below.heap_setCell _ _ _ _ (by simpa using ht)
  have z6 : Hid ((w5.setCell ⟨w.heap.size, 11, none⟩ (.slice (some ⟨gg, 0, none⟩) ln ln)).heap.size = w5.heap.size) := Lib.hid (by simp)
  clear P5 Q5 c11 f11 g5
  generalize w5.setCell ⟨w.heap.size, 11, none⟩ (.slice (some ⟨gg, 0, none⟩) ln ln) = w6 at *
  obtain ⟨c0, c1, c2, c3, c4, c5, c6, c7, c8, c9, c10, c11, c12⟩ := Whole.c13 P6
  dsimp only at c0 c1 c2 c3 c4 c5 c6 c7 c8 c9 c10 c11 c12
  have hone := Lib.hid (vh_all ⟨k, b', n', dd, e, tk, td, tn, tz, x, ba, bn, bc, some ⟨gg, 0, none⟩, ln, ln, fa, fn, fc, 0, 0, 0, 0, 0, 0⟩)
  go_wp2_with (refine wpList_store_row rfl 30 _ _ rfl (w.heap.size + 1) (Vh.cells ⟨k, b', n', dd, e, tk, td, tn, tz, x, ba, bn, bc, some ⟨gg, 0, none⟩, ln, ln, fa, fn, fc, 0, 0, 0, 0, 0, 0⟩) rfl rfl 30 _ Q6 vh_row rfl hone.out ?_)
  have Q7 := Whole.setRow Q6 (Vh.cells ⟨k, b', n', dd, e, tk, td, tn, tz, x, ba, bn, bc, some ⟨gg, 0, none⟩, ln, ln, fa, fn, fc, 0, 0, 0, 0, 0, 0⟩)
  have g7 := below_setRow g6 (Nat.le_succ _) (Vh.cells ⟨k, b', n', dd, e, tk, td, tn, tz, x, ba, bn, bc, some ⟨gg, 0, none⟩, ln, ln, fa, fn, fc, 0, 0, 0, 0, 0, 0⟩)
  have h7 : ∀ t, t ≠ w.heap.size + 1 → (w6.setRow (w.heap.size + 1) (Vh.cells ⟨k, b', n', dd, e, tk, td, tn, tz, x, ba, bn, bc, some ⟨gg, 0, none⟩, ln, ln, fa, fn, fc, 0, 0, 0, 0, 0, 0⟩)).heap[t]? = w6.heap[t]? := fun t ht => setRow_other _ _ _ _ ht
  have z7 : (w6.setRow (w.heap.size + 1) (Vh.cells ⟨k, b', n', dd, e, tk, td, tn, tz, x, ba, bn, bc, some ⟨gg, 0, none⟩, ln, ln, fa, fn, fc, 0, 0, 0, 0, 0, 0⟩)).heap.size = w6.heap.size := size_setRow _ _ _
  clear c0 c1 c2 c3 c4 c5 c6 c7 c8 c9 c10 c11 c12 P6 Q6 g6
  generalize w6.setRow (w.heap.size + 1) (Vh.cells ⟨k, b', n', dd, e, tk, td, tn, tz, x, ba, bn, bc, some ⟨gg, 0, none⟩, ln, ln, fa, fn, fc, 0, 0, 0, 0, 0, 0⟩) = w7 at *
  have Z5 := z5.out
  have Z6 := z6.out
  have Z4 := hz4.out
  have hT7 : ∀ t, t ≠ w.heap.size → t ≠ w.heap.size + 1 → w7.heap[t]? = w5.heap[t]? := fun t h1 h2 => (h7 t h2).trans (h6.out t h1)
  refine bodyPost_ret (v := .agg #[.int .i64 k, .bool b', .bool n', .string dd, .int .i64 e, .int .i64 tk, .int .i64 td, .int .i64 tn, .int .i64 tz, .string x, .slice ba bn bc, .slice (some ⟨gg, 0, none⟩) ln ln, .slice fa fn fc]) (ret_val (p := 6) rfl rfl Q7) rfl (chgL_end HT.out g7 hn0w (by omega) (by omega) (fun j hj => ?_) ?_ (HXo.out.mono fun b hb => ?_) HXs.out)
  · intro t ht
    exact (World.cell?_of_block (a := ⟨gg, j * 13 + t, none⟩) (hT7 gg (by omega) (by omega))).trans (hrow5.out j hj t ht)
  · refine HX.out.through HXo.out (fun b hb => ?_) (by omega)
    have hb' : b < n0 ∨ w3.heap.size ≤ b := hb
    exact (hT7 b (by omega) (by omega)).trans (h5.out b (by omega))
  · have hb' : b < n0 ∨ w3.heap.size ≤ b := hb
    omega

set_option maxHeartbeats 8000000 in
set_option maxRecDepth 100000 in
theorem stepF {cp0 cp1 : Value} {g : Vt → Vt} {pre : Vt → Prop} {W0 : World} {n0 m : Nat} (hn0 : n0 ≤ W0.heap.size) (ih : ChgIs 28 #[cp0, cp1] g pre W0 n0 m) {c b o : Nat} {S : Nat → Stp} {T : Vt} {w : World} (hw : Below n0 W0 w) (hT : T.In w n0) (hP : Pth.In w n0 ⟨some ⟨b, o, none⟩, m + 1, c, b, o, S⟩) (h0 : (T.atN S (m + 1)).2 = 0) (hpre : pre (T.atN S (m + 1)).1) (hix : (S 0).ix = false) :
    Calls Tryd.prog 26 #[.agg T.h.cells, .slice (some ⟨b, o, none⟩) (m + 1) c, .func (.func 28) #[] #[cp0, cp1]] w (FnOut (Vt.chg g (m + 1) S T) n0 w) := by
  have hsw := hw.size
  have hb0 := ((Below.refl w.heap.size w).alloc (Nat.le_refl _) (.cells T.h.cells 30)).alloc (by simp) (.cells Vh.zero.cells 30)
  have P := (Whole.new w 30 T.h.cells).alloc (.cells Vh.zero.cells 30)
  have Q := Whole.new (w.alloc (.cells T.h.cells 30)) 30 Vh.zero.cells
  rw [World.size_alloc] at Q
  have hT0 := hT
  have hP0 := hP
  obtain ⟨ha, ⟨hn1, hnc, hcm⟩, hS⟩ := hP
  dsimp only at ha hn1 hnc hcm hS
  have hblt := (ha (Nat.succ_pos m)).2
  obtain ⟨hl0, hs0⟩ := hS 0 (Nat.succ_pos m)
  rw [Nat.zero_mul, Nat.add_zero] at hl0
  have hfind : (T.find (S 0)).2 = 0 := Vt.atN_find h0 (Nat.succ_pos m)
  have hsh := Vt.atN_shift hfind m
  rw [hsh] at h0 hpre
  have hn0w := Nat.le_trans hn0 hsw
  have HLs := Lib.hid (fun (w1 : World) (hb : Below w.heap.size w w1) => hl0.below (hb.mono hn0w) hblt)
  have HFd := Lib.hid (fun (w1 : World) (hb : Below w.heap.size w w1) => find_any (T := T) (s := S 0) (Vt.In.below (hb.mono hn0w) hT) (Nat.le_trans hn0w hb.size) hs0.n)
  obtain ⟨hpart, hkk, hi, hei, -⟩ := (show _ ∧ _ ∧ _ ∧ _ ∧ True from ⟨(Vt.part_key hfind hix).1, (Vt.part_key hfind hix).2.1, (Vt.part_key hfind hix).2.2.1, (Vt.part_key hfind hix).2.2.2.1, trivial⟩)
  rw [hfind] at HFd
  rw [hpart] at h0 hpre
  have hchg : Vt.chg g (m + 1) S T = T.setF (T.find (S 0)).1.toNat (Vt.chg g m (fun t => S (t + 1)) (T.F (T.find (S 0)).1.toNat)) := by
    show (if (S 0).ix = true then _ else _) = _
    rw [hix]
    rfl
  rw [hchg]
  clear hchg
  generalize hI : (T.find (S 0)).1.toNat = i at *
  rw [hei] at HFd
  clear hei hpart hsh hfind hI
  -- the path's rest
  have hQ : Pth.In w n0 ⟨some ⟨b, o + 3, none⟩, m, c - 1, b, o + 3, fun t => S (t + 1)⟩ := by
    refine ⟨fun _ => ⟨rfl, hblt⟩, ⟨by dsimp only; omega, by dsimp only; omega, by dsimp only; omega⟩, fun t ht => ?_⟩
    have := hS (t + 1) (Nat.succ_lt_succ ht)
    rw [show o + (t + 1) * 3 = o + 3 + t * 3 by omega] at this
    exact this
  have hQ1 : Pth.In w n0 ⟨some ⟨b, o, none⟩, m, c - 1, b, o + 3, fun t => S (t + 1)⟩ ∨ 0 < m := by
    by_cases hm : 0 < m
    · exact .inr hm
    · exact .inl ⟨fun q => absurd q hm, hQ.2⟩
  cases T with
  | nil => exact hT.elim
  | mk h Y L K F =>
  dsimp only [Vt.h] at hkk hi
  rw [show (Vt.mk h Y L K F).h = h from rfl] at *
  have HREC : Hid (∀ (a1 : Addr) (w1 : World), (a1 = ⟨b, o + 3, none⟩ ∨ m = 0) → Below w.heap.size w w1 → Calls Tryd.prog 26 #[.agg (F i).h.cells, .slice (some a1) m (c - 1), .func (.func 28) #[] #[cp0, cp1]] w1 (FnOut (Vt.chg g m (fun t => S (t + 1)) (F i)) n0 w1)) := Lib.hid fun a1 w1 ha1 hb1 => by
    have hkin : (F i).In w n0 := (hT.2.2.2.2.2.2 i hi).2.2.2
    refine ih ⟨some a1, m, c - 1, b, o + 3, fun t => S (t + 1)⟩ (F i) w1 rfl (hw.trans (hb1.mono hn0w)) (hkin.below (hb1.mono hn0w)) (Pth.In.below ?_ (hb1.mono hn0w)) h0 hpre
    rcases ha1 with rfl | rfl
    · exact hQ
    · exact ⟨fun q => absurd q (Nat.lt_irrefl _), hQ.2⟩
  have hokh := hT.1
  have HT := Lib.hid hT
  have HW := Lib.hid (fun (w1 : World) (hb : Below w.heap.size w w1) => hT.below (hb.mono hn0w))
  clear ih hQ hQ1 hS ha hl0 hs0 hT0 hP0 h0 hpre hw hT
  obtain ⟨i0, hi0, hz0, hz1, hz2⟩ := info_parts Tryd.infoFld
  have i1 : (0 : Int) ≤ i := by omega
  have m1 : (m : Int) ≤ 1048576 := by omega
  have m0 : (0 : Int) ≤ m := by omega
  have HLrow := Lib.hid (fun (w1 : World) (hb : Below w.heap.size w w1) => fun j (hj : j < h.fn) => lies_fcs ((HW.out w1 hb).2.2.2.2.2.2 j hj).1 ((HW.out w1 hb).2.2.2.2.2.2 j hj).2.2.1)
  obtain ⟨e1, hlt⟩ := (HT.out.2.2.2.2.2.1 (show 0 < h.fn by omega))
  have hln := hokh.fn
  have hk := hokh.k
  have hk1 := hk.1
  have hk2 := hk.2
  have i2 : (i : Int) < h.fn := by omega
  have i3 : (h.fn : Int) ≤ 1048576 := by omega
  clear hk hkk hokh
  obtain ⟨k, b', n', dd, e, tk, td, tn, tz, x, ba, bn, bc, la, ln, lc, fa, fn, fc, bb, bo, lb, lo, fb, fo⟩ := h
  dsimp only at e1 hlt hln hk1 hk2 i2 i3 hi HLrow P
  subst e1
  generalize S 0 = s at *
  obtain ⟨ix, key, sn⟩ := s
  dsimp only at hix
  subst hix
  have hPlt := P.lt
  simp only [Vh.cells, Vh.zero] at hb0 Q HFd ⊢
  go_enter Tryd.func26, Tryd.ntmps26
  go_wp2_with fail
  have PA := Whole.c13 P
  dsimp only at PA
  obtain ⟨c0, c1, c2, c3, c4, c5, c6, c7, c8, c9, c10, c11, c12⟩ := PA
  obtain ⟨l0, l1, l2⟩ := (HLs.out _ hb0).s3
  simp only [Vh.cells, Vh.zero] at l0 l1 l2 c0 c1 c2 c3 c4 c5 c6 c7 c8 c9 c10 c11 c12
  clear c0 c1 c2 c3 c4 c5 c6 c7 c8 c9 c10 c11 c12 l0 l1 l2
  go_region_held3 (fun W => W.cell? ⟨w.heap.size, 0, none⟩ = some (.int .i64 k) ∧ W.cell? ⟨w.heap.size, 1, none⟩ = some (.bool b') ∧ W.cell? ⟨w.heap.size, 2, none⟩ = some (.bool n') ∧ W.cell? ⟨w.heap.size, 3, none⟩ = some (.string dd) ∧ W.cell? ⟨w.heap.size, 4, none⟩ = some (.int .i64 e) ∧ W.cell? ⟨w.heap.size, 5, none⟩ = some (.int .i64 tk) ∧ W.cell? ⟨w.heap.size, 6, none⟩ = some (.int .i64 td) ∧ W.cell? ⟨w.heap.size, 7, none⟩ = some (.int .i64 tn) ∧ W.cell? ⟨w.heap.size, 8, none⟩ = some (.int .i64 tz) ∧ W.cell? ⟨w.heap.size, 9, none⟩ = some (.string x) ∧ W.cell? ⟨w.heap.size, 10, none⟩ = some (.slice ba bn bc) ∧ W.cell? ⟨w.heap.size, 11, none⟩ = some (.slice la ln lc) ∧ W.cell? ⟨w.heap.size, 12, none⟩ = some (.slice (some ⟨fb, fo, none⟩) fn fc) ∧ W.cell? ⟨b, o, none⟩ = some (.bool false) ∧ W.cell? ⟨b, o + 1, none⟩ = some (.string key) ∧ W.cell? ⟨b, o + 2, none⟩ = some (.int .i64 sn) ∧ Below w.heap.size w W) (first | exact v13_of (G := ⟨k, b', n', dd, e, tk, td, tn, tz, x, ba, bn, bc, la, ln, lc, some ⟨fb, fo, none⟩, fn, fc, bb, bo, lb, lo, fb, fo⟩) (s := ⟨false, key, sn⟩) (Whole.drew P) (HLs.out _ (Below.drew hb0)) (Below.drew hb0) | exact v13_of (G := ⟨k, b', n', dd, e, tk, td, tn, tz, x, ba, bn, bc, la, ln, lc, some ⟨fb, fo, none⟩, fn, fc, bb, bo, lb, lo, fb, fo⟩) (s := ⟨false, key, sn⟩) P1 (HLs.out _ g1) g1)
    (first
      | (go_at_call 24
         refine (HFd.out _ (Below.drew hb0)).mono ?_
         rintro _ w1 ⟨rfl, hb1⟩
         have P1 := Whole.below (Whole.drew P) hb1 hPlt
         have g1 := below_then (Below.drew hb0) hb1)
      | fail)
  have Q1 := Whole.below (Whole.drew Q) hb1 (Whole.lt Q)
  have c11 := Whole.cell P1 12
  obtain ⟨l0, l1, l2⟩ := (HLs.out _ g1).s3
  simp only [Vh.cells, List.getElem?_toArray, List.getElem?_cons_succ, List.getElem?_cons_zero] at c11
  have hq1 := Q1.lt
  clear hb0 hb1 P Q HFd
  have d1 : Hid (i0.bytes * fn ≤ 281474976710656) := Lib.hid (by rw [hz2]; omega)
  have d2 : Hid (fn ≤ maxLen) := Lib.hid (by unfold maxLen; omega)
  go_wp2_with (refine wpList_make_full _ rfl _ _ 28 rfl w1.heap.size 61 i0 (.agg (#[.string ⟨#[]⟩] ++ Vh.zero.cells)) 14 Tryd.underlying28 hi0 hz0 hz1 .i64 .i64 fn fn fn rfl rfl rfl rfl d1.out d2.out (Nat.le_refl _) ?_)
  intro w2 hown2 hgr2
  obtain ⟨cur, HG, hcs⟩ := made_whole hown2
  have b2 : Below w1.heap.size w1 w2 := ⟨hgr2.os, hgr2.tape, hgr2.output, hgr2.size, fun t ht => hgr2.block t ht (by simp)⟩
  have g2 := below_then g1 b2
  have P2 := Whole.below P1 b2 (Whole.lt P1)
  have Q2 := Q1.below b2 Q1.lt
  have c11 := Whole.cell P2 12
  obtain ⟨l0, l1, l2⟩ := (HLs.out _ g2).s3
  simp only [Vh.cells, List.getElem?_toArray, List.getElem?_cons_succ, List.getElem?_cons_zero] at c11
  obtain ⟨gg, hgg⟩ : ∃ gg, w1.heap.size = gg := ⟨_, rfl⟩
  have hgglt : gg < w2.heap.size := by rw [← hgg]; exact HG.lt
  have hg0 : w.heap.size + 1 < gg := by omega
  rw [hgg] at HG ⊢
  have e1' : Hid ((catN (fun j => fcs (K j, F j)) fn).length = Nat.min fn fn * 14) := Lib.hid (by rw [catN_len (fun j => fcs_size (K j, F j)), show Nat.min fn fn = fn from Nat.min_self fn])
  have e2' := Lib.hid (fun (_ : 0 < (catN (fun j => fcs (K j, F j)) fn).length) => (⟨rfl, ⟨fb, fo, none⟩, rfl, rowL_src (fun j => fcs_size (K j, F j)) (HLrow.out w2 g2)⟩ : (some (⟨gg, 0, none⟩ : Addr) = some ⟨gg, 0, none⟩ ∧ ∃ ad, some (⟨fb, fo, none⟩ : Addr) = some ad ∧ ∀ j v, (catN (fun j => fcs (K j, F j)) fn)[j]? = some v → w2.cell? (ad.add j) = some v)))
  have e3' : Hid (0 + (catN (fun j => fcs (K j, F j)) fn).length ≤ cur.size) := Lib.hid (by rw [catN_len (fun j => fcs_size (K j, F j)), hcs]; omega)
  have e4' := Lib.hid (catN_one (fun j => fcs_one (K j, F j)) fn)
  have HCs := Lib.hid hcs
  have HGh := Lib.hid HG
  clear hown2 hgr2 b2 hgg hcs g1 P1 Q1 hq1 d1 d2
  go_wp2_with (refine wpList_copy_wide _ rfl _ _ 28 28 rfl 61 14 Tryd.underlying28 fld_row (by decide) (some ⟨gg, 0, none⟩) (some ⟨fb, fo, none⟩) fn fn fn fc rfl rfl gg 0 cur 61 HGh.out (catN (fun j => fcs (K j, F j)) fn) e1'.out e2'.out e3'.out e4'.out ?_)
  obtain ⟨G3, hrow3⟩ := row_copied (fun j => fcs_size (K j, F j)) HGh.out HCs.out
  have P3 := Whole.farRow (B' := gg) P2 (by omega) (spl cur 0 (catN (fun j => fcs (K j, F j)) fn))
  have Q3 := Q2.farRow (B' := gg) (by omega) (spl cur 0 (catN (fun j => fcs (K j, F j)) fn))
  have g3 := below_setRow g2 (show w.heap.size ≤ gg by omega) (spl cur 0 (catN (fun j => fcs (K j, F j)) fn))
  have hs3 : gg < (w2.setRow gg (spl cur 0 (catN (fun j => fcs (K j, F j)) fn))).heap.size := by rw [size_setRow]; exact hgglt
  have Hrow3 := Lib.hid hrow3
  have HGs : Hid ((catN (fun j => fcs (K j, F j)) fn).toArray.size = fn * 14) := Lib.hid (by simp [catN_len (fun j => fcs_size (K j, F j))])
  clear e1' e2' e3' e4' HCs HGh HG P2 Q2 g2 hgglt c11 l0 l1 l2 hrow3
  generalize w2.setRow gg (spl cur 0 (catN (fun j => fcs (K j, F j)) fn)) = w3 at *
  generalize (catN (fun j => fcs (K j, F j)) fn).toArray = C3 at *
  obtain ⟨s0, s1, s2, s3, s4, s5, s6, s7, s8, s9, s10, s11, s12⟩ := (Hrow3.out i hi).fcs.2.c13
  have hPQ : w.heap.size + 1 < w3.heap.size := Q3.lt
  go_wp2_with fail
  obtain ⟨a1, ha1, hsl⟩ := slice_rest (b := b) (o := o) hnc (by omega)
  have Ha1 := Lib.hid ha1
  clear ha1
  refine wp_region_held_drew (S := fun _ => True) (by kernel_rfl) trivial (fun _ => ?_)
  refine wpAnyH_take (i := 0) (v := ?v0) rfl (by kernel_rfl) (by kernel_rfl) (by kernel_rfl) (fun _ _ _ h => h) (Or.inl ⟨by rfl, ?hy0⟩) trivial ?rest0
  case hy0 => ((intro w hSw); go_simp; (try with_reducible rfl))
  case rest0 =>
  simp only [Act.put, List.getElem_toArray, List.getElem_cons_zero, List.setIfInBounds_toArray, List.set_cons_zero, List.set_cons_succ]
  refine wpAnyH_take (i := 1) (v := ?v1) rfl (by kernel_rfl) (by kernel_rfl) (by kernel_rfl) (fun _ _ _ h => h) (Or.inl ⟨by rfl, ?hy1⟩) trivial ?rest1
  case hy1 => ((intro w hSw); go_simp; (try with_reducible rfl))
  case rest1 =>
  simp only [Act.put, List.getElem_toArray, List.getElem_cons_zero, List.getElem_cons_succ, List.setIfInBounds_toArray, List.set_cons_zero, List.set_cons_succ]
  refine wpAnyH_take (i := 2) (v := ?v2) rfl (by kernel_rfl) (by kernel_rfl) (by kernel_rfl) (fun _ _ _ h => h) (Or.inl ⟨by rfl, ?hy2⟩) trivial ?rest2
  case hy2 => ((intro w hSw); go_simp; (try with_reducible rfl))
  case rest2 =>
  simp only [Act.put, List.getElem_toArray, List.getElem_cons_zero, List.getElem_cons_succ, List.setIfInBounds_toArray, List.set_cons_zero, List.set_cons_succ]
  refine wpAnyH_take (i := 3) (v := ?v3) rfl (by kernel_rfl) (by kernel_rfl) (by kernel_rfl) (fun _ _ _ h => h) (Or.inl ⟨by rfl, ?hy3⟩) trivial ?rest3
  case hy3 => ((intro w hSw); go_simp; (try with_reducible rfl))
  case rest3 =>
  simp only [Act.put, List.getElem_toArray, List.getElem_cons_zero, List.getElem_cons_succ, List.setIfInBounds_toArray, List.set_cons_zero, List.set_cons_succ]
  refine wpAnyH_take (i := 4) (v := ?v4) rfl (by kernel_rfl) (by kernel_rfl) (by kernel_rfl) (fun _ _ _ h => h) (Or.inl ⟨by rfl, ?hy4⟩) trivial ?rest4
  case hy4 => ((intro w hSw); go_simp; (try with_reducible rfl))
  case rest4 =>
  simp only [Act.put, List.getElem_toArray, List.getElem_cons_zero, List.getElem_cons_succ, List.setIfInBounds_toArray, List.set_cons_zero, List.set_cons_succ]
  refine wpAnyH_take (i := 5) (v := ?v5) rfl (by kernel_rfl) (by kernel_rfl) (by kernel_rfl) (fun _ _ _ h => h) (Or.inl ⟨by rfl, ?hy5⟩) trivial ?rest5
  case hy5 => ((intro w hSw); go_simp; (try with_reducible rfl))
  case rest5 =>
  simp only [Act.put, List.getElem_toArray, List.getElem_cons_zero, List.getElem_cons_succ, List.setIfInBounds_toArray, List.set_cons_zero, List.set_cons_succ]
  refine wpAnyH_take (i := 7) (v := ?v7) rfl (by kernel_rfl) (by kernel_rfl) (by kernel_rfl) (fun _ _ _ h => h) (Or.inl ⟨by rfl, ?hy7⟩) trivial ?rest7
  case hy7 => ((intro w hSw); go_simp; (try with_reducible rfl))
  case rest7 =>
  simp only [Act.put, List.getElem_toArray, List.getElem_cons_zero, List.getElem_cons_succ, List.setIfInBounds_toArray, List.set_cons_zero, List.set_cons_succ]
  refine wpAnyH_take (i := 8) (v := ?v8) rfl (by kernel_rfl) (by kernel_rfl) (by kernel_rfl) (fun _ _ _ h => h) (Or.inl ⟨by rfl, ?hy8⟩) trivial ?rest8
  case hy8 => ((intro w hSw); go_simp; (try with_reducible rfl))
  case rest8 =>
  simp only [Act.put, List.getElem_toArray, List.getElem_cons_zero, List.getElem_cons_succ, List.setIfInBounds_toArray, List.set_cons_zero, List.set_cons_succ]
  refine wpAnyH_take (i := 9) (v := ?v9) rfl (by kernel_rfl) (by kernel_rfl) (by kernel_rfl) (fun _ _ _ h => h) (Or.inl ⟨by rfl, ?hy9⟩) trivial ?rest9
  case hy9 => ((intro w hSw); go_simp; (try with_reducible rfl))
  case rest9 =>
  simp only [Act.put, List.getElem_toArray, List.getElem_cons_zero, List.getElem_cons_succ, List.setIfInBounds_toArray, List.set_cons_zero, List.set_cons_succ]
  clear hsl
  refine wpAnyH_ready (rs := [6]) (by kernel_rfl) (by simp) ?_
  refine AllReadyH.cons rfl (fun K hK => ?_) AllReadyH.nil
  go_simp
  refine hK.out _ _ trivial (fun _ => ?_)
  clear hK K
  try simp only [Act.put, List.getElem_toArray, List.getElem_cons_zero, List.getElem_cons_succ, List.setIfInBounds_toArray, List.set_cons_zero, List.set_cons_succ]
  refine wpAnyH_ready (rs := [10]) (by kernel_rfl) (by simp) ?_
  refine AllReadyH.cons rfl (fun K hK => ?_) AllReadyH.nil
  go_simp
  go_at_call 26
  refine (HREC.out a1 _ Ha1.out (Below.drew g3)).mono ?_
  rintro _ w4 ⟨X, rfl, hX, hXo, hXs, hb4⟩
  refine hK.out _ _ trivial (fun _ => ?_)
  clear hK K
  try simp only [Act.put, List.getElem_toArray, List.getElem_cons_zero, List.getElem_cons_succ, List.setIfInBounds_toArray, List.set_cons_zero, List.set_cons_succ]
  have g4 := below_then (Below.drew g3) hb4
  have G4 := Whole.below (Whole.drew G3) hb4 hs3
  have hrow4 := Lib.hid (fun j (hj : j < fn) => ((Hrow3.out j hj).below (Below.refl w3.heap.size w3).drew hs3).below hb4 hs3)
  have hfit : i * 14 + 1 + 13 ≤ C3.size := by
    have h1 := HGs.out
    have h2 : (i + 1) * 14 ≤ fn * 14 := Nat.mul_le_mul_right 14 hi
    omega
  have HTh := Lib.hid (whole_there G4 hfit)
  refine wpAnyH_take (i := 11) (v := ?v11) rfl (by kernel_rfl) (by kernel_rfl) (by kernel_rfl) (fun _ _ _ h => h) (Or.inl ⟨by rfl, ?hy11⟩) trivial ?rest11
  case hy11 => ((intro w hSw); go_simp; (try with_reducible rfl))
  case rest11 =>
  simp only [Act.put, List.getElem_toArray, List.getElem_cons_zero, List.getElem_cons_succ, List.setIfInBounds_toArray, List.set_cons_zero, List.set_cons_succ]
  refine wpAnyH_take (i := 12) (v := ?v12) rfl (by kernel_rfl) (by kernel_rfl) (by kernel_rfl) (fun _ _ _ h => h) (Or.inl ⟨by rfl, ?hy12⟩) trivial ?rest12
  case hy12 => ((intro w hSw); go_simp; (try with_reducible rfl))
  case rest12 =>
  simp only [Act.put, List.getElem_toArray, List.getElem_cons_zero, List.getElem_cons_succ, List.setIfInBounds_toArray, List.set_cons_zero, List.set_cons_succ]
  refine wpAnyH_ready (rs := [13]) (by kernel_rfl) (by simp) ?_
  refine AllReadyH.cons rfl (fun K hK => ?_) AllReadyH.nil
  rw [if_pos (by rfl)]
  refine wp_store_mid 30 _ _ rfl gg (i * 14 + 1) X.h.cells rfl rfl HTh.out vh_row (vh_all X.h) ?_
  refine hK.out _ _ trivial (fun _ => ?_)
  clear hK K
  simp only [Act.put]
  refine wpAnyH_done (by kernel_rfl) ?_ _
  have hrow5 := Lib.hid (row_setF (X := X) hi G4 (by have := HGs.out; omega) hrow4.out)
  have P4 := Whole.below (Whole.drew P3) hb4 (show w.heap.size < w3.heap.size by omega)
  have Q4 := Whole.below (Whole.drew Q3) hb4 hPQ
  have P5 : Whole (w4.setCells gg (i * 14 + 1) X.h.cells.toList) w.heap.size 30 _ := (heap_setCells (by omega) X.h.cells.toList w4 (i * 14 + 1)).trans P4
  have Q5 : Whole (w4.setCells gg (i * 14 + 1) X.h.cells.toList) (w.heap.size + 1) 30 _ := (heap_setCells (by omega) X.h.cells.toList w4 (i * 14 + 1)).trans Q4
  have g5 := below_setCells (show w.heap.size ≤ gg by omega) X.h.cells.toList (i * 14 + 1) g4
  have h5 := Lib.hid (fun t (ht : t ≠ gg) => heap_setCells ht X.h.cells.toList w4 (i * 14 + 1))
  have z5 := Lib.hid (size_setCells (g := gg) X.h.cells.toList w4 (i * 14 + 1))
  have hz4 : Hid (w3.heap.size ≤ w4.heap.size) := Lib.hid hb4.size
  have HX := Lib.hid hX
  have HXo := Lib.hid hXo
  have HXs := Lib.hid hXs
  clear P3 Q3 P4 Q4 G3 G4 g3 g4 hb4 hrow4 HTh hfit HGs hX hXo hXs Hrow3 HREC
  generalize w4.setCells gg (i * 14 + 1) X.h.cells.toList = w5 at *
  have c11 := Whole.cell P5 12
  have f11 := Whole.frozen P5 12
  simp only [Vh.cells, List.getElem?_toArray, List.getElem?_cons_succ, List.getElem?_cons_zero] at c11
  go_upto_region 14 with (fail)
  have P6 : Whole (w5.setCell ⟨w.heap.size, 12, none⟩ (.slice (some ⟨gg, 0, none⟩) fn fn)) w.heap.size 30 (Vh.cells ⟨k, b', n', dd, e, tk, td, tn, tz, x, ba, bn, bc, la, ln, lc, some ⟨gg, 0, none⟩, fn, fn, 0, 0, 0, 0, 0, 0⟩) := Whole.set P5 12 (.slice (some ⟨gg, 0, none⟩) fn fn)
  have Q6 := Whole.far (p := ⟨w.heap.size, 12, none⟩) Q5 (by simp) (.slice (some ⟨gg, 0, none⟩) fn fn)
  have g6 := g5.setCell (p := ⟨w.heap.size, 12, none⟩) (Nat.le_refl _) (.slice (some ⟨gg, 0, none⟩) fn fn)
  have h6 : Hid (∀ t, t ≠ w.heap.size → (w5.setCell ⟨w.heap.size, 12, none⟩ (.slice (some ⟨gg, 0, none⟩) fn fn)).heap[t]? = w5.heap[t]?) := Lib.hid fun t ht => Below.heap_setCell _ _ _ _ (by simpa using ht)
  have z6 : Hid ((w5.setCell ⟨w.heap.size, 12, none⟩ (.slice (some ⟨gg, 0, none⟩) fn fn)).heap.size = w5.heap.size) := Lib.hid (by simp)
  clear P5 Q5 c11 f11 g5
  generalize w5.setCell ⟨w.heap.size, 12, none⟩ (.slice (some ⟨gg, 0, none⟩) fn fn) = w6 at *
  obtain ⟨c0, c1, c2, c3, c4, c5, c6, c7, c8, c9, c10, c11, c12⟩ := Whole.c13 P6
  dsimp only at c0 c1 c2 c3 c4 c5 c6 c7 c8 c9 c10 c11 c12
  have hone := Lib.hid (vh_all ⟨k, b', n', dd, e, tk, td, tn, tz, x, ba, bn, bc, la, ln, lc, some ⟨gg, 0, none⟩, fn, fn, 0, 0, 0, 0, 0, 0⟩)
  go_wp2_with (refine wpList_store_row rfl 30 _ _ rfl (w.heap.size + 1) (Vh.cells ⟨k, b', n', dd, e, tk, td, tn, tz, x, ba, bn, bc, la, ln, lc, some ⟨gg, 0, none⟩, fn, fn, 0, 0, 0, 0, 0, 0⟩) rfl rfl 30 _ Q6 vh_row rfl hone.out ?_)
  have Q7 := Whole.setRow Q6 (Vh.cells ⟨k, b', n', dd, e, tk, td, tn, tz, x, ba, bn, bc, la, ln, lc, some ⟨gg, 0, none⟩, fn, fn, 0, 0, 0, 0, 0, 0⟩)
  have g7 := below_setRow g6 (Nat.le_succ _) (Vh.cells ⟨k, b', n', dd, e, tk, td, tn, tz, x, ba, bn, bc, la, ln, lc, some ⟨gg, 0, none⟩, fn, fn, 0, 0, 0, 0, 0, 0⟩)
  have h7 : ∀ t, t ≠ w.heap.size + 1 → (w6.setRow (w.heap.size + 1) (Vh.cells ⟨k, b', n', dd, e, tk, td, tn, tz, x, ba, bn, bc, la, ln, lc, some ⟨gg, 0, none⟩, fn, fn, 0, 0, 0, 0, 0, 0⟩)).heap[t]? = w6.heap[t]? := fun t ht => setRow_other _ _ _ _ ht
  have z7 : (w6.setRow (w.heap.size + 1) (Vh.cells ⟨k, b', n', dd, e, tk, td, tn, tz, x, ba, bn, bc, la, ln, lc, some ⟨gg, 0, none⟩, fn, fn, 0, 0, 0, 0, 0, 0⟩)).heap.size = w6.heap.size := size_setRow _ _ _
  clear c0 c1 c2 c3 c4 c5 c6 c7 c8 c9 c10 c11 c12 P6 Q6 g6
  generalize w6.setRow (w.heap.size + 1) (Vh.cells ⟨k, b', n', dd, e, tk, td, tn, tz, x, ba, bn, bc, la, ln, lc, some ⟨gg, 0, none⟩, fn, fn, 0, 0, 0, 0, 0, 0⟩) = w7 at *
  have Z5 := z5.out
  have Z6 := z6.out
  have Z4 := hz4.out
  have hT7 : ∀ t, t ≠ w.heap.size → t ≠ w.heap.size + 1 → w7.heap[t]? = w5.heap[t]? := fun t h1 h2 => (h7 t h2).trans (h6.out t h1)
  refine bodyPost_ret (v := .agg #[.int .i64 k, .bool b', .bool n', .string dd, .int .i64 e, .int .i64 tk, .int .i64 td, .int .i64 tn, .int .i64 tz, .string x, .slice ba bn bc, .slice la ln lc, .slice (some ⟨gg, 0, none⟩) fn fn]) (ret_val (p := 6) rfl rfl Q7) rfl (chgF_end HT.out g7 hn0w (by omega) (by omega) (fun j hj => ?_) ?_ (HXo.out.mono fun b hb => ?_) HXs.out)
  · intro t ht
    exact (World.cell?_of_block (a := ⟨gg, j * 14 + t, none⟩) (hT7 gg (by omega) (by omega))).trans (hrow5.out j hj t ht)
  · refine HX.out.through HXo.out (fun b hb => ?_) (by omega)
    have hb' : b < n0 ∨ w3.heap.size ≤ b := hb
    exact (hT7 b (by omega) (by omega)).trans (h5.out b (by omega))
  · have hb' : b < n0 ∨ w3.heap.size ≤ b := hb
    omega

theorem any {cp0 cp1 : Value} {g : Vt → Vt} {pre : Vt → Prop} {W0 : World} {n0 : Nat} (HF : FnOk 28 #[cp0, cp1] g pre W0 n0) (hn0 : n0 ≤ W0.heap.size) : ∀ n, ChgIs 28 #[cp0, cp1] g pre W0 n0 n := by
  intro n
  induction n with
  | zero =>
    rintro ⟨a, n, c, b, o, S⟩ T w hpn hw hT hP h0 hpre
    dsimp only at hpn hpre ⊢
    subst hpn
    exact zero HF hn0 hw hT hpre
  | succ m ih =>
    rintro ⟨a, n, c, b, o, S⟩ T w hpn hw hT hP h0 hpre
    dsimp only at hpn h0 hpre ⊢
    subst hpn
    have ha := (hP.1 (Nat.succ_pos m)).1
    dsimp only at ha
    subst ha
    cases hix : (S 0).ix with
    | false => exact stepF hn0 ih hw hT hP h0 hpre hix
    | true => exact stepL hn0 ih hw hT hP h0 hpre hix
end Go.Proofs.YtfkfboiblgoamaaDoor.VtChgS2
