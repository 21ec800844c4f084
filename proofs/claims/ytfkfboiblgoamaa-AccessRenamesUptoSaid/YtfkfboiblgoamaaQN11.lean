/- Laid together for one claim: VtRemM, VtRn1. -/
import Derived.Test.YtfkfboiblgoamaaQN10
import Derived.Test.YtfkfboiblgoamaaQN09
import Derived.Deep.RegionHeld3
/- Values without a part: plain. -/
namespace Go.Proofs.Ytfkfboiblgoamaa
open Go.ChangeShapes Go.WideShapes Go.Joins Go.Deep Go.RowKit

def Vt.dropL : Vt → Nat → Vt
  | .nil, _ => .nil
  | .mk h Y L K F, i => .mk { h with ln := h.ln - 1 } Y (fun j => if j < i then L j else L (j + 1)) K F
def Vt.dropF : Vt → Nat → Vt
  | .nil, _ => .nil
  | .mk h Y L K F, i => .mk { h with fn := h.fn - 1 } Y L (fun j => if j < i then K j else K (j + 1)) (fun j => if j < i then F j else F (j + 1))
/-- A value without the part to which a step leads. -/
noncomputable def Vt.wo (T : Vt) (s : Stp) : Vt := if s.ix = true then T.dropL (T.find s).1.toNat else T.dropF (T.find s).1.toNat
theorem catN_append {f : Nat → Array Value} {m : Nat} : ∀ n, catN f (m + n) = catN f m ++ catN (fun j => f (m + j)) n := by
  intro n
  induction n with
  | zero => simp [catN]
  | succ n ih => rw [show m + (n + 1) = (m + n) + 1 by omega, catN, ih, catN, List.append_assoc]
/-- A row copied in two pieces. -/
theorem row_two {W : World} {g n i C : Nat} {t : TypeId} {f : Nat → Array Value} {cur : Array Value} (hf : ∀ j, (f j).size = C) (hi : i ≤ n) (hg : Whole W g t cur) (hs : cur.size = n * C) :
    Whole (W.setRow g (spl cur 0 (catN f i))) g t (spl cur 0 (catN f i)) ∧ (spl cur 0 (catN f i)).size = n * C ∧
      (∀ W', Whole W' g t (spl cur 0 (catN f i)) → ∀ j, j < n → LiesAt (W'.setRow g (spl (spl cur 0 (catN f i)) (i * C) (catN (fun j => f (i + j)) (n - i)))) g (j * C) (f j)) := by
  have hl1 := catN_len hf i
  have hl2 := catN_len (fun j => hf (i + j)) (n - i)
  have hle : i * C ≤ n * C := Nat.mul_le_mul_right C hi
  have hsum : i * C + (n - i) * C = n * C := by rw [← Nat.add_mul]; congr 1; omega
  have hfit1 : 0 + (catN f i).length ≤ cur.size := by omega
  have hsz1 : (spl cur 0 (catN f i)).size = n * C := (spl_size hfit1).trans hs
  have hfit2 : i * C + (catN (fun j => f (i + j)) (n - i)).length ≤ (spl cur 0 (catN f i)).size := by omega
  refine ⟨hg.setRow _, hsz1, fun W' hW' j hj k hk => ?_⟩
  rw [hf] at hk
  rw [(hW'.setRow _).cell]
  by_cases hji : j < i
  · have hlt : j * C + k < i * C := by
      have : (j + 1) * C ≤ i * C := Nat.mul_le_mul_right C hji
      rw [Nat.succ_mul] at this
      omega
    rw [spl_before hfit2 hlt]
    have := spl_in hfit1 (j := j * C + k) (by omega)
    rw [Nat.zero_add] at this
    rw [this]
    exact catN_get hf hk hji
  · have h1 : j * C = i * C + (j - i) * C := by rw [← Nat.add_mul]; congr 1; omega
    have hlt : (j - i) * C + k < (catN (fun j => f (i + j)) (n - i)).length := by
      have : (j - i + 1) * C ≤ (n - i) * C := Nat.mul_le_mul_right C (by omega)
      rw [Nat.succ_mul] at this
      omega
    rw [show j * C + k = i * C + ((j - i) * C + k) by omega, spl_in hfit2 hlt, catN_get (fun j => hf (i + j)) hk (by omega)]
    rw [show i + (j - i) = j by omega]
theorem elem_vals : Try.prog.elem 27 = 30 := by kernel_rfl
theorem elem_flds : Try.prog.elem 28 = 65 := by kernel_rfl
section
variable {ty el : TypeId} {C : Nat} (hu : Try.prog.underlying ty = some (.slice el)) (he : Try.prog.elem ty = el) (hs : (Try.prog.info? el).map (·.size) = some C)
include hu he hs
/-- The first elements of a slice. -/
theorem slice_head {b o n c i : Nat} (hi : i ≤ c) (hc : 0 < c) (W : World) : (Instr.sliceAt ty (.slice (some ⟨b, o, none⟩) n c) none (some (.int .i64 i)) none).run Try.prog W = .ok (.slice (some ⟨b, o, none⟩) i c) W := by
  have hu' : Try.prog.underlying ty = some (.slice (Try.prog.elem ty)) := by rw [he]; exact hu
  rw [run_sliceAt_slice _ _ _ _ _ _ hu', run_slice_h _ _ _ _ _ hu' .i64 i (by omega) (by omega), he]
  cases hq : Try.prog.info? el with
  | none => rw [hq] at hs; cases hs
  | some t =>
    have hi : t.size = C := by rw [hq] at hs; simpa using hs
    have hc' : c ≠ 0 := by omega
    simp [sizeOf, typeInfo, hq, hi, sliced, Result.andThen, hc', Addr.add]
/-- The last elements of a slice. -/
theorem slice_from {b o n c i : Nat} {z : Int} (hz : z = i) (hi : i ≤ n) : ∃ a1 : Addr, (i < n → i < c → a1 = ⟨b, o + i * C, none⟩) ∧
    ∀ W, (Instr.sliceAt ty (.slice (some ⟨b, o, none⟩) n c) (some (.int .i64 z)) none none).run Try.prog W = .ok (.slice (some a1) (n - i) (c - i)) W := by
  subst hz
  have hu' : Try.prog.underlying ty = some (.slice (Try.prog.elem ty)) := by rw [he]; exact hu
  refine ⟨if c = i then ⟨b, o, none⟩ else (⟨b, o, none⟩ : Addr).add (i * C), fun h1 h2 => by rw [if_neg (by omega), add_plain], fun W => ?_⟩
  rw [run_sliceAt_slice _ _ _ _ _ _ hu', run_slice_l _ _ _ _ _ hu' .i64 i (by omega) (by omega), he]
  cases hq : Try.prog.info? el with
  | none => rw [hq] at hs; cases hs
  | some t =>
    have hi : t.size = C := by rw [hq] at hs; simpa using hs
    by_cases h : c = i
    · simp [sizeOf, typeInfo, hq, hi, sliced, Result.andThen, h]
    · simp [sizeOf, typeInfo, hq, hi, sliced, Result.andThen, h]
end
/-- The end of a removal of an element. -/
theorem dropL_end {h : Vh} {Y : Nat → Int} {L : Nat → Vt} {K : Nat → ByteArray} {F : Nat → Vt} {w W : World} {n0 gg i : Nat} {M : Nat → Vt} (hT : (Vt.mk h Y L K F).In w n0) (hi : i < h.ln) (hb : Below w.heap.size w W) (hn0 : n0 ≤ w.heap.size) (hgg : w.heap.size ≤ gg) (hglt : gg < W.heap.size)
    (hM : M = fun j => if j < i then L j else L (j + 1)) (hrow : ∀ j, j < h.ln - 1 → LiesAt W gg (j * 13) (M j).h.cells) :
    FnOut ((Vt.mk h Y L K F).dropL i) n0 w (.returned (.agg #[.int .i64 h.k, .bool h.b, .bool h.n, .string h.d, .int .i64 h.e, .int .i64 h.tk, .int .i64 h.td, .int .i64 h.tn, .int .i64 h.tz, .string h.x, .slice h.ba h.bn h.bc, .slice (some ⟨gg, 0, none⟩) (h.ln - 1) (h.ln - 1), .slice h.fa h.fn h.fc])) W := by
  have hok := hT.1
  have hTW := hT.below (hb.mono hn0)
  have hz := hb.size
  have hln := hok.ln
  have hlc := hok.lc
  obtain ⟨h1, h2⟩ := list_anew (S := fun b => b < n0 ∨ w.heap.size ≤ b) (M := M) (c' := h.ln - 1) hT (hb.mono hn0) (by omega) hglt (.inr hgg) (fun b hb => .inl hb) (m := h.ln - 1) (by omega) ⟨Nat.le_refl _, by omega⟩ hrow
    (fun j hj => by
      have hl : ∃ t, t < h.ln ∧ M j = L t := by
        rw [hM]
        by_cases c : j < i
        · exact ⟨j, by omega, if_pos c⟩
        · exact ⟨j + 1, by omega, if_neg c⟩
      obtain ⟨t, ht, e⟩ := hl
      rw [e]
      have hl := (hTW.2.2.2.2.1 t ht).2
      exact ⟨hl.up (by omega), hl.off.mono fun b hb => .inl hb⟩)
  refine ⟨_, rfl, h1, h2, ?_, hb⟩
  refine ⟨(fun e => by cases e), ⟨rfl, rfl, rfl, rfl, rfl, rfl, rfl, rfl, rfl, rfl, rfl, rfl, rfl⟩, fun _ _ => rfl, fun j hj => ?_, fun j hj => ⟨rfl, Vt.Same.rfl' (hT.whole.2 j hj)⟩⟩
  have hj' : j < h.ln - 1 := hj
  show Vt.Same (M j) (if j < i then L j else L (j + 1))
  rw [hM]
  dsimp only
  split
  · exact Vt.Same.rfl' (hT.whole.1 j (by omega))
  · exact Vt.Same.rfl' (hT.whole.1 (j + 1) (by omega))
/-- The end of a removal of a field. -/
theorem dropF_end {h : Vh} {Y : Nat → Int} {L : Nat → Vt} {K : Nat → ByteArray} {F : Nat → Vt} {w W : World} {n0 gg i : Nat} {M : Nat → ByteArray × Vt} (hT : (Vt.mk h Y L K F).In w n0) (hi : i < h.fn) (hb : Below w.heap.size w W) (hn0 : n0 ≤ w.heap.size) (hgg : w.heap.size ≤ gg) (hglt : gg < W.heap.size)
    (hM : M = fun j => if j < i then (K j, F j) else (K (j + 1), F (j + 1))) (hrow : ∀ j, j < h.fn - 1 → LiesAt W gg (j * 14) (fcs (M j))) :
    FnOut ((Vt.mk h Y L K F).dropF i) n0 w (.returned (.agg #[.int .i64 h.k, .bool h.b, .bool h.n, .string h.d, .int .i64 h.e, .int .i64 h.tk, .int .i64 h.td, .int .i64 h.tn, .int .i64 h.tz, .string h.x, .slice h.ba h.bn h.bc, .slice h.la h.ln h.lc, .slice (some ⟨gg, 0, none⟩) (h.fn - 1) (h.fn - 1)])) W := by
  have hok := hT.1
  have hTW := hT.below (hb.mono hn0)
  have hz := hb.size
  have hln := hok.fn
  have hlc := hok.fc
  have hl : ∀ j, j < h.fn - 1 → ∃ t, t < h.fn ∧ M j = (K t, F t) := fun j hj => by
    rw [hM]
    by_cases c : j < i
    · exact ⟨j, by omega, if_pos c⟩
    · exact ⟨j + 1, by omega, if_neg c⟩
  obtain ⟨h1, h2⟩ := fields_anew (S := fun b => b < n0 ∨ w.heap.size ≤ b) (K' := fun j => (M j).1) (M := fun j => (M j).2) (c' := h.fn - 1) hT (hb.mono hn0) (by omega) hglt (.inr hgg) (fun b hb => .inl hb) (m := h.fn - 1) (by omega) ⟨Nat.le_refl _, by omega⟩ hrow
    (fun j hj => by
      obtain ⟨t, ht, e⟩ := hl j hj
      rw [e]
      have hl := hTW.2.2.2.2.2.2 t ht
      exact ⟨hl.2.1, hl.2.2.2.up (by omega), hl.2.2.2.off.mono fun b hb => .inl hb⟩)
  refine ⟨_, rfl, h1, h2, ?_, hb⟩
  refine ⟨(fun e => by cases e), ⟨rfl, rfl, rfl, rfl, rfl, rfl, rfl, rfl, rfl, rfl, rfl, rfl, rfl⟩, fun _ _ => rfl, fun j hj => Vt.Same.rfl' (hT.whole.1 j hj), fun j hj => ?_⟩
  have hj' : j < h.fn - 1 := hj
  show (M j).1 = (if j < i then K j else K (j + 1)) ∧ Vt.Same (M j).2 (if j < i then F j else F (j + 1))
  rw [hM]
  dsimp only
  by_cases c : j < i
  · rw [if_pos c, if_pos c, if_pos c]
    exact ⟨rfl, Vt.Same.rfl' (hT.whole.2 j (by omega))⟩
  · rw [if_neg c, if_neg c, if_neg c]
    exact ⟨rfl, Vt.Same.rfl' (hT.whole.2 (j + 1) (by omega))⟩
end Go.Proofs.Ytfkfboiblgoamaa
/- Values with a field renamed: access.Rename$1. -/
namespace Go.Proofs.Ytfkfboiblgoamaa
open Go.RowKit
set_option linter.unusedSimpArgs false
set_option linter.unusedVariables false

def Vt.renF : Vt → Nat → ByteArray → Vt
  | .nil, _, _ => .nil
  | .mk h Y L K F, i, key => .mk h Y L (fun j => if j = i then key else K j) F
/-- A value with another key at the field to which a step leads. -/
noncomputable def Vt.ren (T : Vt) (s : Stp) (key : ByteArray) : Vt := T.renF (T.find s).1.toNat key
/-- One key of a row written anew. -/
theorem row_setK {W : World} {g n i : Nat} {t : TypeId} {K : Nat → ByteArray} {F : Nat → Vt} {cur : Array Value} {key : ByteArray} (hi : i < n) (hg : Whole W g t cur) (hs : n * 14 ≤ cur.size) (hrow : ∀ j, j < n → LiesAt W g (j * 14) (fcs (K j, F j))) :
    ∀ j, j < n → LiesAt (W.setCell ⟨g, i * 14, none⟩ (.string key)) g (j * 14) (fcs ((if j = i then key else K j), F j)) := by
  have hG := hg.set (i * 14) (.string key)
  have hfit : i * 14 < cur.size := by
    have : (i + 1) * 14 ≤ n * 14 := Nat.mul_le_mul_right 14 hi
    omega
  intro j hj k hk
  have hk' : k < 14 := hk
  rw [show (W.setCell ⟨g, i * 14, none⟩ (.string key)).cell? ⟨g, j * 14 + k, none⟩ = (cur.setIfInBounds (i * 14) (.string key))[j * 14 + k]? from hG.cell _]
  have hold : cur[j * 14 + k]? = (fcs (K j, F j))[k]? := by
    rw [← hrow j hj k hk]
    exact (hg.cell _).symm
  by_cases e : j = i
  · subst e
    rw [if_pos rfl]
    match k, hk' with
    | 0, _ =>
      show (cur.setIfInBounds (j * 14) (.string key))[j * 14]? = some (.string key)
      rw [Array.getElem?_setIfInBounds_self_of_lt hfit]
    | m + 1, hm =>
      rw [Array.getElem?_setIfInBounds_ne (by omega), hold]
      match m, hm with
      | 0, _ | 1, _ | 2, _ | 3, _ | 4, _ | 5, _ | 6, _ | 7, _ | 8, _ | 9, _ | 10, _ | 11, _ | 12, _ => rfl
  · rw [if_neg e, Array.getElem?_setIfInBounds_ne ?_, hold]
    rcases Nat.lt_or_ge j i with h | h <;> omega
/-- The end of a renaming. -/
theorem renF_end {h : Vh} {Y : Nat → Int} {L : Nat → Vt} {K : Nat → ByteArray} {F : Nat → Vt} {w W : World} {n0 gg i : Nat} {key : ByteArray} (hT : (Vt.mk h Y L K F).In w n0) (hb : Below w.heap.size w W) (hn0 : n0 ≤ w.heap.size) (hgg : w.heap.size ≤ gg) (hglt : gg < W.heap.size) (hkey : key.size ≤ 1048576)
    (hrow : ∀ j, j < h.fn → LiesAt W gg (j * 14) (fcs ((if j = i then key else K j), F j))) :
    FnOut ((Vt.mk h Y L K F).renF i key) n0 w (.returned (.agg #[.int .i64 h.k, .bool h.b, .bool h.n, .string h.d, .int .i64 h.e, .int .i64 h.tk, .int .i64 h.td, .int .i64 h.tn, .int .i64 h.tz, .string h.x, .slice h.ba h.bn h.bc, .slice h.la h.ln h.lc, .slice (some ⟨gg, 0, none⟩) h.fn h.fn])) W := by
  have hok := hT.1
  have hTW := hT.below (hb.mono hn0)
  have hz := hb.size
  have hln := hok.fn
  have hlc := hok.fc
  obtain ⟨h1, h2⟩ := fields_anew (S := fun b => b < n0 ∨ w.heap.size ≤ b) (K' := fun j => if j = i then key else K j) (M := F) (c' := h.fn) hT (hb.mono hn0) (by omega) hglt (.inr hgg) (fun b hb => .inl hb) (m := h.fn) (by omega) ⟨Nat.le_refl _, by omega⟩ hrow
    (fun j hj => by
      have hl := hTW.2.2.2.2.2.2 j hj
      refine ⟨?_, hl.2.2.2.up (by omega), hl.2.2.2.off.mono fun b hb => .inl hb⟩
      split
      · exact hkey
      · exact hl.2.1)
  refine ⟨_, rfl, h1, h2, ?_, hb⟩
  exact ⟨(fun e => by cases e), ⟨rfl, rfl, rfl, rfl, rfl, rfl, rfl, rfl, rfl, rfl, rfl, rfl, rfl⟩, fun _ _ => rfl, fun j hj => Vt.Same.rfl' (hT.whole.1 j hj), fun j hj => ⟨rfl, Vt.Same.rfl' (hT.whole.2 j hj)⟩⟩
set_option maxHeartbeats 4000000 in
set_option maxRecDepth 100000 in
theorem rnF {s : Stp} {nk : ByteArray} {cb kb : Nat} {W0 : World} {n0 : Nat} (hcb : cb < n0) (hkb : kb < n0) (hs0 : w64 s.n) (hS : LiesAt W0 cb 0 s.cells) (hKb : W0.cell? ⟨kb, 0, none⟩ = some (.string nk)) (hnk : nk.size ≤ 1048576) (hn0 : n0 ≤ W0.heap.size) {U : Vt} {w : World} (hw : Below n0 W0 w) (hU : U.In w n0) (hfind : (U.find s).2 = 0) (hix : s.ix = false) :
    Calls Try.prog 40 #[.agg U.h.cells, .pointer (some ⟨cb, 0, none⟩), .pointer (some ⟨kb, 0, none⟩)] w (FnOut (U.ren s nk) n0 w) := by
  have hsw := hw.size
  have hn0w := Nat.le_trans hn0 hsw
  have hb0 := ((Below.refl w.heap.size w).alloc (Nat.le_refl _) (.cells U.h.cells 30)).alloc (by simp) (.cells Vh.zero.cells 30)
  have P := (Whole.new w 30 U.h.cells).alloc (.cells Vh.zero.cells 30)
  have Q := Whole.new (w.alloc (.cells U.h.cells 30)) 30 Vh.zero.cells
  rw [World.size_alloc] at Q
  have HLs := Lib.hid (fun (w1 : World) (hb : Below w.heap.size w w1) => (hS.below hw hcb).below (hb.mono hn0w) hcb)
  have HKs := Lib.hid (fun (w1 : World) (hb : Below w.heap.size w w1) => ((hw.trans (hb.mono hn0w)).cell (p := ⟨kb, 0, none⟩) hkb).trans hKb)
  have HFd := Lib.hid (fun (w1 : World) (hb : Below w.heap.size w w1) => find_any (T := U) (s := s) (Vt.In.below (hb.mono hn0w) hU) (Nat.le_trans hn0w hb.size) hs0)
  obtain ⟨-, hkk, hi, hei, -⟩ := (Vt.part_key hfind hix)
  rw [hfind] at HFd
  have hwo : U.ren s nk = U.renF (U.find s).1.toNat nk := rfl
  rw [hwo]
  clear hwo
  generalize hI : (U.find s).1.toNat = i at *
  rw [hei] at HFd
  clear hei hfind hI
  cases U with
  | nil => exact hU.elim
  | mk h Y L K F =>
  dsimp only [Vt.h] at hkk hi
  rw [show (Vt.mk h Y L K F).h = h from rfl] at *
  have HT := Lib.hid hU
  have HW := Lib.hid (fun (w1 : World) (hb : Below w.heap.size w w1) => hU.below (hb.mono hn0w))
  have hokh := hU.1
  obtain ⟨i0, hi0, hz0, hz1, hz2⟩ := info_parts Try.infoFld
  have HLrow := Lib.hid (fun (w1 : World) (hb : Below w.heap.size w w1) => fun j (hj : j < h.fn) => lies_fcs ((HW.out w1 hb).2.2.2.2.2.2 j hj).1 ((HW.out w1 hb).2.2.2.2.2.2 j hj).2.2.1)
  obtain ⟨e1, hlt⟩ := (HT.out.2.2.2.2.2.1 (show 0 < h.fn by omega))
  have hln := hokh.fn
  have hlc := hokh.fc
  have hk := hokh.k
  have hk1 := hk.1
  have hk2 := hk.2
  have i1 : (0 : Int) ≤ i := by omega
  have i2 : (i : Int) < h.fn := by omega
  have i3 : (h.fn : Int) ≤ 1048576 := by omega
  have i4 : (1 : Int) ≤ h.fn := by omega
  clear hk hkk hokh hw hU hS hKb
  obtain ⟨k, b', n', dd, e, tk, td, tn, tz, x, ba, bn, bc, la, ln, lc, fa, fn, fc, bb, bo, lb, lo, fb, fo⟩ := h
  dsimp only at e1 hlt hln hlc hk1 hk2 i2 i3 i4 hi HLrow P
  subst e1
  obtain ⟨ix, key, sn⟩ := s
  dsimp only at hix
  subst hix
  have hPlt := P.lt
  simp only [Vh.cells, Vh.zero] at hb0 Q HFd ⊢
  obtain ⟨l0, l1, l2⟩ := (HLs.out _ hb0).s3
  simp only [Nat.zero_add] at l0 l1 l2
  obtain ⟨c0, c1, c2, c3, c4, c5, c6, c7, c8, c9, c10, c11, c12⟩ := Whole.c13 P
  simp only [Vh.cells, Vh.zero] at l0 l1 l2 c0 c1 c2 c3 c4 c5 c6 c7 c8 c9 c10 c11 c12
  go_enter Try.func40, Try.ntmps40
  go_wp2_with fail
  refine (HFd.out _ hb0).mono ?_; rintro _ w1 ⟨rfl, hb1⟩
  have P1 := P.below hb1 hPlt
  have Q1 := Q.below hb1 (Whole.lt Q)
  have g1 := below_then hb0 hb1
  clear l0 l1 l2 c0 c1 c2 c3 c4 c5 c6 c7 c8 c9 c10 c11 c12
  have c11 := Whole.cell P1 12
  simp only [Vh.cells, List.getElem?_toArray, List.getElem?_cons_succ, List.getElem?_cons_zero] at c11
  have hq1 := Q1.lt
  have d1 : Hid (i0.bytes * fn ≤ 281474976710656) := Lib.hid (by rw [hz2]; omega)
  have d2 : Hid (fn ≤ maxLen) := Lib.hid (by unfold maxLen; omega)
  clear hb0 hb1 P Q HFd
  go_wp2_with (refine wpList_make_full _ rfl _ _ 28 rfl w1.heap.size 65 i0 (.agg (#[.string ⟨#[]⟩] ++ Vh.zero.cells)) 14 Try.underlying28 hi0 hz0 hz1 .i64 .i64 fn fn fn rfl rfl rfl rfl d1.out d2.out (Nat.le_refl _) ?_)
  intro w2 hown2 hgr2
  obtain ⟨cur, HG, hcs⟩ := made_whole hown2
  have b2 : Below w1.heap.size w1 w2 := ⟨hgr2.os, hgr2.tape, hgr2.output, hgr2.size, fun t ht => hgr2.block t ht (by simp)⟩
  have g2 := below_then g1 b2
  have P2 := Whole.below P1 b2 (Whole.lt P1)
  have Q2 := Q1.below b2 Q1.lt
  have c11 := Whole.cell P2 12
  simp only [Vh.cells, List.getElem?_toArray, List.getElem?_cons_succ, List.getElem?_cons_zero] at c11
  obtain ⟨gg, hgg⟩ : ∃ gg, w1.heap.size = gg := ⟨_, rfl⟩
  have hgglt : gg < w2.heap.size := by rw [← hgg]; exact HG.lt
  have hg0 : w.heap.size + 1 < gg := by omega
  rw [hgg] at HG ⊢
  have e1' : Hid ((catN (fun j => fcs (K j, F j)) fn).length = Nat.min fn fn * 14) := Lib.hid (by rw [catN_len (fun j => fcs_size (K j, F j)), show Nat.min fn fn = fn from Nat.min_self fn])
  have e2' := Lib.hid (fun (_ : 0 < (catN (fun j => fcs (K j, F j)) fn).length) => (⟨rfl, ⟨fb, fo, none⟩, rfl, rowL_src (fun j => fcs_size (K j, F j)) (HLrow.out w2 g2)⟩ : (some (⟨gg, 0, none⟩ : Addr) = some ⟨gg, 0, none⟩ ∧ ∃ ad, some (⟨fb, fo, none⟩ : Addr) = some ad ∧ ∀ j v, (catN (fun j => fcs (K j, F j)) fn)[j]? = some v → w2.cell? (ad.add j) = some v)))
  have e3' : Hid (0 + (catN (fun j => fcs (K j, F j)) fn).length ≤ cur.size) := Lib.hid (by rw [catN_len (fun j => fcs_size (K j, F j)), hcs]; omega)
  have e4' := Lib.hid (catN_one (fun j => fcs_one (K j, F j)) fn)
  have HCs := Lib.hid hcs
  have HGh := Lib.hid HG
  clear hown2 hgr2 b2 hgg hcs g1 P1 Q1 hq1 d1 d2 HG
  go_upto_region 4 with (refine wpList_copy_wide _ rfl _ _ 28 28 rfl 65 14 Try.underlying28 fld_row (by decide) (some ⟨gg, 0, none⟩) (some ⟨fb, fo, none⟩) fn fn fn fc rfl rfl gg 0 cur 65 HGh.out (catN (fun j => fcs (K j, F j)) fn) e1'.out e2'.out e3'.out e4'.out ?_)
  obtain ⟨G3, hrow3⟩ := row_copied (fun j => fcs_size (K j, F j)) HGh.out HCs.out
  have P3 := Whole.farRow (B' := gg) P2 (by omega) (spl cur 0 (catN (fun j => fcs (K j, F j)) fn))
  have Q3 := Q2.farRow (B' := gg) (by omega) (spl cur 0 (catN (fun j => fcs (K j, F j)) fn))
  have g3 := below_setRow g2 (show w.heap.size ≤ gg by omega) (spl cur 0 (catN (fun j => fcs (K j, F j)) fn))
  have hs3 : gg < (w2.setRow gg (spl cur 0 (catN (fun j => fcs (K j, F j)) fn))).heap.size := by rw [size_setRow]; exact hgglt
  have Hrow3 := Lib.hid hrow3
  have HGs : Hid ((catN (fun j => fcs (K j, F j)) fn).toArray.size = fn * 14) := Lib.hid (by simp [catN_len (fun j => fcs_size (K j, F j))])
  clear e1' e2' e3' e4' HCs HGh P2 Q2 g2 hgglt c11 hrow3
  generalize w2.setRow gg (spl cur 0 (catN (fun j => fcs (K j, F j)) fn)) = w3 at *
  generalize (catN (fun j => fcs (K j, F j)) fn).toArray = C3 at *
  have hPQ : w.heap.size + 1 < w3.heap.size := Q3.lt
  have kk := HKs.out _ g3
  have c11 := Whole.cell P3 12
  have ggc := (Hrow3.out i hi).fcs.1
  have ggf := Whole.frozen G3 (i * 14)
  simp only [Vh.cells, List.getElem?_toArray, List.getElem?_cons_succ, List.getElem?_cons_zero] at c11
  have hrow4 := Lib.hid (row_setK (key := nk) hi G3 (by have := HGs.out; omega) Hrow3.out)
  have P4 : Whole (w3.setCell ⟨gg, i * 14, none⟩ (.string nk)) w.heap.size 30 _ := P3.far (p := ⟨gg, i * 14, none⟩) (by show w.heap.size ≠ gg; omega) _
  have Q4 : Whole (w3.setCell ⟨gg, i * 14, none⟩ (.string nk)) (w.heap.size + 1) 30 _ := Q3.far (p := ⟨gg, i * 14, none⟩) (by show w.heap.size + 1 ≠ gg; omega) _
  have g4 := g3.setCell (p := ⟨gg, i * 14, none⟩) (by show w.heap.size ≤ gg; omega) (.string nk)
  have hz4 : Hid ((w3.setCell ⟨gg, i * 14, none⟩ (.string nk)).heap.size = w3.heap.size) := Lib.hid (by simp)
  go_upto_region 5 with (fail)
  clear kk c11 ggc ggf P3 Q3 g3 G3 Hrow3 HGs
  generalize w3.setCell ⟨gg, i * 14, none⟩ (.string nk) = w4 at *
  have c11 := Whole.cell P4 12
  have f11 := Whole.frozen P4 12
  simp only [Vh.cells, List.getElem?_toArray, List.getElem?_cons_succ, List.getElem?_cons_zero] at c11
  go_upto_region 6 with (fail)
  have P6 : Whole (w4.setCell ⟨w.heap.size, 12, none⟩ (.slice (some ⟨gg, 0, none⟩) fn fn)) w.heap.size 30 (Vh.cells ⟨k, b', n', dd, e, tk, td, tn, tz, x, ba, bn, bc, la, ln, lc, some ⟨gg, 0, none⟩, fn, fn, 0, 0, 0, 0, 0, 0⟩) := Whole.set P4 12 (.slice (some ⟨gg, 0, none⟩) fn fn)
  have Q6 := Whole.far (p := ⟨w.heap.size, 12, none⟩) Q4 (by simp) (.slice (some ⟨gg, 0, none⟩) fn fn)
  have g6 := g4.setCell (p := ⟨w.heap.size, 12, none⟩) (Nat.le_refl _) (.slice (some ⟨gg, 0, none⟩) fn fn)
  have h6 : Hid (∀ t, t ≠ w.heap.size → (w4.setCell ⟨w.heap.size, 12, none⟩ (.slice (some ⟨gg, 0, none⟩) fn fn)).heap[t]? = w4.heap[t]?) := Lib.hid fun t ht => Below.heap_setCell _ _ _ _ (by simpa using ht)
  have z6 : Hid ((w4.setCell ⟨w.heap.size, 12, none⟩ (.slice (some ⟨gg, 0, none⟩) fn fn)).heap.size = w4.heap.size) := Lib.hid (by simp)
  clear P4 Q4 c11 f11 g4
  generalize w4.setCell ⟨w.heap.size, 12, none⟩ (.slice (some ⟨gg, 0, none⟩) fn fn) = w6 at *
  obtain ⟨c0, c1, c2, c3, c4, c5, c6, c7, c8, c9, c10, c11, c12⟩ := Whole.c13 P6
  dsimp only at c0 c1 c2 c3 c4 c5 c6 c7 c8 c9 c10 c11 c12
  have hone := Lib.hid (vh_all ⟨k, b', n', dd, e, tk, td, tn, tz, x, ba, bn, bc, la, ln, lc, some ⟨gg, 0, none⟩, fn, fn, 0, 0, 0, 0, 0, 0⟩)
  go_wp2_with (refine wpList_store_row rfl 30 _ _ rfl (w.heap.size + 1) (Vh.cells ⟨k, b', n', dd, e, tk, td, tn, tz, x, ba, bn, bc, la, ln, lc, some ⟨gg, 0, none⟩, fn, fn, 0, 0, 0, 0, 0, 0⟩) rfl rfl 30 _ Q6 vh_row rfl hone.out ?_)
  have Q7 := Whole.setRow Q6 (Vh.cells ⟨k, b', n', dd, e, tk, td, tn, tz, x, ba, bn, bc, la, ln, lc, some ⟨gg, 0, none⟩, fn, fn, 0, 0, 0, 0, 0, 0⟩)
  have g7 := below_setRow g6 (Nat.le_succ _) (Vh.cells ⟨k, b', n', dd, e, tk, td, tn, tz, x, ba, bn, bc, la, ln, lc, some ⟨gg, 0, none⟩, fn, fn, 0, 0, 0, 0, 0, 0⟩)
  have h7 : ∀ t, t ≠ w.heap.size + 1 → (w6.setRow (w.heap.size + 1) (Vh.cells ⟨k, b', n', dd, e, tk, td, tn, tz, x, ba, bn, bc, la, ln, lc, some ⟨gg, 0, none⟩, fn, fn, 0, 0, 0, 0, 0, 0⟩)).heap[t]? = w6.heap[t]? := fun t ht => setRow_other _ _ _ _ ht
  have z7 : (w6.setRow (w.heap.size + 1) (Vh.cells ⟨k, b', n', dd, e, tk, td, tn, tz, x, ba, bn, bc, la, ln, lc, some ⟨gg, 0, none⟩, fn, fn, 0, 0, 0, 0, 0, 0⟩)).heap.size = w6.heap.size := size_setRow _ _ _
  clear c0 c1 c2 c3 c4 c5 c6 c7 c8 c9 c10 c11 c12 P6 Q6 g6
  generalize w6.setRow (w.heap.size + 1) (Vh.cells ⟨k, b', n', dd, e, tk, td, tn, tz, x, ba, bn, bc, la, ln, lc, some ⟨gg, 0, none⟩, fn, fn, 0, 0, 0, 0, 0, 0⟩) = w7 at *
  have Z6 := z6.out
  have Z4 := hz4.out
  refine bodyPost_ret (v := .agg #[.int .i64 k, .bool b', .bool n', .string dd, .int .i64 e, .int .i64 tk, .int .i64 td, .int .i64 tn, .int .i64 tz, .string x, .slice ba bn bc, .slice la ln lc, .slice (some ⟨gg, 0, none⟩) fn fn]) (ret_val (p := 4) rfl rfl Q7) rfl (renF_end HT.out g7 hn0w (by omega) (by omega) hnk (fun j hj => ?_))
  intro t ht
  exact (World.cell?_of_block (a := ⟨gg, j * 14 + t, none⟩) ((h7 gg (by omega)).trans (h6.out gg (by omega)))).trans (hrow4.out j hj t ht)
/-- The closure of Rename. -/
theorem rn_ok {s : Stp} {nk : ByteArray} {cb kb : Nat} {W0 : World} {n0 : Nat} (hcb : cb < n0) (hkb : kb < n0) (hs0 : w64 s.n) (hS : LiesAt W0 cb 0 s.cells) (hKb : W0.cell? ⟨kb, 0, none⟩ = some (.string nk)) (hnk : nk.size ≤ 1048576) (hn0 : n0 ≤ W0.heap.size) (hix : s.ix = false) :
    FnOk 40 #[.pointer (some ⟨cb, 0, none⟩), .pointer (some ⟨kb, 0, none⟩)] (fun U => U.ren s nk) (fun U => (U.find s).2 = 0) W0 n0 := by
  intro w U hw hU hf
  exact rnF hcb hkb hs0 hS hKb hnk hn0 hw hU hf hix
end Go.Proofs.Ytfkfboiblgoamaa
