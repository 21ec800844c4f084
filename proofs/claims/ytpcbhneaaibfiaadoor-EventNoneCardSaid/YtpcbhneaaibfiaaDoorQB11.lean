/- Laid together for a claim: VtChg, EvB. -/
import Derived.Test.YtpcbhneaaibfiaaDoorQB09
import Derived.Test.YtpcbhneaaibfiaaDoorQB10
import Derived.Deep.RegionHeld3
import Derived.Test.YtpcbhneaaibfiaaDoorQB05
import Derived.Test.YtpcbhneaaibfiaaDoorQB06
import Derived.Test.YtpcbhneaaibfiaaDoorQB08
/- Values changed at a path, walked (access.change). -/
namespace Go.Proofs.YtpcbhneaaibfiaaDoor
open Go.RowKit

/-- What a change answers. -/
def FnOut (R0 : Vt) (n0 : Nat) (w : World) (e : Ending) (w' : World) : Prop :=
  ∃ X : Vt, e = .returned (.agg #[.int .i64 X.h.k, .bool X.h.b, .bool X.h.n, .string X.h.d, .int .i64 X.h.e, .int .i64 X.h.tk, .int .i64 X.h.td, .int .i64 X.h.tn, .int .i64 X.h.tz, .string X.h.x, .slice X.h.ba X.h.bn X.h.bc, .slice X.h.la X.h.ln X.h.lc, .slice X.h.fa X.h.fn X.h.fc]) ∧ X.In w' w'.heap.size ∧ X.Off (fun b => b < n0 ∨ w.heap.size ≤ b) ∧ X.Same R0 ∧ Below w.heap.size w w'
def FnOk (F : Nat) (cap : Array Value) (g : Vt → Vt) (pre : Vt → Prop) (W0 : World) (n0 : Nat) : Prop :=
  ∀ (w : World) (U : Vt), Below n0 W0 w → U.In w n0 → pre U → Calls Tryd.prog F (#[.agg U.h.cells] ++ cap) w (FnOut (g U) n0 w)

/-! ### cells written one after the other -/
def setN (C : Array Value) : Nat → List Value → Array Value
  | _, [] => C
  | o, v :: r => setN (C.setIfInBounds o v) (o + 1) r
theorem setN_size : ∀ (vs : List Value) (C : Array Value) (o : Nat), (setN C o vs).size = C.size := by
  intro vs
  induction vs with
  | nil => intro C o; rfl
  | cons v r ih => intro C o; rw [setN, ih]; simp
theorem setN_out : ∀ (vs : List Value) (C : Array Value) (o k : Nat), (k < o ∨ o + vs.length ≤ k) → (setN C o vs)[k]? = C[k]? := by
  intro vs
  induction vs with
  | nil => intro C o k _; rfl
  | cons v r ih =>
    intro C o k h
    simp only [List.length_cons] at h
    rw [setN, ih _ _ _ (by omega), Array.getElem?_setIfInBounds_ne (by omega)]
theorem setN_in : ∀ (vs : List Value) (C : Array Value) (o j : Nat), o + vs.length ≤ C.size → j < vs.length → (setN C o vs)[o + j]? = vs[j]? := by
  intro vs
  induction vs with
  | nil => intro C o j _ h; exact absurd h (Nat.not_lt_zero _)
  | cons v r ih =>
    intro C o j hl hj
    simp only [List.length_cons] at hl hj
    rw [setN]
    match j, hj with
    | 0, _ =>
      have e := setN_out r (C.setIfInBounds o v) (o + 1) o (.inl (Nat.lt_succ_self o))
      show (setN (C.setIfInBounds o v) (o + 1) r)[o]? = some v
      rw [e, Array.getElem?_setIfInBounds_self_of_lt (by omega)]
    | j + 1, hj =>
      rw [show o + (j + 1) = o + 1 + j by omega, ih _ _ _ (by simp; omega) (by omega), List.getElem?_cons_succ]
theorem Whole.setCells {g : Nat} {t : TypeId} : ∀ (vs : List Value) {W : World} {C : Array Value} (o : Nat), Whole W g t C → Whole (W.setCells g o vs) g t (setN C o vs) := by
  intro vs
  induction vs with
  | nil => intro W C o h; exact h
  | cons v r ih => intro W C o h; exact ih (o + 1) (h.set o v)
theorem heap_setCells {g k : Nat} (hk : k ≠ g) : ∀ (vs : List Value) (W : World) (o : Nat), (W.setCells g o vs).heap[k]? = W.heap[k]? := by
  intro vs
  induction vs with
  | nil => intro W o; rfl
  | cons v r ih => intro W o; rw [World.setCells, ih]; exact Below.heap_setCell _ _ _ _ (by simpa using hk)
theorem size_setCells {g : Nat} : ∀ (vs : List Value) (W : World) (o : Nat), (W.setCells g o vs).heap.size = W.heap.size := by
  intro vs
  induction vs with
  | nil => intro W o; rfl
  | cons v r ih => intro W o; rw [World.setCells, ih]; simp
theorem below_setCells {n g : Nat} {a : World} (hg : n ≤ g) : ∀ (vs : List Value) {W : World} (o : Nat), Below n a W → Below n a (W.setCells g o vs) := by
  intro vs
  induction vs with
  | nil => intro W o h; exact h
  | cons v r ih => intro W o h; exact ih (o + 1) (h.setCell (p := ⟨g, o, none⟩) hg v)
theorem whole_there {W : World} {g o n : Nat} {t : TypeId} {C : Array Value} (h : Whole W g t C) (hn : o + n ≤ C.size) : W.there g o n := fun j hj => by
  refine ⟨?_, h.frozen _⟩
  rw [h.cell, Array.getElem?_eq_getElem (by omega)]
  rfl
theorem stp_size : (Tryd.prog.info? 78).map (·.size) = some 3 := by kernel_rfl
theorem elem_path : Tryd.prog.elem 42 = 78 := by kernel_rfl
/-- A path without its first step. -/
theorem slice_rest {b o m c : Nat} (hc : m + 1 ≤ c) (hm : m ≤ 1048576) : ∃ a1 : Addr, (a1 = ⟨b, o + 3, none⟩ ∨ m = 0) ∧
    ∀ W, (Instr.sliceAt 42 (.slice (some ⟨b, o, none⟩) (m + 1) c) (some (.int .i64 1)) none none).run Tryd.prog W = .ok (.slice (some a1) m (c - 1)) W := by
  have hu : Tryd.prog.underlying 42 = some (.slice (Tryd.prog.elem 42)) := by rw [elem_path]; exact Tryd.underlying42
  refine ⟨if c = 1 then ⟨b, o, none⟩ else ⟨b, o + 3, none⟩, ?_, fun W => ?_⟩
  · by_cases h : c = 1
    · exact .inr (by omega)
    · exact .inl (if_neg h)
  · rw [run_sliceAt_slice _ _ _ _ _ _ hu, run_slice_l _ _ _ _ _ hu .i64 1 (by omega) (by omega), elem_path]
    cases hq : Tryd.prog.info? 78 with
    | none => have := stp_size; rw [hq] at this; cases this
    | some i =>
      have hi : i.size = 3 := by have := stp_size; rw [hq] at this; simpa using this
      by_cases h : c = 1
      · subst h
        obtain rfl : m = 0 := by omega
        simp [sizeOf, typeInfo, hq, hi, sliced, Result.andThen]
      · simp [sizeOf, typeInfo, hq, hi, sliced, Result.andThen, h, Addr.add]
/-- One value of a row written anew. -/
theorem row_set {W : World} {g n C i : Nat} {t : TypeId} {f : Nat → Array Value} {cur : Array Value} {x : Array Value} (hf : ∀ j, (f j).size = C) (hx : x.size = C) (hi : i < n) (hg : Whole W g t cur) (hs : n * C ≤ cur.size) (hrow : ∀ j, j < n → LiesAt W g (j * C) (f j)) :
    ∀ j, j < n → LiesAt (W.setCells g (i * C) x.toList) g (j * C) (if j = i then x else f j) := by
  have hG := hg.setCells x.toList (i * C)
  have hfit : i * C + x.toList.length ≤ cur.size := by
    have : (i + 1) * C ≤ n * C := Nat.mul_le_mul_right C hi
    rw [Nat.succ_mul] at this
    simp only [Array.length_toList]
    omega
  intro j hj k hk
  rw [show (W.setCells g (i * C) x.toList).cell? ⟨g, j * C + k, none⟩ = (setN cur (i * C) x.toList)[j * C + k]? from hG.cell _]
  by_cases e : j = i
  · subst e
    rw [if_pos rfl] at hk ⊢
    rw [setN_in _ _ _ _ hfit (by simpa using hk), Array.getElem?_toList]
  · rw [if_neg e] at hk ⊢
    rw [hf] at hk
    have := hrow j hj k (by rw [hf]; exact hk)
    rw [show W.cell? ⟨g, j * C + k, none⟩ = cur[j * C + k]? from hg.cell _] at this
    rw [setN_out _ _ _ _ ?_, this]
    simp only [Array.length_toList, hx]
    rcases Nat.lt_or_ge j i with h | h
    · have : (j + 1) * C ≤ i * C := Nat.mul_le_mul_right C h
      rw [Nat.succ_mul] at this
      omega
    · have : (i + 1) * C ≤ j * C := Nat.mul_le_mul_right C (by omega)
      rw [Nat.succ_mul] at this
      omega
/-- One field's value of a row written anew. -/
theorem row_setF {W : World} {g n i : Nat} {t : TypeId} {K : Nat → ByteArray} {F : Nat → Vt} {cur : Array Value} {X : Vt} (hi : i < n) (hg : Whole W g t cur) (hs : n * 14 ≤ cur.size) (hrow : ∀ j, j < n → LiesAt W g (j * 14) (fcs (K j, F j))) :
    ∀ j, j < n → LiesAt (W.setCells g (i * 14 + 1) X.h.cells.toList) g (j * 14) (fcs (K j, if j = i then X else F j)) := by
  have hG := hg.setCells X.h.cells.toList (i * 14 + 1)
  have hlen : X.h.cells.toList.length = 13 := rfl
  have hfit : i * 14 + 1 + X.h.cells.toList.length ≤ cur.size := by
    have : (i + 1) * 14 ≤ n * 14 := Nat.mul_le_mul_right 14 hi
    omega
  intro j hj k hk
  have hk' : k < 14 := hk
  rw [show (W.setCells g (i * 14 + 1) X.h.cells.toList).cell? ⟨g, j * 14 + k, none⟩ = (setN cur (i * 14 + 1) X.h.cells.toList)[j * 14 + k]? from hG.cell _]
  have hold : ∀ m, m < 14 → cur[j * 14 + m]? = (fcs (K j, F j))[m]? := fun m hm => by
    rw [← hrow j hj m hm]
    exact (hg.cell _).symm
  by_cases e : j = i
  · subst e
    rw [if_pos rfl]
    match k, hk' with
    | 0, _ => rw [setN_out X.h.cells.toList cur (j * 14 + 1) (j * 14 + 0) (.inl (by omega))]; exact hold 0 (by decide)
    | m + 1, hm =>
      rw [show j * 14 + (m + 1) = j * 14 + 1 + m by omega, setN_in _ _ _ _ hfit (by omega)]
      match m, hm with
      | 0, _ | 1, _ | 2, _ | 3, _ | 4, _ | 5, _ | 6, _ | 7, _ | 8, _ | 9, _ | 10, _ | 11, _ | 12, _ => rfl
  · rw [if_neg e, setN_out _ _ _ _ ?_, hold k hk']
    rcases Nat.lt_or_ge j i with h | h
    · left; omega
    · right; omega
/-- A made row is a block known whole. -/
theorem made_whole {w : World} {base size g n : Nat} {e : TypeId} {xs : List Value} (h : w.ownsRow base e size (.slice (some ⟨g, 0, none⟩) n n) n xs) : ∃ cur, Whole w g e cur ∧ cur.size = n * size := by
  rcases h.2 with ⟨h0, _⟩ | ⟨g', cap, cur, h0, _, h2, _, _, h4, _⟩
  · cases h0
  · cases h0
    exact ⟨cur, h2, h4⟩
/-- A row that is copied whole. -/
theorem row_copied {W : World} {g n C : Nat} {t : TypeId} {f : Nat → Array Value} {cur : Array Value} (hf : ∀ j, (f j).size = C) (hg : Whole W g t cur) (hs : cur.size = n * C) :
    Whole (W.setRow g (spl cur 0 (catN f n))) g t (catN f n).toArray ∧ ∀ j, j < n → LiesAt (W.setRow g (spl cur 0 (catN f n))) g (j * C) (f j) := by
  have hl := catN_len hf n
  have e : spl cur 0 (catN f n) = (catN f n).toArray := by
    unfold spl
    rw [List.take_zero, List.nil_append, List.drop_eq_nil_of_le (by simp; omega), List.append_nil]
  rw [e]
  have hw := hg.setRow (catN f n).toArray
  refine ⟨hw, fun j hj k hk => ?_⟩
  rw [hf] at hk
  rw [hw.cell, List.getElem?_toArray]
  exact catN_get hf hk hj
/-- A value whose list lies anew. -/
theorem list_anew {V W : World} {n0 g c' : Nat} {S : Nat → Prop} {h : Vh} {Y : Nat → Int} {L : Nat → Vt} {K : Nat → ByteArray} {F : Nat → Vt} {M : Nat → Vt} (hT : (Vt.mk h Y L K F).In V n0) (hb : Below n0 V W) (hn0 : n0 ≤ W.heap.size) (hg : g < W.heap.size) (hgS : S g) (hS : ∀ b, b < n0 → S b)
    {m : Nat} (hm : m ≤ 1048576) (hc : m ≤ c' ∧ c' ≤ maxLen) (hrow : ∀ j, j < m → LiesAt W g (j * 13) (M j).h.cells) (hM : ∀ j, j < m → (M j).In W W.heap.size ∧ (M j).Off S) :
    (Vt.mk { h with la := some ⟨g, 0, none⟩, ln := m, lc := c', lb := g, lo := 0 } Y M K F).In W W.heap.size ∧ (Vt.mk { h with la := some ⟨g, 0, none⟩, ln := m, lc := c', lb := g, lo := 0 } Y M K F).Off S := by
  have hT2 := hT.below hb
  obtain ⟨h0, h1, h2, h3, h4, h5, h6⟩ := hT2
  refine ⟨⟨⟨h0.k, h0.e, h0.tk, h0.td, h0.tn, h0.tz, h0.d, h0.x, h0.bn, hm, h0.fn, hc, h0.fc⟩, fun q => ⟨(h1 q).1, Nat.lt_of_lt_of_le (h1 q).2 hn0⟩, h2, fun _ => ⟨rfl, hg⟩, fun i hi => ⟨by rw [Nat.zero_add]; exact hrow i hi, (hM i hi).1⟩, fun q => ⟨(h5 q).1, Nat.lt_of_lt_of_le (h5 q).2 hn0⟩, fun i hi => ⟨(h6 i hi).1, (h6 i hi).2.1, (h6 i hi).2.2.1, (h6 i hi).2.2.2.up hn0⟩⟩, ?_⟩
  exact ⟨fun q => hS _ (h1 q).2, fun _ => hgS, fun i hi => (hM i hi).2, fun q => hS _ (h5 q).2, fun i hi => (h6 i hi).2.2.2.off.mono fun b hb => hS b hb⟩
/-- A value whose fields lie anew. -/
theorem fields_anew {V W : World} {n0 g c' : Nat} {S : Nat → Prop} {h : Vh} {Y : Nat → Int} {L : Nat → Vt} {K : Nat → ByteArray} {F : Nat → Vt} {K' : Nat → ByteArray} {M : Nat → Vt} (hT : (Vt.mk h Y L K F).In V n0) (hb : Below n0 V W) (hn0 : n0 ≤ W.heap.size) (hg : g < W.heap.size) (hgS : S g) (hS : ∀ b, b < n0 → S b)
    {m : Nat} (hm : m ≤ 1048576) (hc : m ≤ c' ∧ c' ≤ maxLen) (hrow : ∀ j, j < m → LiesAt W g (j * 14) (fcs (K' j, M j))) (hM : ∀ j, j < m → (K' j).size ≤ 1048576 ∧ (M j).In W W.heap.size ∧ (M j).Off S) :
    (Vt.mk { h with fa := some ⟨g, 0, none⟩, fn := m, fc := c', fb := g, fo := 0 } Y L K' M).In W W.heap.size ∧ (Vt.mk { h with fa := some ⟨g, 0, none⟩, fn := m, fc := c', fb := g, fo := 0 } Y L K' M).Off S := by
  have hT2 := hT.below hb
  obtain ⟨h0, h1, h2, h3, h4, h5, h6⟩ := hT2
  refine ⟨⟨⟨h0.k, h0.e, h0.tk, h0.td, h0.tn, h0.tz, h0.d, h0.x, h0.bn, h0.ln, hm, h0.lc, hc⟩, fun q => ⟨(h1 q).1, Nat.lt_of_lt_of_le (h1 q).2 hn0⟩, h2, fun q => ⟨(h3 q).1, Nat.lt_of_lt_of_le (h3 q).2 hn0⟩, fun i hi => ⟨(h4 i hi).1, (h4 i hi).2.up hn0⟩, fun _ => ⟨rfl, hg⟩, fun i hi => ?_⟩, ?_⟩
  · obtain ⟨k1, k2⟩ := (hrow i hi).fcs
    simp only [Nat.zero_add]
    exact ⟨k1, (hM i hi).1, k2, (hM i hi).2.1⟩
  · exact ⟨fun q => hS _ (h1 q).2, fun q => hS _ (h3 q).2, fun i hi => (h4 i hi).2.off.mono fun b hb => hS b hb, fun _ => hgS, fun i hi => (hM i hi).2.2⟩
/-- The end of a change of a list's element. -/
theorem chgL_end {h : Vh} {Y : Nat → Int} {L : Nat → Vt} {K : Nat → ByteArray} {F : Nat → Vt} {w W : World} {n0 gg i : Nat} {X R0 : Vt} (hT : (Vt.mk h Y L K F).In w n0) (hb : Below w.heap.size w W) (hn0 : n0 ≤ w.heap.size) (hgg : w.heap.size ≤ gg) (hglt : gg < W.heap.size)
    (hrow : ∀ j, j < h.ln → LiesAt W gg (j * 13) (if j = i then X.h.cells else (L j).h.cells)) (hX : X.In W W.heap.size) (hXo : X.Off (fun b => b < n0 ∨ w.heap.size ≤ b)) (hXs : X.Same R0) :
    FnOut ((Vt.mk h Y L K F).setL i R0) n0 w (.returned (.agg #[.int .i64 h.k, .bool h.b, .bool h.n, .string h.d, .int .i64 h.e, .int .i64 h.tk, .int .i64 h.td, .int .i64 h.tn, .int .i64 h.tz, .string h.x, .slice h.ba h.bn h.bc, .slice (some ⟨gg, 0, none⟩) h.ln h.ln, .slice h.fa h.fn h.fc])) W := by
  have hok := hT.1
  have hTW := hT.below (hb.mono hn0)
  have hz := hb.size
  obtain ⟨h1, h2⟩ := list_anew (S := fun b => b < n0 ∨ w.heap.size ≤ b) (M := fun j => if j = i then X else L j) (c' := h.ln) hT (hb.mono hn0) (by omega) hglt (.inr hgg) (fun b hb => .inl hb) hok.ln ⟨Nat.le_refl _, by have := hok.lc; omega⟩
    (fun j hj => by
      have := hrow j hj
      split
      · rename_i e; rw [if_pos e] at this; exact this
      · rename_i e; rw [if_neg e] at this; exact this)
    (fun j hj => by
      split
      · exact ⟨hX, hXo⟩
      · have hl := (hTW.2.2.2.2.1 j hj).2
        exact ⟨hl.up (by omega), hl.off.mono fun b hb => .inl hb⟩)
  refine ⟨_, rfl, h1, h2, ?_, hb⟩
  refine ⟨(fun e => by cases e), ⟨rfl, rfl, rfl, rfl, rfl, rfl, rfl, rfl, rfl, rfl, rfl, rfl, rfl⟩, fun _ _ => rfl, fun j hj => ?_, fun j hj => ⟨rfl, Vt.Same.rfl' (hT.whole.2 j hj)⟩⟩
  show Vt.Same (if j = i then X else L j) (if j = i then R0 else L j)
  split
  · exact hXs
  · exact Vt.Same.rfl' (hT.whole.1 j hj)
/-- The end of a change of a field's value. -/
theorem chgF_end {h : Vh} {Y : Nat → Int} {L : Nat → Vt} {K : Nat → ByteArray} {F : Nat → Vt} {w W : World} {n0 gg i : Nat} {X R0 : Vt} (hT : (Vt.mk h Y L K F).In w n0) (hb : Below w.heap.size w W) (hn0 : n0 ≤ w.heap.size) (hgg : w.heap.size ≤ gg) (hglt : gg < W.heap.size)
    (hrow : ∀ j, j < h.fn → LiesAt W gg (j * 14) (fcs (K j, if j = i then X else F j))) (hX : X.In W W.heap.size) (hXo : X.Off (fun b => b < n0 ∨ w.heap.size ≤ b)) (hXs : X.Same R0) :
    FnOut ((Vt.mk h Y L K F).setF i R0) n0 w (.returned (.agg #[.int .i64 h.k, .bool h.b, .bool h.n, .string h.d, .int .i64 h.e, .int .i64 h.tk, .int .i64 h.td, .int .i64 h.tn, .int .i64 h.tz, .string h.x, .slice h.ba h.bn h.bc, .slice h.la h.ln h.lc, .slice (some ⟨gg, 0, none⟩) h.fn h.fn])) W := by
  have hok := hT.1
  have hTW := hT.below (hb.mono hn0)
  have hz := hb.size
  obtain ⟨h1, h2⟩ := fields_anew (S := fun b => b < n0 ∨ w.heap.size ≤ b) (K' := K) (M := fun j => if j = i then X else F j) (c' := h.fn) hT (hb.mono hn0) (by omega) hglt (.inr hgg) (fun b hb => .inl hb) hok.fn ⟨Nat.le_refl _, by have := hok.fc; omega⟩ hrow
    (fun j hj => by
      have hl := hTW.2.2.2.2.2.2 j hj
      refine ⟨hl.2.1, ?_⟩
      split
      · exact ⟨hX, hXo⟩
      · exact ⟨hl.2.2.2.up (by omega), hl.2.2.2.off.mono fun b hb => .inl hb⟩)
  refine ⟨_, rfl, h1, h2, ?_, hb⟩
  refine ⟨(fun e => by cases e), ⟨rfl, rfl, rfl, rfl, rfl, rfl, rfl, rfl, rfl, rfl, rfl, rfl, rfl⟩, fun _ _ => rfl, fun j hj => Vt.Same.rfl' (hT.whole.1 j hj), fun j hj => ⟨rfl, ?_⟩⟩
  show Vt.Same (if j = i then X else F j) (if j = i then R0 else F j)
  split
  · exact hXs
  · exact Vt.Same.rfl' (hT.whole.2 j hj)
/-- A tree through worlds that differ in a few blocks. -/
theorem Vt.In.through {W W' : World} {T : Vt} {n0 : Nat} {lo : Nat} (h : T.In W W.heap.size) (ho : T.Off (fun b => b < n0 ∨ lo ≤ b)) (hs : ∀ b, (b < n0 ∨ lo ≤ b) → W'.heap[b]? = W.heap[b]?) (hz : W.heap.size ≤ W'.heap.size) : T.In W' W'.heap.size :=
  Vt.In.turn (S := fun b => b < n0 ∨ lo ≤ b) (fun b hb hlt => ⟨hs b hb, by omega⟩) h ho
end Go.Proofs.YtpcbhneaaibfiaaDoor
/- A builder of values: what it has taken, and how that lies in memory. -/
namespace Go.Proofs.YtpcbhneaaibfiaaDoor
open Go.ChangeShapes Go.WideShapes Go.Joins Go.Deep Go.RowKit

/-- A list or a map that has begun: what it has, and the key whose value comes next. -/
structure Fr where
  mp : Bool
  n : Nat
  K : Nat → ByteArray
  M : Nat → Vt
  key : ByteArray
  kd : Bool
instance : Inhabited Fr := ⟨⟨false, 0, fun _ => ⟨#[]⟩, fun _ => .nil, ⟨#[]⟩, false⟩⟩
/-- What a builder has taken. -/
structure Bst where
  d : Nat
  fr : Nat → Fr
  dn : Bool
  out : Vt
  nd : Nat
  bad : Bool
/-- The cells of a frame. -/
def frc (k : Int) (l f : Value) (key : ByteArray) (kd : Bool) : Array Value := #[.int .i64 k, .bool false, .bool false, .string ⟨#[]⟩, .int .i64 0, .int .i64 0, .int .i64 0, .int .i64 0, .int .i64 0, .string ⟨#[]⟩, .slice none 0 0, l, f, .string key, .bool kd]
def Fr.cells (f : Fr) (u : Value) : Array Value := if f.mp = true then frc 7 (.slice none 0 0) u f.key f.kd else frc 6 u (.slice none 0 0) f.key f.kd
theorem frc_size (k : Int) (l f : Value) (key : ByteArray) (kd : Bool) : (frc k l f key kd).size = 15 := rfl
theorem Fr.cells_size (f : Fr) (u : Value) : (f.cells u).size = 15 := by unfold Fr.cells; split <;> rfl
/-- The row of a frame. -/
def Fr.row (f : Fr) (B0 : Nat) (S : Nat → Prop) (W : World) (u : Value) : Prop :=
  if f.mp = true then RowG fcs Prod.snd 14 76 B0 S (fun t x => x.1 = f.K t ∧ x.2.Same (f.M t)) W u f.n
  else RowG (fun x : Vt => x.h.cells) id 13 30 B0 S (fun t X => X.Same (f.M t)) W u f.n
/-- The row of the frames. -/
def FrRow (B0 : Nat) (W : World) (ov : Value) (d : Nat) (C : Nat → Array Value) : Prop :=
  ∃ xs, W.ownsRow B0 98 15 ov d xs ∧ ∀ i, i < d → ∀ j, j < 15 → xs[i * 15 + j]? = (C i)[j]?
/-- The cells of a builder. -/
def bcells (ov : Value) (dn : Bool) (g : Vh) (nd : Nat) (bad : Bool) : Array Value := #[ov, .bool dn, .int .i64 g.k, .bool g.b, .bool g.n, .string g.d, .int .i64 g.e, .int .i64 g.tk, .int .i64 g.td, .int .i64 g.tn, .int .i64 g.tz, .string g.x, .slice g.ba g.bn g.bc, .slice g.la g.ln g.lc, .slice g.fa g.fn g.fc, .int .i64 nd, .bool bad]
/-- What bounds a builder. -/
structure Bst.ok (s : Bst) : Prop where
  d : s.d ≤ 48
  nd : s.nd ≤ 65536
  fr : ∀ i, i < s.d → (s.fr i).n ≤ s.nd ∧ (s.fr i).key.size ≤ 1048576 ∧ ∀ j, j < (s.fr i).n → ((s.fr i).K j).size ≤ 1048576 ∧ ((s.fr i).M j).upto (48 - i)
  out : s.dn = true → s.out.upto 49
/-- A builder in memory: A: the blocks that it reads; O: the blocks that it writes. -/
structure BIn (B0 bb : Nat) (A O : Nat → Prop) (W : World) (s : Bst) (ov : Value) (us : Nat → Value) (X : Vt) : Prop where
  hO : ∀ b, O b ↔ (b = bb ∨ ov.ownBlock = some b ∨ ∃ i, i < s.d ∧ (us i).ownBlock = some b)
  hA : ∀ b, O b → A b
  box : Whole W bb 86 (bcells ov s.dn X.h s.nd s.bad)
  hB0 : B0 ≤ bb
  row : FrRow B0 W ov s.d (fun i => (s.fr i).cells (us i))
  rows : ∀ i, i < s.d → (s.fr i).row B0 (fun b => A b ∧ ¬ O b) W (us i)
  sep1 : ov.ownBlock ≠ some bb
  sep2 : ∀ i, i < s.d → (us i).ownBlock ≠ some bb ∧ ((us i).ownBlock = ov.ownBlock → (us i).ownBlock = none)
  sep3 : ∀ i j, i < s.d → j < s.d → i ≠ j → (us i).ownBlock = (us j).ownBlock → (us i).ownBlock = none
  inn : X.In W W.heap.size
  off : X.Off (fun b => A b ∧ ¬ O b)
  yes : s.dn = true → X.Same s.out
  no : s.dn = false → X = .z
  ok : s.ok
def BInv (B0 bb : Nat) (A O : Nat → Prop) (W : World) (s : Bst) : Prop := ∃ ov us X, BIn B0 bb A O W s ov us X

theorem own_block {W W' : World} {B C n : Nat} {e : TypeId} {v : Value} {xs : List Value} (h : W.ownsRow B e C v n xs) (hv : ∀ g, v.ownBlock = some g → W'.heap[g]? = W.heap[g]?) : W'.ownsRow B e C v n xs := by
  obtain ⟨hl, h⟩ := h
  refine ⟨hl, ?_⟩
  rcases h with h | ⟨g, cap, cur, rfl, hb, hh, hr⟩
  · exact .inl h
  · exact .inr ⟨g, cap, cur, rfl, hb, by rw [hv g rfl]; exact hh, hr⟩
theorem own_lt {W : World} {B C n : Nat} {e : TypeId} {v : Value} {xs : List Value} (h : W.ownsRow B e C v n xs) {g : Nat} (hg : v.ownBlock = some g) : B ≤ g ∧ g < W.heap.size := h.lt g hg
/-- A row of a block, opened and shut. -/
theorem own_open {W : World} {B C n : Nat} {e : TypeId} {v : Value} {xs : List Value} (h : W.ownsRow B e C v n xs) (hn : 0 < n) :
    ∃ g c cur, v = .slice (some ⟨g, 0, none⟩) n c ∧ Whole W g e cur ∧ B ≤ g ∧ n ≤ c ∧ c ≤ maxLen ∧ cur.size = c * C ∧ cur.toList.take (n * C) = xs := by
  obtain ⟨hl, h⟩ := h
  rcases h with ⟨_, rfl⟩ | ⟨g, cap, cur, rfl, hb, hh, h1, h2, h3, h4⟩
  · exact absurd hn (Nat.lt_irrefl _)
  · exact ⟨g, cap, cur, rfl, hh, hb, h1, h2, h3, h4⟩
theorem own_shut {W : World} {B C n g c : Nat} {e : TypeId} {cur : Array Value} (hW : Whole W g e cur) (hB : B ≤ g) (h1 : n ≤ c) (h2 : c ≤ maxLen) (h3 : cur.size = c * C) : W.ownsRow B e C (.slice (some ⟨g, 0, none⟩) n c) n (cur.toList.take (n * C)) := by
  have hle : n * C ≤ c * C := Nat.mul_le_mul_right C h1
  exact ⟨by rw [List.length_take, Array.length_toList, h3]; exact Nat.min_eq_left hle, .inr ⟨g, c, cur, rfl, hB, hW, h1, h2, h3, rfl⟩⟩
theorem take_get {cur : Array Value} {m j : Nat} (h : j < m) : (cur.toList.take m)[j]? = cur[j]? := by
  rw [List.getElem?_take_of_lt h, Array.getElem?_toList]
theorem FrRow.op {B0 d : Nat} {W : World} {ov : Value} {C : Nat → Array Value} (h : FrRow B0 W ov d C) (hd : 0 < d) :
    ∃ o c cur, ov = .slice (some ⟨o, 0, none⟩) d c ∧ Whole W o 98 cur ∧ B0 ≤ o ∧ d ≤ c ∧ c ≤ maxLen ∧ cur.size = c * 15 ∧ ∀ i, i < d → ∀ j, j < 15 → cur[i * 15 + j]? = (C i)[j]? := by
  obtain ⟨xs, ho, hx⟩ := h
  obtain ⟨o, c, cur, rfl, hW, hB, h1, h2, h3, h4⟩ := own_open ho hd
  refine ⟨o, c, cur, rfl, hW, hB, h1, h2, h3, fun i hi j hj => ?_⟩
  have hlt : i * 15 + j < d * 15 := by omega
  rw [← hx i hi j hj, ← h4, take_get hlt]
theorem FrRow.sh {B0 d o c : Nat} {W : World} {C : Nat → Array Value} {cur : Array Value} (hW : Whole W o 98 cur) (hB : B0 ≤ o) (h1 : d ≤ c) (h2 : c ≤ maxLen) (h3 : cur.size = c * 15) (hC : ∀ i, i < d → ∀ j, j < 15 → cur[i * 15 + j]? = (C i)[j]?) :
    FrRow B0 W (.slice (some ⟨o, 0, none⟩) d c) d C :=
  ⟨_, own_shut hW hB h1 h2 h3, fun i hi j hj => by rw [take_get (by omega)]; exact hC i hi j hj⟩
theorem FrRow.slice {B0 d : Nat} {W : World} {ov : Value} {C : Nat → Array Value} (h : FrRow B0 W ov d C) : ∃ a c, ov = .slice a d c := by
  obtain ⟨xs, ⟨_, h⟩, _⟩ := h
  rcases h with ⟨rfl, rfl⟩ | ⟨g, cap, cur, rfl, _⟩
  · exact ⟨_, _, rfl⟩
  · exact ⟨_, _, rfl⟩
theorem FrRow.block {B0 d : Nat} {W W' : World} {ov : Value} {C : Nat → Array Value} (h : FrRow B0 W ov d C) (hv : ∀ g, ov.ownBlock = some g → W'.heap[g]? = W.heap[g]?) : FrRow B0 W' ov d C := by
  obtain ⟨xs, ho, hx⟩ := h
  exact ⟨xs, own_block ho hv, hx⟩
theorem FrRow.lt {B0 d : Nat} {W : World} {ov : Value} {C : Nat → Array Value} (h : FrRow B0 W ov d C) {g : Nat} (hg : ov.ownBlock = some g) : B0 ≤ g ∧ g < W.heap.size := by
  obtain ⟨xs, ho, _⟩ := h
  exact own_lt ho hg
theorem FrRow.congr {B0 d : Nat} {W : World} {ov : Value} {C C' : Nat → Array Value} (h : FrRow B0 W ov d C) (hC : ∀ i, i < d → C i = C' i) : FrRow B0 W ov d C' := by
  obtain ⟨xs, ho, hx⟩ := h
  exact ⟨xs, ho, fun i hi j hj => by rw [hx i hi j hj, hC i hi]⟩
section
variable {α : Type} {cs : α → Array Value} {tr : α → Vt} {C : Nat} {e : TypeId} {B : Nat} {S S' : Nat → Prop} {q : Nat → α → Prop} {W W' : World} {v : Value} {k : Nat}
theorem RowG.block (h : RowG cs tr C e B S q W v k) (hv : ∀ g, v.ownBlock = some g → W'.heap[g]? = W.heap[g]?) (hz : W.heap.size ≤ W'.heap.size) (hS : ∀ b, b < W.heap.size → S b → some b ≠ v.ownBlock → W'.heap[b]? = W.heap[b]?) : RowG cs tr C e B S q W' v k := by
  obtain ⟨f, ho, hf⟩ := h
  exact ⟨f, own_block ho hv, fun i hi => ⟨Vt.In.turn (fun b hb hlt => ⟨hS b hlt hb.1 hb.2, Nat.lt_of_lt_of_le hlt hz⟩) (hf i hi).1 (hf i hi).2.1, (hf i hi).2⟩⟩
theorem RowG.weak (h : RowG cs tr C e B S q W v k) (hS : ∀ b, b < W.heap.size → some b ≠ v.ownBlock → S b → S' b) : RowG cs tr C e B S' q W v k := by
  obtain ⟨f, ho, hf⟩ := h
  exact ⟨f, ho, fun i hi => ⟨(hf i hi).1, ((hf i hi).2.1.and (hf i hi).1.off).mono (fun b hb => ⟨hS b hb.2 hb.1.2 hb.1.1, hb.1.2⟩), (hf i hi).2.2⟩⟩
theorem RowG.lt (h : RowG cs tr C e B S q W v k) {g : Nat} (hg : v.ownBlock = some g) : B ≤ g ∧ g < W.heap.size := by
  obtain ⟨f, ho, _⟩ := h
  exact own_lt ho hg
theorem RowG.sl (h : RowG cs tr C e B S q W v k) : ∃ a c, v = .slice a k c := by
  obtain ⟨f, ⟨_, h⟩, _⟩ := h
  rcases h with ⟨rfl, rfl⟩ | ⟨g, cap, cur, rfl, _⟩
  · exact ⟨_, _, rfl⟩
  · exact ⟨_, _, rfl⟩
end
theorem Fr.row_block {f : Fr} {B0 : Nat} {S : Nat → Prop} {W W' : World} {u : Value} (h : f.row B0 S W u) (hv : ∀ g, u.ownBlock = some g → W'.heap[g]? = W.heap[g]?) (hz : W.heap.size ≤ W'.heap.size) (hS : ∀ b, b < W.heap.size → S b → some b ≠ u.ownBlock → W'.heap[b]? = W.heap[b]?) : f.row B0 S W' u := by
  unfold Fr.row at h ⊢
  split at h
  · rename_i c; rw [if_pos c]; exact h.block hv hz hS
  · rename_i c; rw [if_neg c]; exact h.block hv hz hS
theorem Fr.row_weak {f : Fr} {B0 : Nat} {S S' : Nat → Prop} {W : World} {u : Value} (h : f.row B0 S W u) (hS : ∀ b, b < W.heap.size → some b ≠ u.ownBlock → S b → S' b) : f.row B0 S' W u := by
  unfold Fr.row at h ⊢
  split at h
  · rename_i c; rw [if_pos c]; exact h.weak hS
  · rename_i c; rw [if_neg c]; exact h.weak hS
theorem Fr.row_lt {f : Fr} {B0 : Nat} {S : Nat → Prop} {W : World} {u : Value} (h : f.row B0 S W u) {g : Nat} (hg : u.ownBlock = some g) : B0 ≤ g ∧ g < W.heap.size := by
  unfold Fr.row at h
  split at h
  · exact h.lt hg
  · exact h.lt hg
theorem Fr.row_sl {f : Fr} {B0 : Nat} {S : Nat → Prop} {W : World} {u : Value} (h : f.row B0 S W u) : ∃ a c, u = .slice a f.n c := by
  unfold Fr.row at h
  split at h
  · exact h.sl
  · exact h.sl
/-- What turns elsewhere leaves a builder as it was. -/
theorem BIn.keep {B0 bb : Nat} {A O T : Nat → Prop} {W W' : World} {s : Bst} {ov : Value} {us : Nat → Value} {X : Vt} (h : BIn B0 bb A O W s ov us X) (hk : Kept T W W') (hA : ∀ b, A b → ¬ T b) : BIn B0 bb A O W' s ov us X := by
  have hO : ∀ b, O b → ¬ T b := fun b hb => hA b (h.hA b hb)
  have hbb : O bb := (h.hO bb).2 (.inl rfl)
  refine { h with
    box := (hk.block bb h.box.lt (hO bb hbb)).trans h.box
    row := h.row.block fun g hg => hk.block g (h.row.lt hg).2 (hO g ((h.hO g).2 (.inr (.inl hg))))
    rows := fun i hi => Fr.row_block (h.rows i hi) (fun g hg => hk.block g (Fr.row_lt (h.rows i hi) hg).2 (hO g ((h.hO g).2 (.inr (.inr ⟨i, hi, hg⟩))))) hk.size (fun b hb hs _ => hk.block b hb (hA b hs.1))
    inn := Vt.In.turn (S := fun b => A b ∧ ¬ O b) (fun b hb hlt => ⟨hk.block b hlt (hA b hb.1), Nat.lt_of_lt_of_le hlt hk.size⟩) h.inn h.off }
theorem BInv.keep {B0 bb : Nat} {A O T : Nat → Prop} {W W' : World} {s : Bst} (h : BInv B0 bb A O W s) (hk : Kept T W W') (hA : ∀ b, A b → ¬ T b) : BInv B0 bb A O W' s := by
  obtain ⟨ov, us, X, h⟩ := h
  exact ⟨ov, us, X, h.keep hk hA⟩
theorem kept_below {W W' : World} (h : Below W.heap.size W W') : Kept (fun _ => False) W W' := ⟨h.os, h.tape, h.output, h.size, fun k hk _ => h.block k hk⟩
theorem BIn.later {B0 bb : Nat} {A O : Nat → Prop} {W W' : World} {s : Bst} {ov : Value} {us : Nat → Value} {X : Vt} (h : BIn B0 bb A O W s ov us X) (hb : Below W.heap.size W W') : BIn B0 bb A O W' s ov us X := h.keep (kept_below hb) (fun _ _ q => q)
theorem BInv.later {B0 bb : Nat} {A O : Nat → Prop} {W W' : World} {s : Bst} (h : BInv B0 bb A O W s) (hb : Below W.heap.size W W') : BInv B0 bb A O W' s := h.keep (kept_below hb) (fun _ _ q => q)
/-- It may read more. -/
theorem BIn.more {B0 bb : Nat} {A A' O : Nat → Prop} {W : World} {s : Bst} {ov : Value} {us : Nat → Value} {X : Vt} (h : BIn B0 bb A O W s ov us X) (hA : ∀ b, A b → A' b) : BIn B0 bb A' O W s ov us X :=
  { h with
    hA := fun b hb => hA b (h.hA b hb)
    rows := fun i hi => Fr.row_weak (h.rows i hi) (fun b _ _ hb => ⟨hA b hb.1, hb.2⟩)
    off := h.off.mono (fun b hb => ⟨hA b hb.1, hb.2⟩) }
theorem BIn.O_lt {B0 bb : Nat} {A O : Nat → Prop} {W : World} {s : Bst} {ov : Value} {us : Nat → Value} {X : Vt} (h : BIn B0 bb A O W s ov us X) {b : Nat} (hb : O b) : B0 ≤ b ∧ b < W.heap.size := by
  rcases (h.hO b).1 hb with rfl | hb | ⟨i, hi, hb⟩
  · exact ⟨h.hB0, h.box.lt⟩
  · exact h.row.lt hb
  · exact Fr.row_lt (h.rows i hi) hb
end Go.Proofs.YtpcbhneaaibfiaaDoor
