/- Laid together for a claim: VtChg, VtRemM, VtFindR. -/
import Derived.Test.YtfkfboiblgoamaaDoorQB14
import Derived.Deep.RegionHeld3
/- Values changed at a path, walked (access.change). -/
namespace Go.Proofs.YtfkfboiblgoamaaDoor
open Go.RowKit

/-- What a change answers. -/
def FnOut (R0 : Vt) (n0 : Nat) (w : World) (e : Ending) (w' : World) : Prop :=
  ∃ X : Vt, e = .returned (.agg #[.int .i64 X.h.k, .bool X.h.b, .bool X.h.n, .string X.h.d, .int .i64 X.h.e, .int .i64 X.h.tk, .int .i64 X.h.td, .int .i64 X.h.tn, .int .i64 X.h.tz, .string X.h.x, .slice X.h.ba X.h.bn X.h.bc, .slice X.h.la X.h.ln X.h.lc, .slice X.h.fa X.h.fn X.h.fc]) ∧ X.In w' w'.heap.size ∧ X.Off (fun b => b < n0 ∨ w.heap.size ≤ b) ∧ X.Same R0 ∧ Below w.heap.size w w'
def FnOk (F : Nat) (cap : Array Value) (g : Vt → Vt) (pre : Vt → Prop) (W0 : World) (n0 : Nat) : Prop :=
  ∀ (w : World) (U : Vt), Below n0 W0 w → U.In w n0 → pre U → Calls Tryd.prog F (#[.agg U.h.cells] ++ cap) w (FnOut (g U) n0 w)

/-! ### cells written one after the other -/
def setN (C : Array Value) : Nat → List Value → Array Value
  | _, [] => C
  | o, v :: r => setN (C.setIfInBounds o v) (o + 1) r
theorem setN_size : ∀ (vs : List Value) (C : Array Value) (o : Nat), (setN C o vs).size = C.size := by
  intro vs
  induction vs with
  | nil => intro C o; rfl
  | cons v r ih => intro C o; rw [setN, ih]; simp
theorem setN_out : ∀ (vs : List Value) (C : Array Value) (o k : Nat), (k < o ∨ o + vs.length ≤ k) → (setN C o vs)[k]? = C[k]? := by
  intro vs
  induction vs with
  | nil => intro C o k _; rfl
  | cons v r ih =>
    intro C o k h
    simp only [List.length_cons] at h
    rw [setN, ih _ _ _ (by omega), Array.getElem?_setIfInBounds_ne (by omega)]
theorem setN_in : ∀ (vs : List Value) (C : Array Value) (o j : Nat), o + vs.length ≤ C.size → j < vs.length → (setN C o vs)[o + j]? = vs[j]? := by
  intro vs
  induction vs with
  | nil => intro C o j _ h; exact absurd h (Nat.not_lt_zero _)
  | cons v r ih =>
    intro C o j hl hj
    simp only [List.length_cons] at hl hj
    rw [setN]
    match j, hj with
    | 0, _ =>
      have e := setN_out r (C.setIfInBounds o v) (o + 1) o (.inl (Nat.lt_succ_self o))
      show (setN (C.setIfInBounds o v) (o + 1) r)[o]? = some v
      rw [e, Array.getElem?_setIfInBounds_self_of_lt (by omega)]
    | j + 1, hj =>
      rw [show o + (j + 1) = o + 1 + j by omega, ih _ _ _ (by simp; omega) (by omega), List.getElem?_cons_succ]
theorem Whole.setCells {g : Nat} {t : TypeId} : ∀ (vs : List Value) {W : World} {C : Array Value} (o : Nat), Whole W g t C → Whole (W.setCells g o vs) g t (setN C o vs) := by
  intro vs
  induction vs with
  | nil => intro W C o h; exact h
  | cons v r ih => intro W C o h; exact ih (o + 1) (h.set o v)
theorem heap_setCells {g k : Nat} (hk : k ≠ g) : ∀ (vs : List Value) (W : World) (o : Nat), (W.setCells g o vs).heap[k]? = W.heap[k]? := by
  intro vs
  induction vs with
  | nil => intro W o; rfl
  | cons v r ih => intro W o; rw [World.setCells, ih]; exact Below.heap_setCell _ _ _ _ (by simpa using hk)
theorem size_setCells {g : Nat} : ∀ (vs : List Value) (W : World) (o : Nat), (W.setCells g o vs).heap.size = W.heap.size := by
  intro vs
  induction vs with
  | nil => intro W o; rfl
  | cons v r ih => intro W o; rw [World.setCells, ih]; simp
theorem below_setCells {n g : Nat} {a : World} (hg : n ≤ g) : ∀ (vs : List Value) {W : World} (o : Nat), Below n a W → Below n a (W.setCells g o vs) := by
  intro vs
  induction vs with
  | nil => intro W o h; exact h
  | cons v r ih => intro W o h; exact ih (o + 1) (h.setCell (p := ⟨g, o, none⟩) hg v)
theorem whole_there {W : World} {g o n : Nat} {t : TypeId} {C : Array Value} (h : Whole W g t C) (hn : o + n ≤ C.size) : W.there g o n := fun j hj => by
  refine ⟨?_, h.frozen _⟩
  rw [h.cell, Array.getElem?_eq_getElem (by omega)]
  rfl
theorem stp_size : (Tryd.prog.info? 50).map (·.size) = some 3 := by kernel_rfl
theorem elem_path : Tryd.prog.elem 31 = 50 := by kernel_rfl
/-- A path without its first step. -/
theorem slice_rest {b o m c : Nat} (hc : m + 1 ≤ c) (hm : m ≤ 1048576) : ∃ a1 : Addr, (a1 = ⟨b, o + 3, none⟩ ∨ m = 0) ∧
    ∀ W, (Instr.sliceAt 31 (.slice (some ⟨b, o, none⟩) (m + 1) c) (some (.int .i64 1)) none none).run Tryd.prog W = .ok (.slice (some a1) m (c - 1)) W := by
  have hu : Tryd.prog.underlying 31 = some (.slice (Tryd.prog.elem 31)) := by rw [elem_path]; exact Tryd.underlying31
  refine ⟨if c = 1 then ⟨b, o, none⟩ else ⟨b, o + 3, none⟩, ?_, fun W => ?_⟩
  · by_cases h : c = 1
    · exact .inr (by omega)
    · exact .inl (if_neg h)
  · rw [run_sliceAt_slice _ _ _ _ _ _ hu, run_slice_l _ _ _ _ _ hu .i64 1 (by omega) (by omega), elem_path]
    cases hq : Tryd.prog.info? 50 with
    | none => have := stp_size; rw [hq] at this; cases this
    | some i =>
      have hi : i.size = 3 := by have := stp_size; rw [hq] at this; simpa using this
      by_cases h : c = 1
      · subst h
        obtain rfl : m = 0 := by omega
        simp [sizeOf, typeInfo, hq, hi, sliced, Result.andThen]
      · simp [sizeOf, typeInfo, hq, hi, sliced, Result.andThen, h, Addr.add]
/-- One value of a row written anew. -/
theorem row_set {W : World} {g n C i : Nat} {t : TypeId} {f : Nat → Array Value} {cur : Array Value} {x : Array Value} (hf : ∀ j, (f j).size = C) (hx : x.size = C) (hi : i < n) (hg : Whole W g t cur) (hs : n * C ≤ cur.size) (hrow : ∀ j, j < n → LiesAt W g (j * C) (f j)) :
    ∀ j, j < n → LiesAt (W.setCells g (i * C) x.toList) g (j * C) (if j = i then x else f j) := by
  have hG := hg.setCells x.toList (i * C)
  have hfit : i * C + x.toList.length ≤ cur.size := by
    have : (i + 1) * C ≤ n * C := Nat.mul_le_mul_right C hi
    rw [Nat.succ_mul] at this
    simp only [Array.length_toList]
    omega
  intro j hj k hk
  rw [show (W.setCells g (i * C) x.toList).cell? ⟨g, j * C + k, none⟩ = (setN cur (i * C) x.toList)[j * C + k]? from hG.cell _]
  by_cases e : j = i
  · subst e
    rw [if_pos rfl] at hk ⊢
    rw [setN_in _ _ _ _ hfit (by simpa using hk), Array.getElem?_toList]
  · rw [if_neg e] at hk ⊢
    rw [hf] at hk
    have := hrow j hj k (by rw [hf]; exact hk)
    rw [show W.cell? ⟨g, j * C + k, none⟩ = cur[j * C + k]? from hg.cell _] at this
    rw [setN_out _ _ _ _ ?_, this]
    simp only [Array.length_toList, hx]
    rcases Nat.lt_or_ge j i with h | h
    · have : (j + 1) * C ≤ i * C := Nat.mul_le_mul_right C h
      rw [Nat.succ_mul] at this
      omega
    · have : (i + 1) * C ≤ j * C := Nat.mul_le_mul_right C (by omega)
      rw [Nat.succ_mul] at this
      omega
/-- One field's value of a row written anew. -/
theorem row_setF {W : World} {g n i : Nat} {t : TypeId} {K : Nat → ByteArray} {F : Nat → Vt} {cur : Array Value} {X : Vt} (hi : i < n) (hg : Whole W g t cur) (hs : n * 14 ≤ cur.size) (hrow : ∀ j, j < n → LiesAt W g (j * 14) (fcs (K j, F j))) :
    ∀ j, j < n → LiesAt (W.setCells g (i * 14 + 1) X.h.cells.toList) g (j * 14) (fcs (K j, if j = i then X else F j)) := by
  have hG := hg.setCells X.h.cells.toList (i * 14 + 1)
  have hlen : X.h.cells.toList.length = 13 := rfl
  have hfit : i * 14 + 1 + X.h.cells.toList.length ≤ cur.size := by
    have : (i + 1) * 14 ≤ n * 14 := Nat.mul_le_mul_right 14 hi
    omega
  intro j hj k hk
  have hk' : k < 14 := hk
  rw [show (W.setCells g (i * 14 + 1) X.h.cells.toList).cell? ⟨g, j * 14 + k, none⟩ = (setN cur (i * 14 + 1) X.h.cells.toList)[j * 14 + k]? from hG.cell _]
  have hold : ∀ m, m < 14 → cur[j * 14 + m]? = (fcs (K j, F j))[m]? := fun m hm => by
    rw [← hrow j hj m hm]
    exact (hg.cell _).symm
  by_cases e : j = i
  · subst e
    rw [if_pos rfl]
    match k, hk' with
    | 0, _ => rw [setN_out X.h.cells.toList cur (j * 14 + 1) (j * 14 + 0) (.inl (by omega))]; exact hold 0 (by decide)
    | m + 1, hm =>
      rw [show j * 14 + (m + 1) = j * 14 + 1 + m by omega, setN_in _ _ _ _ hfit (by omega)]
      match m, hm with
      | 0, _ | 1, _ | 2, _ | 3, _ | 4, _ | 5, _ | 6, _ | 7, _ | 8, _ | 9, _ | 10, _ | 11, _ | 12, _ => rfl
  · rw [if_neg e, setN_out _ _ _ _ ?_, hold k hk']
    rcases Nat.lt_or_ge j i with h | h
    · left; omega
    · right; omega
/-- A made row is a block known whole. -/
theorem made_whole {w : World} {base size g n : Nat} {e : TypeId} {xs : List Value} (h : w.ownsRow base e size (.slice (some ⟨g, 0, none⟩) n n) n xs) : ∃ cur, Whole w g e cur ∧ cur.size = n * size := by
  rcases h.2 with ⟨h0, _⟩ | ⟨g', cap, cur, h0, _, h2, _, _, h4, _⟩
  · cases h0
  · cases h0
    exact ⟨cur, h2, h4⟩
/-- A row that is copied whole. -/
theorem row_copied {W : World} {g n C : Nat} {t : TypeId} {f : Nat → Array Value} {cur : Array Value} (hf : ∀ j, (f j).size = C) (hg : Whole W g t cur) (hs : cur.size = n * C) :
    Whole (W.setRow g (spl cur 0 (catN f n))) g t (catN f n).toArray ∧ ∀ j, j < n → LiesAt (W.setRow g (spl cur 0 (catN f n))) g (j * C) (f j) := by
  have hl := catN_len hf n
  have e : spl cur 0 (catN f n) = (catN f n).toArray := by
    unfold spl
    rw [List.take_zero, List.nil_append, List.drop_eq_nil_of_le (by simp; omega), List.append_nil]
  rw [e]
  have hw := hg.setRow (catN f n).toArray
  refine ⟨hw, fun j hj k hk => ?_⟩
  rw [hf] at hk
  rw [hw.cell, List.getElem?_toArray]
  exact catN_get hf hk hj
/-- A value whose list lies anew. -/
theorem list_anew {V W : World} {n0 g c' : Nat} {S : Nat → Prop} {h : Vh} {Y : Nat → Int} {L : Nat → Vt} {K : Nat → ByteArray} {F : Nat → Vt} {M : Nat → Vt} (hT : (Vt.mk h Y L K F).In V n0) (hb : Below n0 V W) (hn0 : n0 ≤ W.heap.size) (hg : g < W.heap.size) (hgS : S g) (hS : ∀ b, b < n0 → S b)
    {m : Nat} (hm : m ≤ 1048576) (hc : m ≤ c' ∧ c' ≤ maxLen) (hrow : ∀ j, j < m → LiesAt W g (j * 13) (M j).h.cells) (hM : ∀ j, j < m → (M j).In W W.heap.size ∧ (M j).Off S) :
    (Vt.mk { h with la := some ⟨g, 0, none⟩, ln := m, lc := c', lb := g, lo := 0 } Y M K F).In W W.heap.size ∧ (Vt.mk { h with la := some ⟨g, 0, none⟩, ln := m, lc := c', lb := g, lo := 0 } Y M K F).Off S := by
  have hT2 := hT.below hb
  obtain ⟨h0, h1, h2, h3, h4, h5, h6⟩ := hT2
  refine ⟨⟨⟨h0.k, h0.e, h0.tk, h0.td, h0.tn, h0.tz, h0.d, h0.x, h0.bn, hm, h0.fn, hc, h0.fc⟩, fun q => ⟨(h1 q).1, Nat.lt_of_lt_of_le (h1 q).2 hn0⟩, h2, fun _ => ⟨rfl, hg⟩, fun i hi => ⟨by rw [Nat.zero_add]; exact hrow i hi, (hM i hi).1⟩, fun q => ⟨(h5 q).1, Nat.lt_of_lt_of_le (h5 q).2 hn0⟩, fun i hi => ⟨(h6 i hi).1, (h6 i hi).2.1, (h6 i hi).2.2.1, (h6 i hi).2.2.2.up hn0⟩⟩, ?_⟩
  exact ⟨fun q => hS _ (h1 q).2, fun _ => hgS, fun i hi => (hM i hi).2, fun q => hS _ (h5 q).2, fun i hi => (h6 i hi).2.2.2.off.mono fun b hb => hS b hb⟩
/-- A value whose fields lie anew. -/
theorem fields_anew {V W : World} {n0 g c' : Nat} {S : Nat → Prop} {h : Vh} {Y : Nat → Int} {L : Nat → Vt} {K : Nat → ByteArray} {F : Nat → Vt} {K' : Nat → ByteArray} {M : Nat → Vt} (hT : (Vt.mk h Y L K F).In V n0) (hb : Below n0 V W) (hn0 : n0 ≤ W.heap.size) (hg : g < W.heap.size) (hgS : S g) (hS : ∀ b, b < n0 → S b)
    {m : Nat} (hm : m ≤ 1048576) (hc : m ≤ c' ∧ c' ≤ maxLen) (hrow : ∀ j, j < m → LiesAt W g (j * 14) (fcs (K' j, M j))) (hM : ∀ j, j < m → (K' j).size ≤ 1048576 ∧ (M j).In W W.heap.size ∧ (M j).Off S) :
    (Vt.mk { h with fa := some ⟨g, 0, none⟩, fn := m, fc := c', fb := g, fo := 0 } Y L K' M).In W W.heap.size ∧ (Vt.mk { h with fa := some ⟨g, 0, none⟩, fn := m, fc := c', fb := g, fo := 0 } Y L K' M).Off S := by
  have hT2 := hT.below hb
  obtain ⟨h0, h1, h2, h3, h4, h5, h6⟩ := hT2
  refine ⟨⟨⟨h0.k, h0.e, h0.tk, h0.td, h0.tn, h0.tz, h0.d, h0.x, h0.bn, h0.ln, hm, h0.lc, hc⟩, fun q => ⟨(h1 q).1, Nat.lt_of_lt_of_le (h1 q).2 hn0⟩, h2, fun q => ⟨(h3 q).1, Nat.lt_of_lt_of_le (h3 q).2 hn0⟩, fun i hi => ⟨(h4 i hi).1, (h4 i hi).2.up hn0⟩, fun _ => ⟨rfl, hg⟩, fun i hi => ?_⟩, ?_⟩
  · obtain ⟨k1, k2⟩ := (hrow i hi).fcs
    simp only [Nat.zero_add]
    exact ⟨k1, (hM i hi).1, k2, (hM i hi).2.1⟩
  · exact ⟨fun q => hS _ (h1 q).2, fun q => hS _ (h3 q).2, fun i hi => (h4 i hi).2.off.mono fun b hb => hS b hb, fun _ => hgS, fun i hi => (hM i hi).2.2⟩
/-- The end of a change of a list's element. -/
theorem chgL_end {h : Vh} {Y : Nat → Int} {L : Nat → Vt} {K : Nat → ByteArray} {F : Nat → Vt} {w W : World} {n0 gg i : Nat} {X R0 : Vt} (hT : (Vt.mk h Y L K F).In w n0) (hb : Below w.heap.size w W) (hn0 : n0 ≤ w.heap.size) (hgg : w.heap.size ≤ gg) (hglt : gg < W.heap.size)
    (hrow : ∀ j, j < h.ln → LiesAt W gg (j * 13) (if j = i then X.h.cells else (L j).h.cells)) (hX : X.In W W.heap.size) (hXo : X.Off (fun b => b < n0 ∨ w.heap.size ≤ b)) (hXs : X.Same R0) :
    FnOut ((Vt.mk h Y L K F).setL i R0) n0 w (.returned (.agg #[.int .i64 h.k, .bool h.b, .bool h.n, .string h.d, .int .i64 h.e, .int .i64 h.tk, .int .i64 h.td, .int .i64 h.tn, .int .i64 h.tz, .string h.x, .slice h.ba h.bn h.bc, .slice (some ⟨gg, 0, none⟩) h.ln h.ln, .slice h.fa h.fn h.fc])) W := by
  have hok := hT.1
  have hTW := hT.below (hb.mono hn0)
  have hz := hb.size
  obtain ⟨h1, h2⟩ := list_anew (S := fun b => b < n0 ∨ w.heap.size ≤ b) (M := fun j => if j = i then X else L j) (c' := h.ln) hT (hb.mono hn0) (by omega) hglt (.inr hgg) (fun b hb => .inl hb) hok.ln ⟨Nat.le_refl _, by have := hok.lc; omega⟩
    (fun j hj => by
      have := hrow j hj
      split
      · rename_i e; rw [if_pos e] at this; exact this
      · rename_i e; rw [if_neg e] at this; exact this)
    (fun j hj => by
      split
      · exact ⟨hX, hXo⟩
      · have hl := (hTW.2.2.2.2.1 j hj).2
        exact ⟨hl.up (by omega), hl.off.mono fun b hb => .inl hb⟩)
  refine ⟨_, rfl, h1, h2, ?_, hb⟩
  refine ⟨(fun e => by cases e), ⟨rfl, rfl, rfl, rfl, rfl, rfl, rfl, rfl, rfl, rfl, rfl, rfl, rfl⟩, fun _ _ => rfl, fun j hj => ?_, fun j hj => ⟨rfl, Vt.Same.rfl' (hT.whole.2 j hj)⟩⟩
  show Vt.Same (if j = i then X else L j) (if j = i then R0 else L j)
  split
  · exact hXs
  · exact Vt.Same.rfl' (hT.whole.1 j hj)
/-- The end of a change of a field's value. -/
theorem chgF_end {h : Vh} {Y : Nat → Int} {L : Nat → Vt} {K : Nat → ByteArray} {F : Nat → Vt} {w W : World} {n0 gg i : Nat} {X R0 : Vt} (hT : (Vt.mk h Y L K F).In w n0) (hb : Below w.heap.size w W) (hn0 : n0 ≤ w.heap.size) (hgg : w.heap.size ≤ gg) (hglt : gg < W.heap.size)
    (hrow : ∀ j, j < h.fn → LiesAt W gg (j * 14) (fcs (K j, if j = i then X else F j))) (hX : X.In W W.heap.size) (hXo : X.Off (fun b => b < n0 ∨ w.heap.size ≤ b)) (hXs : X.Same R0) :
    FnOut ((Vt.mk h Y L K F).setF i R0) n0 w (.returned (.agg #[.int .i64 h.k, .bool h.b, .bool h.n, .string h.d, .int .i64 h.e, .int .i64 h.tk, .int .i64 h.td, .int .i64 h.tn, .int .i64 h.tz, .string h.x, .slice h.ba h.bn h.bc, .slice h.la h.ln h.lc, .slice (some ⟨gg, 0, none⟩) h.fn h.fn])) W := by
  have hok := hT.1
  have hTW := hT.below (hb.mono hn0)
  have hz := hb.size
  obtain ⟨h1, h2⟩ := fields_anew (S := fun b => b < n0 ∨ w.heap.size ≤ b) (K' := K) (M := fun j => if j = i then X else F j) (c' := h.fn) hT (hb.mono hn0) (by omega) hglt (.inr hgg) (fun b hb => .inl hb) hok.fn ⟨Nat.le_refl _, by have := hok.fc; omega⟩ hrow
    (fun j hj => by
      have hl := hTW.2.2.2.2.2.2 j hj
      refine ⟨hl.2.1, ?_⟩
      split
      · exact ⟨hX, hXo⟩
      · exact ⟨hl.2.2.2.up (by omega), hl.2.2.2.off.mono fun b hb => .inl hb⟩)
  refine ⟨_, rfl, h1, h2, ?_, hb⟩
  refine ⟨(fun e => by cases e), ⟨rfl, rfl, rfl, rfl, rfl, rfl, rfl, rfl, rfl, rfl, rfl, rfl, rfl⟩, fun _ _ => rfl, fun j hj => Vt.Same.rfl' (hT.whole.1 j hj), fun j hj => ⟨rfl, ?_⟩⟩
  show Vt.Same (if j = i then X else F j) (if j = i then R0 else F j)
  split
  · exact hXs
  · exact Vt.Same.rfl' (hT.whole.2 j hj)
/-- A tree through worlds that differ in a few blocks. -/
theorem Vt.In.through {W W' : World} {T : Vt} {n0 : Nat} {lo : Nat} (h : T.In W W.heap.size) (ho : T.Off (fun b => b < n0 ∨ lo ≤ b)) (hs : ∀ b, (b < n0 ∨ lo ≤ b) → W'.heap[b]? = W.heap[b]?) (hz : W.heap.size ≤ W'.heap.size) : T.In W' W'.heap.size :=
  Vt.In.turn (S := fun b => b < n0 ∨ lo ≤ b) (fun b hb hlt => ⟨hs b hb, by omega⟩) h ho
end Go.Proofs.YtfkfboiblgoamaaDoor
/- Values without a part: plain. -/
namespace Go.Proofs.YtfkfboiblgoamaaDoor
open Go.ChangeShapes Go.WideShapes Go.Joins Go.Deep Go.RowKit

def Vt.dropL : Vt → Nat → Vt
  | .nil, _ => .nil
  | .mk h Y L K F, i => .mk { h with ln := h.ln - 1 } Y (fun j => if j < i then L j else L (j + 1)) K F
def Vt.dropF : Vt → Nat → Vt
  | .nil, _ => .nil
  | .mk h Y L K F, i => .mk { h with fn := h.fn - 1 } Y L (fun j => if j < i then K j else K (j + 1)) (fun j => if j < i then F j else F (j + 1))
/-- A value without the part to which a step leads. -/
noncomputable def Vt.wo (T : Vt) (s : Stp) : Vt := if s.ix = true then T.dropL (T.find s).1.toNat else T.dropF (T.find s).1.toNat
theorem catN_append {f : Nat → Array Value} {m : Nat} : ∀ n, catN f (m + n) = catN f m ++ catN (fun j => f (m + j)) n := by
  intro n
  induction n with
  | zero => simp [catN]
  | succ n ih => rw [show m + (n + 1) = (m + n) + 1 by omega, catN, ih, catN, List.append_assoc]
/-- A row copied in two pieces. -/
theorem row_two {W : World} {g n i C : Nat} {t : TypeId} {f : Nat → Array Value} {cur : Array Value} (hf : ∀ j, (f j).size = C) (hi : i ≤ n) (hg : Whole W g t cur) (hs : cur.size = n * C) :
    Whole (W.setRow g (spl cur 0 (catN f i))) g t (spl cur 0 (catN f i)) ∧ (spl cur 0 (catN f i)).size = n * C ∧
      (∀ W', Whole W' g t (spl cur 0 (catN f i)) → ∀ j, j < n → LiesAt (W'.setRow g (spl (spl cur 0 (catN f i)) (i * C) (catN (fun j => f (i + j)) (n - i)))) g (j * C) (f j)) := by
  have hl1 := catN_len hf i
  have hl2 := catN_len (fun j => hf (i + j)) (n - i)
  have hle : i * C ≤ n * C := Nat.mul_le_mul_right C hi
  have hsum : i * C + (n - i) * C = n * C := by rw [← Nat.add_mul]; congr 1; omega
  have hfit1 : 0 + (catN f i).length ≤ cur.size := by omega
  have hsz1 : (spl cur 0 (catN f i)).size = n * C := (spl_size hfit1).trans hs
  have hfit2 : i * C + (catN (fun j => f (i + j)) (n - i)).length ≤ (spl cur 0 (catN f i)).size := by omega
  refine ⟨hg.setRow _, hsz1, fun W' hW' j hj k hk => ?_⟩
  rw [hf] at hk
  rw [(hW'.setRow _).cell]
  by_cases hji : j < i
  · have hlt : j * C + k < i * C := by
      have : (j + 1) * C ≤ i * C := Nat.mul_le_mul_right C hji
      rw [Nat.succ_mul] at this
      omega
    rw [spl_before hfit2 hlt]
    have := spl_in hfit1 (j := j * C + k) (by omega)
    rw [Nat.zero_add] at this
    rw [this]
    exact catN_get hf hk hji
  · have h1 : j * C = i * C + (j - i) * C := by rw [← Nat.add_mul]; congr 1; omega
    have hlt : (j - i) * C + k < (catN (fun j => f (i + j)) (n - i)).length := by
      have : (j - i + 1) * C ≤ (n - i) * C := Nat.mul_le_mul_right C (by omega)
      rw [Nat.succ_mul] at this
      omega
    rw [show j * C + k = i * C + ((j - i) * C + k) by omega, spl_in hfit2 hlt, catN_get (fun j => hf (i + j)) hk (by omega)]
    rw [show i + (j - i) = j by omega]
theorem elem_vals : Tryd.prog.elem 27 = 30 := by kernel_rfl
theorem elem_flds : Tryd.prog.elem 28 = 61 := by kernel_rfl
section
variable {ty el : TypeId} {C : Nat} (hu : Tryd.prog.underlying ty = some (.slice el)) (he : Tryd.prog.elem ty = el) (hs : (Tryd.prog.info? el).map (·.size) = some C)
include hu he hs
/-- The first elements of a slice. -/
theorem slice_head {b o n c i : Nat} (hi : i ≤ c) (hc : 0 < c) (W : World) : (Instr.sliceAt ty (.slice (some ⟨b, o, none⟩) n c) none (some (.int .i64 i)) none).run Tryd.prog W = .ok (.slice (some ⟨b, o, none⟩) i c) W := by
  have hu' : Tryd.prog.underlying ty = some (.slice (Tryd.prog.elem ty)) := by rw [he]; exact hu
  rw [run_sliceAt_slice _ _ _ _ _ _ hu', run_slice_h _ _ _ _ _ hu' .i64 i (by omega) (by omega), he]
  cases hq : Tryd.prog.info? el with
  | none => rw [hq] at hs; cases hs
  | some t =>
    have hi : t.size = C := by rw [hq] at hs; simpa using hs
    have hc' : c ≠ 0 := by omega
    simp [sizeOf, typeInfo, hq, hi, sliced, Result.andThen, hc', Addr.add]
/-- The last elements of a slice. -/
theorem slice_from {b o n c i : Nat} {z : Int} (hz : z = i) (hi : i ≤ n) : ∃ a1 : Addr, (i < n → i < c → a1 = ⟨b, o + i * C, none⟩) ∧
    ∀ W, (Instr.sliceAt ty (.slice (some ⟨b, o, none⟩) n c) (some (.int .i64 z)) none none).run Tryd.prog W = .ok (.slice (some a1) (n - i) (c - i)) W := by
  subst hz
  have hu' : Tryd.prog.underlying ty = some (.slice (Tryd.prog.elem ty)) := by rw [he]; exact hu
  refine ⟨if c = i then ⟨b, o, none⟩ else (⟨b, o, none⟩ : Addr).add (i * C), fun h1 h2 => by rw [if_neg (by omega), add_plain], fun W => ?_⟩
  rw [run_sliceAt_slice _ _ _ _ _ _ hu', run_slice_l _ _ _ _ _ hu' .i64 i (by omega) (by omega), he]
  cases hq : Tryd.prog.info? el with
  | none => rw [hq] at hs; cases hs
  | some t =>
    have hi : t.size = C := by rw [hq] at hs; simpa using hs
    by_cases h : c = i
    · simp [sizeOf, typeInfo, hq, hi, sliced, Result.andThen, h]
    · simp [sizeOf, typeInfo, hq, hi, sliced, Result.andThen, h]
end
/-- The end of a removal of an element. -/
theorem dropL_end {h : Vh} {Y : Nat → Int} {L : Nat → Vt} {K : Nat → ByteArray} {F : Nat → Vt} {w W : World} {n0 gg i : Nat} {M : Nat → Vt} (hT : (Vt.mk h Y L K F).In w n0) (hi : i < h.ln) (hb : Below w.heap.size w W) (hn0 : n0 ≤ w.heap.size) (hgg : w.heap.size ≤ gg) (hglt : gg < W.heap.size)
    (hM : M = fun j => if j < i then L j else L (j + 1)) (hrow : ∀ j, j < h.ln - 1 → LiesAt W gg (j * 13) (M j).h.cells) :
    FnOut ((Vt.mk h Y L K F).dropL i) n0 w (.returned (.agg #[.int .i64 h.k, .bool h.b, .bool h.n, .string h.d, .int .i64 h.e, .int .i64 h.tk, .int .i64 h.td, .int .i64 h.tn, .int .i64 h.tz, .string h.x, .slice h.ba h.bn h.bc, .slice (some ⟨gg, 0, none⟩) (h.ln - 1) (h.ln - 1), .slice h.fa h.fn h.fc])) W := by
  have hok := hT.1
  have hTW := hT.below (hb.mono hn0)
  have hz := hb.size
  have hln := hok.ln
  have hlc := hok.lc
  obtain ⟨h1, h2⟩ := list_anew (S := fun b => b < n0 ∨ w.heap.size ≤ b) (M := M) (c' := h.ln - 1) hT (hb.mono hn0) (by omega) hglt (.inr hgg) (fun b hb => .inl hb) (m := h.ln - 1) (by omega) ⟨Nat.le_refl _, by omega⟩ hrow
    (fun j hj => by
      have hl : ∃ t, t < h.ln ∧ M j = L t := by
        rw [hM]
        by_cases c : j < i
        · exact ⟨j, by omega, if_pos c⟩
        · exact ⟨j + 1, by omega, if_neg c⟩
      obtain ⟨t, ht, e⟩ := hl
      rw [e]
      have hl := (hTW.2.2.2.2.1 t ht).2
      exact ⟨hl.up (by omega), hl.off.mono fun b hb => .inl hb⟩)
  refine ⟨_, rfl, h1, h2, ?_, hb⟩
  refine ⟨(fun e => by cases e), ⟨rfl, rfl, rfl, rfl, rfl, rfl, rfl, rfl, rfl, rfl, rfl, rfl, rfl⟩, fun _ _ => rfl, fun j hj => ?_, fun j hj => ⟨rfl, Vt.Same.rfl' (hT.whole.2 j hj)⟩⟩
  have hj' : j < h.ln - 1 := hj
  show Vt.Same (M j) (if j < i then L j else L (j + 1))
  rw [hM]
  dsimp only
  split
  · exact Vt.Same.rfl' (hT.whole.1 j (by omega))
  · exact Vt.Same.rfl' (hT.whole.1 (j + 1) (by omega))
/-- The end of a removal of a field. -/
theorem dropF_end {h : Vh} {Y : Nat → Int} {L : Nat → Vt} {K : Nat → ByteArray} {F : Nat → Vt} {w W : World} {n0 gg i : Nat} {M : Nat → ByteArray × Vt} (hT : (Vt.mk h Y L K F).In w n0) (hi : i < h.fn) (hb : Below w.heap.size w W) (hn0 : n0 ≤ w.heap.size) (hgg : w.heap.size ≤ gg) (hglt : gg < W.heap.size)
    (hM : M = fun j => if j < i then (K j, F j) else (K (j + 1), F (j + 1))) (hrow : ∀ j, j < h.fn - 1 → LiesAt W gg (j * 14) (fcs (M j))) :
    FnOut ((Vt.mk h Y L K F).dropF i) n0 w (.returned (.agg #[.int .i64 h.k, .bool h.b, .bool h.n, .string h.d, .int .i64 h.e, .int .i64 h.tk, .int .i64 h.td, .int .i64 h.tn, .int .i64 h.tz, .string h.x, .slice h.ba h.bn h.bc, .slice h.la h.ln h.lc, .slice (some ⟨gg, 0, none⟩) (h.fn - 1) (h.fn - 1)])) W := by
  have hok := hT.1
  have hTW := hT.below (hb.mono hn0)
  have hz := hb.size
  have hln := hok.fn
  have hlc := hok.fc
  have hl : ∀ j, j < h.fn - 1 → ∃ t, t < h.fn ∧ M j = (K t, F t) := fun j hj => by
    rw [hM]
    by_cases c : j < i
    · exact ⟨j, by omega, if_pos c⟩
    · exact ⟨j + 1, by omega, if_neg c⟩
  obtain ⟨h1, h2⟩ := fields_anew (S := fun b => b < n0 ∨ w.heap.size ≤ b) (K' := fun j => (M j).1) (M := fun j => (M j).2) (c' := h.fn - 1) hT (hb.mono hn0) (by omega) hglt (.inr hgg) (fun b hb => .inl hb) (m := h.fn - 1) (by omega) ⟨Nat.le_refl _, by omega⟩ hrow
    (fun j hj => by
      obtain ⟨t, ht, e⟩ := hl j hj
      rw [e]
      have hl := hTW.2.2.2.2.2.2 t ht
      exact ⟨hl.2.1, hl.2.2.2.up (by omega), hl.2.2.2.off.mono fun b hb => .inl hb⟩)
  refine ⟨_, rfl, h1, h2, ?_, hb⟩
  refine ⟨(fun e => by cases e), ⟨rfl, rfl, rfl, rfl, rfl, rfl, rfl, rfl, rfl, rfl, rfl, rfl, rfl⟩, fun _ _ => rfl, fun j hj => Vt.Same.rfl' (hT.whole.1 j hj), fun j hj => ?_⟩
  have hj' : j < h.fn - 1 := hj
  show (M j).1 = (if j < i then K j else K (j + 1)) ∧ Vt.Same (M j).2 (if j < i then F j else F (j + 1))
  rw [hM]
  dsimp only
  by_cases c : j < i
  · rw [if_pos c, if_pos c, if_pos c]
    exact ⟨rfl, Vt.Same.rfl' (hT.whole.2 j (by omega))⟩
  · rw [if_neg c, if_neg c, if_neg c]
    exact ⟨rfl, Vt.Same.rfl' (hT.whole.2 (j + 1) (by omega))⟩
end Go.Proofs.YtfkfboiblgoamaaDoor
/- Paths: what a step leads to, the reference (datakitref09.Find, Part). -/
namespace Go.Proofs.YtfkfboiblgoamaaDoor
open Go.RowKit

theorem find_k7 {T : Vt} {s : Stp} (hx : s.ix = false) (h : T.h.k ≠ 7) : T.find s = (0, 6) := by unfold Vt.find; rw [if_neg (by simp [hx]), if_pos h]
theorem find_key {T : Vt} {s : Stp} (hx : s.ix = false) (h : T.h.k = 7) (hf : fidx T.K s.key T.h.fn < T.h.fn) : T.find s = (((fidx T.K s.key T.h.fn : Nat) : Int), 0) := by unfold Vt.find; rw [if_neg (by simp [hx]), if_neg (by simp [h]), if_pos hf]
theorem find_nokey {T : Vt} {s : Stp} (hx : s.ix = false) (h : T.h.k = 7) (hf : ¬ fidx T.K s.key T.h.fn < T.h.fn) : T.find s = (0, 7) := by unfold Vt.find; rw [if_neg (by simp [hx]), if_neg (by simp [h]), if_neg hf]
theorem find_k6 {T : Vt} {s : Stp} (hx : s.ix = true) (h : T.h.k ≠ 6) : T.find s = (0, 6) := by unfold Vt.find; rw [if_pos hx, if_pos h]
theorem find_out {T : Vt} {s : Stp} (hx : s.ix = true) (h : T.h.k = 6) (hn : s.n < 0 ∨ (T.h.ln : Int) ≤ s.n) : T.find s = (0, 7) := by unfold Vt.find; rw [if_pos hx, if_neg (by simp [h]), if_pos hn]
theorem find_at {T : Vt} {s : Stp} (hx : s.ix = true) (h : T.h.k = 6) (hn : ¬ (s.n < 0 ∨ (T.h.ln : Int) ≤ s.n)) : T.find s = (s.n, 0) := by unfold Vt.find; rw [if_pos hx, if_neg (by simp [h]), if_neg hn]
set_option maxHeartbeats 8000000 in
set_option maxRecDepth 100000 in
theorem rfind_any {T : Vt} {s : Stp} {top : Nat} {w : World} (hT : T.In w top) (ht : top ≤ w.heap.size) (hs : w64 s.n) :
    Calls Tryd.prog 39 #[.agg T.h.cells, .agg s.cells] w fun r w' => r = .returned (.tuple #[.int .i64 (T.find s).1, .int .i64 (T.find s).2]) ∧ Below w.heap.size w w' := by
  cases T with
  | nil => exact hT.elim
  | mk h Y L K F =>
  have hb0 := ((Below.refl w.heap.size w).alloc (Nat.le_refl _) (.cells h.cells 30)).alloc (by simp) (.cells s.cells 50)
  have P := (Whole.new w 30 h.cells).alloc (.cells s.cells 50)
  have Q := Whole.new (w.alloc (.cells h.cells 30)) 50 s.cells
  rw [World.size_alloc] at Q
  have hok := hT.1
  have HFa : Hid (0 < h.fn → h.fa = some ⟨h.fb, h.fo, none⟩ ∧ h.fb < w.heap.size) := Lib.hid fun hp => ⟨(hT.2.2.2.2.2.1 hp).1, Nat.lt_of_lt_of_le (hT.2.2.2.2.2.1 hp).2 ht⟩
  have HT := Lib.hid hT.2.2.2.2.2.2
  obtain ⟨R, hR⟩ : ∃ R, (Vt.mk h Y L K F).find s = R := ⟨_, rfl⟩
  rw [hR]
  have HR := Lib.hid hR
  dsimp only [Vt.h]
  have hk := hok.k
  have hln := hok.ln
  have hfn := hok.fn
  clear hR hok hT
  obtain ⟨R1, R2⟩ := R
  obtain ⟨k, b, n', dd, e, tk, td, tn, tz, x, ba, bn, bc, la, ln, lc, fa, fn, fc, bb, bo, lb, lo, fb, fo⟩ := h
  obtain ⟨ix, key, n⟩ := s
  dsimp only at HFa HT hk hln hfn hs
  simp only [Vh.cells, Stp.cells] at hb0 P Q ⊢
  have hs1 := hs.1
  have hs2 := hs.2
  have hk1 := hk.1
  have hk2 := hk.2
  clear hs hk
  have n0 : (0 : Int) ≤ ln := by omega
  have n1 : (ln : Int) ≤ 1048576 := by omega
  have n2 : (0 : Int) ≤ fn := by omega
  have n3 : (fn : Int) ≤ 1048576 := by omega
  cases ix
  · by_cases k7 : k = 7
    case neg =>
      have hr := HR.out
      rw [find_k7 (T := Vt.mk ⟨k, b, n', dd, e, tk, td, tn, tz, x, ba, bn, bc, la, ln, lc, fa, fn, fc, bb, bo, lb, lo, fb, fo⟩ Y L K F) (s := ⟨false, key, n⟩) rfl k7, Prod.mk.injEq] at hr
      obtain ⟨rfl, rfl⟩ := hr
      have e7 : (k == 7) = false := beq_eq_false_iff_ne.2 k7
      have e7' : (k != 7) = true := by simpa using k7
      clear HR k7 HT HFa P Q
      go_enter Tryd.func39, Tryd.ntmps39
      go_wp2_with fail
      go_ret2
      exact ⟨rfl, hb0⟩
    have HR2 : Hid ((if fidx K key fn < fn then (((fidx K key fn : Nat) : Int), (0 : Int)) else ((0 : Int), (7 : Int))) = (R1, R2)) := Lib.hid (by
      rw [← HR.out]
      by_cases c : fidx K key fn < fn
      · rw [if_pos c]; exact (find_key (T := Vt.mk ⟨k, b, n', dd, e, tk, td, tn, tz, x, ba, bn, bc, la, ln, lc, fa, fn, fc, bb, bo, lb, lo, fb, fo⟩ Y L K F) (s := ⟨false, key, n⟩) rfl k7 c).symm
      · rw [if_neg c]; exact (find_nokey (T := Vt.mk ⟨k, b, n', dd, e, tk, td, tn, tz, x, ba, bn, bc, la, ln, lc, fa, fn, fc, bb, bo, lb, lo, fb, fo⟩ Y L K F) (s := ⟨false, key, n⟩) rfl k7 c).symm)
    have e7 : (k == 7) = true := beq_iff_eq.2 k7
    have e7' : (k != 7) = false := by simpa using k7
    clear HR k7
    go_enter Tryd.func39, Tryd.ntmps39
    go_wp2_with fail
    go_loopw [6] (fun i wr => ∃ j : Nat, j ≤ fn ∧ i = .int .i64 j ∧ Hid (∀ t, t < j → K t ≠ key) ∧ Whole wr w.heap.size 30 (Vh.cells ⟨k, b, n', dd, e, tk, td, tn, tz, x, ba, bn, bc, la, ln, lc, fa, fn, fc, bb, bo, lb, lo, fb, fo⟩) ∧ Whole wr (w.heap.size + 1) 50 (Stp.cells ⟨false, key, n⟩) ∧ Below w.heap.size w wr) (fun i _ => fn - (intOf i).toNat)
    case atStart => exact ⟨0, by omega, rfl, Lib.hid fun t h => absurd h (Nat.not_lt_zero _), P, Q, hb0⟩
    case round =>
      clear P Q hb0
      obtain ⟨j, hj, rfl, HJ, P, Q, hbr⟩ := hrel
      have hji : (0 : Int) ≤ j := by omega
      obtain ⟨-, -, -, -, -, -, -, -, -, -, -, -, p12⟩ := Whole.c13 P
      obtain ⟨q0, q1, q2⟩ := Whole.b3 (s := ⟨false, key, n⟩) Q
      dsimp only at p12 q0 q1 q2
      by_cases hjn : j < fn
      · obtain ⟨e1, hlt⟩ := HFa.out (by omega)
        have hji2 : (j : Int) < fn := by omega
        obtain ⟨k0, k1, k2, k3⟩ := HT.out j hjn
        have l0 := (hbr.cell (p := ⟨fb, fo + j * 14, none⟩) hlt).trans k0
        subst e1
        have hbd := fun m => below_drewN hbr m
        have HB := Lib.hid hbd
        have HP := Lib.hid (fun m => show Whole (wr.drewN m) w.heap.size 30 _ from P)
        have HQ := Lib.hid (fun m => show Whole (wr.drewN m) (w.heap.size + 1) 50 _ from Q)
        clear k0 k1 k2 k3 hbd
        by_cases c : K j = key
        · have hr : R1 = j ∧ R2 = 0 := by
            have := HR2.out
            rw [fidx_first HJ.out c hjn, if_pos hjn, Prod.mk.injEq] at this
            exact ⟨this.1.symm, this.2.symm⟩
          obtain ⟨rfl, rfl⟩ := hr
          have d1 : ((K j).toList == key.toList) = true := by rw [c]; exact beq_self_eq_true _
          clear HR2 HJ c HT
          generalize K j = y at *
          go_wp2_with fail
          go_quiet (fail)
          clear l0 p12 q0 q1 q2 P Q
          go_wp2
          go_ret2
          exact ⟨rfl, HB.out _⟩
        · have d1 : ((K j).toList == key.toList) = false := beq_eq_false_iff_ne.2 fun q => c (ba_eq q)
          have HJ2 : Hid (∀ t, t < j + 1 → K t ≠ key) := Lib.hid fun t ht => by
            by_cases q : t = j
            · subst q; exact c
            · exact HJ.out t (by omega)
          clear HJ c
          generalize K j = y at *
          go_wp2_with fail
          go_quiet (fail)
          clear l0 p12 q0 q1 q2 P Q
          go_wp2
          go_roundw
          case rel => exact ⟨j + 1, by omega, by go_num, HJ2, HP.out _, HQ.out _, HB.out _⟩
          case measure => simp [intOf]; omega
      · obtain rfl : j = fn := by omega
        have hr : R1 = 0 ∧ R2 = 7 := by
          have := HR2.out
          rw [fidx_none HJ.out, if_neg (Nat.lt_irrefl _), Prod.mk.injEq] at this
          exact ⟨this.1.symm, this.2.symm⟩
        obtain ⟨rfl, rfl⟩ := hr
        clear HR2 HJ HT hjn
        go_wp2
        go_ret2
        exact ⟨rfl, hbr⟩
  · clear HT HFa
    have hr := HR.out
    by_cases k6 : k = 6
    case neg =>
      rw [find_k6 (T := Vt.mk ⟨k, b, n', dd, e, tk, td, tn, tz, x, ba, bn, bc, la, ln, lc, fa, fn, fc, bb, bo, lb, lo, fb, fo⟩ Y L K F) (s := ⟨true, key, n⟩) rfl k6, Prod.mk.injEq] at hr
      obtain ⟨rfl, rfl⟩ := hr
      have e6 : (k == 6) = false := beq_eq_false_iff_ne.2 k6
      have e6' : (k != 6) = true := by simpa using k6
      clear HR k6
      go_enter Tryd.func39, Tryd.ntmps39
      go_wp2_with fail
      go_ret2
      exact ⟨rfl, hb0⟩
    have hk6 : (Vt.mk ⟨k, b, n', dd, e, tk, td, tn, tz, x, ba, bn, bc, la, ln, lc, fa, fn, fc, bb, bo, lb, lo, fb, fo⟩ Y L K F).h.k = 6 := k6
    have e6 : (k == 6) = true := beq_iff_eq.2 k6
    have e6' : (k != 6) = false := by simpa using k6
    have Hk6 := Lib.hid hk6
    clear HR k6 hk6
    by_cases c : n < 0
    · rw [find_out (s := ⟨true, key, n⟩) rfl Hk6.out (.inl c), Prod.mk.injEq] at hr
      obtain ⟨rfl, rfl⟩ := hr
      go_enter Tryd.func39, Tryd.ntmps39
      go_wp2_with fail
      go_ret2
      exact ⟨rfl, hb0⟩
    have cn : decide (n < 0) = false := decide_eq_false c
    have c0' : 0 ≤ n := by omega
    by_cases c2' : (ln : Int) ≤ n
    · rw [find_out (s := ⟨true, key, n⟩) rfl Hk6.out (.inr c2'), Prod.mk.injEq] at hr
      obtain ⟨rfl, rfl⟩ := hr
      go_enter Tryd.func39, Tryd.ntmps39
      go_wp2_with fail
      go_ret2
      exact ⟨rfl, hb0⟩
    · rw [find_at (s := ⟨true, key, n⟩) rfl Hk6.out (by rintro (q | q); exact c q; exact c2' q), Prod.mk.injEq] at hr
      obtain ⟨rfl, rfl⟩ := hr
      have cd : decide ((ln : Int) ≤ n) = false := decide_eq_false c2'
      go_enter Tryd.func39, Tryd.ntmps39
      go_wp2_with fail
      go_ret2
      exact ⟨rfl, hb0⟩
set_option maxHeartbeats 4000000 in
set_option maxRecDepth 100000 in
theorem part_any {T : Vt} {s : Stp} {top : Nat} {w : World} (hT : T.In w top) (ht : top ≤ w.heap.size) (h0 : (T.find s).2 = 0) :
    Calls Tryd.prog 40 #[.agg T.h.cells, .int .i64 (T.find s).1] w fun r w' => r = .returned (.agg (T.part (T.find s).1.toNat).h.cells) ∧ Below w.heap.size w w' := by
  obtain ⟨i, ei, hc⟩ := Vt.find_ok h0
  rw [ei, Int.toNat_natCast]
  clear ei h0
  cases T with
  | nil => exact hT.elim
  | mk h Y L K F =>
  have hb0 := ((Below.refl w.heap.size w).alloc (Nat.le_refl _) (.cells h.cells 30)).alloc (by simp) (.cells Vh.zero.cells 30)
  have Q := Whole.new (w.alloc (.cells h.cells 30)) 30 Vh.zero.cells
  rw [World.size_alloc] at Q
  have hok := hT.1
  have hln := hok.ln
  have hfn := hok.fn
  have i0 : (0 : Int) ≤ i := by omega
  rw [show (Vt.mk h Y L K F).h = h from rfl] at hc
  rcases hc with ⟨-, k6, hi, -⟩ | ⟨-, k7, hi, -⟩
  · rw [show (Vt.mk h Y L K F).part i = L i from if_pos k6]
    rw [show (Vt.mk h Y L K F).h = h from rfl]
    have e6 : (h.k == 6) = true := beq_iff_eq.2 k6
    obtain ⟨e1, hlt⟩ := hT.2.2.2.1 (show 0 < h.ln by omega)
    have hl := (hT.2.2.2.2.1 i hi).1.below (hb0.mono ht) hlt
    obtain ⟨l0, l1, l2, l3, l4, l5, l6, l7, l8, l9, l10, l11, l12⟩ := hl.c13
    have i1 : (i : Int) < h.ln := by omega
    clear hl hT k6 hok
    generalize (L i).h = G at *
    obtain ⟨k, b, n', dd, e, tk, td, tn, tz, x, ba, bn, bc, la, ln, lc, fa, fn, fc, bb, bo, lb, lo, fb, fo⟩ := h
    dsimp only at e1 i1 e6 l0 l1 l2 l3 l4 l5 l6 l7 l8 l9 l10 l11 l12
    subst e1
    have hbE := ((Below.refl w.heap.size w).alloc (Nat.le_refl _) (.cells (Vh.cells ⟨k, b, n', dd, e, tk, td, tn, tz, x, ba, bn, bc, some ⟨lb, lo, none⟩, ln, lc, fa, fn, fc, bb, bo, lb, lo, fb, fo⟩) 30)).alloc (by simp) (.cells G.cells 30)
    have hQE := Whole.new (w.alloc (.cells (Vh.cells ⟨k, b, n', dd, e, tk, td, tn, tz, x, ba, bn, bc, some ⟨lb, lo, none⟩, ln, lc, fa, fn, fc, bb, bo, lb, lo, fb, fo⟩) 30)) 30 G.cells
    rw [World.size_alloc] at hQE
    clear Q hb0
    simp only [Vh.cells, Vh.zero] at l0 l1 l2 l3 l4 l5 l6 l7 l8 l9 l10 l11 l12 ⊢
    go_enter Tryd.func40, Tryd.ntmps40
    go_wp2_with fail
    exact bodyPost_ret (v := .agg G.cells) (ret_val (p := 4) rfl rfl hQE) rfl ⟨rfl, hbE⟩
  · rw [show (Vt.mk h Y L K F).part i = F i from if_neg (show ¬ h.k = 6 by rw [k7]; decide)]
    rw [show (Vt.mk h Y L K F).h = h from rfl]
    have e6 : (h.k == 6) = false := by rw [k7]; rfl
    obtain ⟨e1, hlt⟩ := hT.2.2.2.2.2.1 (show 0 < h.fn by omega)
    have hl := (hT.2.2.2.2.2.2 i hi).2.2.1.below (hb0.mono ht) hlt
    obtain ⟨l0, l1, l2, l3, l4, l5, l6, l7, l8, l9, l10, l11, l12⟩ := hl.c13
    have i1 : (i : Int) < h.fn := by omega
    clear hl hT k7 hok
    generalize (F i).h = G at *
    obtain ⟨k, b, n', dd, e, tk, td, tn, tz, x, ba, bn, bc, la, ln, lc, fa, fn, fc, bb, bo, lb, lo, fb, fo⟩ := h
    dsimp only at e1 i1 e6 l0 l1 l2 l3 l4 l5 l6 l7 l8 l9 l10 l11 l12
    subst e1
    have hbE := ((Below.refl w.heap.size w).alloc (Nat.le_refl _) (.cells (Vh.cells ⟨k, b, n', dd, e, tk, td, tn, tz, x, ba, bn, bc, la, ln, lc, some ⟨fb, fo, none⟩, fn, fc, bb, bo, lb, lo, fb, fo⟩) 30)).alloc (by simp) (.cells G.cells 30)
    have hQE := Whole.new (w.alloc (.cells (Vh.cells ⟨k, b, n', dd, e, tk, td, tn, tz, x, ba, bn, bc, la, ln, lc, some ⟨fb, fo, none⟩, fn, fc, bb, bo, lb, lo, fb, fo⟩) 30)) 30 G.cells
    rw [World.size_alloc] at hQE
    clear Q hb0
    simp only [Vh.cells, Vh.zero] at l0 l1 l2 l3 l4 l5 l6 l7 l8 l9 l10 l11 l12 ⊢
    go_enter Tryd.func40, Tryd.ntmps40
    go_wp2_with fail
    exact bodyPost_ret (v := .agg G.cells) (ret_val (p := 4) rfl rfl hQE) rfl ⟨rfl, hbE⟩
end Go.Proofs.YtfkfboiblgoamaaDoor
