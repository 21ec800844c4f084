/- Paths: steps, how they lie in memory; what a step leads to (plain). -/
import Derived.Test.YtfkfboiblgoamaaVtSame
import Derived.Test.YtfkfboiblgoamaaVtUtf
namespace Go.Proofs.Ytfkfboiblgoamaa
open Go.ChangeShapes Go.WideShapes Go.Joins Go.Deep Go.RowKit

/-- A step of a path. -/
structure Stp where
  ix : Bool
  key : ByteArray
  n : Int
instance : Inhabited Stp := ⟨⟨false, ByteArray.empty, 0⟩⟩
def Stp.cells (s : Stp) : Array Value := #[.bool s.ix, .string s.key, .int .i64 s.n]
structure Stp.ok (s : Stp) : Prop where
  key : s.key.size ≤ 1048576
  n : w64 s.n
/-- A path in memory. -/
structure Pth where
  a : Option Addr
  n : Nat
  c : Nat
  b : Nat
  o : Nat
  S : Nat → Stp
def Pth.In (W : World) (top : Nat) (p : Pth) : Prop := (0 < p.n → p.a = some ⟨p.b, p.o, none⟩ ∧ p.b < top) ∧ p.n ≤ 1048576 ∧ ∀ i, i < p.n → LiesAt W p.b (p.o + i * 3) (p.S i).cells ∧ (p.S i).ok
theorem Pth.In.below {W W' : World} {top : Nat} {p : Pth} (h : p.In W top) (hb : Below top W W') : p.In W' top :=
  ⟨h.1, h.2.1, fun i hi => ⟨(h.2.2 i hi).1.below hb (h.1 (by omega)).2, (h.2.2 i hi).2⟩⟩
theorem Pth.In.up {W : World} {top top' : Nat} {p : Pth} (h : p.In W top) (hle : top ≤ top') : p.In W top' :=
  ⟨fun q => ⟨(h.1 q).1, Nat.lt_of_lt_of_le (h.1 q).2 hle⟩, h.2⟩
theorem LiesAt.s3 {W : World} {b o : Nat} {s : Stp} (H : LiesAt W b o s.cells) : W.cell? ⟨b, o, none⟩ = some (.bool s.ix) ∧ W.cell? ⟨b, o + 1, none⟩ = some (.string s.key) ∧ W.cell? ⟨b, o + 2, none⟩ = some (.int .i64 s.n) :=
  have z : s.cells.size = 3 := rfl
  ⟨H 0 (by omega), H 1 (by omega), H 2 (by omega)⟩
theorem cStp : Try.prog.cellsOf 59 = 3 := by kernel_rfl
section
variable {H : Type} {enc : TypeId × Value → H} {w : World} {base : Nat} {spare : Nat → Bool} {held : Bool}
set_option maxRecDepth 100000 in
theorem stp3 {n : Nat} {cs : List Value} {x : DataW H × List MemPlace} (hl : cs.length = 3) (h : DataW.trod enc Try.prog w base spare held n 59 cs = some x) (hM : Rows.uptoBulk x.1 ≤ 1048576) : ∃ s : Stp, cs = s.cells.toList ∧ s.ok := by
  match cs, hl with
  | [c0, c1, c2], _ =>
  obtain ⟨xs, m, _, hx, _, hlen, hf⟩ := DataW.trod_struct Try.underlying59 h
  match xs, hlen with
  | [x0, x1, x2], _ =>
  obtain ⟨a, rfl⟩ := bool1 (n := m) (c := c0) (x := x0) (by simpa [cBool] using hf 0 _ rfl)
  obtain ⟨s, rfl, hs⟩ := str1 (n := m) (c := c1) (x := x1) (by simpa [cStr] using hf 1 _ rfl)
  obtain ⟨e, rfl, he⟩ := int1 (n := m) (c := c2) (x := x2) (by simpa [cInt] using hf 2 _ rfl)
  rw [hx] at hM
  simp only [List.map_cons, List.map_nil, Rows.uptoBulk, Rows.uptoBulkAll] at hM
  exact ⟨⟨a, s, e⟩, rfl, by dsimp only; omega, he⟩
/-- .. an argument that is a path. -/
theorem open_path {r : Reach} {b0 : Nat} {v : Value} {d : DataW H} {p : List MemPlace} (hv : Value.okWide Try.prog w r b0 37 v) (h : DataW.Trod enc Try.prog w base spare held 37 v d p) (hM : Rows.uptoBulk d ≤ 1048576) :
    ∃ q : Pth, v = .slice q.a q.n q.c ∧ q.In w w.heap.size := by
  obtain ⟨a', len', cap', rfl⟩ := okWide_slice Try.underlying37 hv
  obtain ⟨fuel, hf⟩ := h
  obtain ⟨a, len, cap, b, o, S, hcs, hn, ha, hS⟩ := row_down (α := Stp) (fun B O z => LiesAt w B O z.cells ∧ z.ok) Try.underlying37 cStp (by omega) hf (fun B O m cs' y _ hl' hc hy hyM => by
    obtain ⟨s, rfl, hs⟩ := stp3 hl' hy hyM
    exact ⟨s, fun j hj => by rw [hc j hj, Array.getElem?_toList], hs⟩) hM
  have e : Value.slice a' len' cap' = .slice a len cap := by
    simp only [Value.cells, List.cons.injEq, and_true] at hcs
    exact hcs
  exact ⟨⟨a, len, cap, b, o, S⟩, e, ha, hn, hS⟩
end

/-! ### which steps are valid -/
def stepOk (s : Stp) : Prop := if s.ix = true then s.key.toList = [] ∧ 0 ≤ s.n ∧ s.n ≤ 65536 else s.n = 0 ∧ s.key.size ≤ 1024 ∧ utfB s.key = true
def pathOk (S : Nat → Stp) (n : Nat) : Prop := n ≤ 48 ∧ ∀ i, i < n → stepOk (S i)
noncomputable def pathB (S : Nat → Stp) (n : Nat) : Bool := @decide (pathOk S n) (Classical.propDecidable _)
theorem pathB_yes {S : Nat → Stp} {n : Nat} (h : pathOk S n) : pathB S n = true := @decide_eq_true _ (Classical.propDecidable _) h
theorem pathB_no {S : Nat → Stp} {n : Nat} (h : ¬ pathOk S n) : pathB S n = false := @decide_eq_false _ (Classical.propDecidable _) h
theorem pathB_ok {S : Nat → Stp} {n : Nat} (h : pathB S n = true) : pathOk S n := @of_decide_eq_true _ (Classical.propDecidable _) h

/-! ### what a step leads to -/
/-- The first field with a key; the number of fields, if there is none. -/
noncomputable def fidx (K : Nat → ByteArray) (key : ByteArray) : Nat → Nat
  | 0 => 0
  | n + 1 => if fidx K key n < n then fidx K key n else if K n = key then n else n + 1
theorem fidx_le (K : Nat → ByteArray) (key : ByteArray) : ∀ n, fidx K key n ≤ n := by
  intro n
  induction n with
  | zero => exact Nat.le_refl _
  | succ n ih =>
    unfold fidx
    split
    · omega
    split <;> omega
theorem fidx_none {K : Nat → ByteArray} {key : ByteArray} : ∀ {n : Nat}, (∀ i, i < n → K i ≠ key) → fidx K key n = n := by
  intro n
  induction n with
  | zero => intro _; rfl
  | succ n ih =>
    intro h
    unfold fidx
    rw [ih (fun i hi => h i (by omega)), if_neg (by omega), if_neg (h n (by omega))]
theorem fidx_first {K : Nat → ByteArray} {key : ByteArray} {i : Nat} (hi : ∀ j, j < i → K j ≠ key) (hk : K i = key) : ∀ {n : Nat}, i < n → fidx K key n = i := by
  intro n
  induction n with
  | zero => intro h; omega
  | succ n ih =>
    intro h
    unfold fidx
    by_cases e : i = n
    · subst e
      rw [fidx_none hi, if_neg (by omega), if_pos hk]
    · rw [ih (by omega), if_pos (by omega)]
theorem fidx_spec {K : Nat → ByteArray} {key : ByteArray} : ∀ {n : Nat}, (fidx K key n < n → K (fidx K key n) = key) ∧ ∀ j, j < fidx K key n → K j ≠ key := by
  intro n
  induction n with
  | zero => exact ⟨fun h => absurd h (Nat.not_lt_zero _), fun j h => absurd h (Nat.not_lt_zero _)⟩
  | succ n ih =>
    unfold fidx
    split
    · rename_i h
      exact ⟨fun _ => ih.1 h, ih.2⟩
    · rename_i h
      have e : fidx K key n = n := by have := fidx_le K key n; omega
      rw [e] at ih
      split
      · rename_i hk
        exact ⟨fun _ => hk, ih.2⟩
      · rename_i hk
        exact ⟨fun h => absurd h (Nat.lt_irrefl _), fun j hj => by
          by_cases q : j = n
          · rw [q]; exact hk
          · exact ih.2 j (by omega)⟩
/-- The place of the part to which a step leads, and an error. -/
noncomputable def Vt.find (T : Vt) (s : Stp) : Int × Int :=
  if s.ix = true then (if T.h.k ≠ 6 then (0, 6) else if s.n < 0 ∨ (T.h.ln : Int) ≤ s.n then (0, 7) else (s.n, 0))
  else if T.h.k ≠ 7 then (0, 6) else if fidx T.K s.key T.h.fn < T.h.fn then ((fidx T.K s.key T.h.fn : Nat), 0) else (0, 7)
def Vt.part (T : Vt) (i : Nat) : Vt := if T.h.k = 6 then T.L i else T.F i
theorem Vt.find_ok {T : Vt} {s : Stp} (h : (T.find s).2 = 0) : ∃ i : Nat, (T.find s).1 = i ∧ ((s.ix = true ∧ T.h.k = 6 ∧ i < T.h.ln ∧ s.n = i) ∨ (s.ix = false ∧ T.h.k = 7 ∧ i < T.h.fn ∧ i = fidx T.K s.key T.h.fn)) := by
  unfold Vt.find at h ⊢
  split at h
  · rename_i hx
    rw [if_pos hx]
    split at h
    · simp at h
    · rename_i h6
      split at h
      · simp at h
      · rename_i hn
        rw [if_neg h6, if_neg hn]
        exact ⟨s.n.toNat, by dsimp only; omega, .inl ⟨hx, by omega, by omega, by omega⟩⟩
  · rename_i hx
    rw [if_neg hx]
    split at h
    · simp at h
    · rename_i h7
      split at h
      · rename_i hf
        rw [if_neg h7, if_pos hf]
        exact ⟨_, rfl, .inr ⟨by simpa using hx, by omega, hf, rfl⟩⟩
      · simp at h
/-- Where the first steps of a path lead, or the first error. -/
noncomputable def Vt.atN (T : Vt) (S : Nat → Stp) : Nat → Vt × Int
  | 0 => (T, 0)
  | k + 1 => if (T.atN S k).2 ≠ 0 then T.atN S k else if ((T.atN S k).1.find (S k)).2 ≠ 0 then ((T.atN S k).1, ((T.atN S k).1.find (S k)).2) else ((T.atN S k).1.part ((T.atN S k).1.find (S k)).1.toNat, 0)
theorem Vt.atN_stays {T : Vt} {S : Nat → Stp} {n : Nat} (h : (T.atN S n).2 ≠ 0) : ∀ m, n ≤ m → T.atN S m = T.atN S n := by
  intro m hm
  induction m with
  | zero => rw [Nat.le_zero.1 hm]
  | succ m ih =>
    by_cases e : n = m + 1
    · rw [e]
    · have q := ih (by omega)
      show (if (T.atN S m).2 ≠ 0 then _ else _) = _
      rw [if_pos (by rw [q]; exact h), q]
theorem Vt.atN_bad {T : Vt} {S : Nat → Stp} {k n : Nat} (h0 : (T.atN S k).2 = 0) (hb : ((T.atN S k).1.find (S k)).2 ≠ 0) (hk : k < n) : (T.atN S n).2 = ((T.atN S k).1.find (S k)).2 := by
  have e : T.atN S (k + 1) = ((T.atN S k).1, ((T.atN S k).1.find (S k)).2) := by
    show (if (T.atN S k).2 ≠ 0 then _ else _) = _
    rw [if_neg (by simp [h0]), if_pos hb]
  rw [Vt.atN_stays (n := k + 1) (by rw [e]; exact hb) n (by omega), e]
theorem Vt.atN_next {T : Vt} {S : Nat → Stp} {k : Nat} (h0 : (T.atN S k).2 = 0) (hb : ((T.atN S k).1.find (S k)).2 = 0) : T.atN S (k + 1) = ((T.atN S k).1.part ((T.atN S k).1.find (S k)).1.toNat, 0) := by
  show (if (T.atN S k).2 ≠ 0 then _ else _) = _
  rw [if_neg (by simp [h0]), if_neg (by simp [hb])]
theorem Vt.In.part {W : World} {top : Nat} {T : Vt} (h : T.In W top) {s : Stp} (h0 : (T.find s).2 = 0) : (T.part (T.find s).1.toNat).In W top := by
  obtain ⟨i, e, hc⟩ := Vt.find_ok h0
  rw [e, Int.toNat_natCast]
  cases T with
  | nil => exact h.elim
  | mk g Y L K F =>
    obtain ⟨_, _, _, _, h4, _, h6⟩ := h
    unfold Vt.part
    rcases hc with ⟨_, k6, hi, _⟩ | ⟨_, k7, hi, _⟩
    · rw [if_pos k6]; exact (h4 i hi).2
    · rw [if_neg (by rw [k7]; decide)]; exact (h6 i hi).2.2.2
theorem Vt.In.atN {W : World} {top : Nat} {T : Vt} (h : T.In W top) (S : Nat → Stp) : ∀ n, (T.atN S n).1.In W top := by
  intro n
  induction n with
  | zero => exact h
  | succ n ih =>
    unfold Vt.atN
    split
    · exact ih
    split
    · exact ih
    · rename_i _ hq
      exact ih.part (Classical.byContradiction hq)
end Go.Proofs.Ytfkfboiblgoamaa
