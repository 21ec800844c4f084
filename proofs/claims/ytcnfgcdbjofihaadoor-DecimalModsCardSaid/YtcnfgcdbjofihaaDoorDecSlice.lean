/- A slice of decimals, taken apart. -/
import Derived.Test.YtcnfgcdbjofihaaDoorArrDec
import Derived.Test.YtcnfgcdbjofihaaDoorDecLawM
import Derived.Deep.Slices
import Derived.ChangeOld
import Derived.DataReads
namespace Go.Proofs.YtcnfgcdbjofihaaDoor
open Go.ChangeShapes Go.WideShapes Go.Joins Go.Deep

section
variable {H : Type} {enc : TypeId × Value → H} {w : World} {base : Nat} {held : Bool}
set_option maxRecDepth 100000 in
theorem open_decs {r : Reach} {b0 : Nat} {t : TypeId} {v : Value} {d : DataW H} {p : List MemPlace} (ht : Tryd.prog.underlying t = some (.slice 23))
    (hv : Value.okWide Tryd.prog w r b0 t v) (h : DataW.Trod enc Tryd.prog w base (fun _ => true) held t v d p) :
    (∃ x c, v = .slice x 0 c) ∨ ∃ (b o n c : Nat) (N : Nat → Bool) (S : Nat → ByteArray) (E : Nat → Int), v = .slice (some ⟨b, o, none⟩) n c ∧ b < w.heap.size ∧ Dec.Raw w b o n N S E ∧ ∀ i, i < n → (S i).size ≤ maxLen := by
  obtain ⟨a, len, cap, rfl⟩ := okWide_slice ht hv
  obtain ⟨fuel, hf⟩ := h
  have hcs : (Value.slice a len cap).cells.toList = [.slice a len cap] := by simp [Value.cells]
  rw [hcs] at hf
  rcases open_slice ht hf with ⟨h0, _⟩ | ⟨a', len', cap', m, n, D, Pl, hc, hb, hl, hm, hmm, _, hx⟩
  · simp only [List.cons.injEq, and_true, Value.slice.injEq] at h0
    obtain ⟨rfl, rfl, rfl⟩ := h0
    exact .inl ⟨_, _, rfl⟩
  · simp only [List.cons.injEq, and_true, Value.slice.injEq] at hc
    obtain ⟨rfl, rfl, rfl⟩ := hc
    simp only [if_true] at hmm
    subst hmm
    by_cases hz : len = 0
    · subst hz
      exact .inl ⟨_, _, rfl⟩
    right
    rw [cellsDec] at hx
    have hall : ∀ i, i < len → ∃ q : Bool × ByteArray × Int, w.cell? (a'.add (i * 3)) = some (.bool q.1) ∧ w.cell? ((a'.add (i * 3)).add 1) = some (.string q.2.1) ∧ w.cell? ((a'.add (i * 3)).add 2) = some (.int .i64 q.2.2) ∧ q.2.1.size ≤ maxLen := fun i hi => by
      obtain ⟨cs', h1, h2⟩ := hx i (by omega)
      obtain ⟨_, h3, h4⟩ := World.cells?_some h1
      match cs', h3 with
      | [x, y, z], _ =>
        obtain ⟨n0, s0, e0, rfl, rfl, rfl, _, ws0, _⟩ := dec_cells h2
        exact ⟨(n0, s0, e0), by simpa [Addr.add] using h4 0 (by omega), h4 1 (by omega), h4 2 (by omega), ws0⟩
    have hlt : a'.block < w.heap.size := by
      obtain ⟨cs', h1, _⟩ := hx 0 (by omega)
      have := World.cells?_block h1 (by omega)
      simpa [Addr.add] using this
    obtain ⟨f, hf'⟩ := choose_lt hall
    obtain ⟨b, o, spot⟩ := a'
    have hspot : spot = none := by simpa [Addr.add] using World.cell?_spot (hf' 0 (by omega)).1
    subst hspot
    refine ⟨b, o, len, _, fun i => (f i).1, fun i => (f i).2.1, fun i => (f i).2.2, rfl, hlt, fun i hi => ?_, fun i hi => (hf' i hi).2.2.2⟩
    obtain ⟨g1, g2, g3, _⟩ := hf' i hi
    rw [add_add, add_plain] at g2 g3
    rw [add_plain] at g1
    exact ⟨g1, by rw [Nat.add_assoc]; exact g2, by rw [Nat.add_assoc]; exact g3⟩
end
end Go.Proofs.YtcnfgcdbjofihaaDoor
