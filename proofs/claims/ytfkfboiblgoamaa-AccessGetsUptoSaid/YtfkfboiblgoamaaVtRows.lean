/- Values: rows of values that a call makes. -/
import Derived.Test.YtfkfboiblgoamaaVtSame
import Derived.Test.YtfkfboiblgoamaaMemW
import Derived.Lib.Hide
import Derived.BigRegion
namespace Go.Proofs.Ytfkfboiblgoamaa
open Go.ChangeShapes Go.WideShapes Go.Joins Go.Deep Go.RowKit

def catN (f : Nat → Array Value) : Nat → List Value
  | 0 => []
  | n + 1 => catN f n ++ (f n).toList
theorem catN_len {f : Nat → Array Value} {C : Nat} (hf : ∀ i, (f i).size = C) : ∀ n, (catN f n).length = n * C := by
  intro n
  induction n with
  | zero => simp [catN]
  | succ n ih => rw [catN, List.length_append, ih, Array.length_toList, hf, Nat.succ_mul]
theorem catN_get {f : Nat → Array Value} {C : Nat} (hf : ∀ i, (f i).size = C) {i j : Nat} (hj : j < C) : ∀ {n : Nat}, i < n → (catN f n)[i * C + j]? = (f i)[j]? := by
  intro n
  induction n with
  | zero => intro h; omega
  | succ n ih =>
    intro h
    rw [catN]
    have hl := catN_len hf n
    by_cases e : i = n
    · subst e
      rw [List.getElem?_append_right (by omega), hl, Nat.add_sub_cancel_left, Array.getElem?_toList]
    · have h1 : (i + 1) * C ≤ n * C := Nat.mul_le_mul_right C (by omega)
      rw [Nat.succ_mul] at h1
      rw [List.getElem?_append_left (by omega)]
      exact ih (by omega)
theorem cells_new (w : World) (t : TypeId) (cs : Array Value) : ∀ j u, cs.toList[j]? = some u → (w.alloc (.cells cs t)).cell? ((⟨w.heap.size, 0, none⟩ : Addr).add j) = some u := by
  intro j u h
  have hw := Whole.new w t cs
  have := hw.cell j
  rw [add_plain, Nat.zero_add, this, ← Array.getElem?_toList, h]
theorem own_lies {w : World} {base C n : Nat} {e : TypeId} {v : Value} {f : Nat → Array Value} (hf : ∀ i, (f i).size = C) (h : w.ownsRow base e C v n (catN f n)) :
    ∃ (a : Option Addr) (c b : Nat), v = .slice a n c ∧ (0 < n → a = some ⟨b, 0, none⟩ ∧ base ≤ b ∧ b < w.heap.size) ∧ ∀ i, i < n → LiesAt w b (i * C) (f i) := by
  by_cases hn : n = 0
  · subst hn
    rcases h.2 with ⟨rfl, _⟩ | ⟨g, cap, cur, rfl, _⟩
    · exact ⟨none, 0, 0, rfl, fun h => absurd h (Nat.lt_irrefl _), fun i h => absurd h (Nat.not_lt_zero _)⟩
    · exact ⟨_, cap, g, rfl, fun h => absurd h (Nat.lt_irrefl _), fun i h => absurd h (Nat.not_lt_zero _)⟩
  · obtain ⟨g, cap, rfl, hb, hlt⟩ := own_form h (by omega)
    refine ⟨_, cap, g, rfl, fun _ => ⟨rfl, hb, hlt⟩, fun i hi j hj => ?_⟩
    rw [hf] at hj
    have hg := catN_get hf hj hi
    have hsome : (f i)[j]? = some ((f i)[j]'(by rw [hf]; exact hj)) := Array.getElem?_eq_getElem _
    rw [hsome] at hg ⊢
    have := h.cells (g := g) rfl _ _ hg
    rwa [add_plain, Nat.zero_add] at this
theorem LiesAt.c13 {W : World} {b o : Nat} {h : Vh} (H : LiesAt W b o h.cells) :
    W.cell? ⟨b, o, none⟩ = some (.int .i64 h.k) ∧ W.cell? ⟨b, o + 1, none⟩ = some (.bool h.b) ∧ W.cell? ⟨b, o + 2, none⟩ = some (.bool h.n) ∧ W.cell? ⟨b, o + 3, none⟩ = some (.string h.d) ∧ W.cell? ⟨b, o + 4, none⟩ = some (.int .i64 h.e) ∧
    W.cell? ⟨b, o + 5, none⟩ = some (.int .i64 h.tk) ∧ W.cell? ⟨b, o + 6, none⟩ = some (.int .i64 h.td) ∧ W.cell? ⟨b, o + 7, none⟩ = some (.int .i64 h.tn) ∧ W.cell? ⟨b, o + 8, none⟩ = some (.int .i64 h.tz) ∧ W.cell? ⟨b, o + 9, none⟩ = some (.string h.x) ∧
    W.cell? ⟨b, o + 10, none⟩ = some (.slice h.ba h.bn h.bc) ∧ W.cell? ⟨b, o + 11, none⟩ = some (.slice h.la h.ln h.lc) ∧ W.cell? ⟨b, o + 12, none⟩ = some (.slice h.fa h.fn h.fc) :=
  have z : h.cells.size = 13 := rfl
  ⟨H 0 (by omega), H 1 (by omega), H 2 (by omega), H 3 (by omega), H 4 (by omega), H 5 (by omega), H 6 (by omega), H 7 (by omega), H 8 (by omega), H 9 (by omega), H 10 (by omega), H 11 (by omega), H 12 (by omega)⟩
theorem own_away {w : World} {base size n B : Nat} {e : TypeId} {v : Value} {xs : List Value} (h : w.ownsRow base e size v n xs) (hB : B < base) : some B ≠ v.ownBlock := fun e' => by have := (h.lt B e'.symm).1; omega
theorem vh_size (h : Vh) : h.cells.size = 13 := rfl
theorem vh_one (h : Vh) : ∀ u ∈ h.cells.toList, u.oneCell' = true := by
  intro u hu
  simp only [Vh.cells, List.mem_cons, List.not_mem_nil, or_false] at hu
  rcases hu with rfl | rfl | rfl | rfl | rfl | rfl | rfl | rfl | rfl | rfl | rfl | rfl | rfl <;> rfl
theorem Try.infoVal : (Try.prog.info? 30).map (fun i => (i.zero, i.size, i.bytes)) = some (some (.agg Vh.zero.cells), 13, 168) := by kernel_rfl
theorem Try.infoFld : (Try.prog.info? 65).map (fun i => (i.zero, i.size, i.bytes)) = some (some (.agg (#[.string ⟨#[]⟩] ++ Vh.zero.cells)), 14, 184) := by kernel_rfl
end Go.Proofs.Ytfkfboiblgoamaa
