/- A block that is known whole: what it reads as, and what keeps it. -/
import Derived.Test.YtfkfboiblgoamaaMem
import Derived.RangeFuncBox
import Derived.RangeFuncNested
import Derived.RangeFuncWrites
namespace Go.Proofs.Ytfkfboiblgoamaa
open Go.RowKit

/-! ### a block that is known whole -/
def Whole (W : World) (B : Nat) (t : TypeId) (cs : Array Value) : Prop := W.heap[B]? = some (.cells cs t (0, 0))
theorem Whole.lt {W : World} {B : Nat} {t : TypeId} {cs : Array Value} (h : Whole W B t cs) : B < W.heap.size := (Array.getElem?_eq_some_iff.1 h).1
theorem Whole.cell {W : World} {B : Nat} {t : TypeId} {cs : Array Value} (h : Whole W B t cs) (i : Nat) : W.cell? ⟨B, i, none⟩ = cs[i]? := by simp [World.cell?, show W.heap[B]? = _ from h]
theorem Whole.frozen {W : World} {B : Nat} {t : TypeId} {cs : Array Value} (h : Whole W B t cs) (i : Nat) : W.frozen? ⟨B, i, none⟩ = false := by simp [World.frozen?, show W.heap[B]? = _ from h]
theorem Whole.c {W : World} {B : Nat} {t : TypeId} {a : Value} (h : Whole W B t #[a]) : W.cell? ⟨B, 0, none⟩ = some a := h.cell 0
theorem Whole.c0 {W : World} {B : Nat} {t : TypeId} {a b : Value} (h : Whole W B t #[a, b]) : W.cell? ⟨B, 0, none⟩ = some a := h.cell 0
theorem Whole.c1 {W : World} {B : Nat} {t : TypeId} {a b : Value} (h : Whole W B t #[a, b]) : W.cell? ⟨B, 1, none⟩ = some b := h.cell 1
theorem Whole.new (W : World) (t : TypeId) (cs : Array Value) : Whole (W.alloc (.cells cs t)) W.heap.size t cs := World.alloc_heap_new W _
theorem Whole.kept {W W' : World} {row : Option Nat} {B : Nat} {t : TypeId} {cs : Array Value} (h : Whole W B t cs) (hg : W.grownBy W' row) (hne : some B ≠ row) : Whole W' B t cs := (hg.block B h.lt hne).trans h
theorem Whole.alloc {W : World} {B : Nat} {t : TypeId} {cs : Array Value} (h : Whole W B t cs) (o : Obj) : Whole (W.alloc o) B t cs := h.kept (World.grownBy_alloc W o none) (by simp)
theorem Whole.below {W W' : World} {n B : Nat} {t : TypeId} {cs : Array Value} (h : Whole W B t cs) (hb : Below n W W') (hn : B < n) : Whole W' B t cs := (hb.block B hn).trans h
theorem Whole.drew {W : World} {B : Nat} {t : TypeId} {cs : Array Value} (h : Whole W B t cs) : Whole W.drew B t cs := h
theorem Whole.far {W : World} {B : Nat} {t : TypeId} {cs : Array Value} (h : Whole W B t cs) {p : Addr} (hp : B ≠ p.block) (u : Value) : Whole (W.setCell p u) B t cs := (Below.heap_setCell W p u B hp).trans h
theorem Whole.set {W : World} {B : Nat} {t : TypeId} {cs : Array Value} (h : Whole W B t cs) (i : Nat) (u : Value) : Whole (W.setCell ⟨B, i, none⟩ u) B t (cs.setIfInBounds i u) := by
  unfold Whole at h ⊢
  simp [World.setCell, Array.getElem?_modify, h]
theorem Whole.s {W : World} {B : Nat} {t : TypeId} {a : Value} (h : Whole W B t #[a]) (u : Value) : Whole (W.setCell ⟨B, 0, none⟩ u) B t #[u] := h.set 0 u
theorem Whole.s2 {W : World} {B : Nat} {t : TypeId} {a b : Value} (h : Whole W B t #[a, b]) (u v : Value) : Whole ((W.setCell ⟨B, 0, none⟩ u).setCell ⟨B, 1, none⟩ v) B t #[u, v] := (h.set 0 u).set 1 v
theorem Whole.put {W : World} {B D : Nat} {t : TypeId} {cs : Array Value} {o : Obj} (h : Whole W B t cs) (hD : W.heap[D]? = some o) (hc : o.isCells = false) (o' : Obj) : Whole (W.putObj D o') B t cs :=
  h.kept (grownBy_putObj' W D o') (fun e => by cases e; rw [show W.heap[B]? = _ from h] at hD; cases hD; cases hc)
theorem whole_own {β : Type} (B : Nat) (t : TypeId) (f : β → Array Value) : Own (fun s W => Whole W B t (f s)) := fun s X Y row hs hg hrow =>
  hs.kept hg (fun e' => by obtain ⟨o, ho, hc⟩ := hrow B e'.symm; rw [show X.heap[B]? = _ from hs] at ho; cases ho; cases hc)

theorem keepsFrom_below {B n : Nat} {W W' : World} (h : Below n W W') (hn : W.heap.size ≤ n) : KeepsFrom B W W' :=
  ⟨h.size, fun k _ _ hk _ => (h.block k (by have := (Array.getElem?_eq_some_iff.1 hk).1; omega)).trans hk⟩
theorem keepsFrom_set {B b i : Nat} {W : World} (u : Value) (hb : b < B) : KeepsFrom B W (W.setCell ⟨b, i, none⟩ u) :=
  ⟨by simp, fun k _ hB hk _ => (Below.heap_setCell W ⟨b, i, none⟩ u k (by simp; omega)).trans hk⟩

end Go.Proofs.Ytfkfboiblgoamaa
