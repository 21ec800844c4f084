/- Boxes of variables beside an owned row: an append to a boxed slice leaves the other boxes as they lay. -/
import Derived.Test.YtjokidcjjfdkpaaMem
import Derived.RangeFuncBox
import Derived.RangeFuncNested
namespace Go.Proofs.Ytjokidcjjfdkpaa
open Go.RowKit
theorem own_base {w : World} {base base' size n : Nat} {e : TypeId} {v : Value} {xs : List Value} (h : w.ownsRow base e size v n xs) (hb : base' ≤ base) : w.ownsRow base' e size v n xs := by
  refine ⟨h.1, ?_⟩
  rcases h.2 with ⟨a, b⟩ | ⟨g, cap, cur, a, b, c⟩
  · exact .inl ⟨a, b⟩
  · exact .inr ⟨g, cap, cur, a, Nat.le_trans hb b, c⟩
/-- The value lies at or beyond nb, if anywhere. -/
theorem own_far {w : World} {base size n : Nat} {e : TypeId} {v : Value} {xs : List Value} (h : w.ownsRow base e size v n xs) {B : Nat} (hB : B < base) : some B ≠ v.ownBlock := by
  intro e'
  have := (h.lt B e'.symm).1
  omega
theorem appended2 {W w1 : World} {n₀ nb B : Nat} {t e : TypeId} {size : Nat} {v v' : Value} {k m : Nat} {xs ys : List Value} {tmp : Obj}
    (hv : Boxed W B t v) (hrow : W.ownsRow nb e size v k xs) (hn₀ : n₀ ≤ W.heap.size) (hnb : n₀ ≤ nb) (hB : n₀ ≤ B) (hBn : B < nb)
    (hown' : w1.ownsRow nb e size v' m ys) (hgrow : (W.alloc tmp).grownBy w1 v.ownBlock) :
    Boxed w1 B t v ∧ Boxed (w1.setCell ⟨B, 0, none⟩ v') B t v' ∧ (w1.setCell ⟨B, 0, none⟩ v').ownsRow nb e size v' m ys ∧ KeepsOthers W (w1.setCell ⟨B, 0, none⟩ v') ∧ Below n₀ W (w1.setCell ⟨B, 0, none⟩ v') ∧
      ∀ (B' : Nat) (t' : TypeId) (u : Value), B' < nb → B' ≠ B → Boxed W B' t' u → Boxed w1 B' t' u ∧ Boxed (w1.setCell ⟨B, 0, none⟩ v') B' t' u := by
  have hv1 : Boxed w1 B t v := (hv.alloc tmp).kept hgrow (own_far hrow hBn)
  have hg2 : w1.grownBy (w1.setCell ⟨B, 0, none⟩ v') (some B) := grownBy_setCell' w1 B v'
  refine ⟨hv1, hv1.set v', hown'.kept hg2 (.inr (own_far hown' hBn).symm), ?_, ?_, ?_⟩
  · refine ((KeepsOthers.alloc W tmp).trans (KeepsOthers.of_grownBy hgrow fun j o ej hj => ?_)).trans (KeepsOthers.setCell _ _ _)
    rcases (hrow.alloc tmp).2 with ⟨rfl, _⟩ | ⟨g, cap, cur, rfl, _, hgb, _⟩
    · simp [Value.ownBlock] at ej
    · obtain rfl : g = j := by simpa [Value.ownBlock] using ej
      rw [hgb] at hj; cases hj; rfl
  · refine (((Below.refl n₀ W).alloc hn₀ tmp).grown hgrow (by simp; omega) fun j ej => ?_).setCell (p := ⟨B, 0, none⟩) hB v'
    exact Nat.le_trans hnb (hrow.lt j ej).1
  · intro B' t' u h1 h2 hb
    have h3 : Boxed w1 B' t' u := (hb.alloc tmp).kept hgrow (own_far hrow h1)
    exact ⟨h3, h3.other h2 _⟩
/-- A cell that a round leaves as it lies. -/
def KeepsCell (B : Nat) (W W' : World) : Prop := ∀ v, W.cell? ⟨B, 0, none⟩ = some v → W'.cell? ⟨B, 0, none⟩ = some v
theorem keepsCell_t {B : Nat} {X Y Z : World} (h : KeepsCell B X Y) (k : KeepsCell B Y Z) : KeepsCell B X Z := fun v hv => k v (h v hv)
theorem keepsCell_b {B : Nat} {w : World} (W : World) (l : Nat) (o o' : Obj) (_ : w.heap.size ≤ l) (h : W.heap[l]? = some o) (hc : o.isCells = false) (_ : o.isWalk = false) : KeepsCell B W (W.putObj l o') :=
  fun _ hv => cell_kept hv (grownBy_putObj' W l o') (fun r e => by cases e; exact ⟨o, h, hc⟩)
theorem keepsCell_refl (B : Nat) (W : World) : KeepsCell B W W := fun _ h => h
theorem keepsCell_set {B b : Nat} (hne : B ≠ b) (W : World) (i : Nat) (u : Value) : KeepsCell B W (W.setCell ⟨b, i, none⟩ u) :=
  fun v hv => (World.cell?_setCell_other W ⟨b, i, none⟩ ⟨B, 0, none⟩ u (by intro e; cases e; exact hne rfl)).trans hv
theorem keepsCell_grown {W w1 : World} {nb B C : Nat} {e : TypeId} {size : Nat} {v u : Value} {k : Nat} {xs : List Value} {tmp : Obj}
    (hrow : W.ownsRow nb e size v k xs) (hgrow : (W.alloc tmp).grownBy w1 v.ownBlock) (hC : C < nb) (hne : C ≠ B) : KeepsCell C W (w1.setCell ⟨B, 0, none⟩ u) := by
  intro x hx
  have hlt : C < W.heap.size := by
    unfold World.cell? at hx
    rcases Nat.lt_or_ge C W.heap.size with h | h
    · exact h
    · rw [Array.getElem?_eq_none h] at hx; cases hx
  refine keepsCell_set hne w1 0 u x ?_
  exact hgrow.cell ((World.cell?_alloc_lt W tmp ⟨C, 0, none⟩ hlt).trans hx) (own_far hrow hC)
end Go.Proofs.Ytjokidcjjfdkpaa
