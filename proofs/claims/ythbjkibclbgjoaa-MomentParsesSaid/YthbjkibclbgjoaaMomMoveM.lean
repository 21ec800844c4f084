/- Times: plain: shifting and what lies between. -/
import Derived.Test.YthbjkibclbgjoaaMomShiftL
import Derived.Test.YthbjkibclbgjoaaMomBtwL
namespace Go.Proofs.Ythbjkibclbgjoaa
open Go.RowKit

namespace Mom
def OkT (t : Tm) : Prop := Ok t.k t.d t.n t.o
theorem shift_zero {t z : Tm} {u v : Int} (h : shift t u v = (z, 0)) : OkT t ∧ ¬ ((t.k = 1 ∧ v ≠ 0) ∨ (t.k = 2 ∧ u ≠ 0)) ∧ 0 ≤ shD t u v ∧ shD t u v ≤ 3652058 ∧ (t.k = 2 → shD t u v = 0) ∧ z = ⟨t.k, shD t u v, shN t v, t.o⟩ := by
  unfold shift at h
  by_cases h1 : Ok t.k t.d t.n t.o
  case neg => rw [if_pos h1] at h; have := (Prod.mk.inj h).2; omega
  rw [if_neg (fun g => g h1)] at h
  by_cases h2 : (t.k = 1 ∧ v ≠ 0) ∨ (t.k = 2 ∧ u ≠ 0)
  · rw [if_pos h2] at h; have := (Prod.mk.inj h).2; omega
  rw [if_neg h2] at h
  unfold shE at h
  by_cases h3 : shD t u v < 0 ∨ 3652058 < shD t u v ∨ (t.k = 2 ∧ shD t u v ≠ 0)
  · rw [if_pos h3] at h; have := (Prod.mk.inj h).2; omega
  rw [if_neg h3] at h
  exact ⟨h1, h2, by omega, by omega, fun hk => by omega, (Prod.mk.inj h).1.symm⟩
theorem shift_not {t : Tm} {u v : Int} (h : (shift t u v).2 ≠ 0) : (shift t u v).1 = tz := by
  unfold shift at h ⊢
  by_cases h1 : Ok t.k t.d t.n t.o
  case neg => rw [if_pos h1]
  rw [if_neg (fun g => g h1)] at h ⊢
  by_cases h2 : (t.k = 1 ∧ v ≠ 0) ∨ (t.k = 2 ∧ u ≠ 0)
  · rw [if_pos h2]
  rw [if_neg h2] at h ⊢
  unfold shE at h ⊢
  by_cases h3 : shD t u v < 0 ∨ 3652058 < shD t u v ∨ (t.k = 2 ∧ shD t u v ≠ 0)
  · rw [if_pos h3]
  · rw [if_neg h3] at h; exact absurd rfl h
theorem shift_yes {t : Tm} {u v : Int} (h1 : OkT t) (h2 : ¬ ((t.k = 1 ∧ v ≠ 0) ∨ (t.k = 2 ∧ u ≠ 0))) : shift t u v = shE t.k (shD t u v) (shN t v) t.o := by
  unfold shift
  rw [if_neg (fun g => g h1), if_neg h2]
theorem shift_valid {t z : Tm} {u v : Int} (h : shift t u v = (z, 0)) : OkT z := by
  obtain ⟨h1, h2, h3, h4, h5, rfl⟩ := shift_zero h
  obtain ⟨⟨a1, a2, a3, a4, a5, a6, a7, a8⟩, a9, a10, a11⟩ := h1
  refine ⟨⟨a1, a2, h3, h4, ?_, ?_, a7, a8⟩, h5, fun hk => ?_, a11⟩
  · unfold shN; dsimp only; omega
  · unfold shN; dsimp only; omega
  · have : v = 0 := Decidable.byContradiction fun g => h2 (Or.inl ⟨hk, g⟩)
    dsimp only at hk ⊢
    have := a10 hk
    unfold shN; omega
/-- Shifting back. -/
theorem shift_back {t z : Tm} {u v : Int} (h : shift t u v = (z, 0)) : shift z (-u) (-v) = (t, 0) := by
  have hz := shift_valid h
  obtain ⟨h1, h2, h3, h4, h5, rfl⟩ := shift_zero h
  obtain ⟨⟨a1, a2, a3, a4, a5, a6, a7, a8⟩, a9, a10, a11⟩ := h1
  obtain ⟨k, d, n, o⟩ := t
  dsimp only at *
  have e1 : shD ⟨k, shD ⟨k, d, n, o⟩ u v, shN ⟨k, d, n, o⟩ v, o⟩ (-u) (-v) = d := by unfold shD shN; dsimp only; omega
  have e2 : shN ⟨k, shD ⟨k, d, n, o⟩ u v, shN ⟨k, d, n, o⟩ v, o⟩ (-v) = n := by unfold shN; dsimp only; omega
  rw [shift_yes hz (by dsimp only; omega), e1, e2]
  exact shE_ok (k := k) (S := d) (N := n) (o := o) (by omega)
/-- What lies between takes one to the other. -/
theorem shift_btw {t u : Tm} (h : OkT t) (h' : OkT u) (hk : t.k = u.k) (h2 : t.k ≠ 2) : (0 ≤ btN t u ∧ btN t u ≤ 86399999999999) ∧ i64 (btD t u) ∧ ((shift t (btD t u) (btN t u)).2 = 0 ∨ (shift t (btD t u) (btN t u)).2 = 2) ∧
    ∀ z, shift t (btD t u) (btN t u) = (z, 0) → same z u := by
  obtain ⟨k, d, n, o⟩ := t
  obtain ⟨q, p, r, s⟩ := u
  dsimp only at hk h2
  subst hk
  obtain ⟨⟨a1, a2, a3, a4, a5, a6, a7, a8⟩, a9, a10, a11⟩ := h
  obtain ⟨⟨b1, b2, b3, b4, b5, b6, b7, b8⟩, b9, b10, b11⟩ := h'
  dsimp only at *
  have hN : 0 ≤ btN ⟨k, d, n, o⟩ ⟨k, p, r, s⟩ ∧ btN ⟨k, d, n, o⟩ ⟨k, p, r, s⟩ ≤ 86399999999999 := by unfold btN dN; omega
  have hg : ¬ ((k = 1 ∧ btN ⟨k, d, n, o⟩ ⟨k, p, r, s⟩ ≠ 0) ∨ (k = 2 ∧ btD ⟨k, d, n, o⟩ ⟨k, p, r, s⟩ ≠ 0)) := by
    rintro (⟨h1, h3⟩ | ⟨h1, _⟩)
    · have e1 := a10 h1
      have e2 := b10 h1
      have e3 := a11 (by omega)
      have e4 := b11 (by omega)
      subst e1 e2 e3 e4
      exact h3 (by unfold btN mN dN; dsimp only; omega)
    · exact h2 h1
  refine ⟨hN, ?_, ?_, ?_⟩
  · unfold i64 btD dD mD mN dD dN; dsimp only; omega
  · rw [shift_yes ⟨⟨a1, a2, a3, a4, a5, a6, a7, a8⟩, a9, a10, a11⟩ hg]
    unfold shE
    split
    · exact Or.inr rfl
    · exact Or.inl rfl
  · intro z hz
    obtain ⟨_, _, _, _, _, rfl⟩ := shift_zero hz
    refine ⟨rfl, ?_, ?_⟩
    · unfold shD shN btD btN mD mN dD dN; dsimp only; omega
    · unfold shN btN mN dN; dsimp only; omega
theorem btw_zero {t u : Tm} {D N : Int} (h : btw t u = (D, N, 0)) : OkT t ∧ OkT u ∧ t.k = u.k ∧ D = btD t u ∧ N = btN t u := by
  unfold btw at h
  by_cases h1 : Ok t.k t.d t.n t.o ∧ Ok u.k u.d u.n u.o
  case neg => rw [if_pos h1] at h; simp at h
  rw [if_neg (fun g => g h1)] at h
  by_cases h2 : t.k = u.k
  case neg => rw [if_pos h2] at h; simp at h
  rw [if_neg (fun g => g h2)] at h
  simp only [Prod.mk.injEq] at h
  exact ⟨h1.1, h1.2, h2, h.1.symm, h.2.1.symm⟩
theorem btw_bd (t u : Tm) : i64 (btw t u).1 ∧ i64 (btw t u).2.1 := by
  unfold btw
  split
  · exact ⟨by unfold i64; dsimp only; omega, by unfold i64; dsimp only; omega⟩
  split
  · exact ⟨by unfold i64; dsimp only; omega, by unfold i64; dsimp only; omega⟩
  · rename_i h _
    have h1 := Decidable.not_not.1 h
    obtain ⟨⟨⟨_, _, a3, a4, a5, a6, a7, a8⟩, _⟩, ⟨⟨_, _, b3, b4, b5, b6, b7, b8⟩, _⟩⟩ := h1
    exact ⟨by unfold i64 btD dD mD mN dD dN; dsimp only; omega, by unfold i64 btN dN; dsimp only; omega⟩
end Mom
end Go.Proofs.Ythbjkibclbgjoaa
