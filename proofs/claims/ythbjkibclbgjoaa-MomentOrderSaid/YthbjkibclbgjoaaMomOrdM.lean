/- Times: plain: how they are ordered. -/
import Derived.Test.YthbjkibclbgjoaaMomBackN
import Derived.Test.YthbjkibclbgjoaaMomCmpL
import Derived.Test.YthbjkibclbgjoaaMomZoneL
import Derived.Test.YthbjkibclbgjoaaMomBtw
namespace Go.Proofs.Ythbjkibclbgjoaa
open Go.RowKit

namespace Mom
def lt4 (a b c d p q r s : Int) : Prop := a < p ∨ (a = p ∧ (b < q ∨ (b = q ∧ (c < r ∨ (c = r ∧ d < s)))))
theorem sg_spec (a b : Int) : (sg a b = -1 ∧ a < b) ∨ (sg a b = 0 ∧ a = b) ∨ (sg a b = 1 ∧ b < a) := by
  unfold sg
  split
  · exact Or.inl ⟨rfl, by omega⟩
  split
  · exact Or.inr (Or.inr ⟨rfl, by omega⟩)
  · exact Or.inr (Or.inl ⟨rfl, by omega⟩)
def ltT (t u : Tm) : Prop := lt4 t.k (mD t.d t.n t.o) (mN t.n t.o) t.o u.k (mD u.d u.n u.o) (mN u.n u.o) u.o
def eqT (t u : Tm) : Prop := t.k = u.k ∧ mD t.d t.n t.o = mD u.d u.n u.o ∧ mN t.n t.o = mN u.n u.o ∧ t.o = u.o
theorem cmp_spec (t u : Tm) : (cmp t u = -1 ∧ ltT t u) ∨ (cmp t u = 0 ∧ eqT t u) ∨ (cmp t u = 1 ∧ ltT u t) := by
  unfold cmp sg2 ltT eqT lt4
  rcases sg_spec t.k u.k with ⟨e1, h1⟩ | ⟨e1, h1⟩ | ⟨e1, h1⟩
  · rw [e1, if_pos (by omega)]; exact Or.inl ⟨rfl, Or.inl h1⟩
  · rw [e1, if_neg (by omega)]
    rcases sg_spec (mD t.d t.n t.o) (mD u.d u.n u.o) with ⟨e2, h2⟩ | ⟨e2, h2⟩ | ⟨e2, h2⟩
    · rw [e2, if_pos (show (-1 : Int) ≠ 0 by omega), if_pos (show (-1 : Int) ≠ 0 by omega)]; exact Or.inl ⟨rfl, by omega⟩
    · rw [e2, if_neg (show ¬ (0 : Int) ≠ 0 by omega)]
      rcases sg_spec (mN t.n t.o) (mN u.n u.o) with ⟨e3, h3⟩ | ⟨e3, h3⟩ | ⟨e3, h3⟩
      · rw [e3, if_pos (by omega)]; exact Or.inl ⟨rfl, by omega⟩
      · rw [e3, if_neg (by omega)]
        rcases sg_spec t.o u.o with ⟨e4, h4⟩ | ⟨e4, h4⟩ | ⟨e4, h4⟩
        · rw [e4]; exact Or.inl ⟨rfl, by omega⟩
        · rw [e4]; exact Or.inr (Or.inl ⟨rfl, h1, h2, h3, h4⟩)
        · rw [e4]; exact Or.inr (Or.inr ⟨rfl, by omega⟩)
      · rw [e3, if_pos (by omega)]; exact Or.inr (Or.inr ⟨rfl, by omega⟩)
    · rw [e2, if_pos (show (1 : Int) ≠ 0 by omega), if_pos (show (1 : Int) ≠ 0 by omega)]; exact Or.inr (Or.inr ⟨rfl, by omega⟩)
  · rw [e1, if_pos (by omega)]; exact Or.inr (Or.inr ⟨rfl, Or.inl h1⟩)
theorem cmp_bd (t u : Tm) : -1 ≤ cmp t u ∧ cmp t u ≤ 1 := by
  rcases cmp_spec t u with ⟨e, _⟩ | ⟨e, _⟩ | ⟨e, _⟩ <;> rw [e] <;> omega
theorem cmp_anti (t u : Tm) : cmp u t = -cmp t u := by
  have h := cmp_spec t u
  have k := cmp_spec u t
  unfold ltT eqT lt4 at h k
  omega
theorem cmp_trans (t u v : Tm) (h : cmp t u ≤ 0) (k : cmp u v ≤ 0) : cmp t v < 0 ∨ (cmp t v = 0 ∧ cmp t u = 0 ∧ cmp u v = 0) := by
  have h1 := cmp_spec t u
  have h2 := cmp_spec u v
  have h3 := cmp_spec t v
  unfold ltT eqT lt4 at h1 h2 h3
  omega
theorem mom_inj {k d n o q p r s : Int} (h : Ok k d n o) (h' : Ok q p r s) (h1 : mD d n o = mD p r s) (h2 : mN n o = mN r s) (h3 : o = s) : d = p ∧ n = r := by
  obtain ⟨⟨_, _, a3, a4, a5, a6, a7, a8⟩, _⟩ := h
  obtain ⟨⟨_, _, b3, b4, b5, b6, b7, b8⟩, _⟩ := h'
  unfold mD mN dD dN at *
  omega
theorem cmp_zero {k d n o q p r s : Int} (h : Ok k d n o) (h' : Ok q p r s) (hc : cmp ⟨k, d, n, o⟩ ⟨q, p, r, s⟩ = 0) : (k, d, n, o) = (q, p, r, s) := by
  rcases cmp_spec ⟨k, d, n, o⟩ ⟨q, p, r, s⟩ with ⟨e, _⟩ | ⟨_, e⟩ | ⟨e, _⟩
  · omega
  · obtain ⟨e1, e2, e3, e4⟩ := e
    dsimp only at e1 e2 e3 e4
    obtain ⟨e5, e6⟩ := mom_inj h h' e2 e3 e4
    rw [e1, e5, e6, e4]
  · omega
theorem zone_zero {t z : Tm} {f : Int} (h : zone t f = (z, 0)) : OkT t ∧ OkT z ∧ t.k = z.k ∧ mD t.d t.n t.o = mD z.d z.n z.o ∧ mN t.n t.o = mN z.n z.o := by
  unfold zone at h
  by_cases h1 : Ok t.k t.d t.n t.o
  case neg => rw [if_pos h1] at h; simp at h
  rw [if_neg (fun g => g h1)] at h
  by_cases h2 : t.k = 4
  case neg => rw [if_pos h2] at h; simp at h
  rw [if_neg (fun g => g h2)] at h
  by_cases h3 : f < -1439 ∨ 1439 < f
  · rw [if_pos h3] at h; simp at h
  rw [if_neg h3] at h
  by_cases h4 : dD t.d (t.n + (f - t.o) * 60000000000) < 0 ∨ 3652058 < dD t.d (t.n + (f - t.o) * 60000000000)
  · rw [if_pos h4] at h; simp at h
  rw [if_neg h4] at h
  obtain rfl := (Prod.mk.inj h).1
  refine ⟨h1, ⟨⟨by dsimp only; omega, by dsimp only; omega, by dsimp only; omega, by dsimp only; omega, ?_, ?_, by dsimp only; omega, by dsimp only; omega⟩, ?_, ?_, ?_⟩, h2, ?_, ?_⟩
  · unfold dN; dsimp only; omega
  · unfold dN; dsimp only; omega
  · intro e; cases e
  · intro e; cases e
  · intro e; exact absurd rfl e
  · unfold mD dD dN; dsimp only; omega
  · unfold mN dN; dsimp only; omega
def sameb (t u : Tm) : Bool := decide (same t u)
theorem same_zone {t z : Tm} {f : Int} (h : zone t f = (z, 0)) (u : Tm) : sameb t z = true ∧ sameb z u = sameb t u ∧ (sameb t u = false → cmp z u = cmp t u) := by
  obtain ⟨_, _, h1, h2, h3⟩ := zone_zero h
  refine ⟨decide_eq_true ⟨h1, h2, h3⟩, ?_, ?_⟩
  · have e : same z u ↔ same t u := by unfold same; rw [h1, h2, h3]
    unfold sameb
    exact decide_eq_decide.2 e
  · intro e
    have e := of_decide_eq_false e
    unfold same at e
    have k1 := cmp_spec t u
    have k2 := cmp_spec z u
    unfold ltT eqT lt4 at k1 k2
    rw [h1, h2, h3] at k1 e
    omega
end Mom
end Go.Proofs.Ythbjkibclbgjoaa
