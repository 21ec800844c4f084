/- Values: when two trees are the same (whatever their addresses), sizes, depths: plain. -/
import Derived.Test.YtfkfboiblgoamaaVt
namespace Go.Proofs.Ytfkfboiblgoamaa
open Go.RowKit

/-- The flat parts agree (but for addresses). -/
structure Vh.flat (h g : Vh) : Prop where
  k : h.k = g.k
  b : h.b = g.b
  n : h.n = g.n
  d : h.d = g.d
  e : h.e = g.e
  tk : h.tk = g.tk
  td : h.td = g.td
  tn : h.tn = g.tn
  tz : h.tz = g.tz
  x : h.x = g.x
  bn : h.bn = g.bn
  ln : h.ln = g.ln
  fn : h.fn = g.fn
theorem Vh.flat.refl (h : Vh) : h.flat h := ⟨rfl, rfl, rfl, rfl, rfl, rfl, rfl, rfl, rfl, rfl, rfl, rfl, rfl⟩
theorem Vh.flat.symm {h g : Vh} (a : h.flat g) : g.flat h := ⟨a.k.symm, a.b.symm, a.n.symm, a.d.symm, a.e.symm, a.tk.symm, a.td.symm, a.tn.symm, a.tz.symm, a.x.symm, a.bn.symm, a.ln.symm, a.fn.symm⟩
theorem Vh.flat.trans {h g l : Vh} (a : h.flat g) (b : g.flat l) : h.flat l := ⟨a.k.trans b.k, a.b.trans b.b, a.n.trans b.n, a.d.trans b.d, a.e.trans b.e, a.tk.trans b.tk, a.td.trans b.td, a.tn.trans b.tn, a.tz.trans b.tz, a.x.trans b.x, a.bn.trans b.bn, a.ln.trans b.ln, a.fn.trans b.fn⟩
/-- Two trees are the same, whatever their addresses. -/
def Vt.Same : Vt → Vt → Prop
  | .nil, _ => False
  | .mk h Y L K F, U => U ≠ .nil ∧ h.flat U.h ∧ (∀ i, i < h.bn → Y i = U.Y i) ∧ (∀ i, i < h.ln → (L i).Same (U.L i)) ∧ (∀ i, i < h.fn → K i = U.K i ∧ (F i).Same (U.F i))
theorem Vt.Same.left {T U : Vt} (h : T.Same U) : T ≠ .nil := by
  cases T with
  | nil => exact h.elim
  | mk => intro e; cases e
theorem Vt.Same.right {T U : Vt} (h : T.Same U) : U ≠ .nil := by
  cases T with
  | nil => exact h.elim
  | mk => exact h.1
theorem Vt.Same.flat {T U : Vt} (h : T.Same U) : T.h.flat U.h := by
  cases T with
  | nil => exact h.elim
  | mk => exact h.2.1
theorem Vt.Same.Y {T U : Vt} (h : T.Same U) {i : Nat} (hi : i < T.h.bn) : T.Y i = U.Y i := by
  cases T with
  | nil => exact h.elim
  | mk => exact h.2.2.1 i hi
theorem Vt.Same.L {T U : Vt} (h : T.Same U) {i : Nat} (hi : i < T.h.ln) : (T.L i).Same (U.L i) := by
  cases T with
  | nil => exact h.elim
  | mk => exact h.2.2.2.1 i hi
theorem Vt.Same.K {T U : Vt} (h : T.Same U) {i : Nat} (hi : i < T.h.fn) : T.K i = U.K i := by
  cases T with
  | nil => exact h.elim
  | mk => exact (h.2.2.2.2 i hi).1
theorem Vt.Same.F {T U : Vt} (h : T.Same U) {i : Nat} (hi : i < T.h.fn) : (T.F i).Same (U.F i) := by
  cases T with
  | nil => exact h.elim
  | mk => exact (h.2.2.2.2 i hi).2
theorem Vt.same_mk {T U : Vt} (ht : T ≠ .nil) (hu : U ≠ .nil) (h : T.h.flat U.h) (hy : ∀ i, i < T.h.bn → T.Y i = U.Y i) (hl : ∀ i, i < T.h.ln → (T.L i).Same (U.L i)) (hf : ∀ i, i < T.h.fn → T.K i = U.K i ∧ (T.F i).Same (U.F i)) : T.Same U := by
  cases T with
  | nil => exact absurd rfl ht
  | mk => exact ⟨hu, h, hy, hl, hf⟩
theorem Vt.Same.symm : ∀ {T U : Vt}, T.Same U → U.Same T := by
  intro T
  induction T with
  | nil => intro U h; exact h.elim
  | mk h Y L K F ihL ihF =>
    intro U hs
    have fl := hs.flat
    refine Vt.same_mk hs.right hs.left fl.symm ?_ ?_ ?_
    · intro i hi
      exact (hs.Y (show i < h.bn by rw [show h.bn = U.h.bn from fl.bn]; exact hi)).symm
    · intro i hi
      exact ihL i (hs.L (show i < h.ln by rw [show h.ln = U.h.ln from fl.ln]; exact hi))
    · intro i hi
      have hi' : i < h.fn := by rw [show h.fn = U.h.fn from fl.fn]; exact hi
      exact ⟨(hs.K hi').symm, ihF i (hs.F hi')⟩
theorem Vt.Same.trans : ∀ {T U V : Vt}, T.Same U → U.Same V → T.Same V := by
  intro T
  induction T with
  | nil => intro U V h; exact h.elim
  | mk h Y L K F ihL ihF =>
    intro U V a b
    have fl := a.flat
    have g1 : h.bn = U.h.bn := fl.bn
    have g2 : h.ln = U.h.ln := fl.ln
    have g3 : h.fn = U.h.fn := fl.fn
    refine Vt.same_mk a.left b.right (fl.trans b.flat) ?_ ?_ ?_
    · intro i hi
      exact (a.Y hi).trans (b.Y (by rw [← g1]; exact hi))
    · intro i hi
      exact ihL i (a.L hi) (b.L (by rw [← g2]; exact hi))
    · intro i hi
      exact ⟨(a.K hi).trans (b.K (by rw [← g3]; exact hi)), ihF i (a.F hi) (b.F (by rw [← g3]; exact hi))⟩
/-- A tree that has no hole in it. -/
def Vt.whole : Vt → Prop
  | .nil => False
  | .mk h _ L _ F => (∀ i, i < h.ln → (L i).whole) ∧ (∀ i, i < h.fn → (F i).whole)
theorem Vt.Same.rfl' : ∀ {T : Vt}, T.whole → T.Same T := by
  intro T
  induction T with
  | nil => intro h; exact h
  | mk h Y L K F ihL ihF =>
    intro hw
    exact ⟨(fun e => by cases e), Vh.flat.refl h, fun _ _ => rfl, fun i hi => ihL i (hw.1 i hi), fun i hi => ⟨rfl, ihF i (hw.2 i hi)⟩⟩
theorem Vt.In.whole {W : World} {top : Nat} : ∀ {T : Vt}, T.In W top → T.whole := by
  intro T
  induction T with
  | nil => exact fun h => h
  | mk h Y L K F ihL ihF =>
    intro hT
    obtain ⟨_, _, _, _, h4, _, h6⟩ := hT
    exact ⟨fun i hi => ihL i (h4 i hi).2, fun i hi => ihF i (h6 i hi).2.2.2⟩
theorem Vt.Same.whole : ∀ {T U : Vt}, T.Same U → T.whole := by
  intro T
  induction T with
  | nil => intro U h; exact h
  | mk h Y L K F ihL ihF => intro U hs; exact ⟨fun i hi => ihL i (hs.L hi), fun i hi => ihF i (hs.F hi)⟩
/-- The values in a value: a map's, or the list's. -/
def Vt.kn (T : Vt) : Nat := if T.h.k = 7 then T.h.fn else T.h.ln
def Vt.kid (T : Vt) (i : Nat) : Vt := if T.h.k = 7 then T.F i else T.L i
/-- A sum over the first elements. -/
def sumN (f : Nat → Nat) : Nat → Nat
  | 0 => 0
  | n + 1 => sumN f n + f n
theorem sumN_le {f : Nat → Nat} {i : Nat} : ∀ {n : Nat}, i < n → f i ≤ sumN f n := by
  intro n
  induction n with
  | zero => intro h; omega
  | succ n ih =>
    intro h
    show f i ≤ sumN f n + f n
    by_cases e : i = n
    · subst e; omega
    · have := ih (by omega); omega
theorem sumN_mono {f : Nat → Nat} {m : Nat} : ∀ {n : Nat}, m ≤ n → sumN f m ≤ sumN f n := by
  intro n
  induction n with
  | zero => intro h; rw [Nat.le_zero.1 h]; exact Nat.le_refl _
  | succ n ih =>
    intro h
    show sumN f m ≤ sumN f n + f n
    by_cases e : m = n + 1
    · subst e; exact Nat.le_refl _
    · have := ih (by omega); omega
theorem sumN_congr {f g : Nat → Nat} : ∀ {n : Nat}, (∀ i, i < n → f i = g i) → sumN f n = sumN g n := by
  intro n
  induction n with
  | zero => intro _; rfl
  | succ n ih =>
    intro h
    show sumN f n + f n = sumN g n + g n
    rw [ih (fun i hi => h i (by omega)), h n (by omega)]
/-- The number of values in a value. -/
def Vt.size : Vt → Nat
  | .nil => 1
  | .mk h _ L _ F => 1 + if h.k = 7 then sumN (fun i => (F i).size) h.fn else sumN (fun i => (L i).size) h.ln
theorem Vt.size_eq {T : Vt} (hT : T ≠ .nil) : T.size = 1 + sumN (fun i => (T.kid i).size) T.kn := by
  cases T with
  | nil => exact absurd rfl hT
  | mk h Y L K F =>
    by_cases k7 : h.k = 7
    · have e1 : (Vt.mk h Y L K F).kn = h.fn := if_pos k7
      have e2 : ∀ i, (Vt.mk h Y L K F).kid i = F i := fun i => if_pos k7
      show 1 + (if h.k = 7 then _ else _) = _
      rw [if_pos k7, e1]
      simp only [e2]
    · have e1 : (Vt.mk h Y L K F).kn = h.ln := if_neg k7
      have e2 : ∀ i, (Vt.mk h Y L K F).kid i = L i := fun i => if_neg k7
      show 1 + (if h.k = 7 then _ else _) = _
      rw [if_neg k7, e1]
      simp only [e2]
theorem Vt.size_kid {T : Vt} (h : T ≠ .nil) {i : Nat} (hi : i < T.kn) : (T.kid i).size < T.size := by
  rw [Vt.size_eq h]
  have := sumN_le (f := fun i => (T.kid i).size) hi
  omega
end Go.Proofs.Ytfkfboiblgoamaa
