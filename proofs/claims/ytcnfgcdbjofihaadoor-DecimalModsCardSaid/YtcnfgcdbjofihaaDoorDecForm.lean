/- Decimals: what a text is read as, in plain form. -/
import Derived.Test.YtcnfgcdbjofihaaDoorDecValid
namespace Go.Proofs.YtcnfgcdbjofihaaDoor
open Go.RowKit

namespace Dec
def fst (s : ByteArray) : Nat := if h : 0 < s.size then s[0].toNat else 0
def tl (s : ByteArray) (k : Nat) : ByteArray := s.extract k s.size
theorem fst_get {s : ByteArray} (h : 0 < s.size) : fst s = s[0].toNat := by unfold fst; rw [dif_pos h]
theorem fst_pos {s : ByteArray} {c : Nat} (h : fst s = c) (hc : 0 < c) : 0 < s.size := by
  unfold fst at h
  split at h
  · assumption
  · omega
theorem tl_size (s : ByteArray) (k : Nat) : (tl s k).size = s.size - k := by unfold tl; rw [ByteArray.size_extract]; omega
theorem tl_tl (s : ByteArray) (j k : Nat) : tl (tl s j) k = tl s (j + k) := by
  unfold tl
  rw [ByteArray.extract_extract, ByteArray.size_extract]
  apply ByteArray.ext
  rw [ByteArray.data_extract, ByteArray.data_extract]
  apply Array.ext'
  simp only [Array.toList_extract, List.extract_eq_take_drop]
  have hl : s.data.toList.length = s.size := by rw [Array.length_toList]; rfl
  rw [List.take_of_length_le (by simp; omega), List.take_of_length_le (by simp)]
theorem tl_take (s : ByteArray) (j k : Nat) (h : j + k ≤ s.size) : (tl s j).extract 0 k = s.extract j (j + k) := by
  unfold tl
  rw [ByteArray.extract_extract]
  congr 1
  omega
theorem fst_tl (s : ByteArray) {j : Nat} (h : j < s.size) : fst (tl s j) = s[j].toNat := by
  have h0 : 0 < (tl s j).size := by rw [tl_size]; omega
  rw [fst_get h0]
  have := ext_get (s := s) (a := j) (i := 0) (by omega)
  simp only [Nat.add_zero] at this
  rw [← this]
  rfl
theorem fst_nil {s : ByteArray} (h : s.size = 0) : fst s = 0 := by unfold fst; rw [dif_neg (by omega)]
theorem rn_alld (s : ByteArray) : Dig.alld (Dig.l (s.extract 0 (rn s))) := by
  obtain ⟨h1, h2, _⟩ := rn_spec s
  refine (Dig.alld_iff _).2 (fun i hi => ?_)
  have hs : i < rn s ∧ i < s.size := by rw [ByteArray.size_extract] at hi; omega
  rw [ByteArray.getElem_extract]
  simpa using h2 i hs.2 hs.1
theorem rn_alld1 (s : ByteArray) (h : 0 < s.size) : Dig.alld (Dig.l (s.extract 1 (rn (tl s 1) + 1))) := by
  have hr := (rn_spec (tl s 1)).1
  rw [tl_size] at hr
  have := rn_alld (tl s 1)
  rwa [tl_take s 1 _ (by omega), Nat.add_comm 1] at this
theorem rn_all {s : ByteArray} (h : rn s = s.size) : Dig.alld (Dig.l s) := by
  have := rn_alld s
  rwa [h, show s.extract 0 s.size = s by simp] at this
theorem rn_nil {s : ByteArray} (h : s.size = 0) : rn s = 0 := by have := (rn_spec s).1; omega
theorem alld_app {a b : ByteArray} (ha : Dig.alld (Dig.l a)) (hb : Dig.alld (Dig.l b)) : Dig.alld (Dig.l (a ++ b)) := by
  have : Dig.l (a ++ b) = Dig.l a ++ Dig.l b := by unfold Dig.l; simp
  rw [this]
  intro c hc
  rcases List.mem_append.1 hc with h | h
  · exact ha c h
  · exact hb c h
/-- What follows the sign of an exponent. -/
def sgn (s : ByteArray) : ByteArray := if fst s = 45 ∨ fst s = 43 then tl s 1 else s
def expo (mv : Int → Bool → Nat → Int) (e : Int) (s : ByteArray) : Option Int :=
  if s.size = 0 then some e else if fst s ≠ 101 ∧ fst s ≠ 69 then none else
  if rn (sgn (tl s 1)) = 0 ∨ rn (sgn (tl s 1)) ≠ (sgn (tl s 1)).size then none else some (mv e (decide (fst (tl s 1) = 45)) (Dig.V (sgn (tl s 1))))
def fin (mv : Int → Bool → Nat → Int) (neg : Bool) (A : ByteArray) (e : Int) (s : ByteArray) : Dc × Int := match expo mv e s with | none => (z0, 3) | some y => normR neg (Dig.V A) y
def p2 (mv : Int → Bool → Nat → Int) (neg : Bool) (A s : ByteArray) : Dc × Int :=
  if fst s = 46 then (if rn (tl s 1) = 0 then (z0, 3) else fin mv neg (A ++ s.extract 1 (rn (tl s 1) + 1)) (-(rn (tl s 1) : Int)) (tl s (rn (tl s 1) + 1))) else fin mv neg A 0 s
def p1 (mv : Int → Bool → Nat → Int) (neg : Bool) (s : ByteArray) : Dc × Int := if rn s = 0 ∨ (1 < rn s ∧ fst s = 48) then (z0, 3) else p2 mv neg (s.extract 0 (rn s)) (tl s (rn s))
def parse (mv : Int → Bool → Nat → Int) (x : ByteArray) : Dc × Int := if fst x = 45 then p1 mv true (tl x 1) else p1 mv false x
theorem fin_none {mv neg A e s} (h : expo mv e s = none) : fin mv neg A e s = (z0, 3) := by unfold fin; rw [h]
theorem fin_some {mv neg A e s y} (h : expo mv e s = some y) : fin mv neg A e s = normR neg (Dig.V A) y := by unfold fin; rw [h]
theorem expo_nil {mv e s} (h : s.size = 0) : expo mv e s = some e := by unfold expo; rw [if_pos h]
theorem expo_bad {mv e} {s : ByteArray} (h0 : s.size ≠ 0) (h : fst s ≠ 101 ∧ fst s ≠ 69) : expo mv e s = none := by unfold expo; rw [if_neg h0, if_pos h]
theorem expo_none {mv e} {s u : ByteArray} (h0 : s.size ≠ 0) (h : fst s = 101 ∨ fst s = 69) (hu : sgn (tl s 1) = u) (hn : rn u = 0 ∨ rn u ≠ u.size) : expo mv e s = none := by
  unfold expo
  rw [if_neg h0, if_neg (by omega), hu, if_pos hn]
theorem expo_some {mv e} {s u : ByteArray} {b : Bool} (h0 : s.size ≠ 0) (h : fst s = 101 ∨ fst s = 69) (hb : decide (fst (tl s 1) = 45) = b) (hu : sgn (tl s 1) = u) (hn : rn u ≠ 0) (hn2 : rn u = u.size) : expo mv e s = some (mv e b (Dig.V u)) := by
  unfold expo
  rw [if_neg h0, if_neg (by omega), hu, if_neg (by omega), hb]
end Dec

theorem prefix_any (s : ByteArray) (c : UInt8) (hc : 0 < c.toNat) (w : World) :
    Calls Tryd.prog 60 #[.string s, .string ⟨#[c]⟩] w fun e w' => e = .returned (.bool (decide (Dec.fst s = c.toNat))) ∧ w = w' := by
  refine (Tryd.strings_HasPrefix s ⟨#[c]⟩ w).mono ?_
  rintro e w' ⟨rfl, rfl⟩
  refine ⟨?_, rfl⟩
  congr 2
  unfold Go.Lib.hasPrefix
  by_cases h : 0 < s.size
  · rw [Dec.fst_get h]
    have e : s.data.toList = s[0] :: s.data.toList.tail := by
      cases hl : s.data.toList with
      | nil => have : s.data.toList.length = 0 := by rw [hl]; rfl
               rw [Array.length_toList] at this
               exact absurd h (by change ¬ 0 < s.data.size; omega)
      | cons a t =>
        have h1 : s[0] = s.data.toList[0]'(by rw [hl]; simp) := rfl
        rw [h1]
        simp [hl]
    rw [e]
    simp only [List.isPrefixOf, Bool.and_true]
    rw [Bool.eq_iff_iff, beq_iff_eq, decide_eq_true_iff]
    constructor
    · intro k; rw [← k]
    · intro k; exact (UInt8.toNat_inj.1 k).symm
  · have e : s.data.toList = [] := by
      apply List.eq_nil_of_length_eq_zero
      rw [Array.length_toList]
      change s.data.size = 0
      have : s.size = s.data.size := rfl
      omega
    rw [e, Dec.fst_nil (by omega)]
    rw [decide_eq_false (by omega)]
    rfl
end Go.Proofs.YtcnfgcdbjofihaaDoor
