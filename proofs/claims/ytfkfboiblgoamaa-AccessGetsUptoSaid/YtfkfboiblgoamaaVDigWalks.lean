/- Numerals: digits alone, and what is a numeral (printed by gen_dig1.py). -/
import Derived.Test.YtfkfboiblgoamaaDigMathB
import Derived.Test.YtfkfboiblgoamaaProg
import Derived.Below
import Derived.Outline
import Derived.LoopTactic
import Derived.LoopN
import Derived.WalkLawsBesides
import Derived.WalkSpells
import Derived.Laws.IdiomStrings
import Derived.Lib.Strings
import Derived.Lib.TrimByte
import Derived.Lib.Repeat
import Derived.Lib.Hide
namespace Go.Proofs.Ytfkfboiblgoamaa
open Go.RowKit

namespace Dig
def l (x : ByteArray) : List UInt8 := x.data.toList
theorem l_len (x : ByteArray) : (l x).length = x.size := by unfold l; rw [Array.length_toList]; rfl
theorem l_get {x : ByteArray} {i : Nat} (h : i < x.size) : (l x)[i]'(by rw [l_len]; exact h) = x[i] := rfl
theorem alld_iff (x : ByteArray) : alld (l x) ↔ ∀ i (h : i < x.size), isd x[i] := by
  constructor
  · intro h i hi
    exact h _ (by rw [← l_get hi]; exact List.getElem_mem _)
  · intro h b hb
    obtain ⟨i, hi, rfl⟩ := List.getElem_of_mem hb
    exact h i (by rw [← l_len]; exact hi)
instance (x : List UInt8) : Decidable (alld x) := by unfold alld; infer_instance
def bs (l : List UInt8) : ByteArray := ⟨l.toArray⟩
theorem bs_size (k : List UInt8) : (bs k).size = k.length := by simp [bs, ByteArray.size]
theorem l_bs (k : List UInt8) : l (bs k) = k := by simp [l, bs]
theorem bs_l (x : ByteArray) : bs (l x) = x := by simp [l, bs]
theorem first_bad (x : ByteArray) : ∀ n : Nat, n ≤ x.size → (∀ i (h : i < x.size), i < n → isd x[i]) ∨ ∃ j, ∃ h : j < x.size, j < n ∧ (∀ i (h : i < x.size), i < j → isd x[i]) ∧ ¬ isd x[j] := by
  intro n
  induction n with
  | zero => intro _; exact Or.inl (fun i _ hi => by omega)
  | succ n ih =>
    intro hn
    rcases ih (by omega) with h | ⟨j, hj, h0, h1, h2⟩
    · by_cases hd : isd (x[n]'(by omega))
      · refine Or.inl (fun i hi hin => ?_)
        rcases Nat.lt_or_ge i n with g | g
        · exact h i hi g
        · obtain rfl : i = n := by omega
          exact hd
      · exact Or.inr ⟨n, by omega, by omega, h, hd⟩
    · exact Or.inr ⟨j, hj, by omega, h1, h2⟩
end Dig


set_option maxHeartbeats 1000000 in
theorem rdig_go {x : ByteArray} {j : Nat} (hx : x.size ≤ maxLen) (hj : j ≤ x.size) (h : ∀ i (h : i < x.size), i < j → Dig.isd x[i]) (hn : ∀ h : j < x.size, ¬ Dig.isd x[j]) (w : World) :
    Calls Try.prog 76 #[.string x] w fun e w' => e = .returned (.bool (decide (j = x.size))) ∧ w = w' := by
  have H := Lib.hid h; clear h
  have HN := Lib.hid hn; clear hn
  obtain ⟨R, hR⟩ : ∃ r, decide (j = x.size) = r := ⟨_, rfl⟩
  rw [hR]
  have HR := Lib.hid hR; clear hR
  unfold maxLen at hx
  go_enter Try.func76, Try.ntmps76
  go_wp2_with fail
  go_loop [3] (fun i => ∃ k : Nat, k ≤ j ∧ i = .int .i64 k) (fun i => x.size - (intOf i).toNat)
  case atStart => exact ⟨0, by omega, rfl⟩
  case round =>
    obtain ⟨k, hk, rfl⟩ := hrel
    have hk1 : (0 : Int) ≤ k := by omega
    by_cases hkf : k = x.size
    · have hR2 : R = true := by rw [← HR.out]; exact decide_eq_true (by omega)
      subst hR2
      subst hkf
      go_wp2
      go_ret
      exact ⟨rfl, rfl⟩
    have hkx : k < x.size := by omega
    have hk2 : (k : Int) < x.size := by omega
    have hd : Dig.isd x[k] ↔ (48 ≤ x[k].toNat ∧ x[k].toNat ≤ 57) := Iff.rfl
    by_cases h1 : x[k].toNat < 48
    · have hkj : j = k := by
        rcases Nat.lt_or_ge k j with g | g
        · have := hd.1 (H.out k hkx g); omega
        · omega
      have hR2 : R = false := by rw [← HR.out]; exact decide_eq_false (by omega)
      subst hR2
      have d1 : decide ((x[k].toNat : Int) < 48) = true := decide_eq_true (by omega)
      clear hd hkj hkf
      go_wp2
      go_ret
      exact ⟨rfl, rfl⟩
    by_cases h2 : 57 < x[k].toNat
    · have hkj : j = k := by
        rcases Nat.lt_or_ge k j with g | g
        · have := hd.1 (H.out k hkx g); omega
        · omega
      have hR2 : R = false := by rw [← HR.out]; exact decide_eq_false (by omega)
      subst hR2
      have d1 : decide ((x[k].toNat : Int) < 48) = false := decide_eq_false (by omega)
      have d2 : decide (57 < (x[k].toNat : Int)) = true := decide_eq_true (by omega)
      clear hd hkj hkf
      go_wp2
      go_ret
      exact ⟨rfl, rfl⟩
    have hkj : k < j := by
      rcases Nat.lt_or_ge k j with g | g
      · exact g
      · obtain rfl : k = j := by omega
        exact absurd (hd.2 (by omega)) (HN.out hkx)
    have d1 : decide ((x[k].toNat : Int) < 48) = false := decide_eq_false (by omega)
    have d2 : decide (57 < (x[k].toNat : Int)) = false := decide_eq_false (by omega)
    clear hd hkf
    go_wp2
    go_round
    case rel => exact ⟨k + 1, by omega, by go_num⟩
    case measure => simp [intOf]; omega
theorem rdig_any {x : ByteArray} (hx : x.size ≤ maxLen) (w : World) :
    Calls Try.prog 76 #[.string x] w fun e w' => e = .returned (.bool (decide (Dig.alld (Dig.l x)))) ∧ w = w' := by
  rcases Dig.first_bad x x.size (Nat.le_refl _) with h | ⟨j, hj, _, h1, h2⟩
  · rw [decide_eq_true ((Dig.alld_iff x).2 (fun i hi => h i hi hi))]
    have := rdig_go hx (Nat.le_refl _) h (fun g => absurd g (Nat.lt_irrefl _)) w
    rwa [decide_eq_true rfl] at this
  · rw [decide_eq_false (fun g => h2 ((Dig.alld_iff x).1 g j hj))]
    have := rdig_go hx (Nat.le_of_lt hj) h1 (fun _ => h2) w
    rwa [decide_eq_false (by omega)] at this


/-! ### numerals -/
namespace Dig
/-- A numeral. -/
def vld (x : ByteArray) : Prop := x.size ≤ 600 ∧ alld (l x) ∧ (x.size = 0 ∨ ∀ h : 0 < x.size, x[0].toNat ≠ 48)
instance (x : ByteArray) : Decidable (vld x) := by
  unfold vld
  exact instDecidableAnd (dq := instDecidableAnd (dq := instDecidableOr (dq := if h : 0 < x.size then (if g : x[0].toNat = 48 then isFalse (fun k => k h g) else isTrue (fun _ => g)) else isTrue (fun k => absurd k h))))
theorem nil_of {x : ByteArray} (h : x.size = 0) : x.toList.isEmpty = true := by
  rw [Lib.toList_data]
  have : x.data.toList.length = 0 := by rw [Array.length_toList]; exact h
  simp [List.eq_nil_of_length_eq_zero this]
theorem some_of {x : ByteArray} (h : 0 < x.size) : x.toList.isEmpty = false := by
  rw [Lib.toList_data]
  cases g : x.data.toList with
  | nil => have : x.size = 0 := by rw [← ByteArray.size_data, ← Array.length_toList, g]; rfl
           omega
  | cons _ _ => rfl
end Dig


set_option maxHeartbeats 1000000 in
theorem rdigs_any {x : ByteArray} (hx : x.size ≤ maxLen) (w : World) :
    Calls Try.prog 68 #[.string x] w fun e w' => e = .returned (.bool (decide (Dig.vld x))) ∧ w = w' := by
  have HA := Lib.hid (rdig_any hx)
  obtain ⟨R, hR⟩ : ∃ r, decide (Dig.vld x) = r := ⟨_, rfl⟩
  rw [hR]
  by_cases h6 : x.size ≤ 600
  case neg =>
    have : R = false := by rw [← hR]; exact decide_eq_false (fun g => h6 g.1)
    subst this
    have d1 : decide ((x.size : Int) ≤ 600) = false := decide_eq_false (by omega)
    clear hR h6 hx
    go_enter Try.func68, Try.ntmps68
    go_wp2
    go_ret
    exact ⟨rfl, rfl⟩
  have d1 : decide ((x.size : Int) ≤ 600) = true := decide_eq_true (by omega)
  by_cases ha : Dig.alld (Dig.l x)
  case neg =>
    have : R = false := by rw [← hR]; exact decide_eq_false (fun g => ha g.2.1)
    subst this
    rw [decide_eq_false ha] at HA
    clear hR h6 hx ha
    go_enter Try.func68, Try.ntmps68
    go_wp2_with fail
    refine (HA.out _).mono ?_; rintro e w' ⟨rfl, rfl⟩
    go_wp2
    go_ret
    exact ⟨rfl, rfl⟩
  rw [decide_eq_true ha] at HA
  by_cases h0 : x.size = 0
  · have : R = true := by rw [← hR]; exact decide_eq_true ⟨h6, ha, Or.inl h0⟩
    subst this
    have e0 := Dig.nil_of h0
    have d2 : ((x.size : Int) == 0) = true := beq_iff_eq.2 (by omega)
    clear hR h6 hx ha h0
    go_enter Try.func68, Try.ntmps68
    go_wp2_with fail
    refine (HA.out _).mono ?_; rintro e w' ⟨rfl, rfl⟩
    go_wp2
    go_ret
    exact ⟨rfl, rfl⟩
  have hp : 0 < x.size := by omega
  have hp2 : (0 : Int) < x.size := by omega
  have e0 := Dig.some_of hp
  have d2 : ((x.size : Int) == 0) = false := beq_eq_false_iff_ne.2 (by omega)
  by_cases hb : x[0].toNat = 48
  · have : R = false := by
      rw [← hR]
      refine decide_eq_false (fun g => ?_)
      rcases g.2.2 with k | k
      · exact h0 k
      · exact k hp hb
    subst this
    have d3 : ((x[0].toNat : Int) != 48) = false := by simp [hb]
    clear hR h6 hx ha h0 hb
    go_enter Try.func68, Try.ntmps68
    go_wp2_with fail
    refine (HA.out _).mono ?_; rintro e w' ⟨rfl, rfl⟩
    go_wp2
    go_ret
    exact ⟨rfl, rfl⟩
  · have : R = true := by rw [← hR]; exact decide_eq_true ⟨h6, ha, Or.inr (fun _ => hb)⟩
    subst this
    have d3 : ((x[0].toNat : Int) != 48) = true := by simp; omega
    clear hR h6 hx ha h0 hb
    go_enter Try.func68, Try.ntmps68
    go_wp2_with fail
    refine (HA.out _).mono ?_; rintro e w' ⟨rfl, rfl⟩
    go_wp2
    go_ret
    exact ⟨rfl, rfl⟩

end Go.Proofs.Ytfkfboiblgoamaa
