/- Numerals: shifts and final zeros. -/
import Derived.Test.YtfkfboiblgoamaaVDigText
namespace Go.Proofs.Ytfkfboiblgoamaa
open Go.RowKit

namespace Dig
def noughts (n : Nat) : ByteArray := bs (List.replicate n 48)
theorem noughts_size (n : Nat) : (noughts n).size = n := by unfold noughts; rw [bs_size, List.length_replicate]
theorem trimRightB_rev (k : List UInt8) : Go.Lib.trimRightB k 48 = (strip k.reverse).reverse := by
  unfold strip
  first | rfl | (unfold Go.Lib.trimRightB; rfl)
theorem trail (x : ByteArray) : ∃ c, c ≤ x.size ∧ (∀ i (h : i < x.size), i < c → (x[x.size - 1 - i]'(by omega)).toNat = 48) ∧ (∀ h : c < x.size, (x[x.size - 1 - c]'(by omega)).toNat ≠ 48) ∧ (Go.Lib.trimRightB (l x) 48).length = x.size - c := by
  obtain ⟨c, h1, h2, h3, h4⟩ := lead (bs (l x).reverse)
  have hs : (bs (l x).reverse).size = x.size := by rw [bs_size, List.length_reverse, l_len]
  have g : ∀ i (h : i < x.size), (bs (l x).reverse)[i]'(by rw [hs]; exact h) = x[x.size - 1 - i]'(by omega) := fun i h => by
    rw [← l_get (x := bs (l x).reverse) (by rw [hs]; exact h), ← l_get (x := x) (by omega)]
    simp only [l_bs]
    rw [List.getElem_reverse]
    simp only [l_len]
  refine ⟨c, by omega, fun i hi hc => ?_, fun h => ?_, ?_⟩
  · rw [← g i hi]; exact h2 i (by omega) hc
  · rw [← g c h]; exact h3 (by omega)
  · rw [trimRightB_rev, List.length_reverse]
    rw [l_bs] at h4
    rw [h4, List.length_drop, List.length_reverse, l_len]
def zc (x : ByteArray) : Nat := x.size - (Go.Lib.trimRightB (l x) 48).length
theorem repeat_one (n : Nat) : Go.Lib.repeatL [48] n = List.replicate n 48 := by
  induction n with
  | zero => rfl
  | succ n ih => show [48] ++ Go.Lib.repeatL [48] n = _; rw [ih]; rfl
end Dig
set_option maxHeartbeats 1000000 in
theorem rzeros_any {x : ByteArray} (hx : x.size ≤ 1000000) (w : World) :
    Calls Try.prog 69 #[.string x] w fun e w' => e = .returned (.int .i64 (Dig.zc x)) ∧ w = w' := by
  obtain ⟨c, h1, h2, h3, h4⟩ := Dig.trail x
  have hz : Dig.zc x = c := by unfold Dig.zc; omega
  rw [hz]
  have H := Lib.hid h2
  have HN := Lib.hid h3
  clear h2 h3 h4 hz
  go_enter Try.func69, Try.ntmps69
  go_wp2_with fail
  go_loop [3] (fun i => ∃ k : Nat, k ≤ c ∧ i = .int .i64 k) (fun i => x.size - (intOf i).toNat)
  case atStart => exact ⟨0, by omega, rfl⟩
  case round =>
    obtain ⟨k, hk, rfl⟩ := hrel
    have hk1 : (0 : Int) ≤ k := by omega
    by_cases hkx : k < x.size
    · have hk2 : (k : Int) < x.size := by omega
      obtain ⟨m, hm, hmx⟩ : ∃ m : Nat, m = x.size - 1 - k ∧ m < x.size := ⟨_, rfl, by omega⟩
      have em : (x.size : Int) - 1 - k = m := by omega
      have hm1 : (m : Int) < x.size := by omega
      have hm0 : (0 : Int) ≤ m := by omega
      by_cases hkc : k < c
      · have e := H.out k hkx hkc
        have e2 : x[m].toNat = 48 := by subst hm; exact e
        have d1 : ((x[m].toNat : Int) == 48) = true := beq_iff_eq.2 (by omega)
        clear e e2 hm
        go_wp2
        go_round
        case rel => exact ⟨k + 1, by omega, by go_num⟩
        case measure => simp [intOf]; omega
      · obtain rfl : k = c := by omega
        have e := HN.out hkx
        have e2 : x[m].toNat ≠ 48 := by subst hm; exact e
        have d1 : ((x[m].toNat : Int) == 48) = false := beq_eq_false_iff_ne.2 (by omega)
        clear e e2 hm hkc
        go_wp2
        go_ret
        exact ⟨rfl, rfl⟩
    · have d1 : decide (k < x.size) = false := decide_eq_false (by omega)
      obtain rfl : k = c := by omega
      clear hkx
      go_wp2
      go_ret
      exact ⟨rfl, rfl⟩
end Go.Proofs.Ytfkfboiblgoamaa
