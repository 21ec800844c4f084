/- Times: the reader's fraction. -/
import Derived.Test.YthbjkibclbgjoaaMomReadB
namespace Go.Proofs.Ythbjkibclbgjoaa
open Go.RowKit

namespace Mom
/-- So many digits, and no more. -/
def run (x : ByteArray) (k : Nat) : Prop := alld x k ∧ ¬ isd x k
theorem run_ex (x : ByteArray) : ∃ k, run x k := by
  have key : ∀ n : Nat, ∀ k, alld x k → n = x.size - k → ∃ k, run x k := by
    intro n
    induction n with
    | zero => intro k hk hn; exact ⟨k, hk, fun hd => by have := isd_lt hd; omega⟩
    | succ n ih =>
      intro k hk hn
      by_cases hd : isd x k
      · refine ih (k + 1) (fun j hj => ?_) (by omega)
        rcases Nat.lt_or_ge j k with h | h
        · exact hk j h
        · obtain rfl : j = k := by omega
          exact hd
      · exact ⟨k, hk, hd⟩
  exact key _ 0 (fun j hj => by omega) rfl
theorem run_le {x : ByteArray} {k : Nat} (h : run x k) : k ≤ x.size := by
  rcases Nat.eq_zero_or_pos k with h0 | h0
  · omega
  · have := isd_lt (h.1 (k - 1) (by omega)); omega
theorem pow10_bd {x : ByteArray} {k j : Nat} (h : alld x k) (h1 : k ≤ j) (h2 : j ≤ 9) : 0 ≤ nv x k * 10 ^ (j - k) ∧ nv x k * 10 ^ (j - k) ≤ 999999999 := by
  obtain ⟨a, b⟩ := nv_bd h
  have hp : (0 : Int) < 10 ^ (j - k) := Int.pow_pos (by decide)
  have h3 : nv x k + 1 ≤ 10 ^ k := by omega
  have h4 : (nv x k + 1) * 10 ^ (j - k) ≤ 10 ^ k * 10 ^ (j - k) := Int.mul_le_mul_of_nonneg_right h3 (Int.le_of_lt hp)
  have h5 : (10 : Int) ^ k * 10 ^ (j - k) = 10 ^ j := by rw [← Int.pow_add, show k + (j - k) = j by omega]
  have h6 : (10 : Nat) ^ j ≤ 10 ^ 9 := Nat.pow_le_pow_right (by decide) h2
  have h7 : ((10 ^ j : Nat) : Int) = 10 ^ j := by simp
  rw [Int.add_mul] at h4
  have h8 : 0 ≤ nv x k * 10 ^ (j - k) := Int.mul_nonneg a (Int.le_of_lt hp)
  omega
end Mom

def FracEnd (x : ByteArray) (k0 B : Nat) (W : World) (e : Ending) (W' : World) : Prop :=
  (1 ≤ k0 ∧ k0 ≤ 9 → e = .returned (.int .i64 (Mom.nv x k0 * 10 ^ (9 - k0))) ∧ W' = W.setCell ⟨B, 0, none⟩ (.string (x.extract k0 x.size))) ∧
  (¬ (1 ≤ k0 ∧ k0 ≤ 9) → e = .returned (.int .i64 0) ∧ W' = W.setCell ⟨B, 1, none⟩ (.bool true))

set_option maxHeartbeats 4000000 in
theorem fraction_any {x : ByteArray} {b : Bool} {B k0 : Nat} (hx : x.size ≤ maxLen) (h : Mom.run x k0) (W : World) (hW : Whole W B 57 #[.string x, .bool b]) :
    Calls Try.prog 70 #[.pointer (some ⟨B, 0, none⟩)] W fun e W' => FracEnd x k0 B W e W' := by
  have hle := Mom.run_le h
  have c0 := hW.c0
  have c1 := hW.c1
  have fz := hW.frozen
  have H := Lib.hid h; clear h
  unfold maxLen at hx
  go_enter Try.func70, Try.ntmps70
  go_wp2
  go_loop [3, 4] (fun n i => ∃ k : Nat, k ≤ k0 ∧ i = .int .i64 k ∧ n = .int .i64 (Mom.nv x (min k 9))) (fun _ i => k0 - (intOf i).toNat)
  case atStart => exact ⟨0, by omega, rfl, rfl⟩
  case round =>
    obtain ⟨k, hk, rfl, rfl⟩ := hrel
    have hnb := Mom.nv_nine (x := x) (by omega : min k 9 ≤ 9) (fun j hj => H.out.1 j (by omega))
    by_cases hkm : k < k0
    · have hks : k < x.size := by omega
      have hd := H.out.1 k hkm
      unfold Mom.isd at hd
      rw [Mom.bt_in hks] at hd
      have d1 : 48 ≤ x[k].toNat := by omega
      have d2 : x[k].toNat ≤ 57 := by omega
      by_cases h9 : k < 9
      · have HN : Hid (Mom.nv x (min (k + 1) 9) = 10 * Mom.nv x (min k 9) + ((x[k].toNat : Int) - 48)) := Lib.hid (by rw [← Mom.bt_in hks, show min (k + 1) 9 = k + 1 by omega, show min k 9 = k by omega]; rfl)
        clear hd
        generalize Mom.nv x (min k 9) = nk at *
        go_wp2
        go_round
        case rel => exact ⟨k + 1, by omega, by go_num, by rw [HN.out]⟩
        case measure => simp [intOf]; omega
      · have HN : Hid (Mom.nv x (min (k + 1) 9) = Mom.nv x (min k 9)) := Lib.hid (by rw [show min (k + 1) 9 = min k 9 by omega])
        clear hd
        generalize Mom.nv x (min k 9) = nk at *
        go_wp2
        go_round
        case rel => exact ⟨k + 1, by omega, by go_num, by rw [HN.out]⟩
        case measure => simp [intOf]; omega
    · obtain rfl : k = k0 := by omega
      have hnd := H.out.2
      by_cases hks : k < x.size
      · rcases (show x[k].toNat < 48 ∨ 57 < x[k].toNat by unfold Mom.isd at hnd; rw [Mom.bt_in hks] at hnd; omega) with d1 | d1
        · have d2 : decide (48 ≤ (x[k].toNat : Int)) = false := decide_eq_false (by omega)
          clear hnd
          by_cases hin : 1 ≤ k ∧ k ≤ 9
          · have h1 : 1 ≤ k := hin.1
            have h9 : k ≤ 9 := hin.2
            have hm : min k 9 = k := by omega
            rw [hm] at hnb
            clear hm
            go_wp2
            go_loop [3, 4] (fun n i => ∃ j : Nat, k ≤ j ∧ j ≤ 9 ∧ i = .int .i64 j ∧ n = .int .i64 (Mom.nv x k * 10 ^ (j - k))) (fun _ i => 9 - (intOf i).toNat)
            case atStart => exact ⟨k, by omega, by omega, rfl, by rw [Nat.sub_self]; simp⟩
            case round =>
              obtain ⟨j, hj, hj9, rfl, rfl⟩ := hrel
              have hpb := Mom.pow10_bd H.out.1 hj hj9
              by_cases hjl : j < 9
              · have HP : Hid (Mom.nv x k * 10 ^ (j + 1 - k) = Mom.nv x k * 10 ^ (j - k) * 10) := Lib.hid (by rw [show j + 1 - k = (j - k) + 1 by omega, Int.pow_succ, Int.mul_assoc])
                generalize Mom.nv x k * 10 ^ (j - k) = nj at *
                go_wp2
                go_round
                case rel => exact ⟨j + 1, by omega, by omega, by go_num, by rw [HP.out]⟩
                case measure => simp [intOf]; omega
              · obtain rfl : j = 9 := by omega
                go_wp2
                go_ret
                exact ⟨fun _ => ⟨rfl, rfl⟩, fun h => absurd ⟨h1, h9⟩ h⟩
          · rcases (show k < 1 ∨ 9 < k by omega) with h0 | h0
            · have e1 : decide ((k : Int) < 1) = true := decide_eq_true (by omega)
              clear hin
              go_wp2
              go_ret
              exact ⟨fun h => by omega, fun _ => ⟨rfl, rfl⟩⟩
            · have e1 : decide ((k : Int) < 1) = false := decide_eq_false (by omega)
              clear hin
              go_wp2
              go_ret
              exact ⟨fun h => by omega, fun _ => ⟨rfl, rfl⟩⟩
        · have d2 : decide (48 ≤ (x[k].toNat : Int)) = true := decide_eq_true (by omega)
          have d3 : decide ((x[k].toNat : Int) ≤ 57) = false := decide_eq_false (by omega)
          clear hnd
          by_cases hin : 1 ≤ k ∧ k ≤ 9
          · have h1 : 1 ≤ k := hin.1
            have h9 : k ≤ 9 := hin.2
            have hm : min k 9 = k := by omega
            rw [hm] at hnb
            clear hm
            go_wp2
            go_loop [3, 4] (fun n i => ∃ j : Nat, k ≤ j ∧ j ≤ 9 ∧ i = .int .i64 j ∧ n = .int .i64 (Mom.nv x k * 10 ^ (j - k))) (fun _ i => 9 - (intOf i).toNat)
            case atStart => exact ⟨k, by omega, by omega, rfl, by rw [Nat.sub_self]; simp⟩
            case round =>
              obtain ⟨j, hj, hj9, rfl, rfl⟩ := hrel
              have hpb := Mom.pow10_bd H.out.1 hj hj9
              by_cases hjl : j < 9
              · have HP : Hid (Mom.nv x k * 10 ^ (j + 1 - k) = Mom.nv x k * 10 ^ (j - k) * 10) := Lib.hid (by rw [show j + 1 - k = (j - k) + 1 by omega, Int.pow_succ, Int.mul_assoc])
                generalize Mom.nv x k * 10 ^ (j - k) = nj at *
                go_wp2
                go_round
                case rel => exact ⟨j + 1, by omega, by omega, by go_num, by rw [HP.out]⟩
                case measure => simp [intOf]; omega
              · obtain rfl : j = 9 := by omega
                go_wp2
                go_ret
                exact ⟨fun _ => ⟨rfl, rfl⟩, fun h => absurd ⟨h1, h9⟩ h⟩
          · rcases (show k < 1 ∨ 9 < k by omega) with h0 | h0
            · have e1 : decide ((k : Int) < 1) = true := decide_eq_true (by omega)
              clear hin
              go_wp2
              go_ret
              exact ⟨fun h => by omega, fun _ => ⟨rfl, rfl⟩⟩
            · have e1 : decide ((k : Int) < 1) = false := decide_eq_false (by omega)
              clear hin
              go_wp2
              go_ret
              exact ⟨fun h => by omega, fun _ => ⟨rfl, rfl⟩⟩
      · have d2 : decide ((k : Int) < x.size) = false := decide_eq_false (by omega)
        clear hnd
        by_cases hin : 1 ≤ k ∧ k ≤ 9
        · have h1 : 1 ≤ k := hin.1
          have h9 : k ≤ 9 := hin.2
          have hm : min k 9 = k := by omega
          rw [hm] at hnb
          clear hm
          go_wp2
          go_loop [3, 4] (fun n i => ∃ j : Nat, k ≤ j ∧ j ≤ 9 ∧ i = .int .i64 j ∧ n = .int .i64 (Mom.nv x k * 10 ^ (j - k))) (fun _ i => 9 - (intOf i).toNat)
          case atStart => exact ⟨k, by omega, by omega, rfl, by rw [Nat.sub_self]; simp⟩
          case round =>
            obtain ⟨j, hj, hj9, rfl, rfl⟩ := hrel
            have hpb := Mom.pow10_bd H.out.1 hj hj9
            by_cases hjl : j < 9
            · have HP : Hid (Mom.nv x k * 10 ^ (j + 1 - k) = Mom.nv x k * 10 ^ (j - k) * 10) := Lib.hid (by rw [show j + 1 - k = (j - k) + 1 by omega, Int.pow_succ, Int.mul_assoc])
              generalize Mom.nv x k * 10 ^ (j - k) = nj at *
              go_wp2
              go_round
              case rel => exact ⟨j + 1, by omega, by omega, by go_num, by rw [HP.out]⟩
              case measure => simp [intOf]; omega
            · obtain rfl : j = 9 := by omega
              go_wp2
              go_ret
              exact ⟨fun _ => ⟨rfl, rfl⟩, fun h => absurd ⟨h1, h9⟩ h⟩
        · rcases (show k < 1 ∨ 9 < k by omega) with h0 | h0
          · have e1 : decide ((k : Int) < 1) = true := decide_eq_true (by omega)
            clear hin
            go_wp2
            go_ret
            exact ⟨fun h => by omega, fun _ => ⟨rfl, rfl⟩⟩
          · have e1 : decide ((k : Int) < 1) = false := decide_eq_false (by omega)
            clear hin
            go_wp2
            go_ret
            exact ⟨fun h => by omega, fun _ => ⟨rfl, rfl⟩⟩
end Go.Proofs.Ythbjkibclbgjoaa
