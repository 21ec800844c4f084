/- Times: the reader's steps. -/
import Derived.Test.YthbjkibclbgjoaaMomTextB
namespace Go.Proofs.Ythbjkibclbgjoaa
open Go.RowKit

namespace Mom
/-- The byte at a place, or -1. -/
def bt (x : ByteArray) (i : Nat) : Int := if h : i < x.size then (x[i].toNat : Int) else -1
theorem bt_in {x : ByteArray} {i : Nat} (h : i < x.size) : bt x i = (x[i].toNat : Int) := dif_pos h
theorem bt_out {x : ByteArray} {i : Nat} (h : ¬ i < x.size) : bt x i = -1 := dif_neg h
theorem bt_bd (x : ByteArray) (i : Nat) : -1 ≤ bt x i ∧ bt x i < 256 := by
  unfold bt
  split
  · have := (x[i]).toNat_lt; omega
  · omega
def isd (x : ByteArray) (i : Nat) : Prop := 48 ≤ bt x i ∧ bt x i ≤ 57
instance (x : ByteArray) (i : Nat) : Decidable (isd x i) := by unfold isd; infer_instance
theorem isd_lt {x : ByteArray} {i : Nat} (h : isd x i) : i < x.size := by
  rcases Nat.lt_or_ge i x.size with k | k
  · exact k
  · have := bt_out (x := x) (i := i) (by omega); unfold isd at h; omega
def alld (x : ByteArray) (w : Nat) : Prop := ∀ j, j < w → isd x j
instance (x : ByteArray) (w : Nat) : Decidable (alld x w) := by unfold alld; infer_instance
def nv (x : ByteArray) : Nat → Int
  | 0 => 0
  | w + 1 => 10 * nv x w + (bt x w - 48)
theorem nv_bd {x : ByteArray} : ∀ {w : Nat}, alld x w → 0 ≤ nv x w ∧ nv x w < 10 ^ w := by
  intro w
  induction w with
  | zero => intro _; exact ⟨Int.le_refl _, Int.zero_lt_one⟩
  | succ w ih =>
    intro h
    have h1 := ih (fun j hj => h j (by omega))
    have h2 := h w (by omega)
    have e : (10 : Int) ^ (w + 1) = 10 * 10 ^ w := by rw [Int.pow_succ, Int.mul_comm]
    unfold nv
    unfold isd at h2
    rw [e]
    omega
theorem nv_nine {x : ByteArray} {w : Nat} (hw : w ≤ 9) (h : alld x w) : 0 ≤ nv x w ∧ nv x w ≤ 999999999 := by
  have h1 := nv_bd h
  have h2 : (10 : Nat) ^ w ≤ 10 ^ 9 := Nat.pow_le_pow_right (by decide) hw
  have h3 : ((10 ^ w : Nat) : Int) = 10 ^ w := by simp
  omega
end Mom

/-! ### number -/
set_option maxHeartbeats 1000000 in
theorem number_ok {x : ByteArray} {b : Bool} {wd B : Nat} (hx : x.size ≤ maxLen) (hw : wd ≤ 9) (h : Mom.alld x wd) (W : World) (hW : Whole W B 57 #[.string x, .bool b]) :
    Calls Try.prog 69 #[.pointer (some ⟨B, 0, none⟩), .int .i64 wd] W fun e W' =>
      e = .returned (.int .i64 (Mom.nv x wd)) ∧ W' = W.setCell ⟨B, 0, none⟩ (.string (x.extract wd x.size)) := by
  have hle : wd ≤ x.size := by
    rcases Nat.eq_zero_or_pos wd with h0 | h0
    · omega
    · have := Mom.isd_lt (h (wd - 1) (by omega)); omega
  have c0 := hW.c0
  have c1 := hW.c1
  have fz := hW.frozen
  have H := Lib.hid h; clear h
  unfold maxLen at hx
  go_enter Try.func69, Try.ntmps69
  go_wp2
  go_loop [5, 6, 18] (fun n _ i => ∃ k : Nat, k ≤ wd ∧ i = .int .i64 k ∧ n = .int .i64 (Mom.nv x k)) (fun _ _ i => wd - (intOf i).toNat)
  case atStart => exact ⟨0, by omega, rfl, rfl⟩
  case round =>
    obtain ⟨k, hk, rfl, rfl⟩ := hrel
    have hnb := Mom.nv_nine (x := x) (by omega : k ≤ 9) (fun j hj => H.out j (by omega))
    by_cases hlt : k < wd
    · have hks : k < x.size := by omega
      have hd := H.out k hlt
      unfold Mom.isd at hd
      rw [Mom.bt_in hks] at hd
      have d1 : 48 ≤ x[k].toNat := by omega
      have d2 : x[k].toNat ≤ 57 := by omega
      have HN : Hid (Mom.nv x (k + 1) = 10 * Mom.nv x k + ((x[k].toNat : Int) - 48)) := Lib.hid (by rw [← Mom.bt_in hks]; rfl)
      clear hd
      generalize Mom.nv x k = nk at *
      go_wp2
      go_round
      case rel => exact ⟨_, _, _, _, ⟨k + 1, by omega, by go_num, by rw [HN.out]⟩, rfl, rfl, rfl, rfl⟩
      case measure => simp [intOf]; omega
    · obtain rfl : k = wd := by omega
      go_wp2
      go_ret
      exact ⟨rfl, rfl⟩

theorem first_bad {x : ByteArray} {wd : Nat} (h : ¬ Mom.alld x wd) : ∃ k, k < wd ∧ Mom.alld x k ∧ ¬ Mom.isd x k := by
  induction wd with
  | zero => exact absurd (fun j hj => by omega) h
  | succ n ih =>
    by_cases hn : Mom.alld x n
    · refine ⟨n, by omega, hn, fun hd => h fun j hj => ?_⟩
      rcases Nat.lt_or_ge j n with k | k
      · exact hn j k
      · obtain rfl : j = n := by omega
        exact hd
    · obtain ⟨k, k1, k2, k3⟩ := ih hn
      exact ⟨k, by omega, k2, k3⟩
set_option maxHeartbeats 1000000 in
theorem number_bad {x : ByteArray} {b : Bool} {wd B : Nat} (hx : x.size ≤ maxLen) (hw : wd ≤ 9) (h : ¬ Mom.alld x wd) (W : World) (hW : Whole W B 57 #[.string x, .bool b]) :
    Calls Try.prog 69 #[.pointer (some ⟨B, 0, none⟩), .int .i64 wd] W fun e W' =>
      e = .returned (.int .i64 0) ∧ W' = W.setCell ⟨B, 1, none⟩ (.bool true) := by
  obtain ⟨m, m1, m2, m3⟩ := first_bad h
  have c0 := hW.c0
  have c1 := hW.c1
  have fz := hW.frozen
  have H := Lib.hid m2; clear m2
  clear h
  unfold maxLen at hx
  by_cases hs : x.size < wd
  · clear m3 H m1
    go_enter Try.func69, Try.ntmps69
    go_wp2
    go_ret
    exact ⟨rfl, rfl⟩
  have hms : m < x.size := by omega
  have hbad : x[m].toNat < 48 ∨ 57 < x[m].toNat := by unfold Mom.isd at m3; rw [Mom.bt_in hms] at m3; omega
  clear m3
  go_enter Try.func69, Try.ntmps69
  go_wp2
  go_loop [5, 6, 18] (fun n _ i => ∃ k : Nat, k ≤ m ∧ i = .int .i64 k ∧ n = .int .i64 (Mom.nv x k)) (fun _ _ i => wd - (intOf i).toNat)
  case atStart => exact ⟨0, by omega, rfl, rfl⟩
  case round =>
    obtain ⟨k, hk, rfl, rfl⟩ := hrel
    have hnb := Mom.nv_nine (x := x) (by omega : k ≤ 9) (fun j hj => H.out j (by omega))
    have hlt : k < wd := by omega
    have hks : k < x.size := by omega
    by_cases hkm : k < m
    · have hd := H.out k hkm
      unfold Mom.isd at hd
      rw [Mom.bt_in hks] at hd
      have d1 : 48 ≤ x[k].toNat := by omega
      have d2 : x[k].toNat ≤ 57 := by omega
      have HN : Hid (Mom.nv x (k + 1) = 10 * Mom.nv x k + ((x[k].toNat : Int) - 48)) := Lib.hid (by rw [← Mom.bt_in hks]; rfl)
      clear hd hbad
      generalize Mom.nv x k = nk at *
      go_wp2
      go_round
      case rel => exact ⟨k + 1, by omega, by go_num, by rw [HN.out]⟩
      case measure => simp [intOf]; omega
    · obtain rfl : k = m := by omega
      rcases hbad with hbad | hbad
      · have d1 : decide ((x[k].toNat : Int) < 48) = true := decide_eq_true (by omega)
        go_wp2
        go_ret
        exact ⟨rfl, rfl⟩
      · have d1 : decide ((x[k].toNat : Int) < 48) = false := decide_eq_false (by omega)
        have d2 : decide (57 < (x[k].toNat : Int)) = true := decide_eq_true (by omega)
        go_wp2
        go_ret
        exact ⟨rfl, rfl⟩
end Go.Proofs.Ythbjkibclbgjoaa
