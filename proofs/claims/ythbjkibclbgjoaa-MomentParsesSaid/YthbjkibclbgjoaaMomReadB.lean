/- Times: the reader's steps, further. -/
import Derived.Test.YthbjkibclbgjoaaMomRead
namespace Go.Proofs.Ythbjkibclbgjoaa
open Go.RowKit

theorem Whole.drewN {W : World} {B : Nat} {t : TypeId} {cs : Array Value} (h : Whole W B t cs) (m : Nat) : Whole (W.drewN m) B t cs := h
/-- One of these bytes. -/
def Mom.has (o : ByteArray) (c : Int) : Prop := ∃ j, j < o.size ∧ Mom.bt o j = c

set_option maxHeartbeats 1000000 in
theorem one_yes {x o : ByteArray} {b : Bool} {B : Nat} (hx : x.size ≤ maxLen) (ho : o.size ≤ 100) (hs : 0 < x.size) (h : Mom.has o (Mom.bt x 0)) (W : World) (hW : Whole W B 57 #[.string x, .bool b]) :
    Calls Try.prog 61 #[.pointer (some ⟨B, 0, none⟩), .string o] W fun e W' =>
      e = .returned (.int .u8 (Mom.bt x 0)) ∧ ∃ m, W' = (W.drewN m).setCell ⟨B, 0, none⟩ (.string (x.extract 1 x.size)) := by
  obtain ⟨j, hj, he⟩ := h
  rw [Mom.bt_in hj, Mom.bt_in hs] at he
  have HB := Lib.hid (Mom.bt_in hs)
  rw [HB.out]
  have hsome : x.toList.isEmpty = false := by
    rw [Lib.toList_data]
    cases hh : x.data.toList with
    | nil => have : x.size = 0 := by rw [← ByteArray.size_data, ← Array.length_toList, hh]; rfl
             omega
    | cons _ _ => rfl
  have c0 := hW.c0
  have c1 := hW.c1
  have fz := hW.frozen
  unfold maxLen at hx
  have he' := Lib.hid he; clear he HB
  go_enter Try.func61, Try.ntmps61
  go_wp2_with fail
  go_loopw [5, 13] (fun _ i wr => ∃ k m : Nat, k ≤ j ∧ i = .int .i64 k ∧ wr = W.drewN m) (fun _ i _ => o.size - (intOf i).toNat)
  case atStart => exact ⟨0, 0, by omega, rfl, rfl⟩
  case round =>
    obtain ⟨k, m, hk, rfl, rfl⟩ := hrel
    have hko : k < o.size := by omega
    have hk1 : (0 : Int) ≤ k := by omega
    have hk2 : (k : Int) < o.size := by omega
    have hs1 : (0 : Int) < x.size := by omega
    by_cases hf : ((x[0].toNat : Int) == (o[k].toNat : Int)) = true
    · have HF : Hid ((o[k].toNat : Int) = x[0].toNat) := Lib.hid (beq_iff_eq.1 hf).symm
      go_wp2_with fail
      go_quiet (fail)
      go_wp2
      go_ret
      exact ⟨ret_int HF.out, _, rfl⟩
    · have hkj : k ≠ j := by
        rintro rfl
        exact hf (by rw [he'.out]; simp)
      have hf' : ((x[0].toNat : Int) == (o[k].toNat : Int)) = false := by simpa using hf
      clear hf
      go_wp2_with fail
      go_quiet (fail)
      go_wp2
      go_roundw
      case rel => exact ⟨k + 1, _, by omega, by go_num, rfl⟩
      case measure => simp [intOf]; omega

theorem one_no {x o : ByteArray} {b : Bool} {B : Nat} (hx : x.size ≤ maxLen) (ho : o.size ≤ 100) (h : ¬ Mom.has o (Mom.bt x 0)) (W : World) (hW : Whole W B 57 #[.string x, .bool b]) :
    Calls Try.prog 61 #[.pointer (some ⟨B, 0, none⟩), .string o] W fun e W' =>
      e = .returned (.int .u8 0) ∧ ∃ m, W' = (W.drewN m).setCell ⟨B, 1, none⟩ (.bool true) := by
  have c0 := hW.c0
  have c1 := hW.c1
  have fz := hW.frozen
  unfold maxLen at hx
  by_cases hs : 0 < x.size
  · have hsome : x.toList.isEmpty = false := by
      rw [Lib.toList_data]
      cases hh : x.data.toList with
      | nil => have : x.size = 0 := by rw [← ByteArray.size_data, ← Array.length_toList, hh]; rfl
               omega
      | cons _ _ => rfl
    rw [Mom.bt_in hs] at h
    have H := Lib.hid h; clear h
    go_enter Try.func61, Try.ntmps61
    go_wp2_with fail
    go_loopw [5, 13] (fun _ i wr => ∃ k m : Nat, k ≤ o.size ∧ i = .int .i64 k ∧ wr = W.drewN m) (fun _ i _ => o.size - (intOf i).toNat)
    case atStart => exact ⟨0, 0, by omega, rfl, rfl⟩
    case round =>
      obtain ⟨k, m, hk, rfl, rfl⟩ := hrel
      have hk1 : (0 : Int) ≤ k := by omega
      have hs1 : (0 : Int) < x.size := by omega
      by_cases hko : k < o.size
      · have hk2 : (k : Int) < o.size := by omega
        have hf' : ((x[0].toNat : Int) == (o[k].toNat : Int)) = false := beq_eq_false_iff_ne.2 (fun e => H.out ⟨k, hko, by rw [Mom.bt_in hko, e]⟩)
        go_wp2_with fail
        go_quiet (fail)
        go_wp2
        go_roundw
        case rel => exact ⟨k + 1, _, by omega, by go_num, rfl⟩
        case measure => simp [intOf]; omega
      · obtain rfl : k = o.size := by omega
        go_wp2_with fail
        go_ret
        exact ⟨rfl, _, rfl⟩
  · have hnone : x.toList.isEmpty = true := by
      rw [Lib.toList_data]
      cases hh : x.data.toList with
      | nil => rfl
      | cons _ _ => have : x.size ≠ 0 := by rw [← ByteArray.size_data, ← Array.length_toList, hh]; simp
                    omega
    clear h
    go_enter Try.func61, Try.ntmps61
    go_wp2_with fail
    go_ret
    exact ⟨rfl, 0, rfl⟩
end Go.Proofs.Ythbjkibclbgjoaa
