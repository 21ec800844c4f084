/- Numerals: sums and differences in memory (printed by gen_dig3.py). -/
import Derived.Test.YtcnfgcdbjofihaaDoorDigText
namespace Go.Proofs.YtcnfgcdbjofihaaDoor
open Go.RowKit

namespace Dig
/-- The digits of a number, as far as they are laid. -/
def part (v k j : Nat) : Value := .int .i64 (if j < k then (dg v j : Int) else 0)
theorem part_all (v n : Nat) : fcells n (part v n) = fcells n (fun j => .int .i64 (dg v j)) := fcells_congr (fun j hj => by unfold part; rw [if_pos hj])
theorem part_zero (v n : Nat) : fcells n (part v 0) = fcells n (fun _ => .int .i64 0) := fcells_congr (fun j _ => by unfold part; rw [if_neg (by omega)])
theorem sum_lt {a b m : Nat} (ha : a < big m) (hb : b < big m) : a + b < big (m + 1) := by unfold big at *; rw [Nat.pow_succ]; omega
end Dig
theorem part_put {W : World} {D v k n : Nat} {u : Int} (h : Whole W D 3 (fcells n (Dig.part v k))) (hu : (Dig.dg v k : Int) = u) : Whole (W.setCell ⟨D, k, none⟩ (.int .i64 u)) D 3 (fcells n (Dig.part v (k + 1))) := by
  refine h.fset ?_ ?_
  · unfold Dig.part; rw [if_pos (by omega), hu]
  · intro j _ hj
    unfold Dig.part
    by_cases g : j < k
    · rw [if_pos g, if_pos (by omega)]
    · rw [if_neg g, if_neg (by omega)]
theorem int_of {a b : Int} (h : a = b) : Value.int .i64 a = .int .i64 b := by rw [h]


set_option maxHeartbeats 2000000 in
theorem rsum_b {a b : ByteArray} (ha : Dig.Str a) (hb : Dig.Str b) (hab : a.size < b.size) (w : World) :
    Calls Tryd.prog 74 #[.string a, .string b] w fun e w' => e = .returned (.string (Dig.st (Dig.V a + Dig.V b))) ∧ Below w.heap.size w w' := by
  have HA : Hid (∀ i : Nat, i ≤ 4000000 → ∀ w, Calls Tryd.prog 103 #[.string a, .int .i64 i] w fun e w' => e = .returned (.int .i64 (Dig.dg (Dig.V a) i)) ∧ w = w') := Lib.hid (fun i hi w => rat_any ha i hi w)
  have HB : Hid (∀ i : Nat, i ≤ 4000000 → ∀ w, Calls Tryd.prog 103 #[.string b, .int .i64 i] w fun e w' => e = .returned (.int .i64 (Dig.dg (Dig.V b) i)) ∧ w = w') := Lib.hid (fun i hi w => rat_any hb i hi w)
  have za := ha.size
  have zb := hb.size
  have hv : Dig.V a + Dig.V b < Dig.big (b.size + 1) := Dig.sum_lt (Nat.lt_of_lt_of_le (Dig.V_lt ha) (Dig.big_le (by omega))) (Nat.lt_of_lt_of_le (Dig.V_lt hb) (Dig.big_le (by omega)))
  generalize Dig.V a = A at *
  generalize Dig.V b = B at *
  clear ha hb
  have hmk := make_ints (n := b.size + 1) (by omega) w
  rw [show ((b.size + 1 : Nat) : Int) = (b.size : Int) + 1 from rfl] at hmk
  have hw1 := Whole.new w 3 (fcells (b.size + 1) (fun _ => .int .i64 0))
  have hb1 := (Below.refl w.heap.size w).alloc (Nat.le_refl _) (.cells (fcells (b.size + 1) (fun _ => .int .i64 0)) 3)
  have d1 : decide ((a.size : Int) < b.size) = true := decide_eq_true (by omega)
  have hn0 : (0 : Int) ≤ b.size := by omega
  go_enter Tryd.func74, Tryd.ntmps74
  go_wp2_with fail
  clear d1
  go_loopw [7, 8] (fun c i wr => ∃ k : Nat, k ≤ b.size + 1 ∧ i = .int .i64 k ∧ c = .int .i64 (Dig.carry A B k) ∧ Whole wr w.heap.size 3 (fcells (b.size + 1) (Dig.part (A + B) k)) ∧ Below w.heap.size w wr) (fun _ i _ => b.size + 1 - (intOf i).toNat)
  case atStart => exact ⟨0, Nat.zero_le _, rfl, by rw [Dig.carry_zero]; rfl, by rw [Dig.part_zero]; exact hw1, hb1⟩
  case round =>
    clear hmk hw1 hb1
    obtain ⟨k, hk, rfl, rfl, hwr, hbr⟩ := hrel
    have hk0 : (0 : Int) ≤ k := by omega
    by_cases hkn : k < b.size + 1
    · have hkn1 : (k : Int) ≤ b.size := by omega
      have hkn2 : (k : Int) < (b.size : Int) + 1 := by omega
      have c1 := hwr.fcell hkn
      have cf := hwr.frozen k
      have HP := Lib.hid (fun u hu => part_put (u := u) hwr hu)
      have HC := Lib.hid (Dig.carry_succ A B k)
      have HD := Lib.hid (Dig.sum_dg A B k)
      have b1 := Dig.carry_le A B k
      have b2 := Dig.dg_lt A k
      have b3 := Dig.dg_lt B k
      have H1 := Lib.hid (HA.out k (by omega))
      have H2 := Lib.hid (HB.out k (by omega))
      generalize Dig.dg A k = d at *
      generalize Dig.dg B k = e at *
      generalize Dig.carry A B k = c at *
      clear hwr
      go_wp2_with fail
      refine (H1.out _).mono ?_; rintro _ w' ⟨rfl, rfl⟩
      go_wp2_with fail
      refine (H2.out _).mono ?_; rintro _ w' ⟨rfl, rfl⟩
      go_wp2
      go_roundw
      case rel => exact ⟨k + 1, by omega, by go_num, int_of (by rw [← HC.out]; omega), HP.out _ (by rw [← HD.out]; omega), hbr.setCell (Nat.le_refl _) _⟩
      case measure => simp [intOf]; omega
    · obtain rfl : k = b.size + 1 := by omega
      rw [Dig.part_all] at hwr
      have HT := Lib.hid (rtext_any hv (by omega) wr hwr)
      have d2 : decide (((b.size + 1 : Nat) : Int) ≤ b.size) = false := decide_eq_false (by omega)
      clear hwr hv
      go_wp2_with fail
      refine HT.out.mono ?_; rintro _ w' ⟨rfl, hb2⟩
      go_wp2
      go_ret
      exact ⟨rfl, below_then hbr hb2⟩


set_option maxHeartbeats 2000000 in
theorem rsum_a {a b : ByteArray} (ha : Dig.Str a) (hb : Dig.Str b) (hab : ¬ a.size < b.size) (w : World) :
    Calls Tryd.prog 74 #[.string a, .string b] w fun e w' => e = .returned (.string (Dig.st (Dig.V a + Dig.V b))) ∧ Below w.heap.size w w' := by
  have HA : Hid (∀ i : Nat, i ≤ 4000000 → ∀ w, Calls Tryd.prog 103 #[.string a, .int .i64 i] w fun e w' => e = .returned (.int .i64 (Dig.dg (Dig.V a) i)) ∧ w = w') := Lib.hid (fun i hi w => rat_any ha i hi w)
  have HB : Hid (∀ i : Nat, i ≤ 4000000 → ∀ w, Calls Tryd.prog 103 #[.string b, .int .i64 i] w fun e w' => e = .returned (.int .i64 (Dig.dg (Dig.V b) i)) ∧ w = w') := Lib.hid (fun i hi w => rat_any hb i hi w)
  have za := ha.size
  have zb := hb.size
  have hv : Dig.V a + Dig.V b < Dig.big (a.size + 1) := Dig.sum_lt (Nat.lt_of_lt_of_le (Dig.V_lt ha) (Dig.big_le (by omega))) (Nat.lt_of_lt_of_le (Dig.V_lt hb) (Dig.big_le (by omega)))
  generalize Dig.V a = A at *
  generalize Dig.V b = B at *
  clear ha hb
  have hmk := make_ints (n := a.size + 1) (by omega) w
  rw [show ((a.size + 1 : Nat) : Int) = (a.size : Int) + 1 from rfl] at hmk
  have hw1 := Whole.new w 3 (fcells (a.size + 1) (fun _ => .int .i64 0))
  have hb1 := (Below.refl w.heap.size w).alloc (Nat.le_refl _) (.cells (fcells (a.size + 1) (fun _ => .int .i64 0)) 3)
  have d1 : decide ((a.size : Int) < b.size) = false := decide_eq_false (by omega)
  have hn0 : (0 : Int) ≤ a.size := by omega
  go_enter Tryd.func74, Tryd.ntmps74
  go_wp2_with fail
  clear d1
  go_loopw [7, 8] (fun c i wr => ∃ k : Nat, k ≤ a.size + 1 ∧ i = .int .i64 k ∧ c = .int .i64 (Dig.carry A B k) ∧ Whole wr w.heap.size 3 (fcells (a.size + 1) (Dig.part (A + B) k)) ∧ Below w.heap.size w wr) (fun _ i _ => a.size + 1 - (intOf i).toNat)
  case atStart => exact ⟨0, Nat.zero_le _, rfl, by rw [Dig.carry_zero]; rfl, by rw [Dig.part_zero]; exact hw1, hb1⟩
  case round =>
    clear hmk hw1 hb1
    obtain ⟨k, hk, rfl, rfl, hwr, hbr⟩ := hrel
    have hk0 : (0 : Int) ≤ k := by omega
    by_cases hkn : k < a.size + 1
    · have hkn1 : (k : Int) ≤ a.size := by omega
      have hkn2 : (k : Int) < (a.size : Int) + 1 := by omega
      have c1 := hwr.fcell hkn
      have cf := hwr.frozen k
      have HP := Lib.hid (fun u hu => part_put (u := u) hwr hu)
      have HC := Lib.hid (Dig.carry_succ A B k)
      have HD := Lib.hid (Dig.sum_dg A B k)
      have b1 := Dig.carry_le A B k
      have b2 := Dig.dg_lt A k
      have b3 := Dig.dg_lt B k
      have H1 := Lib.hid (HA.out k (by omega))
      have H2 := Lib.hid (HB.out k (by omega))
      generalize Dig.dg A k = d at *
      generalize Dig.dg B k = e at *
      generalize Dig.carry A B k = c at *
      clear hwr
      go_wp2_with fail
      refine (H1.out _).mono ?_; rintro _ w' ⟨rfl, rfl⟩
      go_wp2_with fail
      refine (H2.out _).mono ?_; rintro _ w' ⟨rfl, rfl⟩
      go_wp2
      go_roundw
      case rel => exact ⟨k + 1, by omega, by go_num, int_of (by rw [← HC.out]; omega), HP.out _ (by rw [← HD.out]; omega), hbr.setCell (Nat.le_refl _) _⟩
      case measure => simp [intOf]; omega
    · obtain rfl : k = a.size + 1 := by omega
      rw [Dig.part_all] at hwr
      have HT := Lib.hid (rtext_any hv (by omega) wr hwr)
      have d2 : decide (((a.size + 1 : Nat) : Int) ≤ a.size) = false := decide_eq_false (by omega)
      clear hwr hv
      go_wp2_with fail
      refine HT.out.mono ?_; rintro _ w' ⟨rfl, hb2⟩
      go_wp2
      go_ret
      exact ⟨rfl, below_then hbr hb2⟩


theorem rsum_any {a b : ByteArray} (ha : Dig.Str a) (hb : Dig.Str b) (w : World) :
    Calls Tryd.prog 74 #[.string a, .string b] w fun e w' => e = .returned (.string (Dig.st (Dig.V a + Dig.V b))) ∧ Below w.heap.size w w' := by
  by_cases h : a.size < b.size
  · exact rsum_b ha hb h w
  · exact rsum_a ha hb h w


set_option maxHeartbeats 2000000 in
theorem rless_any {a b : ByteArray} (ha : Dig.Str a) (hb : Dig.Str b) (hab : Dig.V b ≤ Dig.V a) (w : World) :
    Calls Tryd.prog 76 #[.string a, .string b] w fun e w' => e = .returned (.string (Dig.st (Dig.V a - Dig.V b))) ∧ Below w.heap.size w w' := by
  have HA : Hid (∀ i : Nat, i ≤ 4000000 → ∀ w, Calls Tryd.prog 103 #[.string a, .int .i64 i] w fun e w' => e = .returned (.int .i64 (Dig.dg (Dig.V a) i)) ∧ w = w') := Lib.hid (fun i hi w => rat_any ha i hi w)
  have HB : Hid (∀ i : Nat, i ≤ 4000000 → ∀ w, Calls Tryd.prog 103 #[.string b, .int .i64 i] w fun e w' => e = .returned (.int .i64 (Dig.dg (Dig.V b) i)) ∧ w = w') := Lib.hid (fun i hi w => rat_any hb i hi w)
  have za := ha.size
  have hv : Dig.V a - Dig.V b < Dig.big a.size := Nat.lt_of_le_of_lt (Nat.sub_le _ _) (Dig.V_lt ha)
  have HAB := Lib.hid hab
  clear hab
  generalize Dig.V a = A at *
  generalize Dig.V b = B at *
  clear ha hb
  obtain ⟨n, hn⟩ : ∃ n, a.size = n := ⟨_, rfl⟩
  have HN := Lib.hid hn
  rw [hn] at hv za
  have hmk := make_ints (n := a.size) (by omega) w
  have hw1 := Whole.new w 3 (fcells a.size (fun _ => .int .i64 0))
  have hb1 := (Below.refl w.heap.size w).alloc (Nat.le_refl _) (.cells (fcells a.size (fun _ => .int .i64 0)) 3)
  have hn0 : (0 : Int) ≤ a.size := by omega
  have zb : a.size ≤ 1000000 := by omega
  clear hn
  go_enter Tryd.func76, Tryd.ntmps76
  go_wp2_with fail
  go_loopw [6, 7] (fun c i wr => ∃ k : Nat, k ≤ a.size ∧ i = .int .i64 k ∧ c = .int .i64 (Dig.borrow A B k) ∧ Whole wr w.heap.size 3 (fcells a.size (Dig.part (A - B) k)) ∧ Below w.heap.size w wr) (fun _ i _ => a.size - (intOf i).toNat)
  case atStart => exact ⟨0, Nat.zero_le _, rfl, by rw [Dig.borrow_zero]; rfl, by rw [Dig.part_zero]; exact hw1, hb1⟩
  case round =>
    clear hmk hw1 hb1
    obtain ⟨k, hk, rfl, rfl, hwr, hbr⟩ := hrel
    have hk0 : (0 : Int) ≤ k := by omega
    by_cases hkn : k < a.size
    · have hkn2 : (k : Int) < a.size := by omega
      have c1 := hwr.fcell hkn
      have cf := hwr.frozen k
      have HP := Lib.hid (fun u hu => part_put (u := u) hwr hu)
      have HC := Lib.hid (Dig.borrow_succ A B k)
      have HD := Lib.hid (Dig.sub_dg HAB.out k)
      have b1 := Dig.borrow_le A B k
      have b2 := Dig.dg_lt A k
      have b3 := Dig.dg_lt B k
      have H1 := Lib.hid (HA.out k (by omega))
      have H2 := Lib.hid (HB.out k (by omega))
      generalize Dig.dg A k = d at *
      generalize Dig.dg B k = e at *
      generalize Dig.borrow A B k = c at *
      clear hwr
      go_wp2_with fail
      refine (H1.out _).mono ?_; rintro _ w' ⟨rfl, rfl⟩
      go_wp2_with fail
      refine (H2.out _).mono ?_; rintro _ w' ⟨rfl, rfl⟩
      go_wp2
      go_roundw
      case rel => exact ⟨k + 1, by omega, by go_num, int_of (by rw [HC.out]; split <;> omega), HP.out _ (by rw [← HD.out]; omega), hbr.setCell (Nat.le_refl _) _⟩
      case measure => simp [intOf]; omega
    · obtain rfl : k = a.size := by omega
      rw [Dig.part_all] at hwr
      have HT := Lib.hid (rtext_any (by rw [HN.out]; exact hv) (by omega) wr hwr)
      clear hwr hv
      go_wp2_with fail
      refine HT.out.mono ?_; rintro _ w' ⟨rfl, hb2⟩
      go_wp2
      go_ret
      exact ⟨rfl, below_then hbr hb2⟩

end Go.Proofs.YtcnfgcdbjofihaaDoor
