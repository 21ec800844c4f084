/- Numerals: sums and differences in memory: the program (printed by gen_dig3.py). -/
import Derived.Test.YtgmhhfljhjlplaaDoorDigSum
namespace Go.Proofs.YtgmhhfljhjlplaaDoor
open Go.RowKit

set_option maxHeartbeats 2000000 in
theorem add_any {a b : ByteArray} (ha : Dig.vld a) (hb : Dig.vld b) (w : World) :
    Calls Tryd.prog 16 #[.string a, .string b] w fun e w' => e = .returned (.tuple #[.string (Dig.lim (Dig.V a + Dig.V b)).1, .int .i64 (Dig.lim (Dig.V a + Dig.V b)).2]) ∧ Below w.heap.size w w' := by
  have sa := Dig.vld_str ha
  have sb := Dig.vld_str hb
  have HA : Hid (∀ i : Nat, i ≤ 4000000 → ∀ w, Calls Tryd.prog 34 #[.string a, .int .i64 i] w fun e w' => e = .returned (.int .i64 (Dig.dg (Dig.V a) i)) ∧ w = w') := Lib.hid (fun i hi w => digit_any sa i hi w)
  have HB : Hid (∀ i : Nat, i ≤ 4000000 → ∀ w, Calls Tryd.prog 34 #[.string b, .int .i64 i] w fun e w' => e = .returned (.int .i64 (Dig.dg (Dig.V b) i)) ∧ w = w') := Lib.hid (fun i hi w => digit_any sb i hi w)
  have VA := Lib.hid (valid_any sa.max)
  have VB := Lib.hid (valid_any sb.max)
  rw [decide_eq_true ha] at VA
  rw [decide_eq_true hb] at VB
  have za := ha.1
  have zb := hb.1
  obtain ⟨n, hn, hna, hnb, hn6⟩ : ∃ n : Nat, max (a.size : Int) b.size + 1 = n ∧ a.size + 1 ≤ n ∧ b.size + 1 ≤ n ∧ n ≤ 601 := by
    rcases Nat.le_total a.size b.size with g | g
    · exact ⟨b.size + 1, by omega, by omega, by omega, by omega⟩
    · exact ⟨a.size + 1, by omega, by omega, by omega, by omega⟩
  have hv : Dig.V a + Dig.V b < Dig.big n := by
    obtain ⟨m, rfl⟩ : ∃ m, n = m + 1 := ⟨n - 1, by omega⟩
    exact Dig.sum_lt (Nat.lt_of_lt_of_le (Dig.V_lt sa) (Dig.big_le (by omega))) (Nat.lt_of_lt_of_le (Dig.V_lt sb) (Dig.big_le (by omega)))
  have HL := Lib.hid (limited_any (Dig.V a + Dig.V b))
  generalize Dig.lim (Dig.V a + Dig.V b) = R at *
  obtain ⟨r1, r2⟩ := R
  dsimp only at HL ⊢
  generalize Dig.V a = A at *
  generalize Dig.V b = B at *
  clear ha hb sa sb hna hnb
  have hmk := make_ints (n := n) (by omega) w
  have hw1 := Whole.new w 3 (fcells n (fun _ => .int .i64 0))
  have hb1 := (Below.refl w.heap.size w).alloc (Nat.le_refl _) (.cells (fcells n (fun _ => .int .i64 0)) 3)
  have hn0 : (0 : Int) ≤ n := by omega
  go_enter Tryd.func16, Tryd.ntmps16
  go_wp2_with fail
  refine (VA.out _).mono ?_; rintro _ w' ⟨rfl, rfl⟩
  go_wp2_with fail
  refine (VB.out _).mono ?_; rintro _ w' ⟨rfl, rfl⟩
  go_wp2_with fail
  clear hn VA VB

  go_loopw [8, 27] (fun c i wr => ∃ k : Nat, k ≤ n ∧ i = .int .i64 k ∧ c = .int .i64 (Dig.carry A B k) ∧ Whole wr w.heap.size 3 (fcells n (Dig.part (A + B) k)) ∧ Below w.heap.size w wr) (fun _ i _ => n - (intOf i).toNat)
  case atStart => exact ⟨0, Nat.zero_le _, rfl, by rw [Dig.carry_zero]; rfl, by rw [Dig.part_zero]; exact hw1, hb1⟩
  case round =>
    clear hmk hw1 hb1
    obtain ⟨k, hk, rfl, rfl, hwr, hbr⟩ := hrel
    have hk0 : (0 : Int) ≤ k := by omega
    by_cases hkn : k < n
    · have hkn2 : (k : Int) < n := by omega
      have c1 := hwr.fcell hkn
      have cf := hwr.frozen k
      have HP := Lib.hid (fun u hu => part_put (u := u) hwr hu)
      have HC := Lib.hid (Dig.carry_succ A B k)
      have HD := Lib.hid (Dig.sum_dg A B k)
      have b1 := Dig.carry_le A B k
      have b2 := Dig.dg_lt A k
      have b3 := Dig.dg_lt B k
      have H1 := Lib.hid (HA.out k (by omega))
      have H2 := Lib.hid (HB.out k (by omega))
      generalize Dig.dg A k = d at *
      generalize Dig.dg B k = e at *
      generalize Dig.carry A B k = c at *
      clear hwr
      go_wp2_with fail
      refine (H1.out _).mono ?_; rintro _ w' ⟨rfl, rfl⟩
      go_wp2_with fail
      refine (H2.out _).mono ?_; rintro _ w' ⟨rfl, rfl⟩
      go_wp2
      go_roundw
      case rel => exact ⟨k + 1, by omega, by go_num, int_of (by rw [← HC.out]; omega), HP.out _ (by rw [← HD.out]; omega), hbr.setCell (Nat.le_refl _) _⟩
      case measure => simp [intOf]; omega
    · obtain rfl : k = n := by omega
      rw [Dig.part_all] at hwr
      have HT := Lib.hid (text_any hv (by omega) wr hwr)
      clear hwr hv
      go_wp2_with fail
      refine HT.out.mono ?_; rintro _ w' ⟨rfl, hb2⟩
      go_wp2_with fail
      refine (HL.out _).mono ?_; rintro _ w'' ⟨rfl, rfl⟩
      go_wp2
      go_ret2
      exact ⟨rfl, below_then hbr hb2⟩


set_option maxHeartbeats 2000000 in
theorem minus_any {a b : ByteArray} (ha : Dig.Str a) (hb : Dig.Str b) (hab : Dig.V b ≤ Dig.V a) (w : World) :
    Calls Tryd.prog 40 #[.string a, .string b] w fun e w' => e = .returned (.string (Dig.st (Dig.V a - Dig.V b))) ∧ Below w.heap.size w w' := by
  have HA : Hid (∀ i : Nat, i ≤ 4000000 → ∀ w, Calls Tryd.prog 34 #[.string a, .int .i64 i] w fun e w' => e = .returned (.int .i64 (Dig.dg (Dig.V a) i)) ∧ w = w') := Lib.hid (fun i hi w => digit_any ha i hi w)
  have HB : Hid (∀ i : Nat, i ≤ 4000000 → ∀ w, Calls Tryd.prog 34 #[.string b, .int .i64 i] w fun e w' => e = .returned (.int .i64 (Dig.dg (Dig.V b) i)) ∧ w = w') := Lib.hid (fun i hi w => digit_any hb i hi w)
  have za := ha.size
  have hv : Dig.V a - Dig.V b < Dig.big a.size := Nat.lt_of_le_of_lt (Nat.sub_le _ _) (Dig.V_lt ha)
  have HAB := Lib.hid hab
  clear hab
  generalize Dig.V a = A at *
  generalize Dig.V b = B at *
  clear ha hb
  obtain ⟨n, hn⟩ : ∃ n, a.size = n := ⟨_, rfl⟩
  have HN := Lib.hid hn
  rw [hn] at hv za
  have hmk := make_ints (n := a.size) (by omega) w
  have hw1 := Whole.new w 3 (fcells a.size (fun _ => .int .i64 0))
  have hb1 := (Below.refl w.heap.size w).alloc (Nat.le_refl _) (.cells (fcells a.size (fun _ => .int .i64 0)) 3)
  have hn0 : (0 : Int) ≤ a.size := by omega
  have zb : a.size ≤ 1000000 := by omega
  clear hn
  go_enter Tryd.func40, Tryd.ntmps40
  go_wp2_with fail
  go_loopw [6, 14] (fun c i wr => ∃ k : Nat, k ≤ a.size ∧ i = .int .i64 k ∧ c = .int .i64 (Dig.borrow A B k) ∧ Whole wr w.heap.size 3 (fcells a.size (Dig.part (A - B) k)) ∧ Below w.heap.size w wr) (fun _ i _ => a.size - (intOf i).toNat)
  case atStart => exact ⟨0, Nat.zero_le _, rfl, by rw [Dig.borrow_zero]; rfl, by rw [Dig.part_zero]; exact hw1, hb1⟩
  case round =>
    clear hmk hw1 hb1
    obtain ⟨k, hk, rfl, rfl, hwr, hbr⟩ := hrel
    have hk0 : (0 : Int) ≤ k := by omega
    by_cases hkn : k < a.size
    · have hkn2 : (k : Int) < a.size := by omega
      have c1 := hwr.fcell hkn
      have cf := hwr.frozen k
      have HP := Lib.hid (fun u hu => part_put (u := u) hwr hu)
      have HC := Lib.hid (Dig.borrow_succ A B k)
      have HD := Lib.hid (Dig.sub_dg HAB.out k)
      have b1 := Dig.borrow_le A B k
      have b2 := Dig.dg_lt A k
      have b3 := Dig.dg_lt B k
      have H1 := Lib.hid (HA.out k (by omega))
      have H2 := Lib.hid (HB.out k (by omega))
      generalize Dig.dg A k = d at *
      generalize Dig.dg B k = e at *
      generalize Dig.borrow A B k = c at *
      clear hwr
      by_cases hlt : d < e + c
      · have t1 : decide ((d : Int) - e - c < 0) = true := decide_eq_true (by omega)
        go_wp2_with fail
        refine (H1.out _).mono ?_; rintro _ w' ⟨rfl, rfl⟩
        go_wp2_with fail
        refine (H2.out _).mono ?_; rintro _ w' ⟨rfl, rfl⟩
        go_wp2
        go_roundw
        case rel => exact ⟨k + 1, by omega, by go_num, int_of (by rw [HC.out]; rw [if_pos hlt]; rfl), HP.out _ (by rw [← HD.out]; omega), hbr.setCell (Nat.le_refl _) _⟩
        case measure => simp [intOf]; omega
      · have t1 : decide ((d : Int) - e - c < 0) = false := decide_eq_false (by omega)
        go_wp2_with fail
        refine (H1.out _).mono ?_; rintro _ w' ⟨rfl, rfl⟩
        go_wp2_with fail
        refine (H2.out _).mono ?_; rintro _ w' ⟨rfl, rfl⟩
        go_wp2
        go_roundw
        case rel => exact ⟨k + 1, by omega, by go_num, int_of (by rw [HC.out]; rw [if_neg hlt]; rfl), HP.out _ (by rw [← HD.out]; omega), hbr.setCell (Nat.le_refl _) _⟩
        case measure => simp [intOf]; omega
    · obtain rfl : k = a.size := by omega
      rw [Dig.part_all] at hwr
      have HT := Lib.hid (text_any (by rw [HN.out]; exact hv) (by omega) wr hwr)
      clear hwr hv
      go_wp2_with fail
      refine HT.out.mono ?_; rintro _ w' ⟨rfl, hb2⟩
      go_wp2
      go_ret
      exact ⟨rfl, below_then hbr hb2⟩

end Go.Proofs.YtgmhhfljhjlplaaDoor
