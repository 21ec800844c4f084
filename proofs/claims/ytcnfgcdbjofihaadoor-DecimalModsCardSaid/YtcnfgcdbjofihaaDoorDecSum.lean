/- Decimals: sums and differences of digits (printed by gen_decsum.py). -/
import Derived.Test.YtcnfgcdbjofihaaDoorDecMake
import Derived.Test.YtcnfgcdbjofihaaDoorDigCmp
import Derived.Test.YtcnfgcdbjofihaaDoorDigSum
namespace Go.Proofs.YtcnfgcdbjofihaaDoor
open Go.RowKit

set_option maxHeartbeats 1000000 in
theorem dat_any {x : ByteArray} (h : Dig.Str x) (i : Nat) (hi : i ≤ 4000000) (w : World) :
    Calls Tryd.prog 101 #[.string x, .int .i64 i] w fun e w' => e = .returned (.int .i64 (Dig.dg (Dig.V x) i)) ∧ w = w' := by
  have hs := h.size
  by_cases hlt : i < x.size
  · have e := Dig.str_dg h hlt
    have hl := Dig.dg_lt (Dig.V x) i
    have hi0 : (0 : Int) ≤ i := by omega
    obtain ⟨k, hk, hkx⟩ : ∃ k : Nat, k = x.size - 1 - i ∧ k < x.size := ⟨_, rfl, by omega⟩
    have ek : (x.size : Int) - 1 - i = k := by omega
    have e2 : x[k].toNat = 48 + Dig.dg (Dig.V x) i := by subst hk; exact e
    have hk1 : (k : Int) < x.size := by omega
    have hk0 : (0 : Int) ≤ k := by omega
    generalize Dig.dg (Dig.V x) i = d at *
    have d1 : decide ((x.size : Int) ≤ i) = false := decide_eq_false (by omega)
    have hb1 : 48 ≤ x[k].toNat := by omega
    have hb2 : x[k].toNat ≤ 57 := by omega
    have E := Lib.hid e2
    clear e e2 hk h
    go_enter Tryd.func101, Tryd.ntmps101
    go_wp2
    go_ret
    refine ⟨ret_int ?_, rfl⟩
    have := E.out
    omega
  · rw [Dig.str_dg0 h (by omega)]
    have d1 : decide ((x.size : Int) ≤ i) = true := decide_eq_true (by omega)
    clear h
    go_enter Tryd.func101, Tryd.ntmps101
    go_wp2
    go_ret
    exact ⟨rfl, rfl⟩
set_option maxHeartbeats 1000000 in
theorem dcmp_any {a b : Nat} (ha : Dig.Str (Dig.st a)) (hb : Dig.Str (Dig.st b)) (w : World) :
    Calls Tryd.prog 70 #[.string (Dig.st a), .string (Dig.st b)] w fun e w' => e = .returned (.int .i64 (Dig.cmp a b)) ∧ w = w' := by
  have HC := Lib.hid (Tryd.strings_Compare (Dig.st a) (Dig.st b))
  have za := ha.size
  have zb := hb.size
  clear ha hb
  by_cases h1 : (Dig.st a).size < (Dig.st b).size
  · rw [Dig.cmp_lt h1]
    generalize Dig.st a = x at *
    generalize Dig.st b = y at *
    have d1 : ((x.size : Int) != y.size) = true := by simp; omega
    have d2 : decide (x.size < y.size) = true := decide_eq_true (by omega)
    clear h1
    go_enter Tryd.func70, Tryd.ntmps70
    go_wp2
    go_ret
    exact ⟨rfl, rfl⟩
  by_cases h2 : (Dig.st b).size < (Dig.st a).size
  · rw [Dig.cmp_gt h2]
    generalize Dig.st a = x at *
    generalize Dig.st b = y at *
    have d1 : ((x.size : Int) != y.size) = true := by simp; omega
    have d2 : decide (x.size < y.size) = false := decide_eq_false (by omega)
    clear h1 h2
    go_enter Tryd.func70, Tryd.ntmps70
    go_wp2
    go_ret
    exact ⟨rfl, rfl⟩
  have e : (Dig.st a).size = (Dig.st b).size := by omega
  have HE := Lib.hid (Dig.cmp_num (a := a) (b := b) (by rw [← Dig.st_len, ← Dig.st_len]; exact e))
  rw [show (Dig.st a).data.toList = Dig.num a from Dig.l_st a, show (Dig.st b).data.toList = Dig.num b from Dig.l_st b, HE.out] at HC
  generalize Dig.cmp a b = R at *
  generalize Dig.st a = x at *
  generalize Dig.st b = y at *
  have d1 : ((x.size : Int) != y.size) = false := by simp; omega
  clear h1 h2 e HE
  go_enter Tryd.func70, Tryd.ntmps70
  go_wp2_with fail
  refine (HC.out _).mono ?_; rintro _ w' ⟨rfl, rfl⟩
  go_wp2
  go_ret
  exact ⟨rfl, rfl⟩

theorem tx_put {W : World} {D v k n m : Nat} {u : Int} (h : Whole W D 5 (fcells n (Dig.tx v n k))) (hm : m = n - 1 - k) (hmn : m < n) (hkn : k < n) (hu : 48 + (Dig.dg v k : Int) = u) : Whole (W.setCell ⟨D, m, none⟩ (.int .u8 u)) D 5 (fcells n (Dig.tx v n (k + 1))) := by
  refine h.fset ?_ ?_
  · unfold Dig.tx; rw [if_pos (by omega), show n - 1 - m = k by omega, hu]
  · intro j hjn hj
    unfold Dig.tx
    by_cases g : n - 1 - j < k
    · rw [if_pos g, if_pos (by omega)]
    · by_cases g2 : n - 1 - j < k + 1
      · exact absurd (show j = m by omega) hj
      · rw [if_neg g2, if_neg g]
theorem tx_zero (v n : Nat) : fcells n (Dig.tx v n 0) = fcells n (fun _ => .int .u8 0) := fcells_congr (fun j _ => by unfold Dig.tx; rw [if_neg (by omega)])
theorem trim_digs {v n : Nat} (hv : v < Dig.big n) (w : World) : Calls Tryd.prog 51 #[.string (Dig.bs (Dig.digs v n)), .string ⟨#[48]⟩] w fun e w' => e = .returned (.string (Dig.st v)) ∧ w = w' := by
  have hd := Dig.digs_alld v n
  have e : Dig.V (Dig.bs (Dig.digs v n)) = v := by unfold Dig.V; rw [Dig.l_bs]; exact Dig.digs_val n v hv
  have := triml_any (x := Dig.bs (Dig.digs v n)) (by rw [Dig.l_bs]; exact hd) w
  rwa [e] at this

set_option maxHeartbeats 2000000 in
theorem dplus_any {a b : ByteArray} (ha : Dig.Str a) (hb : Dig.Str b) (w : World) :
    Calls Tryd.prog 69 #[.string a, .string b] w fun e w' => e = .returned (.string (Dig.st (Dig.V a + Dig.V b))) ∧ Below w.heap.size w w' := by
  have HA : Hid (∀ i : Nat, i ≤ 4000000 → ∀ w, Calls Tryd.prog 101 #[.string a, .int .i64 i] w fun e w' => e = .returned (.int .i64 (Dig.dg (Dig.V a) i)) ∧ w = w') := Lib.hid (fun i hi w => dat_any ha i hi w)
  have HB : Hid (∀ i : Nat, i ≤ 4000000 → ∀ w, Calls Tryd.prog 101 #[.string b, .int .i64 i] w fun e w' => e = .returned (.int .i64 (Dig.dg (Dig.V b) i)) ∧ w = w') := Lib.hid (fun i hi w => dat_any hb i hi w)
  have za := ha.size
  have zb := hb.size
  obtain ⟨n, hn, hna, hnb, hn6⟩ : ∃ n : Nat, max (a.size : Int) b.size + 1 = n ∧ a.size + 1 ≤ n ∧ b.size + 1 ≤ n ∧ n ≤ 1000001 := by
    rcases Nat.le_total a.size b.size with g | g
    · exact ⟨b.size + 1, by omega, by omega, by omega, by omega⟩
    · exact ⟨a.size + 1, by omega, by omega, by omega, by omega⟩
  have hv : Dig.V a + Dig.V b < Dig.big n := by
    obtain ⟨m, rfl⟩ : ∃ m, n = m + 1 := ⟨n - 1, by omega⟩
    exact Dig.sum_lt (Nat.lt_of_lt_of_le (Dig.V_lt ha) (Dig.big_le (by omega))) (Nat.lt_of_lt_of_le (Dig.V_lt hb) (Dig.big_le (by omega)))
  generalize Dig.V a = A at *
  generalize Dig.V b = B at *
  clear ha hb hna hnb
  have HT := Lib.hid (trim_digs hv)
  clear hv
  have hmk := make_bytes (n := n) (by omega) w
  have hw1 := Whole.new w 5 (fcells n (fun _ => .int .u8 0))
  have hb1 := (Below.refl w.heap.size w).alloc (Nat.le_refl _) (.cells (fcells n (fun _ => .int .u8 0)) 5)
  have hn0 : (0 : Int) ≤ n := by omega
  go_enter Tryd.func69, Tryd.ntmps69
  go_wp2_with fail
  clear hn
  go_loopw [7, 18] (fun c i wr => ∃ k : Nat, k ≤ n ∧ i = .int .i64 k ∧ c = .int .i64 (Dig.carry A B k) ∧ Whole wr w.heap.size 5 (fcells n (Dig.tx (A + B) n k)) ∧ Below w.heap.size w wr) (fun _ i _ => n - (intOf i).toNat)
  case atStart => exact ⟨0, Nat.zero_le _, rfl, by rw [Dig.carry_zero]; rfl, by rw [tx_zero]; exact hw1, hb1⟩
  case round =>
    clear hmk hw1 hb1
    obtain ⟨k, hk, rfl, rfl, hwr, hbr⟩ := hrel
    have hk0 : (0 : Int) ≤ k := by omega
    by_cases hkn : k < n
    · have hkn2 : (k : Int) < n := by omega
      obtain ⟨m, hm, hmn⟩ : ∃ m : Nat, m = n - 1 - k ∧ m < n := ⟨_, rfl, by omega⟩
      have em : (n : Int) - 1 - k = m := by omega
      have hm0 : (0 : Int) ≤ m := by omega
      have hm1 : (m : Int) < n := by omega
      have c2 := hwr.fcell hmn
      have cf := hwr.frozen m
      have HP := Lib.hid (fun u hu => tx_put (u := u) hwr hm hmn hkn hu)
      have HC := Lib.hid (Dig.carry_succ A B k)
      have HD := Lib.hid (Dig.sum_dg A B k)
      have b1 := Dig.carry_le A B k
      have b2 := Dig.dg_lt A k
      have b3 := Dig.dg_lt B k
      have H1 := Lib.hid (HA.out k (by omega))
      have H2 := Lib.hid (HB.out k (by omega))
      generalize Dig.dg A k = d at *
      generalize Dig.dg B k = e at *
      generalize Dig.carry A B k = c at *
      clear hwr hm
      go_wp2_with fail
      refine (H1.out _).mono ?_; rintro _ w' ⟨rfl, rfl⟩
      go_wp2_with fail
      refine (H2.out _).mono ?_; rintro _ w' ⟨rfl, rfl⟩
      go_wp2
      go_roundw
      case rel => exact ⟨k + 1, by omega, by go_num, int_of (by rw [← HC.out]; omega), HP.out _ (by rw [← HD.out]; omega), hbr.setCell (Nat.le_refl _) _⟩
      case measure => simp [intOf]; omega
    · obtain rfl : k = n := by omega
      have hc := conv_digs hwr
      clear hwr
      go_wp2_with fail
      refine (HT.out _).mono ?_; rintro _ w'' ⟨rfl, rfl⟩
      go_wp2
      go_ret
      exact ⟨rfl, hbr⟩

set_option maxHeartbeats 2000000 in
theorem dminus_any {a b : ByteArray} (ha : Dig.Str a) (hb : Dig.Str b) (hab : Dig.V b ≤ Dig.V a) (w : World) :
    Calls Tryd.prog 71 #[.string a, .string b] w fun e w' => e = .returned (.string (Dig.st (Dig.V a - Dig.V b))) ∧ Below w.heap.size w w' := by
  have HA : Hid (∀ i : Nat, i ≤ 4000000 → ∀ w, Calls Tryd.prog 101 #[.string a, .int .i64 i] w fun e w' => e = .returned (.int .i64 (Dig.dg (Dig.V a) i)) ∧ w = w') := Lib.hid (fun i hi w => dat_any ha i hi w)
  have HB : Hid (∀ i : Nat, i ≤ 4000000 → ∀ w, Calls Tryd.prog 101 #[.string b, .int .i64 i] w fun e w' => e = .returned (.int .i64 (Dig.dg (Dig.V b) i)) ∧ w = w') := Lib.hid (fun i hi w => dat_any hb i hi w)
  have za := ha.size
  have zb := hb.size
  have hv : Dig.V a - Dig.V b < Dig.big a.size := Nat.lt_of_le_of_lt (Nat.sub_le _ _) (Dig.V_lt ha)
  have HAB := Lib.hid hab
  clear hab
  generalize Dig.V a = A at *
  generalize Dig.V b = B at *
  clear ha hb
  have HT := Lib.hid (trim_digs hv)
  clear hv
  have hmk := make_bytes (n := a.size) (by omega) w
  have hw1 := Whole.new w 5 (fcells a.size (fun _ => .int .u8 0))
  have hb1 := (Below.refl w.heap.size w).alloc (Nat.le_refl _) (.cells (fcells a.size (fun _ => .int .u8 0)) 5)
  have hn0 : (0 : Int) ≤ a.size := by omega
  go_enter Tryd.func71, Tryd.ntmps71
  go_wp2_with fail
  go_loopw [6, 14] (fun c i wr => ∃ k : Nat, k ≤ a.size ∧ i = .int .i64 k ∧ c = .int .i64 (Dig.borrow A B k) ∧ Whole wr w.heap.size 5 (fcells a.size (Dig.tx (A - B) a.size k)) ∧ Below w.heap.size w wr) (fun _ i _ => a.size - (intOf i).toNat)
  case atStart => exact ⟨0, Nat.zero_le _, rfl, by rw [Dig.borrow_zero]; rfl, by rw [tx_zero]; exact hw1, hb1⟩
  case round =>
    clear hmk hw1 hb1
    obtain ⟨k, hk, rfl, rfl, hwr, hbr⟩ := hrel
    have hk0 : (0 : Int) ≤ k := by omega
    by_cases hkn : k < a.size
    · have hkn2 : (k : Int) < a.size := by omega
      obtain ⟨m, hm, hmn⟩ : ∃ m : Nat, m = a.size - 1 - k ∧ m < a.size := ⟨_, rfl, by omega⟩
      have em : (a.size : Int) - 1 - k = m := by omega
      have hm0 : (0 : Int) ≤ m := by omega
      have hm1 : (m : Int) < a.size := by omega
      have c2 := hwr.fcell hmn
      have cf := hwr.frozen m
      have HP := Lib.hid (fun u hu => tx_put (u := u) hwr hm hmn hkn hu)
      have HC := Lib.hid (Dig.borrow_succ A B k)
      have HD := Lib.hid (Dig.sub_dg HAB.out k)
      have b1 := Dig.borrow_le A B k
      have b2 := Dig.dg_lt A k
      have b3 := Dig.dg_lt B k
      have H1 := Lib.hid (HA.out k (by omega))
      have H2 := Lib.hid (HB.out k (by omega))
      generalize Dig.dg A k = d at *
      generalize Dig.dg B k = e at *
      generalize Dig.borrow A B k = c at *
      clear hwr hm
      by_cases hlt : d < e + c
      · have t1 : decide ((d : Int) - e - c < 0) = true := decide_eq_true (by omega)
        go_wp2_with fail
        refine (H1.out _).mono ?_; rintro _ w' ⟨rfl, rfl⟩
        go_wp2_with fail
        refine (H2.out _).mono ?_; rintro _ w' ⟨rfl, rfl⟩
        go_wp2
        go_roundw
        case rel => exact ⟨k + 1, by omega, by go_num, int_of (by rw [HC.out, if_pos hlt]; rfl), HP.out _ (by rw [← HD.out]; omega), hbr.setCell (Nat.le_refl _) _⟩
        case measure => simp [intOf]; omega
      · have t1 : decide ((d : Int) - e - c < 0) = false := decide_eq_false (by omega)
        go_wp2_with fail
        refine (H1.out _).mono ?_; rintro _ w' ⟨rfl, rfl⟩
        go_wp2_with fail
        refine (H2.out _).mono ?_; rintro _ w' ⟨rfl, rfl⟩
        go_wp2
        go_roundw
        case rel => exact ⟨k + 1, by omega, by go_num, int_of (by rw [HC.out, if_neg hlt]; rfl), HP.out _ (by rw [← HD.out]; omega), hbr.setCell (Nat.le_refl _) _⟩
        case measure => simp [intOf]; omega
    · obtain rfl : k = a.size := by omega
      have hc := conv_digs hwr
      clear hwr
      go_wp2_with fail
      refine (HT.out _).mono ?_; rintro _ w'' ⟨rfl, rfl⟩
      go_wp2
      go_ret
      exact ⟨rfl, hbr⟩
end Go.Proofs.YtcnfgcdbjofihaaDoor
