/- Numerals: products in memory (printed by gen_dig4.py). -/
import Derived.Test.YtcnfgcdbjofihaaDoorDigSum
import Derived.Deep.QuietTactic
import Derived.BigQuiet
import Derived.IntWalk
namespace Go.Proofs.YtcnfgcdbjofihaaDoor
open Go.RowKit

namespace Dig
def mc (P Q i k j : Nat) : Value := .int .i64 (if j < i + k then (dg Q j : Int) else dg P j)
theorem mc_at (P Q i k : Nat) : mc P Q i k (i + k) = .int .i64 (dg P (i + k)) := by unfold mc; rw [if_neg (by omega)]
theorem mc_start {P Q i n : Nat} (h : ∃ c, Q = P + c * 10 ^ i) : fcells n (mc P Q i 0) = fcells n (fun j => .int .i64 (dg P j)) := fcells_congr (fun j _ => by
  unfold mc
  by_cases g : j < i
  · rw [if_pos (by omega), dg_low h g]
  · rw [if_neg (by omega)])
theorem mc_end {P Q i k n : Nat} (hP : P < big (i + k)) (hQ : Q < big (i + k)) : fcells n (mc P Q i k) = fcells n (fun j => .int .i64 (dg Q j)) := fcells_congr (fun j _ => by
  unfold mc
  by_cases g : j < i + k
  · rw [if_pos g]
  · rw [if_neg g, dg_zero (show P < 10 ^ j from Nat.lt_of_lt_of_le hP (big_le (by omega))), dg_zero (show Q < 10 ^ j from Nat.lt_of_lt_of_le hQ (big_le (by omega)))])
theorem mc_none (n B : Nat) : fcells n (fun j => .int .i64 (dg (0 * B) j)) = fcells n (fun _ => .int .i64 0) := fcells_congr (fun j _ => by rw [Nat.zero_mul]; unfold dg; rw [Nat.zero_div]; rfl)
theorem pre_lt {A B i n : Nat} (hB : B < big n) : A % 10 ^ i * B < big (i + n) := prod_lt hB
/-- A digit, as a call returns it. -/
structure IsD (x : ByteArray) (i d : Nat) : Prop where
  str : Str x
  le : i ≤ 4000000
  val : dg (V x) i = d
end Dig
theorem mc_put {W : World} {D P Q i k n : Nat} {u : Int} (h : Whole W D 3 (fcells n (Dig.mc P Q i k))) (hu : (Dig.dg Q (i + k) : Int) = u) : Whole (W.setCell ⟨D, i + k, none⟩ (.int .i64 u)) D 3 (fcells n (Dig.mc P Q i (k + 1))) := by
  refine h.fset ?_ ?_
  · unfold Dig.mc; rw [if_pos (by omega), hu]
  · intro j _ hj
    unfold Dig.mc
    by_cases g : j < i + k
    · rw [if_pos g, if_pos (by omega)]
    · rw [if_neg g, if_neg (by omega)]


set_option maxHeartbeats 4000000 in
theorem mul_any {a b : ByteArray} (ha : Dig.vld a) (hb : Dig.vld b) (w : World) :
    Calls Tryd.prog 87 #[.string a, .string b] w fun e w' => e = .returned (.tuple #[.string (Dig.lim (Dig.V a * Dig.V b)).1, .int .i64 (Dig.lim (Dig.V a * Dig.V b)).2]) ∧ Below w.heap.size w w' := by
  have sa := Dig.vld_str ha
  have sb := Dig.vld_str hb
  have VA := Lib.hid (valid_any sa.max)
  have VB := Lib.hid (valid_any sb.max)
  rw [decide_eq_true ha] at VA
  rw [decide_eq_true hb] at VB
  have HDG : Hid (∀ (x : ByteArray) (i d : Nat), Hid (Dig.IsD x i d) → ∀ w, Calls Tryd.prog 106 #[.string x, .int .i64 i] w fun e w' => e = .returned (.int .i64 d) ∧ w' = w) := Lib.hid (fun x i d h w => (digit_any h.out.str i h.out.le w).mono fun e w' ⟨he, hw⟩ => ⟨by rw [he, h.out.val], hw.symm⟩)
  have za := sa.size
  have zb := sb.size
  have SA := Lib.hid sa
  have SB := Lib.hid sb
  have LB := Lib.hid (Dig.V_lt sb)
  have EA := Lib.hid (show Dig.V a % 10 ^ a.size = Dig.V a from Nat.mod_eq_of_lt (Dig.V_lt sa))
  have hv : Dig.V a * Dig.V b < Dig.big (a.size + b.size + 1) := by
    have := Dig.pre_lt (A := Dig.V a) (i := a.size) (Dig.V_lt sb)
    rw [show Dig.V a % 10 ^ a.size = Dig.V a from Nat.mod_eq_of_lt (Dig.V_lt sa)] at this
    exact Nat.lt_of_lt_of_le this (Dig.big_le (by omega))
  have HL := Lib.hid (limited_any (Dig.V a * Dig.V b))
  generalize Dig.lim (Dig.V a * Dig.V b) = R at *
  obtain ⟨r1, r2⟩ := R
  dsimp only at HL ⊢
  have DA : Hid (∀ i, i ≤ 4000000 → Hid (Dig.IsD a i (Dig.dg (Dig.V a) i))) := Lib.hid (fun i hi => Lib.hid ⟨SA.out, hi, rfl⟩)
  have DB : Hid (∀ i, i ≤ 4000000 → Hid (Dig.IsD b i (Dig.dg (Dig.V b) i))) := Lib.hid (fun i hi => Lib.hid ⟨SB.out, hi, rfl⟩)
  generalize Dig.V a = A at *
  generalize Dig.V b = B at *
  clear ha hb sa sb SA SB
  obtain ⟨n, hn⟩ : ∃ n : Nat, (a.size : Int) + b.size + 1 = n := ⟨a.size + b.size + 1, by omega⟩
  have en : a.size + b.size + 1 = n := by omega
  rw [en] at hv
  have hmk := make_ints (n := n) (by omega) w
  have hw1 := Whole.new w 3 (fcells n (fun _ => .int .i64 0))
  have hb1 := (Below.refl w.heap.size w).alloc (Nat.le_refl _) (.cells (fcells n (fun _ => .int .i64 0)) 3)
  have hn0 : (0 : Int) ≤ n := by omega
  have hnb : n ≤ 2000001 := by omega
  have EN := Lib.hid en
  clear en
  go_enter Tryd.func87, Tryd.ntmps87
  go_wp2_with fail
  refine (VA.out _).mono ?_; rintro _ w' ⟨rfl, rfl⟩
  go_wp2_with fail
  refine (VB.out _).mono ?_; rintro _ w' ⟨rfl, rfl⟩
  clear VA VB
  go_wp2_with fail
  clear hn
  go_loopw [27] (fun i wr => ∃ k : Nat, k ≤ a.size ∧ i = .int .i64 k ∧ Whole wr w.heap.size 3 (fcells n (fun j => .int .i64 (Dig.dg (A % 10 ^ k * B) j))) ∧ Below w.heap.size w wr) (fun i _ => a.size - (intOf i).toNat)
  case atStart => exact ⟨0, Nat.zero_le _, rfl, by rw [Nat.pow_zero, Nat.mod_one, Dig.mc_none]; exact hw1, hb1⟩
  case round =>
    clear hmk hw1 hb1
    obtain ⟨i, hi, rfl, hwo, hbo⟩ := hrel
    have hi0 : (0 : Int) ≤ i := by omega
    by_cases hin : i < a.size
    · have hin2 : (i : Int) < a.size := by omega
      have PQ := Dig.prod_succ A B i
      have HPl := Lib.hid (show A % 10 ^ i * B < Dig.big (i + (b.size + 1)) from Nat.lt_of_lt_of_le (Dig.pre_lt LB.out) (Dig.big_le (by omega)))
      have HQl := Lib.hid (show A % 10 ^ (i + 1) * B < Dig.big (i + (b.size + 1)) from Nat.lt_of_lt_of_le (Dig.pre_lt LB.out) (Dig.big_le (by omega)))
      have hd := Dig.dg_lt A i
      have DAI := DA.out i (by omega)
      obtain ⟨Q, hQ⟩ : ∃ Q, A % 10 ^ (i + 1) * B = Q := ⟨_, rfl⟩
      rw [hQ] at PQ HQl
      have QE := Lib.hid hQ
      clear hQ
      generalize A % 10 ^ i * B = P at *
      generalize Dig.dg A i = d at *
      rw [← Dig.mc_start (Q := Q) (i := i) ⟨d * B, PQ⟩] at hwo
      have HQ := Lib.hid PQ
      clear PQ
      go_wp2_with fail
      go_loopw [8, 33] (fun c j wr => ∃ k : Nat, k ≤ b.size + 1 ∧ j = .int .i64 k ∧ c = .int .i64 (Dig.up P d B i k) ∧ Whole wr w.heap.size 3 (fcells n (Dig.mc P Q i k)) ∧ Below w.heap.size w wr) (fun _ j _ => b.size + 1 - (intOf j).toNat)
      case atStart => exact ⟨0, Nat.zero_le _, rfl, by rw [Dig.up_zero]; rfl, hwo, hbo⟩
      case round =>
        clear hwo hbo
        obtain ⟨k, hk, rfl, rfl, hwr, hbr⟩ := hrel
        have hk0 : (0 : Int) ≤ k := by omega
        by_cases hkn : k < b.size + 1
        · have hkn1 : (k : Int) ≤ b.size := by omega
          have hkn2 : (k : Int) < (b.size : Int) + 1 := by omega
          have HC := Lib.hid (Dig.up_succ P d B i k)
          have HD := Lib.hid (Dig.mul_dg P d B i k)
          have HP := Lib.hid (fun u hu => mc_put (u := u) hwr hu)
          have DBK := DB.out k (by omega)
          have b1 := Dig.up_le P d B i k (by omega)
          have b2 := Dig.dg_lt P (i + k)
          have b3 := Dig.dg_lt B k
          have c1 := hwr.fcell (i := i + k) (by have := EN.out; omega)
          rw [Dig.mc_at] at c1
          have cf := hwr.frozen (i + k)
          have HBB := Lib.hid (fun (u : Int) => hbr.setCell (p := ⟨w.heap.size, i + k, none⟩) (Nat.le_refl _) (.int .i64 u))
          rw [← HQ.out] at HD
          clear hwr hbr
          generalize Dig.dg P (i + k) = x at *
          generalize Dig.dg B k = e at *
          generalize Dig.up P d B i k = c at *
          obtain ⟨s, hs⟩ : ∃ s, i + k = s := ⟨_, rfl⟩
          rw [hs] at c1 cf HP HBB HD
          have hsn : (s : Int) < n := by have := EN.out; omega
          have hs0 : (0 : Int) ≤ s := by omega
          have hm0 : d * e ≤ 9 * 9 := Nat.mul_le_mul (by omega) (by omega)
          obtain ⟨m, hm⟩ : ∃ m, d * e = m := ⟨_, rfl⟩
          rw [hm] at HC HD hm0
          obtain ⟨t, ht⟩ : ∃ t, x + m = t := ⟨_, rfl⟩
          obtain ⟨z, hz⟩ : ∃ z, c + x + m = z := ⟨_, rfl⟩
          rw [hz] at HC HD
          have hz0 : (0 : Int) ≤ z := by omega
          have hz1 : (z : Int) ≤ 200 := by omega
          have q1 : (i : Int) + k = s := by omega
          have q2 : (d : Int) * e = m := by rw [← hm]; simp
          have q3 : (x : Int) + m = t := by omega
          have q4 : (c : Int) + t = (z : Int) := by omega
          have w1 : IntKind.i64.wrap (s : Int) = s := IntWalk.i64_in _ (by omega)
          have w2 : IntKind.i64.wrap (m : Int) = m := IntWalk.i64_in _ (by omega)
          have w3 : IntKind.i64.wrap (t : Int) = t := IntWalk.i64_in _ (by omega)
          have w4 : IntKind.i64.wrap (z : Int) = z := IntWalk.i64_in _ (by omega)
          clear hm hs ht hz hm0 b1 b2 b3
          go_wp2_with fail
          go_quiet ((go_at_call 106; exact Calls.quiet_of_same (HDG.out _ _ _ (by assumption) _)))
          clear w1 w2 w3 w4 q2 q3 q4
          go_wp2
          go_roundw
          case rel =>
            have G := HBB.out ((z : Int) % 10)
            exact ⟨k + 1, by omega, by go_num, int_of (by rw [← HC.out]; omega), HP.out _ (by rw [← HD.out]; omega), G.os, G.tape, G.output, G.size, G.block⟩
          case measure => simp [intOf]; omega
        · obtain rfl : k = b.size + 1 := by omega
          rw [Dig.mc_end HPl.out HQl.out] at hwr
          go_wp2
          go_roundw
          case rel => exact ⟨i + 1, by omega, by go_num, by rw [QE.out]; exact hwr, hbr⟩
          case measure => simp [intOf]; omega
    · obtain rfl : i = a.size := by omega
      rw [EA.out] at hwo
      have HT := Lib.hid (text_any hv (by omega) _ hwo)
      clear hwo hv
      go_wp2_with fail
      refine HT.out.mono ?_; rintro _ w' ⟨rfl, hb2⟩
      go_wp2_with fail
      refine (HL.out _).mono ?_; rintro _ w'' ⟨rfl, rfl⟩
      go_wp2
      go_ret2
      exact ⟨rfl, below_then hbo hb2⟩


set_option maxHeartbeats 4000000 in
theorem rtimes_any {a b : ByteArray} (ha : Dig.Str a) (hb : Dig.Str b) (w : World) :
    Calls Tryd.prog 88 #[.string a, .string b] w fun e w' => e = .returned (.string (Dig.st (Dig.V a * Dig.V b))) ∧ Below w.heap.size w w' := by
  have sa := ha
  have sb := hb
  have HDG : Hid (∀ (x : ByteArray) (i d : Nat), Hid (Dig.IsD x i d) → ∀ w, Calls Tryd.prog 103 #[.string x, .int .i64 i] w fun e w' => e = .returned (.int .i64 d) ∧ w' = w) := Lib.hid (fun x i d h w => (rat_any h.out.str i h.out.le w).mono fun e w' ⟨he, hw⟩ => ⟨by rw [he, h.out.val], hw.symm⟩)
  have za := sa.size
  have zb := sb.size
  have SA := Lib.hid sa
  have SB := Lib.hid sb
  have LB := Lib.hid (Dig.V_lt sb)
  have EA := Lib.hid (show Dig.V a % 10 ^ a.size = Dig.V a from Nat.mod_eq_of_lt (Dig.V_lt sa))
  have hv : Dig.V a * Dig.V b < Dig.big (a.size + b.size + 1) := by
    have := Dig.pre_lt (A := Dig.V a) (i := a.size) (Dig.V_lt sb)
    rw [show Dig.V a % 10 ^ a.size = Dig.V a from Nat.mod_eq_of_lt (Dig.V_lt sa)] at this
    exact Nat.lt_of_lt_of_le this (Dig.big_le (by omega))
  have DA : Hid (∀ i, i ≤ 4000000 → Hid (Dig.IsD a i (Dig.dg (Dig.V a) i))) := Lib.hid (fun i hi => Lib.hid ⟨SA.out, hi, rfl⟩)
  have DB : Hid (∀ i, i ≤ 4000000 → Hid (Dig.IsD b i (Dig.dg (Dig.V b) i))) := Lib.hid (fun i hi => Lib.hid ⟨SB.out, hi, rfl⟩)
  generalize Dig.V a = A at *
  generalize Dig.V b = B at *
  clear ha hb sa sb SA SB
  obtain ⟨n, hn⟩ : ∃ n : Nat, (a.size : Int) + b.size + 1 = n := ⟨a.size + b.size + 1, by omega⟩
  have en : a.size + b.size + 1 = n := by omega
  rw [en] at hv
  have hmk := make_ints (n := n) (by omega) w
  have hw1 := Whole.new w 3 (fcells n (fun _ => .int .i64 0))
  have hb1 := (Below.refl w.heap.size w).alloc (Nat.le_refl _) (.cells (fcells n (fun _ => .int .i64 0)) 3)
  have hn0 : (0 : Int) ≤ n := by omega
  have hnb : n ≤ 2000001 := by omega
  have EN := Lib.hid en
  clear en
  go_enter Tryd.func88, Tryd.ntmps88
  go_wp2_with fail
  clear hn
  go_loopw [6] (fun i wr => ∃ k : Nat, k ≤ a.size ∧ i = .int .i64 k ∧ Whole wr w.heap.size 3 (fcells n (fun j => .int .i64 (Dig.dg (A % 10 ^ k * B) j))) ∧ Below w.heap.size w wr) (fun i _ => a.size - (intOf i).toNat)
  case atStart => exact ⟨0, Nat.zero_le _, rfl, by rw [Nat.pow_zero, Nat.mod_one, Dig.mc_none]; exact hw1, hb1⟩
  case round =>
    clear hmk hw1 hb1
    obtain ⟨i, hi, rfl, hwo, hbo⟩ := hrel
    have hi0 : (0 : Int) ≤ i := by omega
    by_cases hin : i < a.size
    · have hin2 : (i : Int) < a.size := by omega
      have PQ := Dig.prod_succ A B i
      have HPl := Lib.hid (show A % 10 ^ i * B < Dig.big (i + (b.size + 1)) from Nat.lt_of_lt_of_le (Dig.pre_lt LB.out) (Dig.big_le (by omega)))
      have HQl := Lib.hid (show A % 10 ^ (i + 1) * B < Dig.big (i + (b.size + 1)) from Nat.lt_of_lt_of_le (Dig.pre_lt LB.out) (Dig.big_le (by omega)))
      have hd := Dig.dg_lt A i
      have DAI := DA.out i (by omega)
      obtain ⟨Q, hQ⟩ : ∃ Q, A % 10 ^ (i + 1) * B = Q := ⟨_, rfl⟩
      rw [hQ] at PQ HQl
      have QE := Lib.hid hQ
      clear hQ
      generalize A % 10 ^ i * B = P at *
      generalize Dig.dg A i = d at *
      rw [← Dig.mc_start (Q := Q) (i := i) ⟨d * B, PQ⟩] at hwo
      have HQ := Lib.hid PQ
      clear PQ
      go_wp2_with fail
      go_loopw [7, 8] (fun c j wr => ∃ k : Nat, k ≤ b.size + 1 ∧ j = .int .i64 k ∧ c = .int .i64 (Dig.up P d B i k) ∧ Whole wr w.heap.size 3 (fcells n (Dig.mc P Q i k)) ∧ Below w.heap.size w wr) (fun _ j _ => b.size + 1 - (intOf j).toNat)
      case atStart => exact ⟨0, Nat.zero_le _, rfl, by rw [Dig.up_zero]; rfl, hwo, hbo⟩
      case round =>
        clear hwo hbo
        obtain ⟨k, hk, rfl, rfl, hwr, hbr⟩ := hrel
        have hk0 : (0 : Int) ≤ k := by omega
        by_cases hkn : k < b.size + 1
        · have hkn1 : (k : Int) ≤ b.size := by omega
          have hkn2 : (k : Int) < (b.size : Int) + 1 := by omega
          have HC := Lib.hid (Dig.up_succ P d B i k)
          have HD := Lib.hid (Dig.mul_dg P d B i k)
          have HP := Lib.hid (fun u hu => mc_put (u := u) hwr hu)
          have DBK := DB.out k (by omega)
          have b1 := Dig.up_le P d B i k (by omega)
          have b2 := Dig.dg_lt P (i + k)
          have b3 := Dig.dg_lt B k
          have c1 := hwr.fcell (i := i + k) (by have := EN.out; omega)
          rw [Dig.mc_at] at c1
          have cf := hwr.frozen (i + k)
          have HBB := Lib.hid (fun (u : Int) => hbr.setCell (p := ⟨w.heap.size, i + k, none⟩) (Nat.le_refl _) (.int .i64 u))
          rw [← HQ.out] at HD
          clear hwr hbr
          generalize Dig.dg P (i + k) = x at *
          generalize Dig.dg B k = e at *
          generalize Dig.up P d B i k = c at *
          obtain ⟨s, hs⟩ : ∃ s, i + k = s := ⟨_, rfl⟩
          rw [hs] at c1 cf HP HBB HD
          have hsn : (s : Int) < n := by have := EN.out; omega
          have hs0 : (0 : Int) ≤ s := by omega
          have hm0 : d * e ≤ 9 * 9 := Nat.mul_le_mul (by omega) (by omega)
          obtain ⟨m, hm⟩ : ∃ m, d * e = m := ⟨_, rfl⟩
          rw [hm] at HC HD hm0
          obtain ⟨t, ht⟩ : ∃ t, x + m = t := ⟨_, rfl⟩
          obtain ⟨z, hz⟩ : ∃ z, c + x + m = z := ⟨_, rfl⟩
          rw [hz] at HC HD
          have hz0 : (0 : Int) ≤ z := by omega
          have hz1 : (z : Int) ≤ 200 := by omega
          have q1 : (i : Int) + k = s := by omega
          have q2 : (d : Int) * e = m := by rw [← hm]; simp
          have q3 : (x : Int) + m = t := by omega
          have q4 : (t : Int) + c = (z : Int) := by omega
          have w1 : IntKind.i64.wrap (s : Int) = s := IntWalk.i64_in _ (by omega)
          have w2 : IntKind.i64.wrap (m : Int) = m := IntWalk.i64_in _ (by omega)
          have w3 : IntKind.i64.wrap (t : Int) = t := IntWalk.i64_in _ (by omega)
          have w4 : IntKind.i64.wrap (z : Int) = z := IntWalk.i64_in _ (by omega)
          clear hm hs ht hz hm0 b1 b2 b3
          go_wp2_with fail
          go_quiet ((go_at_call 103; exact Calls.quiet_of_same (HDG.out _ _ _ (by assumption) _)))
          clear w1 w2 w3 w4 q2 q3 q4
          go_wp2
          go_roundw
          case rel =>
            have G := HBB.out ((z : Int) % 10)
            exact ⟨k + 1, by omega, by go_num, int_of (by rw [← HC.out]; omega), HP.out _ (by rw [← HD.out]; omega), G.os, G.tape, G.output, G.size, G.block⟩
          case measure => simp [intOf]; omega
        · obtain rfl : k = b.size + 1 := by omega
          rw [Dig.mc_end HPl.out HQl.out] at hwr
          go_wp2
          go_roundw
          case rel => exact ⟨i + 1, by omega, by go_num, by rw [QE.out]; exact hwr, hbr⟩
          case measure => simp [intOf]; omega
    · obtain rfl : i = a.size := by omega
      rw [EA.out] at hwo
      have HT := Lib.hid (rtext_any hv (by omega) _ hwo)
      clear hwo hv
      go_wp2_with fail
      refine HT.out.mono ?_; rintro _ w' ⟨rfl, hb2⟩
      go_wp2
      go_ret
      exact ⟨rfl, below_then hbo hb2⟩

end Go.Proofs.YtcnfgcdbjofihaaDoor
