/- Times: the reference's reader: like, number. -/
import Derived.Test.YthbjkibclbgjoaaMomBackN
import Derived.Deep.QuietTactic
import Derived.BigQuiet
namespace Go.Proofs.Ythbjkibclbgjoaa
open Go.RowKit

namespace Mom
def okc (s f : ByteArray) (i : Nat) : Prop := if bt f i = 100 then isd s i else bt s i = bt f i
instance (s f : ByteArray) (i : Nat) : Decidable (okc s f i) := by unfold okc; infer_instance
def lk (s f : ByteArray) : Prop := f.size ≤ s.size ∧ ∀ i, i < f.size → okc s f i
instance (s f : ByteArray) : Decidable (lk s f) := by unfold lk; infer_instance
end Mom

set_option maxHeartbeats 2000000 in
theorem like_go {s f : ByteArray} {j : Nat} (hs : s.size ≤ maxLen) (hsz : f.size ≤ s.size) (hj : j ≤ f.size) (h : ∀ i, i < j → Mom.okc s f i) (hn : j < f.size → ¬ Mom.okc s f j) (w : World) :
    Calls Try.prog 42 #[.string s, .string f] w fun e w' => e = .returned (.bool (decide (j = f.size))) ∧ Below w.heap.size w w' := by
  have H := Lib.hid h; clear h
  have HN := Lib.hid hn; clear hn
  obtain ⟨R, hR⟩ : ∃ r, decide (j = f.size) = r := ⟨_, rfl⟩
  rw [hR]
  have HR := Lib.hid hR; clear hR
  unfold maxLen at hs
  go_enter Try.func42, Try.ntmps42
  go_wp2_with fail
  go_loopw [5] (fun i wr => ∃ k : Nat, k ≤ j ∧ i = .int .i64 k ∧ Below w.heap.size w wr) (fun i _ => f.size - (intOf i).toNat)
  case atStart => exact ⟨0, by omega, rfl, Below.refl _ _⟩
  case round =>
    obtain ⟨k, hk, rfl, hbb⟩ := hrel
    have hk1 : (0 : Int) ≤ k := by omega
    by_cases hkf : k = f.size
    · have hR2 : R = true := by rw [← HR.out]; exact decide_eq_true (by omega)
      subst hR2
      subst hkf
      go_wp2
      go_ret
      exact ⟨rfl, hbb⟩
    have hkf2 : k < f.size := by omega
    have hk2 : (k : Int) < f.size := by omega
    have hk3 : (k : Int) < s.size := by omega
    have hks : k < s.size := by omega
    by_cases hd : f[k].toNat = 100
    · have t1 : ((f[k].toNat : Int) == 100) = true := by rw [hd]; rfl
      have ho : Mom.okc s f k ↔ (48 ≤ s[k].toNat ∧ s[k].toNat ≤ 57) := by
        unfold Mom.okc Mom.isd
        rw [Mom.bt_in hkf2, Mom.bt_in hks, if_pos (by omega)]
        omega
      by_cases h1 : s[k].toNat < 48
      · have hkj : j = k := by
          rcases Nat.lt_or_ge k j with g | g
          · have := ho.1 (H.out k g); omega
          · omega
        have hR2 : R = false := by rw [← HR.out]; exact decide_eq_false (by omega)
        subst hR2
        have d1 : decide ((s[k].toNat : Int) < 48) = true := decide_eq_true (by omega)
        have t2 : ((f[k].toNat : Int) != 100) = false := by rw [bne, t1]; rfl
        clear hd ho hkj
        go_wp2_with fail
        go_quiet (fail)
        go_wp2
        go_ret
        exact ⟨rfl, hbb.os, hbb.tape, hbb.output, hbb.size, hbb.block⟩
      by_cases h2 : 57 < s[k].toNat
      · have hkj : j = k := by
          rcases Nat.lt_or_ge k j with g | g
          · have := ho.1 (H.out k g); omega
          · omega
        have hR2 : R = false := by rw [← HR.out]; exact decide_eq_false (by omega)
        subst hR2
        have d1 : decide ((s[k].toNat : Int) < 48) = false := decide_eq_false (by omega)
        have d2 : decide (57 < (s[k].toNat : Int)) = true := decide_eq_true (by omega)
        have t2 : ((f[k].toNat : Int) != 100) = false := by rw [bne, t1]; rfl
        clear hd ho hkj
        go_wp2_with fail
        go_quiet (fail)
        go_wp2
        go_ret
        exact ⟨rfl, hbb.os, hbb.tape, hbb.output, hbb.size, hbb.block⟩
      have hkj : k < j := by
        rcases Nat.lt_or_ge k j with g | g
        · exact g
        · obtain rfl : k = j := by omega
          exact absurd (ho.2 (by omega)) (HN.out hkf2)
      have d1 : decide ((s[k].toNat : Int) < 48) = false := decide_eq_false (by omega)
      have d2 : decide (57 < (s[k].toNat : Int)) = false := decide_eq_false (by omega)
      have t2 : ((f[k].toNat : Int) != 100) = false := by rw [bne, t1]; rfl
      clear hd ho
      go_wp2_with fail
      go_quiet (fail)
      go_wp2
      go_roundw
      case rel => exact ⟨k + 1, by omega, by go_num, hbb.os, hbb.tape, hbb.output, hbb.size, hbb.block⟩
      case measure => simp [intOf]; omega
    · have t1 : ((f[k].toNat : Int) == 100) = false := beq_eq_false_iff_ne.2 (by omega)
      have t2 : ((f[k].toNat : Int) != 100) = true := by rw [bne, t1]; rfl
      have ho : Mom.okc s f k ↔ s[k].toNat = f[k].toNat := by
        unfold Mom.okc
        rw [Mom.bt_in hkf2, Mom.bt_in hks, if_neg (by omega)]
        omega
      by_cases h1 : s[k].toNat = f[k].toNat
      · have hkj : k < j := by
          rcases Nat.lt_or_ge k j with g | g
          · exact g
          · obtain rfl : k = j := by omega
            exact absurd (ho.2 h1) (HN.out hkf2)
        have t3 : ((s[k].toNat : Int) != (f[k].toNat : Int)) = false := by simp [h1]
        clear hd ho h1
        go_wp2_with fail
        go_quiet (fail)
        go_wp2
        go_roundw
        case rel => exact ⟨k + 1, by omega, by go_num, hbb.os, hbb.tape, hbb.output, hbb.size, hbb.block⟩
        case measure => simp [intOf]; omega
      · have hkj : j = k := by
          rcases Nat.lt_or_ge k j with g | g
          · exact absurd (ho.1 (H.out k g)) h1
          · omega
        have hR2 : R = false := by rw [← HR.out]; exact decide_eq_false (by omega)
        subst hR2
        have t3 : ((s[k].toNat : Int) != (f[k].toNat : Int)) = true := by simp; omega
        clear hd ho hkj h1
        go_wp2_with fail
        go_quiet (fail)
        go_wp2
        go_ret
        exact ⟨rfl, hbb.os, hbb.tape, hbb.output, hbb.size, hbb.block⟩

theorem Mom.first_bad (s f : ByteArray) : ∀ n : Nat, (∀ i, i < n → Mom.okc s f i) ∨ ∃ j, j < n ∧ (∀ i, i < j → Mom.okc s f i) ∧ ¬ Mom.okc s f j := by
  intro n
  induction n with
  | zero => exact Or.inl (fun i hi => by omega)
  | succ n ih =>
    rcases ih with h | ⟨j, hj, h1, h2⟩
    · by_cases hn : Mom.okc s f n
      · refine Or.inl (fun i hi => ?_)
        rcases Nat.lt_or_ge i n with g | g
        · exact h i g
        · obtain rfl : i = n := by omega
          exact hn
      · exact Or.inr ⟨n, by omega, h, hn⟩
    · exact Or.inr ⟨j, by omega, h1, h2⟩

theorem like_any {s f : ByteArray} (hs : s.size ≤ maxLen) (w : World) :
    Calls Try.prog 42 #[.string s, .string f] w fun e w' => e = .returned (.bool (decide (Mom.lk s f))) ∧ Below w.heap.size w w' := by
  by_cases hsz : f.size ≤ s.size
  · rcases Mom.first_bad s f f.size with h | ⟨j, hj, h1, h2⟩
    · rw [decide_eq_true (show Mom.lk s f from ⟨hsz, h⟩)]
      have := like_go hs hsz (Nat.le_refl _) h (fun g => absurd g (Nat.lt_irrefl _)) w
      rwa [decide_eq_true rfl] at this
    · rw [decide_eq_false (show ¬ Mom.lk s f from fun g => h2 (g.2 j hj))]
      have := like_go hs hsz (Nat.le_of_lt hj) h1 (fun _ => h2) w
      rwa [decide_eq_false (by omega)] at this
  · rw [decide_eq_false (show ¬ Mom.lk s f from fun g => hsz g.1)]
    unfold maxLen at hs
    go_enter Try.func42, Try.ntmps42
    go_wp2
    go_ret
    exact ⟨rfl, Below.refl _ _⟩

set_option maxHeartbeats 1000000 in
theorem number_any {x : ByteArray} (hx : x.size ≤ 9) (h : Mom.alld x x.size) (w : World) :
    Calls Try.prog 45 #[.string x] w fun e w' => e = .returned (.int .i64 (Mom.nv x x.size)) ∧ w = w' := by
  have H := Lib.hid h; clear h
  go_enter Try.func45, Try.ntmps45
  go_wp2
  go_loop [3, 4] (fun n i => ∃ k : Nat, k ≤ x.size ∧ i = .int .i64 k ∧ n = .int .i64 (Mom.nv x k)) (fun _ i => x.size - (intOf i).toNat)
  case atStart => exact ⟨0, by omega, rfl, rfl⟩
  case round =>
    obtain ⟨k, hk, rfl, rfl⟩ := hrel
    have hnb := Mom.nv_nine (x := x) (show k ≤ 9 by omega) (fun j hj => H.out j (by omega))
    by_cases hkm : k < x.size
    · have hk1 : (0 : Int) ≤ k := by omega
      have hk2 : (k : Int) < x.size := by omega
      have hd := H.out k hkm
      unfold Mom.isd at hd
      rw [Mom.bt_in hkm] at hd
      have d1 : 48 ≤ x[k].toNat := by omega
      have d2 : x[k].toNat ≤ 57 := by omega
      have HN : Hid (Mom.nv x (k + 1) = Mom.nv x k * 10 + ((x[k].toNat : Int) - 48)) := Lib.hid (by rw [← Mom.bt_in hkm]; show 10 * Mom.nv x k + (Mom.bt x k - 48) = _; omega)
      clear hd
      generalize Mom.nv x k = nk at *
      go_wp2
      go_round
      case rel => exact ⟨k + 1, by omega, by go_num, by rw [HN.out]⟩
      case measure => simp [intOf]; omega
    · obtain rfl : k = x.size := by omega
      go_wp2
      go_ret
      exact ⟨rfl, rfl⟩
end Go.Proofs.Ythbjkibclbgjoaa
