/- Numerals: strip, digit, limited: of the program and of the reference. -/
import Derived.Test.YtfkfboiblgoamaaVDigWalks
namespace Go.Proofs.Ytfkfboiblgoamaa
open Go.RowKit

namespace Dig
def V (x : ByteArray) : Nat := val (l x)
/-- Digits alone, and not far too many. -/
structure Str (x : ByteArray) : Prop where
  d : alld (l x)
  size : x.size ≤ 1000000
theorem Str.max {x : ByteArray} (h : Str x) : x.size ≤ maxLen := by have := h.size; unfold maxLen; omega
theorem Str.isd {x : ByteArray} (h : Str x) {i : Nat} (hi : i < x.size) : 48 ≤ x[i].toNat ∧ x[i].toNat ≤ 57 := (alld_iff x).1 h.d i hi
/-- The string of a number. -/
def st (n : Nat) : ByteArray := bs (num n)
theorem l_st (n : Nat) : l (st n) = num n := l_bs _
theorem V_st (n : Nat) : V (st n) = n := by unfold V; rw [l_st, val_num]
/-- A power of ten. -/
def big (k : Nat) : Nat := 10 ^ k
theorem V_lt {x : ByteArray} (h : Str x) : V x < big x.size := by have := val_lt h.d; rwa [l_len] at this
theorem st_size (n k : Nat) : (st n).size ≤ k ↔ n < big k := by unfold st; rw [bs_size]; exact num_len n k
theorem big_le {a b : Nat} (h : a ≤ b) : big a ≤ big b := Nat.pow_le_pow_right (by omega) h
theorem st_str {n : Nat} (h : n < big 1000000) : Str (st n) := ⟨by rw [l_st]; exact num_alld n, (st_size n _).2 h⟩
theorem st_strip {x : ByteArray} (h : alld (l x)) : bs (strip (l x)) = st (V x) := by unfold st V; rw [strip_num h]
theorem st_inj {a b : Nat} (h : st a = st b) : a = b := by rw [← V_st a, h, V_st]
theorem list_dg {k : List UInt8} : alld k → ∀ i (h : i < k.length), (k[k.length - 1 - i]'(by omega)).toNat = 48 + dg (val k) i := by
  induction k using list_snoc with
  | h0 => intro _ i h; simp at h
  | h1 k b ih =>
    intro hd i h
    obtain ⟨h1, h2⟩ := alld_snoc hd
    unfold isd at h2
    rw [List.length_append, List.length_singleton] at h
    rw [val_snoc]
    cases i with
    | zero =>
      rw [List.getElem_append_right (by simp)]
      simp only [List.length_append, List.length_singleton, Nat.add_sub_cancel, Nat.sub_zero, Nat.sub_self, List.getElem_singleton]
      unfold dg
      rw [Nat.pow_zero, Nat.div_one]
      omega
    | succ i =>
      have := ih h1 i (by omega)
      rw [dg_succ, show (10 * val k + (b.toNat - 48)) / 10 = val k by omega, ← this]
      rw [List.getElem_append_left (by simp; omega)]
      congr 2
      simp
      omega
theorem str_dg {x : ByteArray} (h : Str x) {i : Nat} (hi : i < x.size) : (x[x.size - 1 - i]'(by omega)).toNat = 48 + dg (V x) i := by
  have := list_dg h.d i (by rw [l_len]; exact hi)
  show _ = 48 + dg (val (l x)) i
  rw [← this]
  congr 1
theorem str_dg0 {x : ByteArray} (h : Str x) {i : Nat} (hi : x.size ≤ i) : dg (V x) i = 0 :=
  dg_zero (show V x < big i from Nat.lt_of_lt_of_le (V_lt h) (big_le hi))
theorem vld_str {x : ByteArray} (h : vld x) : Str x := ⟨h.2.1, by have := h.1; omega⟩
theorem vld_st {x : ByteArray} (h : vld x) : x = st (V x) ∧ V x < big 600 := by
  have hs : strip (l x) = l x := by
    rcases h.2.2 with k | k
    · have : l x = [] := List.eq_nil_of_length_eq_zero (by rw [l_len]; exact k)
      rw [this]; rfl
    · cases hl : l x with
      | nil => rfl
      | cons a t =>
        have h0 : 0 < x.size := by rw [← l_len, hl]; simp
        have e : x[0] = a := by
          have := l_get h0
          rw [← this]
          simp [hl]
        have hne : (a == 48) = false := beq_eq_false_iff_ne.2 (fun e2 => k h0 (by rw [e, e2]; rfl))
        unfold strip
        rw [List.dropWhile_cons, if_neg (by rw [hne]; decide)]
  refine ⟨?_, ?_⟩
  · have := st_strip h.2.1
    rw [hs, bs_l] at this
    exact this
  · have := V_lt (vld_str h)
    have h6 := h.1
    exact Nat.lt_of_lt_of_le this (big_le h6)
theorem st_vld {n : Nat} (h : n < big 600) : vld (st n) := by
  have hs := (st_size n 600).2 h
  refine ⟨hs, by rw [l_st]; exact num_alld n, ?_⟩
  rcases Nat.eq_zero_or_pos (st n).size with k | k
  · exact Or.inl k
  · refine Or.inr (fun h0 e => ?_)
    have h1 := num_strip n
    have e2 : (st n)[0] = (num n)[0]'(by unfold st at k; rw [bs_size] at k; exact k) := rfl
    rw [e2] at e
    cases hn : num n with
    | nil => unfold st at k; rw [bs_size, hn] at k; simp at k
    | cons a t =>
      simp only [hn, List.getElem_cons_zero] at e
      have ea : a = 48 := UInt8.toNat_inj.1 e
      rw [hn] at h1
      unfold strip at h1
      rw [List.dropWhile_cons, if_pos (by rw [ea]; rfl)] at h1
      have := congrArg List.length h1
      have := (List.dropWhile_suffix (l := t) (fun b => b == 48)).length_le
      simp at *
      omega
theorem trimLeftB_strip (k : List UInt8) : Go.Lib.trimLeftB k 48 = strip k := by
  unfold strip
  first | rfl | (unfold Go.Lib.trimLeftB; rfl)
end Dig

theorem ret_int {a b : Int} (h : a = b) : Ending.returned (Value.int .i64 a) = .returned (.int .i64 b) := by rw [h]
theorem ret_st {a b : ByteArray} (h : a = b) : Ending.returned (Value.string a) = .returned (.string b) := by rw [h]
end Go.Proofs.Ytfkfboiblgoamaa
