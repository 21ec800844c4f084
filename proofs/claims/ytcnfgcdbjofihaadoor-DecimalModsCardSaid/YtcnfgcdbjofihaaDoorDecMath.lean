/- Decimals: plain: signs, numbers, exponents; the normal form. -/
import Derived.Test.YtcnfgcdbjofihaaDoorDigShift
import Derived.Test.YtcnfgcdbjofihaaDoorDigQuo
namespace Go.Proofs.YtcnfgcdbjofihaaDoor
open Go.RowKit

namespace Dec
structure Dc where
  neg : Bool
  m : Nat
  e : Int
deriving DecidableEq
def ag (d : Dc) : Value := .agg #[.bool d.neg, .string (Dig.st d.m), .int .i64 d.e]
def z0 : Dc := ⟨false, 0, 0⟩
/-- The final zeros of a number. -/
def tz (m : Nat) : Nat := Dig.zc (Dig.st m)
theorem st_str (m : Nat) : Dig.alld (Dig.l (Dig.st m)) := by rw [Dig.l_st]; exact Dig.num_alld m
theorem dg_at {m i : Nat} (h : i < (Dig.st m).size) : ((Dig.st m)[(Dig.st m).size - 1 - i]'(by omega)).toNat = 48 + Dig.dg m i := by
  have := Dig.list_dg (st_str m) i (by rw [Dig.l_len]; exact h)
  rw [show Dig.val (Dig.l (Dig.st m)) = m from Dig.V_st m] at this
  rw [← this]
  congr 1
theorem dg_all_zero {m : Nat} : ∀ k, (∀ i, i < k → Dig.dg m i = 0) → m % 10 ^ k = 0 := by
  intro k
  induction k with
  | zero => intro _; rw [Nat.pow_zero, Nat.mod_one]
  | succ k ih =>
    intro h
    rw [Dig.dg_mod, ih (fun i hi => h i (by omega)), h k (by omega)]
    simp
theorem tz_all (m : Nat) : tz m ≤ (Dig.st m).size ∧ m % 10 ^ tz m = 0 ∧ (m ≠ 0 → tz m < (Dig.st m).size ∧ Dig.dg m (tz m) ≠ 0) := by
  obtain ⟨c, h1, h2, h3, h4⟩ := Dig.trail (Dig.st m)
  have hz : tz m = c := by unfold tz Dig.zc; omega
  rw [hz]
  have hd : ∀ i, i < c → Dig.dg m i = 0 := fun i hi => by
    have := h2 i (by omega) hi
    rw [dg_at (by omega)] at this
    omega
  have hm := dg_all_zero c hd
  refine ⟨h1, hm, fun h0 => ?_⟩
  have hc : c < (Dig.st m).size := by
    rcases Nat.lt_or_ge c (Dig.st m).size with g | g
    · exact g
    · exfalso
      have e : c = (Dig.st m).size := by omega
      have : m < 10 ^ c := (Dig.st_size m c).1 (by omega)
      rw [Nat.mod_eq_of_lt this] at hm
      exact h0 hm
  refine ⟨hc, fun e => h3 hc ?_⟩
  rw [dg_at hc, e]
/-- Without its final zeros. -/
def cut (m : Nat) : Nat := m / 10 ^ tz m
theorem cut_mul (m : Nat) : cut m * 10 ^ tz m = m := by
  unfold cut
  exact Nat.div_mul_cancel (Nat.dvd_of_mod_eq_zero (tz_all m).2.1)
theorem cut_odd {m : Nat} (h : m ≠ 0) : cut m % 10 ≠ 0 := ((tz_all m).2.2 h).2
theorem cut_pos {m : Nat} (h : m ≠ 0) : cut m ≠ 0 := fun k => h (by rw [← cut_mul m, k, Nat.zero_mul])
theorem take_st {m k : Nat} (hk : k ≤ (Dig.st m).size) (h0 : 0 < k) : (Dig.st m).extract 0 k = Dig.st (m / 10 ^ ((Dig.st m).size - k)) := by
  have e : (Dig.st m).extract 0 k = Dig.bs ((Dig.num m).take k) := by
    apply ByteArray.ext
    rw [ByteArray.data_extract]
    apply Array.ext'
    simp [Dig.bs, Dig.st, List.extract_eq_take_drop]
  rw [e]
  unfold Dig.st
  congr 1
  have hl : (Dig.num m).length = (Dig.bs (Dig.num m)).size := (Dig.bs_size _).symm
  have ha : Dig.alld ((Dig.num m).take k) := fun b hb => Dig.num_alld m b (List.mem_of_mem_take hb)
  have hs : Dig.strip ((Dig.num m).take k) = (Dig.num m).take k := by
    have h := Dig.num_strip m
    cases hn : Dig.num m with
    | nil => simp [Dig.strip]
    | cons x t =>
      rw [hn] at h
      obtain ⟨j, rfl⟩ : ∃ j, k = j + 1 := ⟨k - 1, by omega⟩
      rw [List.take_succ_cons]
      unfold Dig.strip at h ⊢
      rw [List.dropWhile_cons] at h ⊢
      by_cases g : (x == 48) = true
      · rw [if_pos g] at h
        have h1 := congrArg List.length h
        have h2 := (List.dropWhile_suffix (l := t) (fun b => b == 48)).length_le
        simp at h1 h2
        omega
      · rw [if_neg g]
  rw [Dig.num_unique ha hs, Dig.num_div, hl]
theorem cut_st {m : Nat} (h : m ≠ 0) : (Dig.st m).extract 0 ((Dig.st m).size - tz m) = Dig.st (cut m) := by
  have := (tz_all m).2.2 h
  rw [take_st (by omega) (by omega)]
  unfold cut
  congr 2
  rw [show (Dig.st m).size - ((Dig.st m).size - tz m) = tz m by omega]
/-- The normal form, or the error. -/
def normR (neg : Bool) (m : Nat) (e : Int) : Dc × Int :=
  if m = 0 then (z0, 0) else if 400 < e + tz m ∨ e + tz m < -400 ∨ ¬ cut m < Dig.big 120 then (z0, 2) else (⟨neg, cut m, e + tz m⟩, 0)
end Dec
end Go.Proofs.YtcnfgcdbjofihaaDoor
