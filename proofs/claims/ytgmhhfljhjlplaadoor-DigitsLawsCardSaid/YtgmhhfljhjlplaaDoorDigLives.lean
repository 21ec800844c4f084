/- Numerals: Sub, and the reference's results; the examples hold; sums, products and quotients of any two numerals. -/
import Derived.Test.YtgmhhfljhjlplaaDoorDigQuoP
import Derived.Test.YtgmhhfljhjlplaaDoorDigMul
namespace Go.Proofs.YtgmhhfljhjlplaaDoor
open Go.RowKit

namespace Dig
theorem lit_st {x : ByteArray} {n : Nat} (h : vld x) (hn : V x = n) : st n = x := by rw [← hn]; exact (vld_st h).1.symm
theorem lit_lim {x : ByteArray} {n : Nat} (h : vld x) (hn : V x = n) : lim n = (x, 0) := by
  unfold lim
  rw [if_pos (by rw [← hn]; exact (vld_st h).2), lit_st h hn]
/-- The difference, or the error. -/
def subR (a b : Nat) : ByteArray × Int := if a < b then (⟨#[]⟩, 2) else (st (a - b), 0)
theorem big600 {a : Nat} (h : vld (st a)) : a < big 600 := (st_size a 600).1 h.1
theorem str_of_vld {a : Nat} (h : vld (st a)) : Str (st a) := vld_str h
theorem len_big {a b : Nat} (ha : a ≠ 0) (hb : b ≠ 0) (h : 601 < (st a).size + (st b).size) : ¬ a * b < big 600 := by
  rw [st_len, st_len] at h
  have h1 := num_len_pos ha
  have h2 := num_len_pos hb
  have h3 : 10 ^ ((num a).length - 1 + ((num b).length - 1)) ≤ a * b := by rw [Nat.pow_add]; exact Nat.mul_le_mul h1 h2
  have h4 : big 600 ≤ 10 ^ ((num a).length - 1 + ((num b).length - 1)) := big_le (by omega)
  omega
theorem st_zero : st 0 = ⟨#[]⟩ := by unfold st; rw [num_zero]; rfl
theorem st_pos {a : Nat} (h : a ≠ 0) : 0 < (st a).size := by
  rw [st_len]
  exact Nat.pos_of_ne_zero (fun k => h (num_nil.1 (List.eq_nil_of_length_eq_zero k)))
end Dig

theorem short_yes {x : ByteArray} (h : x.size ≤ 600) (w : World) :
    Calls Tryd.prog 37 #[.string x] w fun e w' => e = .returned (.tuple #[.string x, .int .i64 0]) ∧ w = w' := by
  have d1 : decide (600 < (x.size : Int)) = false := decide_eq_false (by omega)
  clear h
  go_enter Tryd.func37, Tryd.ntmps37
  go_wp2
  go_ret2
  exact ⟨rfl, rfl⟩
theorem short_no {x : ByteArray} (h : ¬ x.size ≤ 600) (w : World) :
    Calls Tryd.prog 37 #[.string x] w fun e w' => e = .returned (.tuple #[.string ⟨#[]⟩, .int .i64 2]) ∧ w = w' := by
  have d1 : decide (600 < (x.size : Int)) = true := decide_eq_true (by omega)
  clear h
  go_enter Tryd.func37, Tryd.ntmps37
  go_wp2
  go_ret2
  exact ⟨rfl, rfl⟩
theorem short_any (v : Nat) (w : World) :
    Calls Tryd.prog 37 #[.string (Dig.st v)] w fun e w' => e = .returned (.tuple #[.string (Dig.lim v).1, .int .i64 (Dig.lim v).2]) ∧ w = w' := by
  unfold Dig.lim
  by_cases h : v < Dig.big 600
  · rw [if_pos h]; exact short_yes ((Dig.st_size v 600).2 h) w
  · rw [if_neg h]; exact short_no (fun g => h ((Dig.st_size v 600).1 g)) w
theorem addS {a b : Nat} (ha : Dig.vld (Dig.st a)) (hb : Dig.vld (Dig.st b)) (w : World) :
    Calls Tryd.prog 16 #[.string (Dig.st a), .string (Dig.st b)] w fun e w' => e = .returned (.tuple #[.string (Dig.lim (a + b)).1, .int .i64 (Dig.lim (a + b)).2]) ∧ Below w.heap.size w w' := by
  have := add_any ha hb w
  rwa [Dig.V_st, Dig.V_st] at this
theorem mulS {a b : Nat} (ha : Dig.vld (Dig.st a)) (hb : Dig.vld (Dig.st b)) (w : World) :
    Calls Tryd.prog 12 #[.string (Dig.st a), .string (Dig.st b)] w fun e w' => e = .returned (.tuple #[.string (Dig.lim (a * b)).1, .int .i64 (Dig.lim (a * b)).2]) ∧ Below w.heap.size w w' := by
  have := mul_any ha hb w
  rwa [Dig.V_st, Dig.V_st] at this
theorem quoS {a b : Nat} (ha : Dig.vld (Dig.st a)) (hb : Dig.vld (Dig.st b)) (h : 0 < b) (w : World) :
    Calls Tryd.prog 14 #[.string (Dig.st a), .string (Dig.st b)] w fun e w' => e = .returned (.tuple #[.string (Dig.st (a / b)), .string (Dig.st (a % b)), .int .i64 0]) ∧ Below w.heap.size w w' := by
  have := quo_any ha hb h w
  rwa [Dig.V_st] at this
theorem rquoS {a b : Nat} (ha : Dig.vld (Dig.st a)) (hb : Dig.vld (Dig.st b)) (h : 0 < b) (w : World) :
    Calls Tryd.prog 15 #[.string (Dig.st a), .string (Dig.st b)] w fun e w' => e = .returned (.tuple #[.string (Dig.st (a / b)), .string (Dig.st (a % b)), .int .i64 0]) ∧ Below w.heap.size w w' := by
  have := rquo_any (Dig.vld_str ha) (Nat.lt_of_lt_of_le (Dig.big600 hb) (Dig.big_le (by omega))) h w
  rwa [Dig.V_st] at this
theorem quo_none (a : ByteArray) (w : World) :
    Calls Tryd.prog 14 #[.string a, .string ⟨#[]⟩] w fun e w' => e = .returned (.tuple #[.string ⟨#[]⟩, .string ⟨#[]⟩, .int .i64 14]) ∧ Below w.heap.size w w' := by
  go_enter Tryd.func14, Tryd.ntmps14
  go_wp2
  go_ret3
  exact ⟨rfl, Below.refl _ _⟩
theorem rquo_none (a : ByteArray) (w : World) :
    Calls Tryd.prog 15 #[.string a, .string ⟨#[]⟩] w fun e w' => e = .returned (.tuple #[.string ⟨#[]⟩, .string ⟨#[]⟩, .int .i64 14]) ∧ Below w.heap.size w w' := by
  go_enter Tryd.func15, Tryd.ntmps15
  go_wp2
  go_ret3
  exact ⟨rfl, Below.refl _ _⟩

theorem sub_any {a b : Nat} (ha : Dig.vld (Dig.st a)) (hb : Dig.vld (Dig.st b)) (w : World) :
    Calls Tryd.prog 17 #[.string (Dig.st a), .string (Dig.st b)] w fun e w' => e = .returned (.tuple #[.string (Dig.subR a b).1, .int .i64 (Dig.subR a b).2]) ∧ Below w.heap.size w w' := by
  have VA := Lib.hid (valid_any (Dig.vld_str ha).max)
  have VB := Lib.hid (valid_any (Dig.vld_str hb).max)
  rw [decide_eq_true ha] at VA
  rw [decide_eq_true hb] at VB
  have HC := Lib.hid (cmp_any (Dig.vld_str ha) (Dig.vld_str hb))
  unfold Dig.subR
  by_cases h : a < b
  · rw [if_pos h]
    rw [Dig.cmp_no h] at HC
    generalize Dig.st a = x at *
    generalize Dig.st b = y at *
    clear ha hb h
    go_enter Tryd.func17, Tryd.ntmps17
    go_wp2_with fail
    refine (VA.out _).mono ?_; rintro _ w' ⟨rfl, rfl⟩
    go_wp2_with fail
    refine (VB.out _).mono ?_; rintro _ w' ⟨rfl, rfl⟩
    go_wp2_with fail
    refine (HC.out _).mono ?_; rintro _ w' ⟨rfl, rfl⟩
    go_wp2
    go_ret2
    exact ⟨rfl, Below.refl _ _⟩
  · rw [if_neg h]
    have hm : ∀ w, Calls Tryd.prog 40 #[.string (Dig.st a), .string (Dig.st b)] w fun e w' => e = .returned (.string (Dig.st (a - b))) ∧ Below w.heap.size w w' := fun w => by
      have := minus_any (Dig.vld_str ha) (Dig.vld_str hb) (by rw [Dig.V_st, Dig.V_st]; omega) w
      rwa [Dig.V_st, Dig.V_st] at this
    have HM := Lib.hid hm
    clear hm
    have hge := Dig.cmp_ge (a := a) (b := b) (by omega)
    have hle := Dig.cmp_le1 a b
    generalize Dig.cmp a b = c at *
    generalize Dig.st (a - b) = z at *
    generalize Dig.st a = x at *
    generalize Dig.st b = y at *
    clear ha hb h
    go_enter Tryd.func17, Tryd.ntmps17
    go_wp2_with fail
    refine (VA.out _).mono ?_; rintro _ w' ⟨rfl, rfl⟩
    go_wp2_with fail
    refine (VB.out _).mono ?_; rintro _ w' ⟨rfl, rfl⟩
    go_wp2_with fail
    refine (HC.out _).mono ?_; rintro _ w' ⟨rfl, rfl⟩
    go_wp2_with fail
    refine (HM.out _).mono ?_; rintro _ w' ⟨rfl, hb⟩
    go_wp2
    go_ret2
    exact ⟨rfl, hb⟩
theorem rsub_any {a b : Nat} (ha : Dig.vld (Dig.st a)) (hb : Dig.vld (Dig.st b)) (w : World) :
    Calls Tryd.prog 19 #[.string (Dig.st a), .string (Dig.st b)] w fun e w' => e = .returned (.tuple #[.string (Dig.subR a b).1, .int .i64 (Dig.subR a b).2]) ∧ Below w.heap.size w w' := by
  have HC := Lib.hid (rcmp_any (Dig.vld_str ha) (Dig.vld_str hb))
  unfold Dig.subR
  by_cases h : a < b
  · rw [if_pos h]
    rw [Dig.cmp_no h] at HC
    generalize Dig.st a = x at *
    generalize Dig.st b = y at *
    clear ha hb h
    go_enter Tryd.func19, Tryd.ntmps19
    go_wp2_with fail
    refine (HC.out _).mono ?_; rintro _ w' ⟨rfl, rfl⟩
    go_wp2
    go_ret2
    exact ⟨rfl, Below.refl _ _⟩
  · rw [if_neg h]
    have hm : ∀ w, Calls Tryd.prog 42 #[.string (Dig.st a), .string (Dig.st b)] w fun e w' => e = .returned (.string (Dig.st (a - b))) ∧ Below w.heap.size w w' := fun w => by
      have := rless_any (Dig.vld_str ha) (Dig.vld_str hb) (by rw [Dig.V_st, Dig.V_st]; omega) w
      rwa [Dig.V_st, Dig.V_st] at this
    have HM := Lib.hid hm
    clear hm
    have hge := Dig.cmp_ge (a := a) (b := b) (by omega)
    have hle := Dig.cmp_le1 a b
    generalize Dig.cmp a b = c at *
    generalize Dig.st (a - b) = z at *
    generalize Dig.st a = x at *
    generalize Dig.st b = y at *
    clear ha hb h
    go_enter Tryd.func19, Tryd.ntmps19
    go_wp2_with fail
    refine (HC.out _).mono ?_; rintro _ w' ⟨rfl, rfl⟩
    go_wp2_with fail
    refine (HM.out _).mono ?_; rintro _ w' ⟨rfl, hb⟩
    go_wp2
    go_ret2
    exact ⟨rfl, hb⟩
theorem radd_any {a b : Nat} (ha : Dig.vld (Dig.st a)) (hb : Dig.vld (Dig.st b)) (w : World) :
    Calls Tryd.prog 18 #[.string (Dig.st a), .string (Dig.st b)] w fun e w' => e = .returned (.tuple #[.string (Dig.lim (a + b)).1, .int .i64 (Dig.lim (a + b)).2]) ∧ Below w.heap.size w w' := by
  have H1 := Lib.hid (rsum_any (Dig.vld_str ha) (Dig.vld_str hb))
  rw [Dig.V_st, Dig.V_st] at H1
  have H2 := Lib.hid (short_any (a + b))
  generalize Dig.lim (a + b) = R at *
  obtain ⟨r1, r2⟩ := R
  dsimp only at H2 ⊢
  go_enter Tryd.func18, Tryd.ntmps18
  go_wp2_with fail
  refine (H1.out _).mono ?_; rintro _ w' ⟨rfl, hb1⟩
  go_wp2_with fail
  refine (H2.out _).mono ?_; rintro _ w' ⟨rfl, rfl⟩
  go_wp2
  go_ret2
  exact ⟨rfl, hb1⟩
theorem rmul_any {a b : Nat} (ha : Dig.vld (Dig.st a)) (hb : Dig.vld (Dig.st b)) (w : World) :
    Calls Tryd.prog 13 #[.string (Dig.st a), .string (Dig.st b)] w fun e w' => e = .returned (.tuple #[.string (Dig.lim (a * b)).1, .int .i64 (Dig.lim (a * b)).2]) ∧ Below w.heap.size w w' := by
  have H1 := Lib.hid (rtimes_any (Dig.vld_str ha) (Dig.vld_str hb))
  rw [Dig.V_st, Dig.V_st] at H1
  have H2 := Lib.hid (short_any (a * b))
  have za := ha.1
  have zb := hb.1
  have L : Hid (601 < (Dig.st a).size + (Dig.st b).size → 0 < (Dig.st a).size → 0 < (Dig.st b).size → Dig.lim (a * b) = (⟨#[]⟩, 2)) := Lib.hid (fun h pa pb => by
    unfold Dig.lim
    rw [if_neg (Dig.len_big (fun k => by rw [k, Dig.st_zero] at pa; exact absurd pa (by decide)) (fun k => by rw [k, Dig.st_zero] at pb; exact absurd pb (by decide)) h)])
  generalize Dig.lim (a * b) = R at *
  obtain ⟨r1, r2⟩ := R
  dsimp only at H2 ⊢
  generalize Dig.st (a * b) = z at *
  generalize Dig.st a = x at *
  generalize Dig.st b = y at *
  clear ha hb
  by_cases h : 0 < x.size ∧ 0 < y.size ∧ 601 < x.size + y.size
  · obtain ⟨h1, h2, h3⟩ := h
    have e := L.out h3 h1 h2
    obtain ⟨rfl, rfl⟩ := Prod.mk.inj e
    have d3 : decide ((601 : Int) < (x.size : Int) + y.size) = true := decide_eq_true (by omega)
    have d4 : decide (601 < x.size + y.size) = true := decide_eq_true h3
    clear e L
    go_enter Tryd.func13, Tryd.ntmps13
    go_wp2
    go_ret2
    exact ⟨rfl, Below.refl _ _⟩
  · have hc : x.size = 0 ∨ (0 < x.size ∧ y.size = 0) ∨ (0 < x.size ∧ 0 < y.size ∧ ¬ 601 < x.size + y.size) := by omega
    clear L
    rcases hc with h0 | ⟨h0, h1⟩ | ⟨h0, h1, h2⟩
    · have d1 : decide (0 < x.size) = false := decide_eq_false (by omega)
      have d2 : decide ((0 : Int) < x.size) = false := decide_eq_false (by omega)
      clear h h0
      go_enter Tryd.func13, Tryd.ntmps13
      go_wp2_with fail
      refine (H1.out _).mono ?_; rintro _ w' ⟨rfl, hb1⟩
      go_wp2_with fail
      refine (H2.out _).mono ?_; rintro _ w' ⟨rfl, rfl⟩
      go_wp2
      go_ret2
      exact ⟨rfl, hb1⟩
    · have d1 : decide (0 < y.size) = false := decide_eq_false (by omega)
      have d2 : decide ((0 : Int) < y.size) = false := decide_eq_false (by omega)
      clear h h1
      go_enter Tryd.func13, Tryd.ntmps13
      go_wp2_with fail
      refine (H1.out _).mono ?_; rintro _ w' ⟨rfl, hb1⟩
      go_wp2_with fail
      refine (H2.out _).mono ?_; rintro _ w' ⟨rfl, rfl⟩
      go_wp2
      go_ret2
      exact ⟨rfl, hb1⟩
    · have d3 : decide ((601 : Int) < (x.size : Int) + y.size) = false := decide_eq_false (by omega)
      have d4 : decide (601 < x.size + y.size) = false := decide_eq_false h2
      clear h h2
      go_enter Tryd.func13, Tryd.ntmps13
      go_wp2_with fail
      refine (H1.out _).mono ?_; rintro _ w' ⟨rfl, hb1⟩
      go_wp2_with fail
      refine (H2.out _).mono ?_; rintro _ w' ⟨rfl, rfl⟩
      go_wp2
      go_ret2
      exact ⟨rfl, hb1⟩

/-! ### the examples -/
theorem dig_lives (w : World) : Calls Tryd.prog 11 #[] w fun e w' => e = .returned (.bool true) ∧ Below w.heap.size w w' := by
  have H1 := Lib.hid (add_any (a := ⟨#[57, 57, 57]⟩) (b := ⟨#[49]⟩) (by decide) (by decide))
  rw [show Dig.V ⟨#[57, 57, 57]⟩ + Dig.V ⟨#[49]⟩ = 1000 by decide, Dig.lit_lim (x := ⟨#[49, 48, 48, 48]⟩) (n := 1000) (by decide) (by decide)] at H1
  have H2 := Lib.hid (mul_any (a := ⟨#[49, 50]⟩) (b := ⟨#[49, 50]⟩) (by decide) (by decide))
  rw [show Dig.V ⟨#[49, 50]⟩ * Dig.V ⟨#[49, 50]⟩ = 144 by decide, Dig.lit_lim (x := ⟨#[49, 52, 52]⟩) (n := 144) (by decide) (by decide)] at H2
  have e7 := Dig.lit_st (x := ⟨#[55]⟩) (n := 7) (by decide) (by decide)
  have H3 := Lib.hid (quo_any (a := ⟨#[49, 48, 48]⟩) (B := 7) (by decide) (by rw [e7]; decide) (by decide))
  rw [e7, show Dig.V ⟨#[49, 48, 48]⟩ / 7 = 14 by decide, show Dig.V ⟨#[49, 48, 48]⟩ % 7 = 2 by decide, Dig.lit_st (x := ⟨#[49, 52]⟩) (n := 14) (by decide) (by decide), Dig.lit_st (x := ⟨#[50]⟩) (n := 2) (by decide) (by decide)] at H3
  dsimp only at H1 H2
  clear e7
  go_enter Tryd.func11, Tryd.ntmps11
  go_wp2_with fail
  refine (H1.out _).mono ?_; rintro _ w1 ⟨rfl, hb1⟩
  go_wp2_with fail
  refine (H2.out _).mono ?_; rintro _ w2 ⟨rfl, hb2⟩
  go_wp2_with fail
  refine (H3.out _).mono ?_; rintro _ w3 ⟨rfl, hb3⟩
  go_wp2
  go_ret
  exact ⟨rfl, below_then (below_then hb1 hb2) hb3⟩
theorem vst {a : ByteArray} (h : Dig.vld a) : ∃ A, a = Dig.st A := ⟨_, (Dig.vld_st h).1⟩
end Go.Proofs.YtgmhhfljhjlplaaDoor
