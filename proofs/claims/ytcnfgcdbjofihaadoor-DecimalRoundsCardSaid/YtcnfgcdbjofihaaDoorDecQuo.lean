/- Decimals: rounded quotients, plain; when a quotient is made greater. -/
import Derived.Test.YtcnfgcdbjofihaaDoorDecMulR
import Derived.Deep.DeepCutAuto
namespace Go.Proofs.YtcnfgcdbjofihaaDoor
open Go.RowKit

theorem B3.drewN {w W : World} {n n' : Bool} {x y : ByteArray} {e e' : Int} (h : B3 w W n x e n' y e') (k : Nat) : B3 w (W.drewN k) n x e n' y e' := ⟨h.one, h.two, h.res, ⟨h.below.os, h.below.tape, h.below.output, h.below.size, h.below.block⟩⟩
namespace Dec
/-- Is a quotient that is cut to be made greater by one? -/
def upR (mode : Int) (neg odd : Bool) (half : Int) : Bool :=
  if mode = 0 then neg else if mode = 1 then !neg else if mode = 2 then false else if mode = 3 then (decide (0 < half) || (half == 0 && odd)) else decide (0 ≤ half)
def oddR (q : Nat) : Bool := decide (q % 2 = 1)
def qX (a b : Dc) (pl : Int) : Nat := a.m * 10 ^ (a.e - b.e + pl).toNat
def qY (a b : Dc) (pl : Int) : Nat := b.m * 10 ^ (-(a.e - b.e + pl)).toNat
def qup (mode : Int) (neg : Bool) (X Y : Nat) : Nat := if X % Y ≠ 0 ∧ upR mode neg (oddR (X / Y)) (Dig.cmp (X % Y + X % Y) Y) = true then X / Y + 1 else X / Y
/-- The rounded quotient. -/
def quoR (a b : Dc) (pl mode : Int) : Dc × Int :=
  if mode < 0 ∨ 4 < mode ∨ pl < -400 ∨ 400 < pl then (z0, 1) else if b.m = 0 then (z0, 14) else normR (a.neg != b.neg) (qup mode (a.neg != b.neg) (qX a b pl) (qY a b pl)) (-pl)
theorem lt_scale {m j k : Nat} (h : m < Dig.big j) (hk : k ≤ 1200) : m * 10 ^ k < Dig.big (j + 1200) := by
  have h1 : m * 10 ^ k < Dig.big j * 10 ^ k := Nat.mul_lt_mul_of_pos_right h (Nat.pow_pos (by omega))
  have h2 : Dig.big j * 10 ^ k ≤ Dig.big (j + 1200) := by
    unfold Dig.big
    rw [← Nat.pow_add]
    exact Nat.pow_le_pow_right (by omega) (by omega)
  omega
theorem quo_lt {a b : Dc} (ha : ok a) (hb : ok b) (h0 : b.m ≠ 0) {pl : Int} (h1 : -400 ≤ pl) (h2 : pl ≤ 400) : qX a b pl < Dig.big 1320 ∧ qY a b pl < Dig.big 1320 ∧ 0 < qY a b pl := by
  obtain ⟨a1, a2, a3, _⟩ := ok_all ha
  obtain ⟨b1, b2, b3, _⟩ := ok_all hb
  unfold qX qY
  exact ⟨lt_scale (ok_lt ha) (by omega), lt_scale (ok_lt hb) (by omega), Nat.mul_pos (Nat.pos_of_ne_zero h0) (Nat.pow_pos (by omega))⟩
theorem qup_lt {mode : Int} {neg : Bool} {X Y : Nat} (h : X < Dig.big 1320) : qup mode neg X Y < Dig.big 1321 := by
  have : X / Y ≤ X := Nat.div_le_self _ _
  have := Dig.sum_lt h (show 1 < Dig.big 1320 from Nat.lt_of_lt_of_le (by unfold Dig.big; decide) (Dig.big_le (show 1 ≤ 1320 by omega)))
  rw [show 1320 + 1 = 1321 from rfl] at this
  unfold qup
  split <;> omega
theorem neg_toNat {i : Int} (h : i ≤ 0) : (10 : Nat) ^ i.toNat = 1 := by rw [show i.toNat = 0 by omega, Nat.pow_zero]
end Dec

set_option maxHeartbeats 1000000 in
theorem rounds_any (mode : Int) (h1 : 0 ≤ mode) (h2 : mode ≤ 4) (neg odd : Bool) (half : Int) (w : World) :
    Calls Tryd.prog 84 #[.int .i64 mode, .bool neg, .bool odd, .int .i64 half] w fun e w' => e = .returned (.bool (Dec.upR mode neg odd half)) ∧ w = w' := by
  unfold Dec.upR
  rcases (by omega : mode = 0 ∨ mode = 1 ∨ mode = 2 ∨ mode = 3 ∨ mode = 4) with rfl | rfl | rfl | rfl | rfl
  · rw [if_pos rfl]
    go_enter Tryd.func84, Tryd.ntmps84
    go_wp2
    go_ret
    exact ⟨rfl, rfl⟩
  · rw [if_neg (by decide), if_pos rfl]
    go_enter Tryd.func84, Tryd.ntmps84
    go_wp2
    go_ret
    exact ⟨rfl, rfl⟩
  · rw [if_neg (by decide), if_neg (by decide), if_pos rfl]
    go_enter Tryd.func84, Tryd.ntmps84
    go_wp2
    go_ret
    exact ⟨rfl, rfl⟩
  · rw [if_neg (by decide), if_neg (by decide), if_neg (by decide), if_pos rfl]
    by_cases c1 : 0 < half
    · have d1 : decide (0 < half) = true := decide_eq_true c1
      rw [d1]
      clear c1
      go_enter Tryd.func84, Tryd.ntmps84
      go_wp2
      go_ret
      exact ⟨rfl, rfl⟩
    · have d1 : decide (0 < half) = false := decide_eq_false c1
      rw [d1]
      by_cases c2 : half = 0
      · subst c2
        clear c1 d1
        cases odd
        all_goals
          go_enter Tryd.func84, Tryd.ntmps84
          go_wp2
          go_ret
          exact ⟨rfl, rfl⟩
      · have d2 : (half == 0) = false := by simpa using c2
        rw [d2]
        clear c1 c2
        go_enter Tryd.func84, Tryd.ntmps84
        go_wp2
        go_ret
        exact ⟨rfl, rfl⟩
  · rw [if_neg (by decide), if_neg (by decide), if_neg (by decide), if_neg (by decide)]
    go_enter Tryd.func84, Tryd.ntmps84
    go_wp2
    go_ret
    exact ⟨rfl, rfl⟩

theorem last_digit {q : Nat} (h : q ≠ 0) : ∃ k : Nat, ∃ hk : k < (Dig.st q).size, ((Dig.st q).size : Int) - 1 = k ∧ (Dig.st q)[k].toNat = 48 + q % 10 := by
  have hp := Dec.st_pos h
  refine ⟨(Dig.st q).size - 1, by omega, by omega, ?_⟩
  have := Dec.dg_at (m := q) (i := 0) hp
  simp only [Nat.sub_zero] at this
  rw [this]
  unfold Dig.dg
  rw [Nat.pow_zero, Nat.div_one]
theorem odd_last (q : Nat) : (((q % 10 : Nat) : Int) % 2 == 1) = Dec.oddR q := by
  unfold Dec.oddR
  by_cases h : q % 2 = 1
  · rw [decide_eq_true h, beq_iff_eq]; omega
  · rw [decide_eq_false h, beq_eq_false_iff_ne]; omega

set_option maxHeartbeats 1000000 in
theorem up_none (neg : Bool) (q y : ByteArray) (mode : Int) (w : World) :
    Calls Tryd.prog 86 #[.bool neg, .string q, .string ⟨#[]⟩, .string y, .int .i64 mode] w fun e w' => e = .returned (.bool false) ∧ Below w.heap.size w w' := by
  go_enter Tryd.func86, Tryd.ntmps86
  go_wp2
  go_ret
  exact ⟨rfl, Below.refl _ _⟩
theorem up_odd (q : Nat) : Hid ((q = 0 ∧ Dec.oddR q = false) ∨ (q ≠ 0 ∧ ∃ k : Nat, ∃ hk : k < (Dig.st q).size, ((Dig.st q).size : Int) - 1 = k ∧ ((Dig.st q)[k].toNat = 48 + q % 10))) := Lib.hid (by
  by_cases h : q = 0
  · subst h; exact Or.inl ⟨rfl, rfl⟩
  · exact Or.inr ⟨h, last_digit h⟩)
set_option maxHeartbeats 2000000 in
set_option maxRecDepth 100000 in
theorem up_some (neg : Bool) {q r Y : Nat} (hq : (Dig.st q).size ≤ 2000) (hr : (Dig.st r).size ≤ 2000) (hY : (Dig.st Y).size ≤ 2000) (h0 : r ≠ 0) (mode : Int) (h1 : 0 ≤ mode) (h2 : mode ≤ 4) (w : World) :
    Calls Tryd.prog 86 #[.bool neg, .string (Dig.st q), .string (Dig.st r), .string (Dig.st Y), .int .i64 mode] w fun e w' => e = .returned (.bool (Dec.upR mode neg (Dec.oddR q) (Dig.cmp (r + r) Y))) ∧ Below w.heap.size w w' := by
  have hrr : (Dig.st (r + r)).size ≤ 2001 := (Dig.st_size _ 2001).2 (Dig.sum_lt ((Dig.st_size r 2000).1 hr) ((Dig.st_size r 2000).1 hr))
  have HS := Lib.hid (fun w => by have := rsum_any (Dec.str_st (m := r) (by omega)) (Dec.str_st (m := r) (by omega)) w; rwa [Dig.V_st] at this)
  have HC := Lib.hid (rcmp_any (Dec.str_st (m := r + r) (by omega)) (Dec.str_st (m := Y) (by omega)))
  have ne := Dig.some_of (Dec.st_pos h0)
  have HO := up_odd q
  have OL := Lib.hid (odd_last q)
  generalize Dig.cmp (r + r) Y = half at *
  generalize Dig.st (r + r) = s at *
  generalize Dig.st r = t at *
  generalize Dig.st Y = y at *
  clear h0 hrr hr hY
  obtain ⟨R, hR⟩ : ∃ R, Dec.upR mode neg (Dec.oddR q) half = R := ⟨_, rfl⟩
  rw [hR]
  have HR := Lib.hid hR
  clear hR
  go_enter Tryd.func86, Tryd.ntmps86
  go_wp2_with fail
  refine (HS.out _).mono ?_; rintro _ w1 ⟨rfl, hb1⟩
  go_wp2_with fail
  refine (HC.out _).mono ?_; rintro _ w2 ⟨rfl, rfl⟩
  clear HS HC ne
  go_upto_region 4 with fail
  go_cut [12] (fun t wx => t = .bool (Dec.oddR q) ∧ wx = w1)
  case first =>
    rcases HO.out with ⟨rfl, ho⟩ | ⟨hq0, k, hk, hk1, hk2⟩
    · have e0 : (Dig.st 0).toList.isEmpty = true := Dig.nil_of (by rw [Dec.st0]; rfl)
      clear OL HR
      have hoh := Lib.hid ho
      clear ho
      go_wp2_with fail
      go_meet
      exact ⟨by rw [hoh.out], rfl⟩
    · have ne := Dig.some_of (Dec.st_pos hq0)
      have hol := OL.out
      clear HR OL HO
      generalize Dec.oddR q = od at *
      have hm := Nat.mod_lt q (show 0 < 10 by omega)
      generalize q % 10 = c at *
      clear hq0
      generalize Dig.st q = x at *
      have hkn : (k : Int) < x.size := by omega
      have hk0 : (0 : Int) ≤ k := by omega
      have c0 : (0 : Int) ≤ c := by omega
      have c9 : (c : Int) ≤ 9 := by omega
      have e1 : (x[k].toNat : Int) - 48 = c := by omega
      have b1 : 48 ≤ x[k].toNat := by omega
      have b2 : x[k].toNat ≤ 57 := by omega
      clear hk2 hm
      go_wp2_with fail
      go_meet
      exact ⟨rfl, rfl⟩
  case rest =>
  obtain ⟨rfl, rfl⟩ := hcut
  clear HO OL
  generalize Dec.oddR q = od at *
  generalize Dig.st q = x at *
  have hR := HR.out
  unfold Dec.upR at hR
  rcases (by omega : mode = 0 ∨ mode = 1 ∨ mode = 2 ∨ mode = 3 ∨ mode = 4) with rfl | rfl | rfl | rfl | rfl
  · rw [if_pos rfl] at hR
    subst hR
    clear HR
    go_wp2
    go_ret
    exact ⟨rfl, hb1⟩
  · rw [if_neg (by decide), if_pos rfl] at hR
    subst hR
    clear HR
    go_wp2
    go_ret
    exact ⟨rfl, hb1⟩
  · rw [if_neg (by decide), if_neg (by decide), if_pos rfl] at hR
    subst hR
    clear HR
    go_wp2
    go_ret
    exact ⟨rfl, hb1⟩
  · rw [if_neg (by decide), if_neg (by decide), if_neg (by decide), if_pos rfl] at hR
    clear HR
    by_cases c1 : 0 < half
    · have d1 : decide (0 < half) = true := decide_eq_true c1
      rw [d1] at hR
      subst hR
      clear c1
      go_wp2
      go_ret
      exact ⟨rfl, hb1⟩
    · have d1 : decide (0 < half) = false := decide_eq_false c1
      rw [d1] at hR
      by_cases c2 : half = 0
      · subst c2
        clear c1 d1
        cases od
        all_goals
          subst hR
          go_wp2
          go_ret
          exact ⟨rfl, hb1⟩
      · have d2 : (half == 0) = false := by simpa using c2
        rw [d2] at hR
        subst hR
        clear c1 c2
        go_wp2
        go_ret
        exact ⟨rfl, hb1⟩
  · rw [if_neg (by decide), if_neg (by decide), if_neg (by decide), if_neg (by decide)] at hR
    subst hR
    clear HR
    go_wp2
    go_ret
    exact ⟨rfl, hb1⟩
end Go.Proofs.YtcnfgcdbjofihaaDoor
