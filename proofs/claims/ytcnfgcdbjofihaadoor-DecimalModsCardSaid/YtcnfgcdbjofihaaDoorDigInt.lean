/- Numerals: ints of numerals. -/
import Derived.Test.YtcnfgcdbjofihaaDoorDigQuo
namespace Go.Proofs.YtcnfgcdbjofihaaDoor
open Go.RowKit

namespace Dig
/-- A numeral as an int. -/
def intR (a : Nat) : Int × Int := if a ≤ 9223372036854775807 then (a, 0) else (0, 2)
theorem pre_le (A n i : Nat) : pre A n i ≤ A := Nat.div_le_self _ _
theorem less_st {a b : Nat} (h : (st a).size = (st b).size) : Op.bytesLess (st a).toList (st b).toList = decide (a < b) := by
  have el : (num a).length = (num b).length := by rw [← st_len, ← st_len]; exact h
  rw [less_dec, Lib.toList_data, Lib.toList_data, decide_eq_decide]
  have := num_lex el
  rw [← l_st, ← l_st] at this
  exact this
theorem str_at {a : Nat} (sa : Str (st a)) {i : Nat} (hi : i < (st a).size) : (st a)[i].toNat = 48 + dg a ((st a).size - 1 - i) := by
  have e := str_dg sa (i := (st a).size - 1 - i) (by omega)
  have ei : (st a).size - 1 - ((st a).size - 1 - i) = i := by omega
  simp only [ei] at e
  rw [V_st] at e
  exact e
theorem eq_st {a b : Nat} : ((st a).toList == (st b).toList) = decide (a = b) := by
  rw [Lib.toList_data, Lib.toList_data, Bool.eq_iff_iff, beq_iff_eq, decide_eq_true_iff]
  constructor
  · intro h
    have := l_st a
    have h2 := l_st b
    unfold l at this h2
    rw [h, h2] at this
    exact (num_inj this).symm
  · rintro rfl; rfl
def mx : ByteArray := ⟨#[57, 50, 50, 51, 51, 55, 50, 48, 51, 54, 56, 53, 52, 55, 55, 53, 56, 48, 55]⟩
theorem mx_st : mx = st 9223372036854775807 := by
  have := (vld_st (x := mx) (by decide)).1
  rwa [show V mx = 9223372036854775807 by decide] at this
theorem mx_list : mx.toList = [57, 50, 50, 51, 51, 55, 50, 48, 51, 54, 56, 53, 52, 55, 55, 53, 56, 48, 55] := by rw [Lib.toList_data]; rfl
theorem long_big {a : Nat} (h : 19 < (st a).size) : 9223372036854775807 < a := by
  rw [st_len] at h
  have h0 : a ≠ 0 := fun k => by rw [k, num_zero] at h; simp at h
  have h1 := num_len_pos h0
  have h2 : 10 ^ 19 ≤ 10 ^ ((num a).length - 1) := Nat.pow_le_pow_right (by omega) (by omega)
  omega
theorem short_small {a : Nat} (h : (st a).size < 19) : a ≤ 9223372036854775807 := by
  have := (st_size a 18).1 (by omega)
  have e : big 18 = 1000000000000000000 := by unfold big; rfl
  omega
end Dig

set_option maxHeartbeats 2000000 in
theorem toInt_any {a : Nat} (h : Dig.vld (Dig.st a)) (w : World) :
    Calls Tryd.prog 81 #[.string (Dig.st a)] w fun e w' => e = .returned (.tuple #[.int .i64 (Dig.intR a).1, .int .i64 (Dig.intR a).2]) ∧ w = w' := by
  have sa := Dig.vld_str h
  have VA := Lib.hid (valid_any sa.max)
  rw [decide_eq_true h] at VA
  have za := h.1
  have HS := Lib.hid (fun (i : Nat) (hi : i < (Dig.st a).size) => Dig.pre_step a hi)
  have HD := Lib.hid (fun (i : Nat) (hi : i < (Dig.st a).size) => Dig.str_at sa hi)
  have P0 := Lib.hid (Dig.pre_zero (A := a) (n := (Dig.st a).size) (by have := Dig.V_lt sa; rwa [Dig.V_st] at this))
  have PE := Lib.hid (Dig.pre_end a (Dig.st a).size)
  have PL := Lib.hid (fun i => Dig.pre_le a (Dig.st a).size i)
  have DL := Lib.hid (fun i => Dig.dg_lt a i)
  have HR : Hid ((a ≤ 9223372036854775807 → Dig.intR a = ((a : Int), 0)) ∧ (9223372036854775807 < a → Dig.intR a = (0, 2))) := Lib.hid ⟨fun g => by unfold Dig.intR; rw [if_pos g], fun g => by unfold Dig.intR; rw [if_neg (by omega)]⟩
  generalize Dig.intR a = R at *
  obtain ⟨r1, r2⟩ := R
  dsimp only
  generalize hx : Dig.st a = x at *
  clear hx sa h
  go_enter Tryd.func81, Tryd.ntmps81
  go_wp2_with fail
  refine (VA.out _).mono ?_; rintro _ w' ⟨rfl, rfl⟩
  go_wp2_with fail
  clear VA
  go_loop [4, 12] (fun n i => ∃ k : Nat, k ≤ x.size ∧ i = .int .i64 k ∧ n = .int .i64 (Dig.pre a x.size k) ∧ Dig.pre a x.size k ≤ 9223372036854775807) (fun _ i => x.size - (intOf i).toNat)
  case atStart => exact ⟨0, Nat.zero_le _, rfl, by rw [P0.out]; rfl, by rw [P0.out]; omega⟩
  case round =>
    obtain ⟨k, hk, rfl, rfl, hp⟩ := hrel
    have hk0 : (0 : Int) ≤ k := by omega
    by_cases hkx : k < x.size
    · have hk2 : (k : Int) < x.size := by omega
      have e := HD.out k hkx
      have hd := DL.out (x.size - 1 - k)
      have HSk := Lib.hid (HS.out k hkx)
      have HLk := Lib.hid (PL.out (k + 1))
      generalize Dig.pre a x.size k = p at *
      generalize Dig.dg a (x.size - 1 - k) = d at *
      have ed : (x[k].toNat : Int) - 48 = d := by omega
      have b1 : 48 ≤ x[k].toNat := by omega
      have b2 : x[k].toNat ≤ 57 := by omega
      clear e
      by_cases ht : (9223372036854775807 - (d : Int)) / 10 < p
      · have t1 : decide ((9223372036854775807 - (d : Int)) / 10 < (p : Int)) = true := decide_eq_true ht
        have hR := HR.out.2 (by have := HSk.out; have := HLk.out; omega)
        obtain ⟨rfl, rfl⟩ := Prod.mk.inj hR
        clear hR ht
        go_wp2
        go_ret2
        exact ⟨rfl, rfl⟩
      · have t1 : decide ((9223372036854775807 - (d : Int)) / 10 < (p : Int)) = false := decide_eq_false ht
        have q1 : (p : Int) * 10 + d ≤ 9223372036854775807 := by omega
        have q2 : (p : Int) * 10 ≤ 9223372036854775807 := by omega
        have q3 : (0 : Int) ≤ (p : Int) * 10 := by omega
        have q4 : (p : Int) ≤ 922337203685477580 := by omega
        clear ht
        go_wp2
        go_round
        case rel => exact ⟨k + 1, by omega, by go_num, int_of (by rw [HSk.out]; omega), by rw [HSk.out]; omega⟩
        case measure => simp [intOf]; omega
    · obtain rfl : k = x.size := by omega
      rw [PE.out] at hp
      have hR := HR.out.1 hp
      obtain ⟨rfl, rfl⟩ := Prod.mk.inj hR
      rw [PE.out]
      clear hR hp
      go_wp2
      go_ret2
      exact ⟨rfl, rfl⟩
theorem toInt_bad {x : ByteArray} (hx : x.size ≤ maxLen) (h : ¬ Dig.vld x) (w : World) :
    Calls Tryd.prog 81 #[.string x] w fun e w' => e = .returned (.tuple #[.int .i64 0, .int .i64 3]) ∧ w = w' := by
  have VA := Lib.hid (valid_any hx)
  rw [decide_eq_false h] at VA
  clear h hx
  go_enter Tryd.func81, Tryd.ntmps81
  go_wp2_with fail
  refine (VA.out _).mono ?_; rintro _ w' ⟨rfl, rfl⟩
  go_wp2
  go_ret2
  exact ⟨rfl, rfl⟩
theorem rtoInt_bad {x : ByteArray} (hx : x.size ≤ maxLen) (h : ¬ Dig.vld x) (w : World) :
    Calls Tryd.prog 83 #[.string x] w fun e w' => e = .returned (.tuple #[.int .i64 0, .int .i64 3]) ∧ w = w' := by
  have VA := Lib.hid (rvalid_any hx)
  rw [decide_eq_false h] at VA
  clear h hx
  go_enter Tryd.func83, Tryd.ntmps83
  go_wp2_with fail
  refine (VA.out _).mono ?_; rintro _ w' ⟨rfl, rfl⟩
  go_wp2
  go_ret2
  exact ⟨rfl, rfl⟩

set_option maxHeartbeats 2000000 in
theorem rtoInt_big {a : Nat} (h : Dig.vld (Dig.st a)) (hb : 9223372036854775807 < a) (w : World) :
    Calls Tryd.prog 83 #[.string (Dig.st a)] w fun e w' => e = .returned (.tuple #[.int .i64 0, .int .i64 2]) ∧ w = w' := by
  have VA := Lib.hid (rvalid_any (Dig.vld_str h).max)
  rw [decide_eq_true h] at VA
  have za := h.1
  by_cases h1 : 19 < (Dig.st a).size
  · have d1 : decide (19 < ((Dig.st a).size : Int)) = true := decide_eq_true (by omega)
    clear h hb h1
    generalize Dig.st a = x at *
    go_enter Tryd.func83, Tryd.ntmps83
    go_wp2_with fail
    refine (VA.out _).mono ?_; rintro _ w' ⟨rfl, rfl⟩
    go_wp2
    go_ret2
    exact ⟨rfl, rfl⟩
  · have h2 : (Dig.st a).size = 19 := by
      rcases Nat.lt_or_ge (Dig.st a).size 19 with g | g
      · have := Dig.short_small g; omega
      · omega
    have d1 : decide (19 < ((Dig.st a).size : Int)) = false := decide_eq_false (by omega)
    have d2 : (((Dig.st a).size : Int) == 19) = true := beq_iff_eq.2 (by omega)
    have l := Dig.less_st (a := a) (b := 9223372036854775807) (by rw [← Dig.mx_st, h2]; rfl)
    have q := Dig.eq_st (a := a) (b := 9223372036854775807)
    rw [decide_eq_false (by omega), ← Dig.mx_st, Dig.mx_list] at l q
    clear h hb h1 h2
    generalize Dig.st a = x at *
    go_enter Tryd.func83, Tryd.ntmps83
    go_wp2_with fail
    refine (VA.out _).mono ?_; rintro _ w' ⟨rfl, rfl⟩
    go_wp2
    go_ret2
    exact ⟨rfl, rfl⟩
set_option maxHeartbeats 4000000 in
theorem rtoInt_ok {a : Nat} (h : Dig.vld (Dig.st a)) (hb : a ≤ 9223372036854775807) (w : World) :
    Calls Tryd.prog 83 #[.string (Dig.st a)] w fun e w' => e = .returned (.tuple #[.int .i64 a, .int .i64 0]) ∧ w = w' := by
  have sa := Dig.vld_str h
  have VA := Lib.hid (rvalid_any sa.max)
  rw [decide_eq_true h] at VA
  have za := h.1
  have h19 : (Dig.st a).size ≤ 19 := Decidable.byContradiction fun g => by have := Dig.long_big (a := a) (by omega); omega
  have HS := Lib.hid (fun (i : Nat) (hi : i < (Dig.st a).size) => Dig.pre_step a hi)
  have HD := Lib.hid (fun (i : Nat) (hi : i < (Dig.st a).size) => Dig.str_at sa hi)
  have P0 := Lib.hid (Dig.pre_zero (A := a) (n := (Dig.st a).size) (by have := Dig.V_lt sa; rwa [Dig.V_st] at this))
  have PE := Lib.hid (Dig.pre_end a (Dig.st a).size)
  have PL := Lib.hid (fun i => Nat.le_trans (Dig.pre_le a (Dig.st a).size i) hb)
  have DL := Lib.hid (fun i => Dig.dg_lt a i)
  have d1 : decide (19 < ((Dig.st a).size : Int)) = false := decide_eq_false (by omega)
  have C : (((Dig.st a).size : Int) == 19) = false ∨ ((((Dig.st a).size : Int) == 19) = true ∧ Op.bytesLess (Dig.st a).toList [57, 50, 50, 51, 51, 55, 50, 48, 51, 54, 56, 53, 52, 55, 55, 53, 56, 48, 55] = true) ∨ ((((Dig.st a).size : Int) == 19) = true ∧ Op.bytesLess (Dig.st a).toList [57, 50, 50, 51, 51, 55, 50, 48, 51, 54, 56, 53, 52, 55, 55, 53, 56, 48, 55] = false ∧ ((Dig.st a).toList == [57, 50, 50, 51, 51, 55, 50, 48, 51, 54, 56, 53, 52, 55, 55, 53, 56, 48, 55]) = true) := by
    by_cases h2 : (Dig.st a).size = 19
    · have l := Dig.less_st (a := a) (b := 9223372036854775807) (by rw [← Dig.mx_st, h2]; rfl)
      have q := Dig.eq_st (a := a) (b := 9223372036854775807)
      rw [← Dig.mx_st, Dig.mx_list] at l q
      by_cases h3 : a < 9223372036854775807
      · rw [decide_eq_true h3] at l
        exact Or.inr (Or.inl ⟨beq_iff_eq.2 (by omega), l⟩)
      · rw [decide_eq_false h3] at l
        rw [decide_eq_true (by omega)] at q
        exact Or.inr (Or.inr ⟨beq_iff_eq.2 (by omega), l, q⟩)
    · exact Or.inl (beq_eq_false_iff_ne.2 (by omega))
  generalize hx : Dig.st a = x at *
  clear hx sa h hb
  rcases C with c1 | ⟨c1, c2⟩ | ⟨c1, c2, c3⟩
  all_goals
    go_enter Tryd.func83, Tryd.ntmps83
    go_wp2_with fail
    refine (VA.out _).mono ?_; rintro _ w' ⟨rfl, rfl⟩
    go_wp2_with fail
    go_loop [4, 5] (fun n i => ∃ k : Nat, k ≤ x.size ∧ i = .int .i64 k ∧ n = .int .i64 (Dig.pre a x.size k)) (fun _ i => x.size - (intOf i).toNat)
    case atStart => exact ⟨0, Nat.zero_le _, rfl, by rw [P0.out]; rfl⟩
    case round =>
      obtain ⟨k, hk, rfl, rfl⟩ := hrel
      have hk0 : (0 : Int) ≤ k := by omega
      by_cases hkx : k < x.size
      · have hk2 : (k : Int) < x.size := by omega
        have e := HD.out k hkx
        have hd := DL.out (x.size - 1 - k)
        have HSk := Lib.hid (HS.out k hkx)
        have hp1 := PL.out (k + 1)
        rw [HSk.out] at hp1
        generalize Dig.pre a x.size k = p at *
        generalize Dig.dg a (x.size - 1 - k) = d at *
        have q4 : (p : Int) ≤ 922337203685477580 := by omega
        have E := Lib.hid e
        have b1 : 48 ≤ x[k].toNat := by omega
        have b2 : x[k].toNat ≤ 57 := by omega
        by_cases hw : 10 * p + d + 48 ≤ 9223372036854775807
        · have q1 : 10 * (p : Int) + (x[k].toNat : Int) ≤ 9223372036854775807 := by omega
          have q2 : (0 : Int) ≤ 10 * (p : Int) + (x[k].toNat : Int) := by omega
          clear e hw hp1
          go_wp2
          go_round
          case rel => exact ⟨k + 1, by omega, by go_num, int_of (by rw [HSk.out]; have := E.out; omega)⟩
          case measure => simp [intOf]; omega
        · obtain ⟨Z, hZ⟩ : ∃ Z : Int, 10 * (p : Int) + (x[k].toNat : Int) = Z := ⟨_, rfl⟩
          have w1 : IntKind.i64.wrap Z = Z - 18446744073709551616 := by rw [IntKind.wrap_i64]; omega
          have w2 : IntKind.i64.wrap (Z - 18446744073709551616 - 48) = Z - 48 := by rw [IntKind.wrap_i64]; omega
          have ZE := Lib.hid hZ
          clear e hw hp1
          go_wp2
          go_round
          case rel => exact ⟨k + 1, by omega, by go_num, int_of (by rw [HSk.out]; have := E.out; have := ZE.out; omega)⟩
          case measure => simp [intOf]; omega
      · obtain rfl : k = x.size := by omega
        rw [PE.out]
        go_wp2
        go_ret2
        exact ⟨rfl, rfl⟩
theorem rtoInt_any {a : Nat} (h : Dig.vld (Dig.st a)) (w : World) :
    Calls Tryd.prog 83 #[.string (Dig.st a)] w fun e w' => e = .returned (.tuple #[.int .i64 (Dig.intR a).1, .int .i64 (Dig.intR a).2]) ∧ w = w' := by
  unfold Dig.intR
  by_cases hb : a ≤ 9223372036854775807
  · rw [if_pos hb]; exact rtoInt_ok h hb w
  · rw [if_neg hb]; exact rtoInt_big h (by omega) w
end Go.Proofs.YtcnfgcdbjofihaaDoor
