/- Decimals: runs of digits, exponents, Make. -/
import Derived.Test.YtcnfgcdbjofihaaDoorDecNorm
import Derived.Test.YtcnfgcdbjofihaaDoorDigInt
namespace Go.Proofs.YtcnfgcdbjofihaaDoor
open Go.RowKit

namespace Dec
/-- The number of digits that a string begins with. -/
def rn (x : ByteArray) : Nat := ((Dig.l x).takeWhile (fun b => decide (Dig.isd b))).length
theorem rn_spec (x : ByteArray) : rn x ≤ x.size ∧ (∀ i (h : i < x.size), i < rn x → Dig.isd x[i]) ∧ (∀ h : rn x < x.size, ¬ Dig.isd x[rn x]) := by
  have key : ∀ k : List UInt8, (k.takeWhile (fun b => decide (Dig.isd b))).length ≤ k.length ∧ (∀ i (h : i < k.length), i < (k.takeWhile (fun b => decide (Dig.isd b))).length → Dig.isd k[i]) ∧ (∀ h : (k.takeWhile (fun b => decide (Dig.isd b))).length < k.length, ¬ Dig.isd k[(k.takeWhile (fun b => decide (Dig.isd b))).length]) := by
    intro k
    induction k with
    | nil => exact ⟨Nat.le_refl _, fun i h => by simp at h, fun h => by simp at h⟩
    | cons a t ih =>
      obtain ⟨h1, h2, h3⟩ := ih
      by_cases e : Dig.isd a
      · simp only [List.takeWhile_cons, e, decide_true, if_true, List.length_cons]
        refine ⟨by omega, fun i hi hc => ?_, fun h => by simpa using h3 (by omega)⟩
        cases i with
        | zero => exact e
        | succ i => simpa using h2 i (by simpa using hi) (by omega)
      · simp only [List.takeWhile_cons, e, decide_false, List.length_cons]
        refine ⟨Nat.zero_le _, fun i _ hc => by simp at hc, fun _ => by simpa using e⟩
  have := key (Dig.l x)
  exact ⟨by rw [← Dig.l_len x]; exact this.1, fun i hi hc => this.2.1 i (by rw [Dig.l_len]; exact hi) hc, fun h => this.2.2 (by rw [Dig.l_len]; exact h)⟩
theorem ext_get {s : ByteArray} {a i : Nat} (h : a + i < s.size) : (s.extract a s.size)[i]'(by rw [ByteArray.size_extract]; omega) = s[a + i] := by simp [ByteArray.getElem_extract]
end Dec

set_option maxHeartbeats 1000000 in
theorem run_any {x : ByteArray} (hx : x.size ≤ maxLen) (w : World) :
    Calls Tryd.prog 61 #[.string x] w fun e w' => e = .returned (.int .i64 (Dec.rn x)) ∧ w = w' := by
  obtain ⟨hc, h1, h2⟩ := Dec.rn_spec x
  generalize Dec.rn x = c at *
  have H := Lib.hid h1; clear h1
  have HN := Lib.hid h2; clear h2
  unfold maxLen at hx
  go_enter Tryd.func61, Tryd.ntmps61
  go_wp2_with fail
  go_loop [3] (fun i => ∃ k : Nat, k ≤ c ∧ i = .int .i64 k) (fun i => x.size - (intOf i).toNat)
  case atStart => exact ⟨0, by omega, rfl⟩
  case round =>
    obtain ⟨k, hk, rfl⟩ := hrel
    have hk1 : (0 : Int) ≤ k := by omega
    by_cases hkx : k < x.size
    · have hk2 : (k : Int) < x.size := by omega
      by_cases hkc : k < c
      · have e := H.out k hkx hkc
        unfold Dig.isd at e
        have d1 : decide (48 ≤ (x[k].toNat : Int)) = true := decide_eq_true (by omega)
        have d2 : decide ((x[k].toNat : Int) ≤ 57) = true := decide_eq_true (by omega)
        clear e
        go_wp2
        go_round
        case rel => exact ⟨k + 1, by omega, by go_num⟩
        case measure => simp [intOf]; omega
      · obtain rfl : k = c := by omega
        have e := HN.out hkx
        unfold Dig.isd at e
        by_cases h48 : 48 ≤ x[k].toNat
        · have d1 : decide (48 ≤ (x[k].toNat : Int)) = true := decide_eq_true (by omega)
          have d2 : decide ((x[k].toNat : Int) ≤ 57) = false := decide_eq_false (by omega)
          clear e hkc h48
          go_wp2
          go_ret
          exact ⟨rfl, rfl⟩
        · have d1 : decide (48 ≤ (x[k].toNat : Int)) = false := decide_eq_false (by omega)
          clear e hkc h48
          go_wp2
          go_ret
          exact ⟨rfl, rfl⟩
    · have d1 : decide (k < x.size) = false := decide_eq_false (by omega)
      obtain rfl : k = c := by omega
      clear hkx
      go_wp2
      go_ret
      exact ⟨rfl, rfl⟩
set_option maxHeartbeats 1000000 in
theorem rrun_any {x : ByteArray} (hx : x.size ≤ 1000000) {a : Nat} (ha : a ≤ x.size) (w : World) :
    Calls Tryd.prog 65 #[.string x, .int .i64 a] w fun e w' => e = .returned (.int .i64 ((a + Dec.rn (x.extract a x.size) : Nat) : Int)) ∧ w = w' := by
  obtain ⟨hc, h1, h2⟩ := Dec.rn_spec (x.extract a x.size)
  have hs : (x.extract a x.size).size = x.size - a := by rw [ByteArray.size_extract]; omega
  generalize Dec.rn (x.extract a x.size) = c at *
  have H : Hid (∀ k (h : k < x.size), a ≤ k → k < a + c → Dig.isd x[k]) := Lib.hid (fun k hk h3 h4 => by
    have := h1 (k - a) (by omega) (by omega)
    rw [Dec.ext_get (by omega)] at this
    simpa [show a + (k - a) = k by omega] using this)
  have HN0 : ∀ h : a + c < x.size, ¬ Dig.isd x[a + c] := (fun h => by
    have := h2 (by omega)
    rwa [Dec.ext_get (by omega)] at this)
  have hca : a + c ≤ x.size := by omega
  obtain ⟨b, hb⟩ : ∃ b, b = a + c := ⟨_, rfl⟩
  have HN : Hid (∀ h : b < x.size, ¬ Dig.isd x[b]) := Lib.hid (fun h => by subst hb; exact HN0 h)
  clear HN0
  rw [← hb] at hca
  simp only [← hb] at H ⊢
  have hab : a ≤ b := by omega
  have ha0 : (0 : Int) ≤ a := by omega
  clear h1 h2 hc hs hb
  go_enter Tryd.func65, Tryd.ntmps65
  go_wp2_with fail
  go_loop [1] (fun i => ∃ k : Nat, a ≤ k ∧ k ≤ b ∧ i = .int .i64 k) (fun i => x.size - (intOf i).toNat)
  case atStart => exact ⟨a, by omega, hab, rfl⟩
  case round =>
    obtain ⟨k, hka, hk, rfl⟩ := hrel
    have hk1 : (0 : Int) ≤ k := by omega
    by_cases hkx : k < x.size
    · have hk2 : (k : Int) < x.size := by omega
      by_cases hkc : k < b
      · have e := H.out k hkx hka hkc
        unfold Dig.isd at e
        have d1 : decide (48 ≤ (x[k].toNat : Int)) = true := decide_eq_true (by omega)
        have d2 : decide ((x[k].toNat : Int) ≤ 57) = true := decide_eq_true (by omega)
        clear e
        go_wp2
        go_round
        case rel => exact ⟨k + 1, by omega, by omega, by go_num⟩
        case measure => simp [intOf]; omega
      · obtain rfl : k = b := by omega
        have e := HN.out hkx
        unfold Dig.isd at e
        by_cases h48 : 48 ≤ x[k].toNat
        · have d1 : decide (48 ≤ (x[k].toNat : Int)) = true := decide_eq_true (by omega)
          have d2 : decide ((x[k].toNat : Int) ≤ 57) = false := decide_eq_false (by omega)
          clear e hkc h48
          go_wp2
          go_ret
          exact ⟨rfl, rfl⟩
        · have d1 : decide (48 ≤ (x[k].toNat : Int)) = false := decide_eq_false (by omega)
          clear e hkc h48
          go_wp2
          go_ret
          exact ⟨rfl, rfl⟩
    · have d1 : decide (k < x.size) = false := decide_eq_false (by omega)
      obtain rfl : k = b := by omega
      clear hkx
      go_wp2
      go_ret
      exact ⟨rfl, rfl⟩

/-! ### exponents -/
namespace Dec
def farP (v : Nat) : Int := if v < Dig.big 12 then v else 1099511627776
def movR (x : Int) (less : Bool) (v : Nat) : Int := if less then x - farP v else x + farP v
def powR (v : Nat) : Int := if v < Dig.big 9 then v else 1000000000
theorem big12 : Dig.big 12 = 1000000000000 := by unfold Dig.big; rfl
theorem big9 : Dig.big 9 = 1000000000 := by unfold Dig.big; rfl
theorem int_small {v k : Nat} (h : v < Dig.big k) (hk : k ≤ 18) : Dig.intR v = ((v : Int), 0) := by
  have := Dig.big_le (a := k) (b := 18) hk
  have e : Dig.big 18 = 1000000000000000000 := by unfold Dig.big; rfl
  unfold Dig.intR
  rw [if_pos (by omega)]
end Dec
set_option maxRecDepth 100000 in
theorem moved_any (x : Int) (hx : -1000000 ≤ x) (hx2 : x ≤ 1000000) (less : Bool) {v : Nat} (hv : (Dig.st v).size ≤ 1000000) (w : World) :
    Calls Tryd.prog 62 #[.int .i64 x, .bool less, .string (Dig.st v)] w fun e w' => e = .returned (.int .i64 (Dec.movR x less v)) ∧ w = w' := by
  unfold Dec.movR Dec.farP
  by_cases h : v < Dig.big 12
  · have hs := (Dig.st_size v 12).2 h
    have HI := Lib.hid (toInt_any (a := v) (Dig.st_vld (Nat.lt_of_lt_of_le h (Dig.big_le (by omega)))))
    rw [Dec.int_small h (by omega)] at HI
    dsimp only at HI
    rw [if_pos h]
    have hvb : (v : Int) < 1000000000000 := by have := Dec.big12; omega
    have hv0 : (0 : Int) ≤ v := by omega
    generalize Dig.st v = y at *
    have d1 : decide ((y.size : Int) ≤ 12) = true := decide_eq_true (by omega)
    clear h hs
    obtain ⟨z, hz⟩ : ∃ z : Int, z = v := ⟨_, rfl⟩
    rw [← hz] at hvb hv0 ⊢
    rw [← hz] at HI
    clear hz
    have b1 : x - z ≤ 1000000 := by omega
    have b2 : -1000001000000 ≤ x - z := by omega
    have b3 : x + z ≤ 1000001000000 := by omega
    have b4 : -1000000 ≤ x + z := by omega
    cases less
    all_goals
      go_enter Tryd.func62, Tryd.ntmps62
      go_wp2_with fail
      refine (HI.out _).mono ?_; rintro _ w' ⟨rfl, rfl⟩
      go_wp2
      go_ret
      exact ⟨rfl, rfl⟩
  · have hs : ¬ (Dig.st v).size ≤ 12 := fun k => h ((Dig.st_size v 12).1 k)
    rw [if_neg h]
    generalize Dig.st v = y at *
    have d1 : decide ((y.size : Int) ≤ 12) = false := decide_eq_false (by omega)
    clear h hs
    cases less
    all_goals
      go_enter Tryd.func62, Tryd.ntmps62
      go_wp2
      go_ret
      exact ⟨rfl, rfl⟩
set_option maxRecDepth 100000 in
theorem power_any {q : ByteArray} (hq : Dig.Str q) (w : World) :
    Calls Tryd.prog 66 #[.string q] w fun e w' => e = .returned (.int .i64 (Dec.powR (Dig.V q))) ∧ w = w' := by
  have HS := Lib.hid (fun w => by
    have := rstrip_any hq.max w
    rwa [Dig.st_strip hq.d] at this)
  have hvs : (Dig.st (Dig.V q)).size ≤ 1000000 := Nat.le_trans ((Dig.st_size _ _).2 (Dig.V_lt hq)) hq.size
  generalize Dig.V q = v at *
  clear hq
  unfold Dec.powR
  by_cases h : v < Dig.big 9
  · have hs := (Dig.st_size v 9).2 h
    have HI := Lib.hid (rtoInt_any (a := v) (Dig.st_vld (Nat.lt_of_lt_of_le h (Dig.big_le (by omega)))))
    rw [Dec.int_small h (by omega)] at HI
    dsimp only at HI
    rw [if_pos h]
    generalize Dig.st v = y at *
    have d1 : decide (9 < (y.size : Int)) = false := decide_eq_false (by omega)
    clear h hs
    go_enter Tryd.func66, Tryd.ntmps66
    go_wp2_with fail
    refine (HS.out _).mono ?_; rintro _ w' ⟨rfl, rfl⟩
    go_wp2_with fail
    refine (HI.out _).mono ?_; rintro _ w' ⟨rfl, rfl⟩
    go_wp2
    go_ret
    exact ⟨rfl, rfl⟩
  · have hs : ¬ (Dig.st v).size ≤ 9 := fun k => h ((Dig.st_size v 9).1 k)
    rw [if_neg h]
    generalize Dig.st v = y at *
    have d1 : decide (9 < (y.size : Int)) = true := decide_eq_true (by omega)
    clear h hs
    go_enter Tryd.func66, Tryd.ntmps66
    go_wp2_with fail
    refine (HS.out _).mono ?_; rintro _ w' ⟨rfl, rfl⟩
    go_wp2
    go_ret
    exact ⟨rfl, rfl⟩
end Go.Proofs.YtcnfgcdbjofihaaDoor
