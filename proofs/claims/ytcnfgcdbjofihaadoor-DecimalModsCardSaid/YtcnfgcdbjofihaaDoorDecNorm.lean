/- Decimals: the normal form. -/
import Derived.Test.YtcnfgcdbjofihaaDoorDecMath
namespace Go.Proofs.YtcnfgcdbjofihaaDoor
open Go.RowKit

theorem trimR_any {m : Nat} (hm : (Dig.st m).size ≤ 1000000) (w : World) :
    Calls Tryd.prog 89 #[.string (Dig.st m), .string ⟨#[48]⟩] w fun e w' => (∃ y : ByteArray, e = .returned (.string y) ∧ y.size + Dec.tz m = (Dig.st m).size) ∧ w = w' := by
  refine (Tryd.strings_TrimRight_one (Dig.st m) 48 (by decide) w (by omega)).mono ?_
  rintro e w' ⟨rfl, rfl⟩
  refine ⟨⟨_, rfl, ?_⟩, rfl⟩
  obtain ⟨c, h1, _, _, h4⟩ := Dig.trail (Dig.st m)
  unfold Dec.tz Dig.zc
  rw [show (⟨(Go.Lib.trimRightB (Dig.st m).data.toList 48).toArray⟩ : ByteArray) = Dig.bs (Go.Lib.trimRightB (Dig.l (Dig.st m)) 48) from rfl, Dig.bs_size]
  omega
theorem ret_dc {R : Dec.Dc × Int} {n : Bool} {m : Nat} {s : ByteArray} {e r : Int} (h : R = (⟨n, m, e⟩, r)) (hs : Dig.st m = s) : Ending.returned (Value.tuple #[.agg #[.bool n, .string s, .int .i64 e], .int .i64 r]) = .returned (.tuple #[Dec.ag R.1, .int .i64 R.2]) := by
  rw [h, ← hs]; rfl
namespace Dec
theorem len120 {m : Nat} : (120 < (Dig.st m).size) ↔ ¬ m < Dig.big 120 := by
  rw [← Dig.st_size]; omega
end Dec

set_option maxHeartbeats 4000000 in
theorem norm_any (neg : Bool) {m : Nat} (hm : (Dig.st m).size ≤ 1000000) (x : Int) (w : World) :
    Calls Tryd.prog 50 #[.bool neg, .string (Dig.st m), .int .i64 x] w fun e w' => e = .returned (.tuple #[Dec.ag (Dec.normR neg m x).1, .int .i64 (Dec.normR neg m x).2]) ∧ Below w.heap.size w w' := by
  obtain ⟨R, hR⟩ : ∃ R, Dec.normR neg m x = R := ⟨_, rfl⟩
  rw [hR]
  unfold Dec.normR at hR
  by_cases h0 : m = 0
  · rw [if_pos h0] at hR
    have hs : (Dig.st m) = ⟨#[]⟩ := by rw [h0]; unfold Dig.st; rw [Dig.num_zero]; rfl
    rw [hs]
    have HR := Lib.hid hR.symm
    clear hR hs h0 hm
    go_enter Tryd.func50, Tryd.ntmps50
    go_wp2
    exact bodyPost_ret (v := .tuple #[.agg #[.bool false, .string ⟨#[]⟩, .int .i64 0], .int .i64 0]) (by simp [results, Tryd.results50, go_sem]) rfl ⟨ret_dc HR.out (by unfold Dig.st; rw [Dig.num_zero]; rfl), (Below.refl _ _).alloc (Nat.le_refl _) _⟩
  rw [if_neg h0] at hR
  have hz := (Dec.tz_all m).2.2 h0
  have hz0 := hz.1
  have ne := Dig.some_of (x := Dig.st m) (by omega)
  have HT := Lib.hid (trimR_any hm)
  have HC := Lib.hid (Dec.cut_st h0)
  have H120 := Lib.hid (Dec.len120 (m := Dec.cut m))
  have hcs : (Dig.st (Dec.cut m)).size + Dec.tz m = (Dig.st m).size := by
    rw [← HC.out, ByteArray.size_extract]; omega
  generalize Dec.tz m = z at *
  obtain ⟨y, hy⟩ : ∃ y, Dig.st (Dec.cut m) = y := ⟨_, rfl⟩
  rw [hy] at HC H120 hcs
  have HY := Lib.hid hy
  generalize Dig.st m = s at *
  have ez : (s.size : Int) - z = y.size := by omega
  have hys : (y.size : Int) ≤ s.size := by omega
  have hzb : (z : Int) ≤ 1000000 := by omega
  have hsl : ∀ W, (Instr.slice 9 (.string s) none (some (.int .i64 (y.size : Int))) none).run Tryd.prog W = .ok (.string y) W := fun W => by
    have e := HC.out
    rw [show s.size - z = y.size by omega] at e
    have := run_slice_string_h (P := Tryd.prog) W 9 s Tryd.underlying9 .i64 (y.size : Int) (by omega) (by omega)
    rw [this]
    rw [Int.toNat_natCast, e]
  clear hy hz
  by_cases c1 : 400 < x + z
  · rw [if_pos (Or.inl c1)] at hR
    have HR := Lib.hid hR.symm
    have d1 : decide (400 - (z : Int) < x) = true := decide_eq_true (by omega)
    clear hR c1 hcs
    go_enter Tryd.func50, Tryd.ntmps50
    go_wp2_with fail
    refine (HT.out _).mono ?_; rintro _ w' ⟨⟨t, rfl, ht⟩, rfl⟩
    have et : (s.size : Int) - t.size = z := by omega
    clear ht
    go_wp2
    exact bodyPost_ret (v := .tuple #[.agg #[.bool false, .string ⟨#[]⟩, .int .i64 0], .int .i64 2]) (by simp [results, Tryd.results50, go_sem]) rfl ⟨ret_dc HR.out (by unfold Dig.st; rw [Dig.num_zero]; rfl), (Below.refl _ _).alloc (Nat.le_refl _) _⟩
  have d1 : decide (400 - (z : Int) < x) = false := decide_eq_false (by omega)
  by_cases c2 : x + z < -400
  · rw [if_pos (Or.inr (Or.inl c2))] at hR
    have HR := Lib.hid hR.symm
    have d2 : decide (x < -400 - (z : Int)) = true := decide_eq_true (by omega)
    clear hR c1 c2 hcs
    go_enter Tryd.func50, Tryd.ntmps50
    go_wp2_with fail
    refine (HT.out _).mono ?_; rintro _ w' ⟨⟨t, rfl, ht⟩, rfl⟩
    have et : (s.size : Int) - t.size = z := by omega
    clear ht
    go_wp2
    exact bodyPost_ret (v := .tuple #[.agg #[.bool false, .string ⟨#[]⟩, .int .i64 0], .int .i64 2]) (by simp [results, Tryd.results50, go_sem]) rfl ⟨ret_dc HR.out (by unfold Dig.st; rw [Dig.num_zero]; rfl), (Below.refl _ _).alloc (Nat.le_refl _) _⟩
  have d2 : decide (x < -400 - (z : Int)) = false := decide_eq_false (by omega)
  by_cases c3 : Dec.cut m < Dig.big 120
  case neg =>
    rw [if_pos (Or.inr (Or.inr c3))] at hR
    have HR := Lib.hid hR.symm
    have := H120.out.2 c3
    have d3 : decide (120 < (y.size : Int)) = true := decide_eq_true (by omega)
    clear hR c1 c2 c3 this hcs
    go_enter Tryd.func50, Tryd.ntmps50
    go_wp2_with fail
    refine (HT.out _).mono ?_; rintro _ w' ⟨⟨t, rfl, ht⟩, rfl⟩
    have et : (s.size : Int) - t.size = z := by omega
    clear ht
    go_wp2
    exact bodyPost_ret (v := .tuple #[.agg #[.bool false, .string ⟨#[]⟩, .int .i64 0], .int .i64 2]) (by simp [results, Tryd.results50, go_sem]) rfl ⟨ret_dc HR.out (by unfold Dig.st; rw [Dig.num_zero]; rfl), (Below.refl _ _).alloc (Nat.le_refl _) _⟩
  rw [if_neg (by rintro (k | k | k); exact c1 k; exact c2 k; exact k c3)] at hR
  have HR := Lib.hid hR.symm
  have hny : ¬ 120 < y.size := fun k => H120.out.1 k c3
  have d3 : decide (120 < (y.size : Int)) = false := decide_eq_false (by omega)
  have b1 : x + z ≤ 400 := by omega
  have b2 : -400 ≤ x + z := by omega
  clear hR c1 c2 c3 hny hcs
  go_enter Tryd.func50, Tryd.ntmps50
  go_wp2_with fail
  refine (HT.out _).mono ?_; rintro _ w' ⟨⟨t, rfl, ht⟩, rfl⟩
  have et : (s.size : Int) - t.size = z := by omega
  clear ht
  go_wp2
  exact bodyPost_ret (v := .tuple #[.agg #[.bool neg, .string y, .int .i64 (x + z)], .int .i64 0]) (by simp [results, Tryd.results50, go_sem]) rfl ⟨ret_dc HR.out HY.out, (Below.refl _ _).alloc (Nat.le_refl _) _⟩

set_option maxHeartbeats 4000000 in
theorem normal_any (neg : Bool) {q : ByteArray} (hq : Dig.Str q) (x : Int) (hx : -9223372036854775808 ≤ x) (hx2 : x ≤ 9223372036854775807) (w : World) :
    Calls Tryd.prog 53 #[.bool neg, .string q, .int .i64 x] w fun e w' => e = .returned (.tuple #[Dec.ag (Dec.normR neg (Dig.V q) x).1, .int .i64 (Dec.normR neg (Dig.V q) x).2]) ∧ Below w.heap.size w w' := by
  have HS := Lib.hid (fun w => by
    have := rstrip_any hq.max w
    rwa [Dig.st_strip hq.d] at this)
  have hvs : (Dig.st (Dig.V q)).size ≤ 1000000 := Nat.le_trans ((Dig.st_size _ _).2 (Dig.V_lt hq)) hq.size
  generalize Dig.V q = m at *
  clear hq
  obtain ⟨R, hR⟩ : ∃ R, Dec.normR neg m x = R := ⟨_, rfl⟩
  rw [hR]
  unfold Dec.normR at hR
  by_cases h0 : m = 0
  · rw [if_pos h0] at hR
    have hs : (Dig.st m) = ⟨#[]⟩ := by rw [h0]; unfold Dig.st; rw [Dig.num_zero]; rfl
    rw [hs] at HS
    have HR := Lib.hid hR.symm
    clear hR hs h0 hvs
    go_enter Tryd.func53, Tryd.ntmps53
    go_wp2_with fail
    refine (HS.out _).mono ?_; rintro _ w' ⟨rfl, rfl⟩
    go_wp2
    exact bodyPost_ret (v := .tuple #[.agg #[.bool false, .string ⟨#[]⟩, .int .i64 0], .int .i64 0]) (by simp [results, Tryd.results53, go_sem]) rfl ⟨ret_dc HR.out (by unfold Dig.st; rw [Dig.num_zero]; rfl), (Below.refl _ _).alloc (Nat.le_refl _) _⟩
  rw [if_neg h0] at hR
  have hz := (Dec.tz_all m).2.2 h0
  have hz0 := hz.1
  have ne := Dig.some_of (x := Dig.st m) (by omega)
  have HZ := Lib.hid (rzeros_any hvs)
  rw [show Dig.zc (Dig.st m) = Dec.tz m from rfl] at HZ
  have HC := Lib.hid (Dec.cut_st h0)
  have H120 := Lib.hid (Dec.len120 (m := Dec.cut m))
  have hcs : (Dig.st (Dec.cut m)).size + Dec.tz m = (Dig.st m).size := by
    rw [← HC.out, ByteArray.size_extract]; omega
  generalize Dec.tz m = z at *
  obtain ⟨y, hy⟩ : ∃ y, Dig.st (Dec.cut m) = y := ⟨_, rfl⟩
  rw [hy] at HC H120 hcs
  have HY := Lib.hid hy
  generalize Dig.st m = s at *
  have ez : (s.size : Int) - z = y.size := by omega
  have hys : (y.size : Int) ≤ s.size := by omega
  have hzb : (z : Int) ≤ 1000000 := by omega
  have hz00 : (0 : Int) ≤ z := by omega
  have hsl : ∀ W, (Instr.slice 9 (.string s) none (some (.int .i64 (y.size : Int))) none).run Tryd.prog W = .ok (.string y) W := fun W => by
    have e := HC.out
    rw [show s.size - z = y.size by omega] at e
    have := run_slice_string_h (P := Tryd.prog) W 9 s Tryd.underlying9 .i64 (y.size : Int) (by omega) (by omega)
    rw [this]
    rw [Int.toNat_natCast, e]
  clear hy hz
  by_cases c3 : Dec.cut m < Dig.big 120
  case neg =>
    rw [if_pos (Or.inr (Or.inr c3))] at hR
    have HR := Lib.hid hR.symm
    have := H120.out.2 c3
    have d3 : decide (120 < (y.size : Int)) = true := decide_eq_true (by omega)
    clear hR c3 this hcs hx hx2
    go_enter Tryd.func53, Tryd.ntmps53
    go_wp2_with fail
    refine (HS.out _).mono ?_; rintro _ w' ⟨rfl, rfl⟩
    go_wp2_with fail
    refine (HZ.out _).mono ?_; rintro _ w' ⟨rfl, rfl⟩
    go_wp2
    exact bodyPost_ret (v := .tuple #[.agg #[.bool false, .string ⟨#[]⟩, .int .i64 0], .int .i64 2]) (by simp [results, Tryd.results53, go_sem]) rfl ⟨ret_dc HR.out (by unfold Dig.st; rw [Dig.num_zero]; rfl), (Below.refl _ _).alloc (Nat.le_refl _) _⟩
  have hny : ¬ 120 < y.size := fun k => H120.out.1 k c3
  have d3 : decide (120 < (y.size : Int)) = false := decide_eq_false (by omega)
  by_cases c0 : 400 < x
  · rw [if_pos (Or.inl (by omega))] at hR
    have HR := Lib.hid hR.symm
    have d1 : decide (400 < x) = true := decide_eq_true c0
    clear hR c3 c0 hcs hny
    go_enter Tryd.func53, Tryd.ntmps53
    go_wp2_with fail
    refine (HS.out _).mono ?_; rintro _ w' ⟨rfl, rfl⟩
    go_wp2_with fail
    refine (HZ.out _).mono ?_; rintro _ w' ⟨rfl, rfl⟩
    go_wp2
    exact bodyPost_ret (v := .tuple #[.agg #[.bool false, .string ⟨#[]⟩, .int .i64 0], .int .i64 2]) (by simp [results, Tryd.results53, go_sem]) rfl ⟨ret_dc HR.out (by unfold Dig.st; rw [Dig.num_zero]; rfl), (Below.refl _ _).alloc (Nat.le_refl _) _⟩
  have d0 : decide (400 < x) = false := decide_eq_false c0
  have hx400 : x ≤ 400 := by omega
  by_cases c1 : 400 < x + z
  · rw [if_pos (Or.inl c1)] at hR
    have HR := Lib.hid hR.symm
    have d1 : decide (400 < x + (z : Int)) = true := decide_eq_true c1
    clear hR c3 c0 c1 hcs hny
    go_enter Tryd.func53, Tryd.ntmps53
    go_wp2_with fail
    refine (HS.out _).mono ?_; rintro _ w' ⟨rfl, rfl⟩
    go_wp2_with fail
    refine (HZ.out _).mono ?_; rintro _ w' ⟨rfl, rfl⟩
    go_wp2
    exact bodyPost_ret (v := .tuple #[.agg #[.bool false, .string ⟨#[]⟩, .int .i64 0], .int .i64 2]) (by simp [results, Tryd.results53, go_sem]) rfl ⟨ret_dc HR.out (by unfold Dig.st; rw [Dig.num_zero]; rfl), (Below.refl _ _).alloc (Nat.le_refl _) _⟩
  have d1 : decide (400 < x + (z : Int)) = false := decide_eq_false c1
  by_cases c2 : x + z < -400
  · rw [if_pos (Or.inr (Or.inl c2))] at hR
    have HR := Lib.hid hR.symm
    have d2 : decide (x + (z : Int) < -400) = true := decide_eq_true c2
    clear hR c3 c0 c1 c2 hcs hny
    go_enter Tryd.func53, Tryd.ntmps53
    go_wp2_with fail
    refine (HS.out _).mono ?_; rintro _ w' ⟨rfl, rfl⟩
    go_wp2_with fail
    refine (HZ.out _).mono ?_; rintro _ w' ⟨rfl, rfl⟩
    go_wp2
    exact bodyPost_ret (v := .tuple #[.agg #[.bool false, .string ⟨#[]⟩, .int .i64 0], .int .i64 2]) (by simp [results, Tryd.results53, go_sem]) rfl ⟨ret_dc HR.out (by unfold Dig.st; rw [Dig.num_zero]; rfl), (Below.refl _ _).alloc (Nat.le_refl _) _⟩
  have d2 : decide (x + (z : Int) < -400) = false := decide_eq_false c2
  rw [if_neg (by rintro (k | k | k); exact c1 k; exact c2 k; exact k c3)] at hR
  have HR := Lib.hid hR.symm
  have b1 : x + z ≤ 400 := by omega
  have b2 : -400 ≤ x + z := by omega
  clear hR c3 c0 c1 c2 hny hcs
  go_enter Tryd.func53, Tryd.ntmps53
  go_wp2_with fail
  refine (HS.out _).mono ?_; rintro _ w' ⟨rfl, rfl⟩
  go_wp2_with fail
  refine (HZ.out _).mono ?_; rintro _ w' ⟨rfl, rfl⟩
  go_wp2
  exact bodyPost_ret (v := .tuple #[.agg #[.bool neg, .string y, .int .i64 (x + z)], .int .i64 0]) (by simp [results, Tryd.results53, go_sem]) rfl ⟨ret_dc HR.out HY.out, (Below.refl _ _).alloc (Nat.le_refl _) _⟩
end Go.Proofs.YtcnfgcdbjofihaaDoor
