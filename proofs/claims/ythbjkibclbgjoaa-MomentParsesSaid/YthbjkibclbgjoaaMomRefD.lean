/- Times: the reference's clocks with a fraction (printed by gen_refd.py). -/
import Derived.Test.YthbjkibclbgjoaaMomRefC
namespace Go.Proofs.Ythbjkibclbgjoaa
open Go.RowKit

def Mom.z9 : ByteArray := ⟨#[48, 48, 48, 48, 48, 48, 48, 48, 48]⟩

set_option maxHeartbeats 8000000 in
theorem takeClock_bad {x y : ByteArray} {n0 : Nat} (hx : x.size ≤ maxLen) (h : Mom.lk x Mom.clkF) (hy : x.extract 8 x.size = y) (hp : Mom.bt y 0 = 46) (r1 : 1 ≤ n0) (r2 : n0 ≤ y.size) (rd : ∀ i, 1 ≤ i → i < n0 → Mom.isd y i) (rn : ¬ Mom.isd y n0) (hn : n0 < 2 ∨ 10 < n0) (w : World) :
    Calls Try.prog 43 #[.string x] w fun e w' => e = .returned (Mom.c4 0 ⟨#[]⟩ false false) ∧ Below w.heap.size w w' := by
  have HL := Lib.hid (like_any (f := Mom.clkF) hx)
  rw [decide_eq_true h] at HL
  unfold Mom.clkF at HL
  obtain ⟨h8, n1, n2, n3, ⟨b1, b2⟩, ⟨b3, b4⟩, ⟨b5, b6⟩⟩ := clk_nums h
  generalize Mom.nv (x.extract 0 2) 2 = A at *
  generalize Mom.nv (x.extract 3 5) 2 = B at *
  generalize Mom.nv (x.extract 6 8) 2 = C at *
  have N1 := Lib.hid n1
  have N2 := Lib.hid n2
  have N3 := Lib.hid n3
  have HN : Hid (∀ y v, Hid (Mom.numOk y v) → ∀ w, Calls Try.prog 45 #[.string y] w fun e w' => e = .returned (.int .i64 v) ∧ w = w') := Lib.hid (fun y v h w => num_is h.out w)
  have l1 : (2 : Int) ≤ x.size := by omega
  have l2 : (5 : Int) ≤ x.size := by omega
  have l3 : (8 : Int) ≤ x.size := by omega
  have ys : y.size = x.size - 8 := by rw [← hy, ByteArray.size_extract]; omega
  have g : 0 < y.size := by omega
  have t2 : ((y[0].toNat : Int) == 46) = true := beq_iff_eq.2 ((Mom.bt_in g).symm.trans hp)
  have d1 : (0 : Int) < y.size := by omega
  have RD := Lib.hid rd
  have RN : Hid (n0 = y.size ∨ ∃ q : n0 < y.size, y[n0].toNat < 48 ∨ 57 < y[n0].toNat) := Lib.hid (by
    rcases Nat.lt_or_ge n0 y.size with q | q
    · refine Or.inr ⟨q, ?_⟩
      unfold Mom.isd at rn
      rw [Mom.bt_in q] at rn
      omega
    · exact Or.inl (by omega))
  have HY := Lib.hid hy
  have ysl : y.size + 8 ≤ x.size := by omega
  clear n1 n2 n3 hp hy rd rn h ys
  unfold maxLen at hx
  go_enter Try.func43, Try.ntmps43
  go_wp2_with fail
  refine (HL.out _).mono ?_; rintro e w1 ⟨rfl, hbb⟩
  go_upto_region 3 with fail
  go_region_held3 (fun W => Below w.heap.size w W) (first | exact hbb.drew | assumption) (first | (go_at_call 45; refine (HN.out _ _ (by assumption) _).mono ?_; rintro e wx ⟨rfl, rfl⟩) | fail)
  go_upto_region 6 with fail
  rw [HY.out]
  go_wp2_with fail
  go_loop [10] (fun i => ∃ k : Nat, 1 ≤ k ∧ k ≤ n0 ∧ i = .int .i64 k) (fun i => n0 - (intOf i).toNat)
  case atStart => exact ⟨1, by omega, r1, rfl⟩
  case round =>
    obtain ⟨k, k1, k2, rfl⟩ := hrel
    have hk1 : (0 : Int) ≤ k := by omega
    by_cases hk : k < n0
    · have hks : k < y.size := by omega
      have hk2 : (k : Int) < y.size := by omega
      have hd := RD.out k k1 hk
      unfold Mom.isd at hd
      rw [Mom.bt_in hks] at hd
      have e1 : 48 ≤ y[k].toNat := by omega
      have e2 : y[k].toNat ≤ 57 := by omega
      clear hd
      go_wp2
      go_round
      case rel => exact ⟨k + 1, by omega, by omega, by go_num⟩
      case measure => simp [intOf]; omega
    obtain rfl : k = n0 := by omega
    clear hk k2
    rcases RN.out with hq | ⟨hks, hq | hq⟩
    · have hk2 : ¬ ((k : Int) < y.size) := by omega
      have hk5 : (k : Int) ≤ y.size := by omega
      clear hq
      rcases hn with hn | hn
      · go_wp2_with fail
        exact bodyPost_ret (v := Mom.c4 0 ⟨#[]⟩ false false) (by unfold Mom.c4; simp [results, Try.results43, go_sem]) rfl ⟨rfl, by assumption⟩
      · go_wp2_with fail
        exact bodyPost_ret (v := Mom.c4 0 ⟨#[]⟩ false false) (by unfold Mom.c4; simp [results, Try.results43, go_sem]) rfl ⟨rfl, by assumption⟩
    · have hk2 : (k : Int) < y.size := by omega
      rcases hn with hn | hn
      · go_wp2_with fail
        exact bodyPost_ret (v := Mom.c4 0 ⟨#[]⟩ false false) (by unfold Mom.c4; simp [results, Try.results43, go_sem]) rfl ⟨rfl, by assumption⟩
      · go_wp2_with fail
        exact bodyPost_ret (v := Mom.c4 0 ⟨#[]⟩ false false) (by unfold Mom.c4; simp [results, Try.results43, go_sem]) rfl ⟨rfl, by assumption⟩
    · have hk2 : (k : Int) < y.size := by omega
      rcases hn with hn | hn
      · go_wp2_with fail
        exact bodyPost_ret (v := Mom.c4 0 ⟨#[]⟩ false false) (by unfold Mom.c4; simp [results, Try.results43, go_sem]) rfl ⟨rfl, by assumption⟩
      · go_wp2_with fail
        exact bodyPost_ret (v := Mom.c4 0 ⟨#[]⟩ false false) (by unfold Mom.c4; simp [results, Try.results43, go_sem]) rfl ⟨rfl, by assumption⟩

set_option maxHeartbeats 8000000 in
theorem takeClock_ok {x y : ByteArray} {n0 : Nat} (hx : x.size ≤ maxLen) (h : Mom.lk x Mom.clkF) (hy : x.extract 8 x.size = y) (hp : Mom.bt y 0 = 46) (r1 : 1 ≤ n0) (r2 : n0 ≤ y.size) (rd : ∀ i, 1 ≤ i → i < n0 → Mom.isd y i) (rn : ¬ Mom.isd y n0) (m1 : 2 ≤ n0) (m2 : n0 ≤ 10) {F : Int} (hF : Mom.numOk ((y.extract 1 n0 ++ Mom.z9).extract 0 9) F) (f1 : 0 ≤ F) (f2 : F ≤ 999999999) (w : World) :
    Calls Try.prog 43 #[.string x] w fun e w' => e = .returned (Mom.c4 (((Mom.nv (x.extract 0 2) 2 * 60 + Mom.nv (x.extract 3 5) 2) * 60 + Mom.nv (x.extract 6 8) 2) * 1000000000 + F) (y.extract n0 y.size) true (decide (Mom.nv (x.extract 0 2) 2 ≤ 23 ∧ Mom.nv (x.extract 3 5) 2 ≤ 59 ∧ Mom.nv (x.extract 6 8) 2 ≤ 59))) ∧ Below w.heap.size w w' := by
  have HL := Lib.hid (like_any (f := Mom.clkF) hx)
  rw [decide_eq_true h] at HL
  unfold Mom.clkF at HL
  obtain ⟨h8, n1, n2, n3, ⟨b1, b2⟩, ⟨b3, b4⟩, ⟨b5, b6⟩⟩ := clk_nums h
  generalize Mom.nv (x.extract 0 2) 2 = A at *
  generalize Mom.nv (x.extract 3 5) 2 = B at *
  generalize Mom.nv (x.extract 6 8) 2 = C at *
  have N1 := Lib.hid n1
  have N2 := Lib.hid n2
  have N3 := Lib.hid n3
  have HN : Hid (∀ y v, Hid (Mom.numOk y v) → ∀ w, Calls Try.prog 45 #[.string y] w fun e w' => e = .returned (.int .i64 v) ∧ w = w') := Lib.hid (fun y v h w => num_is h.out w)
  have l1 : (2 : Int) ≤ x.size := by omega
  have l2 : (5 : Int) ≤ x.size := by omega
  have l3 : (8 : Int) ≤ x.size := by omega
  have ys : y.size = x.size - 8 := by rw [← hy, ByteArray.size_extract]; omega
  have g : 0 < y.size := by omega
  have t2 : ((y[0].toNat : Int) == 46) = true := beq_iff_eq.2 ((Mom.bt_in g).symm.trans hp)
  have d1 : (0 : Int) < y.size := by omega
  have RD := Lib.hid rd
  have RN : Hid (n0 = y.size ∨ ∃ q : n0 < y.size, y[n0].toNat < 48 ∨ 57 < y[n0].toNat) := Lib.hid (by
    rcases Nat.lt_or_ge n0 y.size with q | q
    · refine Or.inr ⟨q, ?_⟩
      unfold Mom.isd at rn
      rw [Mom.bt_in q] at rn
      omega
    · exact Or.inl (by omega))
  have HY := Lib.hid hy
  have ysl : y.size + 8 ≤ x.size := by omega
  clear n1 n2 n3 hp hy rd rn h ys
  unfold maxLen at hx
  obtain ⟨Q, hQ⟩ : ∃ r, decide (A ≤ 23 ∧ B ≤ 59 ∧ C ≤ 59) = r := ⟨_, rfl⟩
  rw [hQ]
  have HQ := Lib.hid hQ
  clear hQ
  obtain ⟨X, hX⟩ : ∃ X, y.extract 1 n0 = X := ⟨_, rfl⟩
  rw [hX] at hF
  unfold Mom.z9 at hF
  have N4 := Lib.hid hF
  have xs : X.size ≤ 9 := by rw [← hX, ByteArray.size_extract]; omega
  have q1 : ¬ 9223372036854775807 < X.size + 9 := by omega
  have l9 : (9 : Int) ≤ (X.size : Int) + 9 := by omega
  clear hF
  go_enter Try.func43, Try.ntmps43
  go_wp2_with fail
  refine (HL.out _).mono ?_; rintro e w1 ⟨rfl, hbb⟩
  go_upto_region 3 with fail
  go_region_held3 (fun W => Below w.heap.size w W) (first | exact hbb.drew | assumption) (first | (go_at_call 45; refine (HN.out _ _ (by assumption) _).mono ?_; rintro e wx ⟨rfl, rfl⟩) | fail)
  go_upto_region 6 with fail
  rw [HY.out]
  go_wp2_with fail
  go_loop [10] (fun i => ∃ k : Nat, 1 ≤ k ∧ k ≤ n0 ∧ i = .int .i64 k) (fun i => n0 - (intOf i).toNat)
  case atStart => exact ⟨1, by omega, r1, rfl⟩
  case round =>
    obtain ⟨k, k1, k2, rfl⟩ := hrel
    have hk1 : (0 : Int) ≤ k := by omega
    by_cases hk : k < n0
    · have hks : k < y.size := by omega
      have hk2 : (k : Int) < y.size := by omega
      have hd := RD.out k k1 hk
      unfold Mom.isd at hd
      rw [Mom.bt_in hks] at hd
      have e1 : 48 ≤ y[k].toNat := by omega
      have e2 : y[k].toNat ≤ 57 := by omega
      clear hd
      go_wp2
      go_round
      case rel => exact ⟨k + 1, by omega, by omega, by go_num⟩
      case measure => simp [intOf]; omega
    obtain rfl : k = n0 := by omega
    clear hk k2
    rcases RN.out with hq | ⟨hks, hq | hq⟩
    · have hk2 : ¬ ((k : Int) < y.size) := by omega
      have hk5 : (k : Int) ≤ y.size := by omega
      clear hq
      have hk3 : (k : Int) ≤ y.size := by omega
      have hk4 : (1 : Int) ≤ k := by omega
      go_upto_region 12 with fail
      go_wp2_with fail
      refine (HN.out _ _ (by assumption) _).mono ?_; rintro e wy ⟨rfl, rfl⟩
      by_cases c1 : A ≤ 23
      · by_cases c2 : B ≤ 59
        · by_cases c3 : C ≤ 59
          · have hq : Q = true := by rw [← HQ.out]; exact decide_eq_true (by omega)
            subst hq
            go_wp2_with fail
            exact bodyPost_ret (v := Mom.c4 (((A * 60 + B) * 60 + C) * 1000000000 + F) (y.extract k y.size) true true) (by unfold Mom.c4; simp [results, Try.results43, go_sem]) rfl ⟨rfl, by assumption⟩
          · have u1 : decide (C ≤ 59) = false := decide_eq_false c3
            have hq : Q = false := by rw [← HQ.out]; exact decide_eq_false (by omega)
            subst hq
            go_wp2_with fail
            exact bodyPost_ret (v := Mom.c4 (((A * 60 + B) * 60 + C) * 1000000000 + F) (y.extract k y.size) true false) (by unfold Mom.c4; simp [results, Try.results43, go_sem]) rfl ⟨rfl, by assumption⟩
        · have u1 : decide (B ≤ 59) = false := decide_eq_false c2
          have hq : Q = false := by rw [← HQ.out]; exact decide_eq_false (by omega)
          subst hq
          go_wp2_with fail
          exact bodyPost_ret (v := Mom.c4 (((A * 60 + B) * 60 + C) * 1000000000 + F) (y.extract k y.size) true false) (by unfold Mom.c4; simp [results, Try.results43, go_sem]) rfl ⟨rfl, by assumption⟩
      · have u1 : decide (A ≤ 23) = false := decide_eq_false c1
        have hq : Q = false := by rw [← HQ.out]; exact decide_eq_false (by omega)
        subst hq
        go_wp2_with fail
        exact bodyPost_ret (v := Mom.c4 (((A * 60 + B) * 60 + C) * 1000000000 + F) (y.extract k y.size) true false) (by unfold Mom.c4; simp [results, Try.results43, go_sem]) rfl ⟨rfl, by assumption⟩
    · have hk2 : (k : Int) < y.size := by omega
      have hk3 : (k : Int) ≤ y.size := by omega
      have hk4 : (1 : Int) ≤ k := by omega
      go_upto_region 12 with fail
      go_wp2_with fail
      refine (HN.out _ _ (by assumption) _).mono ?_; rintro e wy ⟨rfl, rfl⟩
      by_cases c1 : A ≤ 23
      · by_cases c2 : B ≤ 59
        · by_cases c3 : C ≤ 59
          · have hq : Q = true := by rw [← HQ.out]; exact decide_eq_true (by omega)
            subst hq
            go_wp2_with fail
            exact bodyPost_ret (v := Mom.c4 (((A * 60 + B) * 60 + C) * 1000000000 + F) (y.extract k y.size) true true) (by unfold Mom.c4; simp [results, Try.results43, go_sem]) rfl ⟨rfl, by assumption⟩
          · have u1 : decide (C ≤ 59) = false := decide_eq_false c3
            have hq : Q = false := by rw [← HQ.out]; exact decide_eq_false (by omega)
            subst hq
            go_wp2_with fail
            exact bodyPost_ret (v := Mom.c4 (((A * 60 + B) * 60 + C) * 1000000000 + F) (y.extract k y.size) true false) (by unfold Mom.c4; simp [results, Try.results43, go_sem]) rfl ⟨rfl, by assumption⟩
        · have u1 : decide (B ≤ 59) = false := decide_eq_false c2
          have hq : Q = false := by rw [← HQ.out]; exact decide_eq_false (by omega)
          subst hq
          go_wp2_with fail
          exact bodyPost_ret (v := Mom.c4 (((A * 60 + B) * 60 + C) * 1000000000 + F) (y.extract k y.size) true false) (by unfold Mom.c4; simp [results, Try.results43, go_sem]) rfl ⟨rfl, by assumption⟩
      · have u1 : decide (A ≤ 23) = false := decide_eq_false c1
        have hq : Q = false := by rw [← HQ.out]; exact decide_eq_false (by omega)
        subst hq
        go_wp2_with fail
        exact bodyPost_ret (v := Mom.c4 (((A * 60 + B) * 60 + C) * 1000000000 + F) (y.extract k y.size) true false) (by unfold Mom.c4; simp [results, Try.results43, go_sem]) rfl ⟨rfl, by assumption⟩
    · have hk2 : (k : Int) < y.size := by omega
      have hk3 : (k : Int) ≤ y.size := by omega
      have hk4 : (1 : Int) ≤ k := by omega
      go_upto_region 12 with fail
      go_wp2_with fail
      refine (HN.out _ _ (by assumption) _).mono ?_; rintro e wy ⟨rfl, rfl⟩
      by_cases c1 : A ≤ 23
      · by_cases c2 : B ≤ 59
        · by_cases c3 : C ≤ 59
          · have hq : Q = true := by rw [← HQ.out]; exact decide_eq_true (by omega)
            subst hq
            go_wp2_with fail
            exact bodyPost_ret (v := Mom.c4 (((A * 60 + B) * 60 + C) * 1000000000 + F) (y.extract k y.size) true true) (by unfold Mom.c4; simp [results, Try.results43, go_sem]) rfl ⟨rfl, by assumption⟩
          · have u1 : decide (C ≤ 59) = false := decide_eq_false c3
            have hq : Q = false := by rw [← HQ.out]; exact decide_eq_false (by omega)
            subst hq
            go_wp2_with fail
            exact bodyPost_ret (v := Mom.c4 (((A * 60 + B) * 60 + C) * 1000000000 + F) (y.extract k y.size) true false) (by unfold Mom.c4; simp [results, Try.results43, go_sem]) rfl ⟨rfl, by assumption⟩
        · have u1 : decide (B ≤ 59) = false := decide_eq_false c2
          have hq : Q = false := by rw [← HQ.out]; exact decide_eq_false (by omega)
          subst hq
          go_wp2_with fail
          exact bodyPost_ret (v := Mom.c4 (((A * 60 + B) * 60 + C) * 1000000000 + F) (y.extract k y.size) true false) (by unfold Mom.c4; simp [results, Try.results43, go_sem]) rfl ⟨rfl, by assumption⟩
      · have u1 : decide (A ≤ 23) = false := decide_eq_false c1
        have hq : Q = false := by rw [← HQ.out]; exact decide_eq_false (by omega)
        subst hq
        go_wp2_with fail
        exact bodyPost_ret (v := Mom.c4 (((A * 60 + B) * 60 + C) * 1000000000 + F) (y.extract k y.size) true false) (by unfold Mom.c4; simp [results, Try.results43, go_sem]) rfl ⟨rfl, by assumption⟩
end Go.Proofs.Ythbjkibclbgjoaa
