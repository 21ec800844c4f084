/- Decimals: their texts, walked. -/
import Derived.Test.YtcnfgcdbjofihaaDoorDecTextR
namespace Go.Proofs.YtcnfgcdbjofihaaDoor
open Go.RowKit

set_option maxHeartbeats 4000000 in
set_option maxRecDepth 100000 in
theorem rtext_dsn (n : Bool) {m : Nat} {e : Int} (hd : Dec.ok ⟨n, m, e⟩) (h0 : m ≠ 0) (c1 : ¬ (0 ≤ e ∧ ((Dig.st m).size : Int) + e ≤ 21)) (c2 : ¬ (e < 0 ∧ 1 ≤ ((Dig.st m).size : Int) + e ∧ ((Dig.st m).size : Int) + e ≤ 21)) (c3 : ¬ (-5 ≤ ((Dig.st m).size : Int) + e ∧ ((Dig.st m).size : Int) + e ≤ 0)) (c4 : ¬ 1 < (Dig.st m).size) (c5 : ((Dig.st m).size : Int) + e < 1) (w : World) :
    Calls Tryd.prog 20 #[Dec.ag ⟨n, m, e⟩] w fun r w' => r = .returned (.string (Dec.sgx n (Dec.bodyR m e))) ∧ Below w.heap.size w w' := by
  obtain ⟨a1, a2, a3, _⟩ := Dec.ok_all hd
  dsimp only at a1 a2 a3
  have hd2 : Dec.vd n (Dig.st m) e := hd
  have VA := Lib.hid (fun w => dvalid_yes (by unfold maxLen; omega) hd2 w)
  have hp := Dec.st_pos h0
  have ne := Dig.some_of hp
  unfold Dec.ag Dec.bodyR
  rw [if_neg c1, if_neg c2, if_neg c3, if_neg c4]
  dsimp only
  clear hd hd2 h0
  generalize Dig.st m = s at *
  obtain ⟨p, hpe⟩ : ∃ p : Int, (s.size : Int) + e = p := ⟨_, rfl⟩
  rw [hpe] at c1 c2 c3 c5
  try rw [hpe]
  have hp1 : -400 ≤ p := by omega
  have hp2 : p ≤ 520 := by omega
  have hwp : IntKind.i64.wrap p = p := by rw [IntKind.wrap_i64]; omega
  have D1 : ∃ b, decide (0 ≤ e) = b ∧ ∃ b', decide (e < 0) = b' := ⟨_, rfl, _, rfl⟩
  clear D1
  obtain ⟨b1, hb1⟩ : ∃ b, decide (0 ≤ e) = b := ⟨_, rfl⟩
  obtain ⟨b2, hb2⟩ : ∃ b, decide (p ≤ 21) = b := ⟨_, rfl⟩
  clear hb1 hb2
  have d6 : decide (1 < (s.size : Int)) = false := decide_eq_false (by omega)
  have d7 : decide (1 < s.size) = false := decide_eq_false (by omega)
  have d8 : decide (p < 1) = true := decide_eq_true (by omega)
  have sl1 := slice_h1 (s := s) (k := 1) 1 rfl (by omega) rfl
  have sl2 := slice_l1 (s := s) (k := 1) 1 rfl (by omega) rfl
  unfold Dec.tl at sl2
  have u1 : (s.extract 0 1).size = 1 := by rw [ByteArray.size_extract]; omega
  have u2 : (s.extract 1 s.size).size = s.size - 1 := by rw [ByteArray.size_extract]; omega
  have us : s.extract 0 1 = s := by have := Dec.split_st s (k := 1) (by omega); rw [show s.extract 1 s.size = ⟨#[]⟩ from Dec.size_zero (by omega), Dec.app_nil'] at this; exact this
  rw [us] at sl1 u1
  have HW := Lib.hid (fun w => number_any (i := p - 1) (by omega) (by omega) w)
  have hwz : (Dec.numR (p - 1)).size ≤ 8 := by
    unfold Dec.numR
    split
    · rw [ByteArray.size_append]; have := Dec.whole_size (k := (-(p - 1)).toNat) (by omega); show 1 + _ ≤ 8; omega
    · have := Dec.whole_size (k := (p - 1).toNat) (by omega); omega
  have hwj : IntKind.i64.wrap (p - 1) = p - 1 := by rw [IntKind.wrap_i64]; omega
  rw [Dec.expR_num]
  generalize Dec.numR (p - 1) = v at *
  generalize s.extract 1 s.size = z at *
  clear us
  have k0 : ¬ 9223372036854775807 < 1 + s.size := by omega
  have k1 : ¬ 9223372036854775807 < 1 + s.size + 1 := by omega
  have k2 : ¬ 9223372036854775807 < 1 + s.size + 1 + v.size := by omega
  have k3 : ¬ 9223372036854775807 < s.size := by omega
  have k4 : ¬ 9223372036854775807 < s.size + 1 := by omega
  have k5 : ¬ 9223372036854775807 < s.size + 1 + v.size := by omega
  have g1 : (1 : Int) ≤ s.size := by omega
  clear u1 u2 hwz hp
  obtain ⟨T, hT⟩ : ∃ T, s ++ (Dec.ee ++ v) = T := ⟨_, rfl⟩
  rw [hT]
  have HT := Lib.hid hT
  clear hT
  unfold Dec.sgx
  cases n
  case false =>
    by_cases e0 : 0 ≤ e
    case pos =>
      have d1 : decide (0 ≤ e) = true := decide_eq_true e0
      have d1' : decide (e < 0) = false := decide_eq_false (by omega)
      have d2 : decide (p ≤ 21) = false := decide_eq_false (by omega)
      have d3 : decide (-5 ≤ p) = true := decide_eq_true (by omega)
      have d4 : decide (p ≤ 0) = false := decide_eq_false (by omega)
      clear e0 c1 c2 c3 c4 c5
      have K := B1.new w false s e
      go_enter Tryd.func20, Tryd.ntmps20
      obtain ⟨x0, x1, x2, _⟩ := K.all
      go_wp2_with fail
      refine (HW.out _).mono ?_; rintro _ w2 ⟨rfl, hb2⟩
      replace K := K.call hb2
      clear hb2
      go_wp2
      go_ret
      refine ⟨ret_st ?_, K.below⟩
      rw [← HT.out]
      first | rfl | (apply Dec.of_l; (try unfold Dec.mn); (try unfold Dec.dot); (try unfold Dec.ee); (try unfold Dec.zr); simp [Dig.l])
    case neg =>
      have d1 : decide (0 ≤ e) = false := decide_eq_false e0
      have d1' : decide (e < 0) = true := decide_eq_true (by omega)
      by_cases e1 : 1 ≤ p
      case pos =>
        have d2 : decide (1 ≤ p) = true := decide_eq_true e1
        have d2' : decide (p ≤ 21) = false := decide_eq_false (by omega)
        have d3 : decide (-5 ≤ p) = true := decide_eq_true (by omega)
        have d4 : decide (p ≤ 0) = false := decide_eq_false (by omega)
        clear e0 e1 c1 c2 c3 c4 c5
        have K := B1.new w false s e
        go_enter Tryd.func20, Tryd.ntmps20
        obtain ⟨x0, x1, x2, _⟩ := K.all
        go_wp2_with fail
        refine (HW.out _).mono ?_; rintro _ w2 ⟨rfl, hb2⟩
        replace K := K.call hb2
        clear hb2
        go_wp2
        go_ret
        refine ⟨ret_st ?_, K.below⟩
        rw [← HT.out]
        first | rfl | (apply Dec.of_l; (try unfold Dec.mn); (try unfold Dec.dot); (try unfold Dec.ee); (try unfold Dec.zr); simp [Dig.l])
      case neg =>
        have d2 : decide (1 ≤ p) = false := decide_eq_false e1
        have d3 : decide (-5 ≤ p) = false := decide_eq_false (by omega)
        clear e0 e1 c1 c2 c3 c4 c5
        have K := B1.new w false s e
        go_enter Tryd.func20, Tryd.ntmps20
        obtain ⟨x0, x1, x2, _⟩ := K.all
        go_wp2_with fail
        refine (HW.out _).mono ?_; rintro _ w2 ⟨rfl, hb2⟩
        replace K := K.call hb2
        clear hb2
        go_wp2
        go_ret
        refine ⟨ret_st ?_, K.below⟩
        rw [← HT.out]
        first | rfl | (apply Dec.of_l; (try unfold Dec.mn); (try unfold Dec.dot); (try unfold Dec.ee); (try unfold Dec.zr); simp [Dig.l])
  skip
  case true =>
    by_cases e0 : 0 ≤ e
    case pos =>
      have d1 : decide (0 ≤ e) = true := decide_eq_true e0
      have d1' : decide (e < 0) = false := decide_eq_false (by omega)
      have d2 : decide (p ≤ 21) = false := decide_eq_false (by omega)
      have d3 : decide (-5 ≤ p) = true := decide_eq_true (by omega)
      have d4 : decide (p ≤ 0) = false := decide_eq_false (by omega)
      clear e0 c1 c2 c3 c4 c5
      have K := B1.new w true s e
      go_enter Tryd.func20, Tryd.ntmps20
      obtain ⟨x0, x1, x2, _⟩ := K.all
      go_wp2_with fail
      refine (HW.out _).mono ?_; rintro _ w2 ⟨rfl, hb2⟩
      replace K := K.call hb2
      clear hb2
      go_wp2
      go_ret
      refine ⟨ret_st ?_, K.below⟩
      rw [← HT.out]
      first | rfl | (apply Dec.of_l; (try unfold Dec.mn); (try unfold Dec.dot); (try unfold Dec.ee); (try unfold Dec.zr); simp [Dig.l])
    case neg =>
      have d1 : decide (0 ≤ e) = false := decide_eq_false e0
      have d1' : decide (e < 0) = true := decide_eq_true (by omega)
      by_cases e1 : 1 ≤ p
      case pos =>
        have d2 : decide (1 ≤ p) = true := decide_eq_true e1
        have d2' : decide (p ≤ 21) = false := decide_eq_false (by omega)
        have d3 : decide (-5 ≤ p) = true := decide_eq_true (by omega)
        have d4 : decide (p ≤ 0) = false := decide_eq_false (by omega)
        clear e0 e1 c1 c2 c3 c4 c5
        have K := B1.new w true s e
        go_enter Tryd.func20, Tryd.ntmps20
        obtain ⟨x0, x1, x2, _⟩ := K.all
        go_wp2_with fail
        refine (HW.out _).mono ?_; rintro _ w2 ⟨rfl, hb2⟩
        replace K := K.call hb2
        clear hb2
        go_wp2
        go_ret
        refine ⟨ret_st ?_, K.below⟩
        rw [← HT.out]
        first | rfl | (apply Dec.of_l; (try unfold Dec.mn); (try unfold Dec.dot); (try unfold Dec.ee); (try unfold Dec.zr); simp [Dig.l])
      case neg =>
        have d2 : decide (1 ≤ p) = false := decide_eq_false e1
        have d3 : decide (-5 ≤ p) = false := decide_eq_false (by omega)
        clear e0 e1 c1 c2 c3 c4 c5
        have K := B1.new w true s e
        go_enter Tryd.func20, Tryd.ntmps20
        obtain ⟨x0, x1, x2, _⟩ := K.all
        go_wp2_with fail
        refine (HW.out _).mono ?_; rintro _ w2 ⟨rfl, hb2⟩
        replace K := K.call hb2
        clear hb2
        go_wp2
        go_ret
        refine ⟨ret_st ?_, K.below⟩
        rw [← HT.out]
        first | rfl | (apply Dec.of_l; (try unfold Dec.mn); (try unfold Dec.dot); (try unfold Dec.ee); (try unfold Dec.zr); simp [Dig.l])
set_option maxHeartbeats 4000000 in
set_option maxRecDepth 100000 in
theorem rtext_dsp (n : Bool) {m : Nat} {e : Int} (hd : Dec.ok ⟨n, m, e⟩) (h0 : m ≠ 0) (c1 : ¬ (0 ≤ e ∧ ((Dig.st m).size : Int) + e ≤ 21)) (c2 : ¬ (e < 0 ∧ 1 ≤ ((Dig.st m).size : Int) + e ∧ ((Dig.st m).size : Int) + e ≤ 21)) (c3 : ¬ (-5 ≤ ((Dig.st m).size : Int) + e ∧ ((Dig.st m).size : Int) + e ≤ 0)) (c4 : ¬ 1 < (Dig.st m).size) (c5 : ¬ ((Dig.st m).size : Int) + e < 1) (w : World) :
    Calls Tryd.prog 20 #[Dec.ag ⟨n, m, e⟩] w fun r w' => r = .returned (.string (Dec.sgx n (Dec.bodyR m e))) ∧ Below w.heap.size w w' := by
  obtain ⟨a1, a2, a3, _⟩ := Dec.ok_all hd
  dsimp only at a1 a2 a3
  have hd2 : Dec.vd n (Dig.st m) e := hd
  have VA := Lib.hid (fun w => dvalid_yes (by unfold maxLen; omega) hd2 w)
  have hp := Dec.st_pos h0
  have ne := Dig.some_of hp
  unfold Dec.ag Dec.bodyR
  rw [if_neg c1, if_neg c2, if_neg c3, if_neg c4]
  dsimp only
  clear hd hd2 h0
  generalize Dig.st m = s at *
  obtain ⟨p, hpe⟩ : ∃ p : Int, (s.size : Int) + e = p := ⟨_, rfl⟩
  rw [hpe] at c1 c2 c3 c5
  try rw [hpe]
  have hp1 : -400 ≤ p := by omega
  have hp2 : p ≤ 520 := by omega
  have hwp : IntKind.i64.wrap p = p := by rw [IntKind.wrap_i64]; omega
  have D1 : ∃ b, decide (0 ≤ e) = b ∧ ∃ b', decide (e < 0) = b' := ⟨_, rfl, _, rfl⟩
  clear D1
  obtain ⟨b1, hb1⟩ : ∃ b, decide (0 ≤ e) = b := ⟨_, rfl⟩
  obtain ⟨b2, hb2⟩ : ∃ b, decide (p ≤ 21) = b := ⟨_, rfl⟩
  clear hb1 hb2
  have d6 : decide (1 < (s.size : Int)) = false := decide_eq_false (by omega)
  have d7 : decide (1 < s.size) = false := decide_eq_false (by omega)
  have d8 : decide (p < 1) = false := decide_eq_false (by omega)
  have sl1 := slice_h1 (s := s) (k := 1) 1 rfl (by omega) rfl
  have sl2 := slice_l1 (s := s) (k := 1) 1 rfl (by omega) rfl
  unfold Dec.tl at sl2
  have u1 : (s.extract 0 1).size = 1 := by rw [ByteArray.size_extract]; omega
  have u2 : (s.extract 1 s.size).size = s.size - 1 := by rw [ByteArray.size_extract]; omega
  have us : s.extract 0 1 = s := by have := Dec.split_st s (k := 1) (by omega); rw [show s.extract 1 s.size = ⟨#[]⟩ from Dec.size_zero (by omega), Dec.app_nil'] at this; exact this
  rw [us] at sl1 u1
  have HW := Lib.hid (fun w => number_any (i := p - 1) (by omega) (by omega) w)
  have hwz : (Dec.numR (p - 1)).size ≤ 8 := by
    unfold Dec.numR
    split
    · rw [ByteArray.size_append]; have := Dec.whole_size (k := (-(p - 1)).toNat) (by omega); show 1 + _ ≤ 8; omega
    · have := Dec.whole_size (k := (p - 1).toNat) (by omega); omega
  have hwj : IntKind.i64.wrap (p - 1) = p - 1 := by rw [IntKind.wrap_i64]; omega
  rw [Dec.expR_num]
  generalize Dec.numR (p - 1) = v at *
  generalize s.extract 1 s.size = z at *
  clear us
  have k0 : ¬ 9223372036854775807 < 1 + s.size := by omega
  have k1 : ¬ 9223372036854775807 < 1 + s.size + 1 := by omega
  have k2 : ¬ 9223372036854775807 < 1 + s.size + 1 + v.size := by omega
  have k3 : ¬ 9223372036854775807 < s.size := by omega
  have k4 : ¬ 9223372036854775807 < s.size + 1 := by omega
  have k5 : ¬ 9223372036854775807 < s.size + 1 + v.size := by omega
  have g1 : (1 : Int) ≤ s.size := by omega
  clear u1 u2 hwz hp
  obtain ⟨T, hT⟩ : ∃ T, s ++ (Dec.ee ++ v) = T := ⟨_, rfl⟩
  rw [hT]
  have HT := Lib.hid hT
  clear hT
  unfold Dec.sgx
  cases n
  case false =>
    by_cases e0 : 0 ≤ e
    case pos =>
      have d1 : decide (0 ≤ e) = true := decide_eq_true e0
      have d1' : decide (e < 0) = false := decide_eq_false (by omega)
      have d2 : decide (p ≤ 21) = false := decide_eq_false (by omega)
      have d3 : decide (-5 ≤ p) = true := decide_eq_true (by omega)
      have d4 : decide (p ≤ 0) = false := decide_eq_false (by omega)
      clear e0 c1 c2 c3 c4 c5
      have K := B1.new w false s e
      go_enter Tryd.func20, Tryd.ntmps20
      obtain ⟨x0, x1, x2, _⟩ := K.all
      go_wp2_with fail
      refine (HW.out _).mono ?_; rintro _ w2 ⟨rfl, hb2⟩
      replace K := K.call hb2
      clear hb2
      go_wp2
      go_ret
      refine ⟨ret_st ?_, K.below⟩
      rw [← HT.out]
      first | rfl | (apply Dec.of_l; (try unfold Dec.mn); (try unfold Dec.dot); (try unfold Dec.ee); (try unfold Dec.zr); simp [Dig.l])
    case neg =>
      have d1 : decide (0 ≤ e) = false := decide_eq_false e0
      have d1' : decide (e < 0) = true := decide_eq_true (by omega)
      by_cases e1 : 1 ≤ p
      case pos =>
        have d2 : decide (1 ≤ p) = true := decide_eq_true e1
        have d2' : decide (p ≤ 21) = false := decide_eq_false (by omega)
        have d3 : decide (-5 ≤ p) = true := decide_eq_true (by omega)
        have d4 : decide (p ≤ 0) = false := decide_eq_false (by omega)
        clear e0 e1 c1 c2 c3 c4 c5
        have K := B1.new w false s e
        go_enter Tryd.func20, Tryd.ntmps20
        obtain ⟨x0, x1, x2, _⟩ := K.all
        go_wp2_with fail
        refine (HW.out _).mono ?_; rintro _ w2 ⟨rfl, hb2⟩
        replace K := K.call hb2
        clear hb2
        go_wp2
        go_ret
        refine ⟨ret_st ?_, K.below⟩
        rw [← HT.out]
        first | rfl | (apply Dec.of_l; (try unfold Dec.mn); (try unfold Dec.dot); (try unfold Dec.ee); (try unfold Dec.zr); simp [Dig.l])
      case neg =>
        have d2 : decide (1 ≤ p) = false := decide_eq_false e1
        have d3 : decide (-5 ≤ p) = false := decide_eq_false (by omega)
        clear e0 e1 c1 c2 c3 c4 c5
        have K := B1.new w false s e
        go_enter Tryd.func20, Tryd.ntmps20
        obtain ⟨x0, x1, x2, _⟩ := K.all
        go_wp2_with fail
        refine (HW.out _).mono ?_; rintro _ w2 ⟨rfl, hb2⟩
        replace K := K.call hb2
        clear hb2
        go_wp2
        go_ret
        refine ⟨ret_st ?_, K.below⟩
        rw [← HT.out]
        first | rfl | (apply Dec.of_l; (try unfold Dec.mn); (try unfold Dec.dot); (try unfold Dec.ee); (try unfold Dec.zr); simp [Dig.l])
  skip
  case true =>
    by_cases e0 : 0 ≤ e
    case pos =>
      have d1 : decide (0 ≤ e) = true := decide_eq_true e0
      have d1' : decide (e < 0) = false := decide_eq_false (by omega)
      have d2 : decide (p ≤ 21) = false := decide_eq_false (by omega)
      have d3 : decide (-5 ≤ p) = true := decide_eq_true (by omega)
      have d4 : decide (p ≤ 0) = false := decide_eq_false (by omega)
      clear e0 c1 c2 c3 c4 c5
      have K := B1.new w true s e
      go_enter Tryd.func20, Tryd.ntmps20
      obtain ⟨x0, x1, x2, _⟩ := K.all
      go_wp2_with fail
      refine (HW.out _).mono ?_; rintro _ w2 ⟨rfl, hb2⟩
      replace K := K.call hb2
      clear hb2
      go_wp2
      go_ret
      refine ⟨ret_st ?_, K.below⟩
      rw [← HT.out]
      first | rfl | (apply Dec.of_l; (try unfold Dec.mn); (try unfold Dec.dot); (try unfold Dec.ee); (try unfold Dec.zr); simp [Dig.l])
    case neg =>
      have d1 : decide (0 ≤ e) = false := decide_eq_false e0
      have d1' : decide (e < 0) = true := decide_eq_true (by omega)
      by_cases e1 : 1 ≤ p
      case pos =>
        have d2 : decide (1 ≤ p) = true := decide_eq_true e1
        have d2' : decide (p ≤ 21) = false := decide_eq_false (by omega)
        have d3 : decide (-5 ≤ p) = true := decide_eq_true (by omega)
        have d4 : decide (p ≤ 0) = false := decide_eq_false (by omega)
        clear e0 e1 c1 c2 c3 c4 c5
        have K := B1.new w true s e
        go_enter Tryd.func20, Tryd.ntmps20
        obtain ⟨x0, x1, x2, _⟩ := K.all
        go_wp2_with fail
        refine (HW.out _).mono ?_; rintro _ w2 ⟨rfl, hb2⟩
        replace K := K.call hb2
        clear hb2
        go_wp2
        go_ret
        refine ⟨ret_st ?_, K.below⟩
        rw [← HT.out]
        first | rfl | (apply Dec.of_l; (try unfold Dec.mn); (try unfold Dec.dot); (try unfold Dec.ee); (try unfold Dec.zr); simp [Dig.l])
      case neg =>
        have d2 : decide (1 ≤ p) = false := decide_eq_false e1
        have d3 : decide (-5 ≤ p) = false := decide_eq_false (by omega)
        clear e0 e1 c1 c2 c3 c4 c5
        have K := B1.new w true s e
        go_enter Tryd.func20, Tryd.ntmps20
        obtain ⟨x0, x1, x2, _⟩ := K.all
        go_wp2_with fail
        refine (HW.out _).mono ?_; rintro _ w2 ⟨rfl, hb2⟩
        replace K := K.call hb2
        clear hb2
        go_wp2
        go_ret
        refine ⟨ret_st ?_, K.below⟩
        rw [← HT.out]
        first | rfl | (apply Dec.of_l; (try unfold Dec.mn); (try unfold Dec.dot); (try unfold Dec.ee); (try unfold Dec.zr); simp [Dig.l])
theorem rtxt_any {d : Dec.Dc} (hd : Dec.ok d) (w : World) :
    Calls Tryd.prog 20 #[Dec.ag d] w fun r w' => r = .returned (.string (Dec.textR d)) ∧ Below w.heap.size w w' := by
  by_cases h0 : d.m = 0
  · exact rtext_zero h0 w
  rw [Dec.textR_sgx h0]
  obtain ⟨n, m, e⟩ := d
  dsimp only at *
  by_cases c1 : 0 ≤ e ∧ ((Dig.st m).size : Int) + e ≤ 21
  · exact rtext_a n hd h0 c1.1 c1.2 w
  by_cases c2 : e < 0 ∧ 1 ≤ ((Dig.st m).size : Int) + e ∧ ((Dig.st m).size : Int) + e ≤ 21
  · exact rtext_b n hd h0 c2.1 c2.2.1 c2.2.2 w
  by_cases c3 : -5 ≤ ((Dig.st m).size : Int) + e ∧ ((Dig.st m).size : Int) + e ≤ 0
  · exact rtext_c n hd h0 (by omega) c3.1 c3.2 w
  by_cases c4 : 1 < (Dig.st m).size
  · by_cases c5 : ((Dig.st m).size : Int) + e < 1
    · exact rtext_dmn n hd h0 c1 c2 c3 c4 c5 w
    · exact rtext_dmp n hd h0 c1 c2 c3 c4 c5 w
  · by_cases c5 : ((Dig.st m).size : Int) + e < 1
    · exact rtext_dsn n hd h0 c1 c2 c3 c4 c5 w
    · exact rtext_dsp n hd h0 c1 c2 c3 c4 c5 w
end Go.Proofs.YtcnfgcdbjofihaaDoor
