/- Decimals: their texts, the program's. -/
import Derived.Test.YtcnfgcdbjofihaaDoorDecTextM
import Derived.Test.YtcnfgcdbjofihaaDoorDecFI
import Derived.Test.YtcnfgcdbjofihaaDoorDecRefC
namespace Go.Proofs.YtcnfgcdbjofihaaDoor
open Go.RowKit

namespace Dec
def sgx (n : Bool) (b : ByteArray) : ByteArray := if n then mn ++ b else b
theorem textR_sgx {d : Dc} (h : d.m ≠ 0) : textR d = sgx d.neg (bodyR d.m d.e) := by unfold textR sgx; rw [if_neg h]
theorem whole_size {k : Nat} (h : k ≤ 1000000) : (wholeR k).size ≤ 7 := by
  unfold wholeR
  split
  · decide
  · exact (Dig.st_size k 7).2 (by have e : Dig.big 7 = 10000000 := by unfold Dig.big; rfl
                                  omega)
/-- A number with its sign. -/
def numR (i : Int) : ByteArray := if i < 0 then mn ++ wholeR (-i).toNat else wholeR i.toNat
theorem expR_num (q : Int) : expR q = ee ++ numR (q - 1) := by
  unfold expR numR
  by_cases h : q < 1
  · rw [if_pos h, if_pos (by omega), show (1 - q).toNat = (-(q - 1)).toNat by omega]
  · rw [if_neg h, if_neg (by omega)]
end Dec
set_option maxRecDepth 100000 in
theorem dwhole_any {k : Nat} (h : k ≤ 1000000) (w : World) :
    Calls Tryd.prog 59 #[.int .i64 k] w fun r w' => r = .returned (.string (Dec.wholeR k)) ∧ Below w.heap.size w w' := by
  unfold Dec.wholeR
  by_cases h0 : k = 0
  · rw [if_pos h0]
    subst h0
    go_enter Tryd.func59, Tryd.ntmps59
    go_wp2
    go_ret
    exact ⟨rfl, Below.refl _ _⟩
  · rw [if_neg h0]
    have hf : Dig.fi (k : Int) = Dig.st k := by unfold Dig.fi; rw [Int.toNat_natCast]
    have HF := Lib.hid (fun w => by have := fromInt_any (k : Int) (by omega) w; rwa [hf] at this)
    generalize Dig.st k = s at *
    have d1 : ((k : Int) == 0) = false := by rw [beq_eq_false_iff_ne]; omega
    clear hf h0
    generalize (k : Int) = i at *
    go_enter Tryd.func59, Tryd.ntmps59
    go_wp2_with fail
    refine (HF.out _).mono ?_; rintro _ w1 ⟨rfl, hb1⟩
    go_wp2
    go_ret
    exact ⟨rfl, hb1⟩
set_option maxRecDepth 100000 in
theorem number_any {i : Int} (h1 : -1000000 ≤ i) (h2 : i ≤ 1000000) (w : World) :
    Calls Tryd.prog 64 #[.int .i64 i] w fun r w' => r = .returned (.string (Dec.numR i)) ∧ Below w.heap.size w w' := by
  unfold Dec.numR Dec.wholeR
  by_cases hn : i < 0
  · rw [if_pos hn, if_neg (by omega)]
    have hf : Dig.fi (-i) = Dig.st (-i).toNat := rfl
    have HF := Lib.hid (fun w => by have := rfromInt_any (-i) (by omega) w; rwa [hf] at this)
    have hs : (Dig.st (-i).toNat).size ≤ 7 := (Dig.st_size _ 7).2 (by have e : Dig.big 7 = 10000000 := by unfold Dig.big; rfl
                                                                      omega)
    generalize Dig.st (-i).toNat = s at *
    have d1 : decide (i < 0) = true := decide_eq_true hn
    have hw : IntKind.i64.wrap (-i) = -i := by rw [IntKind.wrap_i64]; omega
    have k1 : ¬ 9223372036854775807 < 1 + s.size := by omega
    clear hf hs hn
    go_enter Tryd.func64, Tryd.ntmps64
    go_wp2_with fail
    refine (HF.out _).mono ?_; rintro _ w1 ⟨rfl, hb1⟩
    go_wp2
    go_ret
    exact ⟨rfl, hb1⟩
  · rw [if_neg hn]
    have d1 : decide (i < 0) = false := decide_eq_false hn
    by_cases h0 : i = 0
    · subst h0
      clear hn d1
      go_enter Tryd.func64, Tryd.ntmps64
      go_wp2
      go_ret
      exact ⟨rfl, Below.refl _ _⟩
    · rw [if_neg (by omega)]
      have hf : Dig.fi i = Dig.st i.toNat := rfl
      have HF := Lib.hid (fun w => by have := rfromInt_any i (by omega) w; rwa [hf] at this)
      generalize Dig.st i.toNat = s at *
      have d2 : (i == 0) = false := by rw [beq_eq_false_iff_ne]; omega
      clear hf h0 hn
      go_enter Tryd.func64, Tryd.ntmps64
      go_wp2_with fail
      refine (HF.out _).mono ?_; rintro _ w1 ⟨rfl, hb1⟩
      go_wp2
      go_ret
      exact ⟨rfl, hb1⟩

set_option maxRecDepth 100000 in
theorem dtext_zero {d : Dec.Dc} (h0 : d.m = 0) (w : World) :
    Calls Tryd.prog 18 #[Dec.ag d] w fun r w' => r = .returned (.string (Dec.textR d)) ∧ Below w.heap.size w w' := by
  unfold Dec.textR
  rw [if_pos h0]
  obtain ⟨n, m, e⟩ := d
  unfold Dec.ag
  dsimp only at *
  subst h0
  rw [Dec.st0]
  have K := B1.new w n ⟨#[]⟩ e
  go_enter Tryd.func18, Tryd.ntmps18
  go_wp2
  go_ret
  exact ⟨rfl, K.below⟩
set_option maxHeartbeats 4000000 in
set_option maxRecDepth 100000 in
theorem dtext_a (n : Bool) {m : Nat} {e : Int} (hd : Dec.ok ⟨n, m, e⟩) (h0 : m ≠ 0) (c1 : 0 ≤ e) (c2 : ((Dig.st m).size : Int) + e ≤ 21) (w : World) :
    Calls Tryd.prog 18 #[Dec.ag ⟨n, m, e⟩] w fun r w' => r = .returned (.string (Dec.sgx n (Dec.bodyR m e))) ∧ Below w.heap.size w w' := by
  obtain ⟨a1, a2, a3, _⟩ := Dec.ok_all hd
  dsimp only at a1 a2 a3
  have hd2 : Dec.vd n (Dig.st m) e := hd
  have VA := Lib.hid (fun w => dvalid_yes (by unfold maxLen; omega) hd2 w)
  have hp := Dec.st_pos h0
  have ne := Dig.some_of hp
  unfold Dec.ag Dec.bodyR
  rw [if_pos ⟨c1, c2⟩]
  dsimp only
  clear hd hd2 h0
  generalize Dig.st m = s at *
  obtain ⟨p, hpe⟩ : ∃ p : Int, (s.size : Int) + e = p := ⟨_, rfl⟩
  rw [hpe] at c2
  try rw [hpe]
  have hp1 : -400 ≤ p := by omega
  have hp2 : p ≤ 520 := by omega
  have hwp : IntKind.i64.wrap p = p := by rw [IntKind.wrap_i64]; omega
  have D1 : ∃ b, decide (0 ≤ e) = b ∧ ∃ b', decide (e < 0) = b' := ⟨_, rfl, _, rfl⟩
  clear D1
  have d1 : decide (0 ≤ e) = true := decide_eq_true (by omega)
  have d2 : decide (p ≤ 21) = true := decide_eq_true (by omega)
  obtain ⟨k, hk⟩ : ∃ k : Nat, e = k := ⟨e.toNat, by omega⟩
  have hk2 : e.toNat = k := by omega
  have HZ : Hid (∀ w, Calls Tryd.prog 58 #[.string ⟨#[48]⟩, .int .i64 e] w fun r w' => r = .returned (.string (Dig.noughts k)) ∧ Below w.heap.size w w') := Lib.hid (fun w => by rw [hk]; exact repeat_any (n := k) (by omega) w)
  have hu := Dig.noughts_size k
  rw [hk2]
  generalize Dig.noughts k = u at *
  have k1 : ¬ 9223372036854775807 < 1 + s.size := by omega
  have k2 : ¬ 9223372036854775807 < 1 + s.size + u.size := by omega
  have k3 : ¬ 9223372036854775807 < s.size + u.size := by omega
  have k4 : ¬ 9223372036854775807 < s.size := by omega
  clear hk hk2 hu c1 c2 hp
  obtain ⟨T, hT⟩ : ∃ T, s ++ u = T := ⟨_, rfl⟩
  rw [hT]
  have HT := Lib.hid hT
  clear hT
  unfold Dec.sgx
  cases n
  case false =>
    have K := B1.new w false s e
    go_enter Tryd.func18, Tryd.ntmps18
    go_wp2_with fail
    refine (VA.out _).mono ?_; rintro _ w1 ⟨rfl, hb1⟩
    replace K := K.call hb1
    clear hb1
    obtain ⟨x0, x1, x2, _⟩ := K.all
    go_upto_region 9 with fail
    go_region_held3 (fun W => W.cell? ⟨w.heap.size, 0, none⟩ = some (.bool false) ∧ W.cell? ⟨w.heap.size, 1, none⟩ = some (.string s) ∧ W.cell? ⟨w.heap.size, 2, none⟩ = some (.int .i64 e) ∧ w.heap.size < W.heap.size ∧ Below w.heap.size w W) (first | exact K.drew.all | exact keep_b1 (by assumption) (by assumption)) (first | (go_at_call 58; refine (HZ.out _).mono ?_; rintro _ w3 ⟨rfl, hb3⟩) | fail)
    go_wp2
    go_ret
    refine ⟨ret_st ?_, fifth (by assumption)⟩
    rw [← HT.out]
    first | rfl | (apply Dec.of_l; (try unfold Dec.mn); (try unfold Dec.dot); (try unfold Dec.ee); (try unfold Dec.zr); simp [Dig.l])
  skip
  case true =>
    have K := B1.new w true s e
    go_enter Tryd.func18, Tryd.ntmps18
    go_wp2_with fail
    refine (VA.out _).mono ?_; rintro _ w1 ⟨rfl, hb1⟩
    replace K := K.call hb1
    clear hb1
    obtain ⟨x0, x1, x2, _⟩ := K.all
    go_upto_region 9 with fail
    go_region_held3 (fun W => W.cell? ⟨w.heap.size, 0, none⟩ = some (.bool true) ∧ W.cell? ⟨w.heap.size, 1, none⟩ = some (.string s) ∧ W.cell? ⟨w.heap.size, 2, none⟩ = some (.int .i64 e) ∧ w.heap.size < W.heap.size ∧ Below w.heap.size w W) (first | exact K.drew.all | exact keep_b1 (by assumption) (by assumption)) (first | (go_at_call 58; refine (HZ.out _).mono ?_; rintro _ w3 ⟨rfl, hb3⟩) | fail)
    go_wp2
    go_ret
    refine ⟨ret_st ?_, fifth (by assumption)⟩
    rw [← HT.out]
    first | rfl | (apply Dec.of_l; (try unfold Dec.mn); (try unfold Dec.dot); (try unfold Dec.ee); (try unfold Dec.zr); simp [Dig.l])
set_option maxHeartbeats 4000000 in
set_option maxRecDepth 100000 in
theorem dtext_b (n : Bool) {m : Nat} {e : Int} (hd : Dec.ok ⟨n, m, e⟩) (h0 : m ≠ 0) (c1 : e < 0) (c2 : 1 ≤ ((Dig.st m).size : Int) + e) (c3 : ((Dig.st m).size : Int) + e ≤ 21) (w : World) :
    Calls Tryd.prog 18 #[Dec.ag ⟨n, m, e⟩] w fun r w' => r = .returned (.string (Dec.sgx n (Dec.bodyR m e))) ∧ Below w.heap.size w w' := by
  obtain ⟨a1, a2, a3, _⟩ := Dec.ok_all hd
  dsimp only at a1 a2 a3
  have hd2 : Dec.vd n (Dig.st m) e := hd
  have VA := Lib.hid (fun w => dvalid_yes (by unfold maxLen; omega) hd2 w)
  have hp := Dec.st_pos h0
  have ne := Dig.some_of hp
  unfold Dec.ag Dec.bodyR
  rw [if_neg (by omega), if_pos ⟨c1, c2, c3⟩]
  dsimp only
  clear hd hd2 h0
  generalize Dig.st m = s at *
  obtain ⟨p, hpe⟩ : ∃ p : Int, (s.size : Int) + e = p := ⟨_, rfl⟩
  rw [hpe] at c2 c3
  try rw [hpe]
  have hp1 : -400 ≤ p := by omega
  have hp2 : p ≤ 520 := by omega
  have hwp : IntKind.i64.wrap p = p := by rw [IntKind.wrap_i64]; omega
  have D1 : ∃ b, decide (0 ≤ e) = b ∧ ∃ b', decide (e < 0) = b' := ⟨_, rfl, _, rfl⟩
  clear D1
  have d1 : decide (0 ≤ e) = false := decide_eq_false (by omega)
  have d2 : decide (e < 0) = true := decide_eq_true (by omega)
  have d3 : decide (1 ≤ p) = true := decide_eq_true (by omega)
  have d4 : decide (p ≤ 21) = true := decide_eq_true (by omega)
  obtain ⟨k, hk⟩ : ∃ k : Nat, p = k := ⟨p.toNat, by omega⟩
  have hk2 : p.toNat = k := by omega
  rw [hk2]
  have sl1 := slice_h1 (s := s) (k := k) p hk (by omega) rfl
  have sl2 := slice_l1 (s := s) (k := k) p hk (by omega) rfl
  have u1 : (s.extract 0 k).size = k := by rw [ByteArray.size_extract]; omega
  have u2 : (s.extract k s.size).size = s.size - k := by rw [ByteArray.size_extract]; omega
  unfold Dec.tl at sl2
  generalize s.extract 0 k = u at *
  generalize s.extract k s.size = v at *
  have k1 : ¬ 9223372036854775807 < 1 + u.size := by omega
  have k2 : ¬ 9223372036854775807 < 1 + u.size + 1 := by omega
  have k3 : ¬ 9223372036854775807 < 1 + u.size + 1 + v.size := by omega
  have k4 : ¬ 9223372036854775807 < u.size := by omega
  have k5 : ¬ 9223372036854775807 < u.size + 1 := by omega
  have k6 : ¬ 9223372036854775807 < u.size + 1 + v.size := by omega
  have k7 : 0 ≤ p := by omega
  have k8 : p ≤ s.size := by omega
  clear hk hk2 c1 c2 c3 u1 u2 hp
  obtain ⟨T, hT⟩ : ∃ T, u ++ (Dec.dot ++ v) = T := ⟨_, rfl⟩
  rw [hT]
  have HT := Lib.hid hT
  clear hT
  unfold Dec.sgx
  cases n
  case false =>
    have K := B1.new w false s e
    go_enter Tryd.func18, Tryd.ntmps18
    go_wp2_with fail
    refine (VA.out _).mono ?_; rintro _ w1 ⟨rfl, hb1⟩
    replace K := K.call hb1
    clear hb1
    obtain ⟨x0, x1, x2, _⟩ := K.all
    go_upto_region 11 with fail
    go_quiet (fail)
    go_wp2
    go_ret
    refine ⟨ret_st ?_, ⟨K.below.os, K.below.tape, K.below.output, K.below.size, K.below.block⟩⟩
    rw [← HT.out]
    first | rfl | (apply Dec.of_l; (try unfold Dec.mn); (try unfold Dec.dot); (try unfold Dec.ee); (try unfold Dec.zr); simp [Dig.l])
  skip
  case true =>
    have K := B1.new w true s e
    go_enter Tryd.func18, Tryd.ntmps18
    go_wp2_with fail
    refine (VA.out _).mono ?_; rintro _ w1 ⟨rfl, hb1⟩
    replace K := K.call hb1
    clear hb1
    obtain ⟨x0, x1, x2, _⟩ := K.all
    go_upto_region 11 with fail
    go_quiet (fail)
    go_wp2
    go_ret
    refine ⟨ret_st ?_, ⟨K.below.os, K.below.tape, K.below.output, K.below.size, K.below.block⟩⟩
    rw [← HT.out]
    first | rfl | (apply Dec.of_l; (try unfold Dec.mn); (try unfold Dec.dot); (try unfold Dec.ee); (try unfold Dec.zr); simp [Dig.l])
set_option maxHeartbeats 4000000 in
set_option maxRecDepth 100000 in
theorem dtext_c (n : Bool) {m : Nat} {e : Int} (hd : Dec.ok ⟨n, m, e⟩) (h0 : m ≠ 0) (c1 : e < 0) (c2 : -5 ≤ ((Dig.st m).size : Int) + e) (c3 : ((Dig.st m).size : Int) + e ≤ 0) (w : World) :
    Calls Tryd.prog 18 #[Dec.ag ⟨n, m, e⟩] w fun r w' => r = .returned (.string (Dec.sgx n (Dec.bodyR m e))) ∧ Below w.heap.size w w' := by
  obtain ⟨a1, a2, a3, _⟩ := Dec.ok_all hd
  dsimp only at a1 a2 a3
  have hd2 : Dec.vd n (Dig.st m) e := hd
  have VA := Lib.hid (fun w => dvalid_yes (by unfold maxLen; omega) hd2 w)
  have hp := Dec.st_pos h0
  have ne := Dig.some_of hp
  unfold Dec.ag Dec.bodyR
  rw [if_neg (by omega), if_neg (by omega), if_pos ⟨c2, c3⟩]
  dsimp only
  clear hd hd2 h0
  generalize Dig.st m = s at *
  obtain ⟨p, hpe⟩ : ∃ p : Int, (s.size : Int) + e = p := ⟨_, rfl⟩
  rw [hpe] at c2 c3
  try rw [hpe]
  have hp1 : -400 ≤ p := by omega
  have hp2 : p ≤ 520 := by omega
  have hwp : IntKind.i64.wrap p = p := by rw [IntKind.wrap_i64]; omega
  have D1 : ∃ b, decide (0 ≤ e) = b ∧ ∃ b', decide (e < 0) = b' := ⟨_, rfl, _, rfl⟩
  clear D1
  have d1 : decide (0 ≤ e) = false := decide_eq_false (by omega)
  have d2 : decide (e < 0) = true := decide_eq_true (by omega)
  have d3 : decide (1 ≤ p) = false := decide_eq_false (by omega)
  have d4 : decide (-5 ≤ p) = true := decide_eq_true (by omega)
  have d5 : decide (p ≤ 0) = true := decide_eq_true (by omega)
  obtain ⟨k, hk⟩ : ∃ k : Nat, -p = k := ⟨(-p).toNat, by omega⟩
  have hk2 : (-p).toNat = k := by omega
  have hw1 : IntKind.i64.wrap (-p) = k := by rw [IntKind.wrap_i64]; omega
  have hw2 : IntKind.i64.wrap (k : Int) = k := by rw [IntKind.wrap_i64]; omega
  have HZ := Lib.hid (fun w => repeat_any (n := k) (by omega) w)
  have hu := Dig.noughts_size k
  rw [hk2]
  generalize Dig.noughts k = u at *
  have k1 : ¬ 9223372036854775807 < 2 + u.size := by omega
  have k2 : ¬ 9223372036854775807 < 2 + u.size + s.size := by omega
  have k3 : ¬ 9223372036854775807 < 3 + u.size := by omega
  have k4 : ¬ 9223372036854775807 < 3 + u.size + s.size := by omega
  clear hk2 hu c1 c2 c3 hp
  obtain ⟨T, hT⟩ : ∃ T, Dec.zr ++ (Dec.dot ++ (u ++ s)) = T := ⟨_, rfl⟩
  rw [hT]
  have HT := Lib.hid hT
  clear hT
  unfold Dec.sgx
  cases n
  case false =>
    have K := B1.new w false s e
    go_enter Tryd.func18, Tryd.ntmps18
    go_wp2_with fail
    refine (VA.out _).mono ?_; rintro _ w1 ⟨rfl, hb1⟩
    replace K := K.call hb1
    clear hb1
    obtain ⟨x0, x1, x2, _⟩ := K.all
    go_upto_region 13 with fail
    go_region_held3 (fun W => W.cell? ⟨w.heap.size, 0, none⟩ = some (.bool false) ∧ W.cell? ⟨w.heap.size, 1, none⟩ = some (.string s) ∧ W.cell? ⟨w.heap.size, 2, none⟩ = some (.int .i64 e) ∧ w.heap.size < W.heap.size ∧ Below w.heap.size w W) (first | exact K.drew.all | exact keep_b1 (by assumption) (by assumption)) (first | (go_at_call 58; refine (HZ.out _).mono ?_; rintro _ w3 ⟨rfl, hb3⟩) | fail)
    go_wp2
    go_ret
    refine ⟨ret_st ?_, fifth (by assumption)⟩
    rw [← HT.out]
    first | rfl | (apply Dec.of_l; (try unfold Dec.mn); (try unfold Dec.dot); (try unfold Dec.ee); (try unfold Dec.zr); simp [Dig.l])
  skip
  case true =>
    have K := B1.new w true s e
    go_enter Tryd.func18, Tryd.ntmps18
    go_wp2_with fail
    refine (VA.out _).mono ?_; rintro _ w1 ⟨rfl, hb1⟩
    replace K := K.call hb1
    clear hb1
    obtain ⟨x0, x1, x2, _⟩ := K.all
    go_upto_region 13 with fail
    go_region_held3 (fun W => W.cell? ⟨w.heap.size, 0, none⟩ = some (.bool true) ∧ W.cell? ⟨w.heap.size, 1, none⟩ = some (.string s) ∧ W.cell? ⟨w.heap.size, 2, none⟩ = some (.int .i64 e) ∧ w.heap.size < W.heap.size ∧ Below w.heap.size w W) (first | exact K.drew.all | exact keep_b1 (by assumption) (by assumption)) (first | (go_at_call 58; refine (HZ.out _).mono ?_; rintro _ w3 ⟨rfl, hb3⟩) | fail)
    go_wp2
    go_ret
    refine ⟨ret_st ?_, fifth (by assumption)⟩
    rw [← HT.out]
    first | rfl | (apply Dec.of_l; (try unfold Dec.mn); (try unfold Dec.dot); (try unfold Dec.ee); (try unfold Dec.zr); simp [Dig.l])
set_option maxHeartbeats 4000000 in
set_option maxRecDepth 100000 in
theorem dtext_dmn (n : Bool) {m : Nat} {e : Int} (hd : Dec.ok ⟨n, m, e⟩) (h0 : m ≠ 0) (c1 : ¬ (0 ≤ e ∧ ((Dig.st m).size : Int) + e ≤ 21)) (c2 : ¬ (e < 0 ∧ 1 ≤ ((Dig.st m).size : Int) + e ∧ ((Dig.st m).size : Int) + e ≤ 21)) (c3 : ¬ (-5 ≤ ((Dig.st m).size : Int) + e ∧ ((Dig.st m).size : Int) + e ≤ 0)) (c4 : 1 < (Dig.st m).size) (c5 : ((Dig.st m).size : Int) + e < 1) (w : World) :
    Calls Tryd.prog 18 #[Dec.ag ⟨n, m, e⟩] w fun r w' => r = .returned (.string (Dec.sgx n (Dec.bodyR m e))) ∧ Below w.heap.size w w' := by
  obtain ⟨a1, a2, a3, _⟩ := Dec.ok_all hd
  dsimp only at a1 a2 a3
  have hd2 : Dec.vd n (Dig.st m) e := hd
  have VA := Lib.hid (fun w => dvalid_yes (by unfold maxLen; omega) hd2 w)
  have hp := Dec.st_pos h0
  have ne := Dig.some_of hp
  unfold Dec.ag Dec.bodyR
  rw [if_neg c1, if_neg c2, if_neg c3, if_pos c4]
  dsimp only
  clear hd hd2 h0
  generalize Dig.st m = s at *
  obtain ⟨p, hpe⟩ : ∃ p : Int, (s.size : Int) + e = p := ⟨_, rfl⟩
  rw [hpe] at c1 c2 c3 c5
  try rw [hpe]
  have hp1 : -400 ≤ p := by omega
  have hp2 : p ≤ 520 := by omega
  have hwp : IntKind.i64.wrap p = p := by rw [IntKind.wrap_i64]; omega
  have D1 : ∃ b, decide (0 ≤ e) = b ∧ ∃ b', decide (e < 0) = b' := ⟨_, rfl, _, rfl⟩
  clear D1
  obtain ⟨b1, hb1⟩ : ∃ b, decide (0 ≤ e) = b := ⟨_, rfl⟩
  obtain ⟨b2, hb2⟩ : ∃ b, decide (p ≤ 21) = b := ⟨_, rfl⟩
  clear hb1 hb2
  have d6 : decide (1 < (s.size : Int)) = true := decide_eq_true (by omega)
  have d7 : decide (1 < s.size) = true := decide_eq_true (by omega)
  have d8 : decide (p < 1) = true := decide_eq_true (by omega)
  have sl1 := slice_h1 (s := s) (k := 1) 1 rfl (by omega) rfl
  have sl2 := slice_l1 (s := s) (k := 1) 1 rfl (by omega) rfl
  unfold Dec.tl at sl2
  have u1 : (s.extract 0 1).size = 1 := by rw [ByteArray.size_extract]; omega
  have u2 : (s.extract 1 s.size).size = s.size - 1 := by rw [ByteArray.size_extract]; omega
  skip
  skip
  obtain ⟨j, hj⟩ : ∃ j : Nat, 1 - p = j := ⟨(1 - p).toNat, by omega⟩
  have hj2 : (1 - p).toNat = j := by omega
  have HW := Lib.hid (fun w => dwhole_any (k := j) (by omega) w)
  have hwz := Dec.whole_size (k := j) (by omega)
  have hwj : IntKind.i64.wrap (1 - p) = j := by rw [IntKind.wrap_i64]; omega
  unfold Dec.expR
  rw [if_pos c5, hj2]
  clear hj2
  generalize Dec.wholeR j = v at *
  generalize s.extract 0 1 = u at *
  generalize s.extract 1 s.size = z at *
  have k0 : ¬ 9223372036854775807 < 1 + u.size := by omega
  have k1 : ¬ 9223372036854775807 < 1 + u.size + (1 + z.size) := by omega
  have k2 : ¬ 9223372036854775807 < 1 + u.size + (1 + z.size) + 2 := by omega
  have k3 : ¬ 9223372036854775807 < 1 + u.size + (1 + z.size) + 2 + v.size := by omega
  have k4 : ¬ 9223372036854775807 < 1 + z.size := by omega
  have k5 : ¬ 9223372036854775807 < u.size := by omega
  have k6 : ¬ 9223372036854775807 < u.size + (1 + z.size) := by omega
  have k7 : ¬ 9223372036854775807 < u.size + (1 + z.size) + 2 := by omega
  have k8 : ¬ 9223372036854775807 < u.size + (1 + z.size) + 2 + v.size := by omega
  have g1 : (1 : Int) ≤ s.size := by omega
  clear u1 u2 hwz hp
  obtain ⟨T, hT⟩ : ∃ T, u ++ (Dec.dot ++ (z ++ (Dec.ee ++ (Dec.mn ++ v)))) = T := ⟨_, rfl⟩
  rw [hT]
  have HT := Lib.hid hT
  clear hT
  unfold Dec.sgx
  cases n
  case false =>
    by_cases e0 : 0 ≤ e
    case pos =>
      have d1 : decide (0 ≤ e) = true := decide_eq_true e0
      have d1' : decide (e < 0) = false := decide_eq_false (by omega)
      have d2 : decide (p ≤ 21) = false := decide_eq_false (by omega)
      have d3 : decide (-5 ≤ p) = true := decide_eq_true (by omega)
      have d4 : decide (p ≤ 0) = false := decide_eq_false (by omega)
      clear e0 c1 c2 c3 c4 c5
      have K := B1.new w false s e
      go_enter Tryd.func18, Tryd.ntmps18
      go_wp2_with fail
      refine (VA.out _).mono ?_; rintro _ w1 ⟨rfl, hb1⟩
      replace K := K.call hb1
      clear hb1
      obtain ⟨x0, x1, x2, _⟩ := K.all
      go_wp2_with fail
      refine (HW.out _).mono ?_; rintro _ w2 ⟨rfl, hb2⟩
      replace K := K.call hb2
      clear hb2
      go_wp2
      go_ret
      refine ⟨ret_st ?_, K.below⟩
      rw [← HT.out]
      first | rfl | (apply Dec.of_l; (try unfold Dec.mn); (try unfold Dec.dot); (try unfold Dec.ee); (try unfold Dec.zr); simp [Dig.l])
    case neg =>
      have d1 : decide (0 ≤ e) = false := decide_eq_false e0
      have d1' : decide (e < 0) = true := decide_eq_true (by omega)
      by_cases e1 : 1 ≤ p
      case pos =>
        have d2 : decide (1 ≤ p) = true := decide_eq_true e1
        have d2' : decide (p ≤ 21) = false := decide_eq_false (by omega)
        have d3 : decide (-5 ≤ p) = true := decide_eq_true (by omega)
        have d4 : decide (p ≤ 0) = false := decide_eq_false (by omega)
        clear e0 e1 c1 c2 c3 c4 c5
        have K := B1.new w false s e
        go_enter Tryd.func18, Tryd.ntmps18
        go_wp2_with fail
        refine (VA.out _).mono ?_; rintro _ w1 ⟨rfl, hb1⟩
        replace K := K.call hb1
        clear hb1
        obtain ⟨x0, x1, x2, _⟩ := K.all
        go_wp2_with fail
        refine (HW.out _).mono ?_; rintro _ w2 ⟨rfl, hb2⟩
        replace K := K.call hb2
        clear hb2
        go_wp2
        go_ret
        refine ⟨ret_st ?_, K.below⟩
        rw [← HT.out]
        first | rfl | (apply Dec.of_l; (try unfold Dec.mn); (try unfold Dec.dot); (try unfold Dec.ee); (try unfold Dec.zr); simp [Dig.l])
      case neg =>
        have d2 : decide (1 ≤ p) = false := decide_eq_false e1
        have d3 : decide (-5 ≤ p) = false := decide_eq_false (by omega)
        clear e0 e1 c1 c2 c3 c4 c5
        have K := B1.new w false s e
        go_enter Tryd.func18, Tryd.ntmps18
        go_wp2_with fail
        refine (VA.out _).mono ?_; rintro _ w1 ⟨rfl, hb1⟩
        replace K := K.call hb1
        clear hb1
        obtain ⟨x0, x1, x2, _⟩ := K.all
        go_wp2_with fail
        refine (HW.out _).mono ?_; rintro _ w2 ⟨rfl, hb2⟩
        replace K := K.call hb2
        clear hb2
        go_wp2
        go_ret
        refine ⟨ret_st ?_, K.below⟩
        rw [← HT.out]
        first | rfl | (apply Dec.of_l; (try unfold Dec.mn); (try unfold Dec.dot); (try unfold Dec.ee); (try unfold Dec.zr); simp [Dig.l])
  skip
  case true =>
    by_cases e0 : 0 ≤ e
    case pos =>
      have d1 : decide (0 ≤ e) = true := decide_eq_true e0
      have d1' : decide (e < 0) = false := decide_eq_false (by omega)
      have d2 : decide (p ≤ 21) = false := decide_eq_false (by omega)
      have d3 : decide (-5 ≤ p) = true := decide_eq_true (by omega)
      have d4 : decide (p ≤ 0) = false := decide_eq_false (by omega)
      clear e0 c1 c2 c3 c4 c5
      have K := B1.new w true s e
      go_enter Tryd.func18, Tryd.ntmps18
      go_wp2_with fail
      refine (VA.out _).mono ?_; rintro _ w1 ⟨rfl, hb1⟩
      replace K := K.call hb1
      clear hb1
      obtain ⟨x0, x1, x2, _⟩ := K.all
      go_wp2_with fail
      refine (HW.out _).mono ?_; rintro _ w2 ⟨rfl, hb2⟩
      replace K := K.call hb2
      clear hb2
      go_wp2
      go_ret
      refine ⟨ret_st ?_, K.below⟩
      rw [← HT.out]
      first | rfl | (apply Dec.of_l; (try unfold Dec.mn); (try unfold Dec.dot); (try unfold Dec.ee); (try unfold Dec.zr); simp [Dig.l])
    case neg =>
      have d1 : decide (0 ≤ e) = false := decide_eq_false e0
      have d1' : decide (e < 0) = true := decide_eq_true (by omega)
      by_cases e1 : 1 ≤ p
      case pos =>
        have d2 : decide (1 ≤ p) = true := decide_eq_true e1
        have d2' : decide (p ≤ 21) = false := decide_eq_false (by omega)
        have d3 : decide (-5 ≤ p) = true := decide_eq_true (by omega)
        have d4 : decide (p ≤ 0) = false := decide_eq_false (by omega)
        clear e0 e1 c1 c2 c3 c4 c5
        have K := B1.new w true s e
        go_enter Tryd.func18, Tryd.ntmps18
        go_wp2_with fail
        refine (VA.out _).mono ?_; rintro _ w1 ⟨rfl, hb1⟩
        replace K := K.call hb1
        clear hb1
        obtain ⟨x0, x1, x2, _⟩ := K.all
        go_wp2_with fail
        refine (HW.out _).mono ?_; rintro _ w2 ⟨rfl, hb2⟩
        replace K := K.call hb2
        clear hb2
        go_wp2
        go_ret
        refine ⟨ret_st ?_, K.below⟩
        rw [← HT.out]
        first | rfl | (apply Dec.of_l; (try unfold Dec.mn); (try unfold Dec.dot); (try unfold Dec.ee); (try unfold Dec.zr); simp [Dig.l])
      case neg =>
        have d2 : decide (1 ≤ p) = false := decide_eq_false e1
        have d3 : decide (-5 ≤ p) = false := decide_eq_false (by omega)
        clear e0 e1 c1 c2 c3 c4 c5
        have K := B1.new w true s e
        go_enter Tryd.func18, Tryd.ntmps18
        go_wp2_with fail
        refine (VA.out _).mono ?_; rintro _ w1 ⟨rfl, hb1⟩
        replace K := K.call hb1
        clear hb1
        obtain ⟨x0, x1, x2, _⟩ := K.all
        go_wp2_with fail
        refine (HW.out _).mono ?_; rintro _ w2 ⟨rfl, hb2⟩
        replace K := K.call hb2
        clear hb2
        go_wp2
        go_ret
        refine ⟨ret_st ?_, K.below⟩
        rw [← HT.out]
        first | rfl | (apply Dec.of_l; (try unfold Dec.mn); (try unfold Dec.dot); (try unfold Dec.ee); (try unfold Dec.zr); simp [Dig.l])
set_option maxHeartbeats 4000000 in
set_option maxRecDepth 100000 in
theorem dtext_dmp (n : Bool) {m : Nat} {e : Int} (hd : Dec.ok ⟨n, m, e⟩) (h0 : m ≠ 0) (c1 : ¬ (0 ≤ e ∧ ((Dig.st m).size : Int) + e ≤ 21)) (c2 : ¬ (e < 0 ∧ 1 ≤ ((Dig.st m).size : Int) + e ∧ ((Dig.st m).size : Int) + e ≤ 21)) (c3 : ¬ (-5 ≤ ((Dig.st m).size : Int) + e ∧ ((Dig.st m).size : Int) + e ≤ 0)) (c4 : 1 < (Dig.st m).size) (c5 : ¬ ((Dig.st m).size : Int) + e < 1) (w : World) :
    Calls Tryd.prog 18 #[Dec.ag ⟨n, m, e⟩] w fun r w' => r = .returned (.string (Dec.sgx n (Dec.bodyR m e))) ∧ Below w.heap.size w w' := by
  obtain ⟨a1, a2, a3, _⟩ := Dec.ok_all hd
  dsimp only at a1 a2 a3
  have hd2 : Dec.vd n (Dig.st m) e := hd
  have VA := Lib.hid (fun w => dvalid_yes (by unfold maxLen; omega) hd2 w)
  have hp := Dec.st_pos h0
  have ne := Dig.some_of hp
  unfold Dec.ag Dec.bodyR
  rw [if_neg c1, if_neg c2, if_neg c3, if_pos c4]
  dsimp only
  clear hd hd2 h0
  generalize Dig.st m = s at *
  obtain ⟨p, hpe⟩ : ∃ p : Int, (s.size : Int) + e = p := ⟨_, rfl⟩
  rw [hpe] at c1 c2 c3 c5
  try rw [hpe]
  have hp1 : -400 ≤ p := by omega
  have hp2 : p ≤ 520 := by omega
  have hwp : IntKind.i64.wrap p = p := by rw [IntKind.wrap_i64]; omega
  have D1 : ∃ b, decide (0 ≤ e) = b ∧ ∃ b', decide (e < 0) = b' := ⟨_, rfl, _, rfl⟩
  clear D1
  obtain ⟨b1, hb1⟩ : ∃ b, decide (0 ≤ e) = b := ⟨_, rfl⟩
  obtain ⟨b2, hb2⟩ : ∃ b, decide (p ≤ 21) = b := ⟨_, rfl⟩
  clear hb1 hb2
  have d6 : decide (1 < (s.size : Int)) = true := decide_eq_true (by omega)
  have d7 : decide (1 < s.size) = true := decide_eq_true (by omega)
  have d8 : decide (p < 1) = false := decide_eq_false (by omega)
  have sl1 := slice_h1 (s := s) (k := 1) 1 rfl (by omega) rfl
  have sl2 := slice_l1 (s := s) (k := 1) 1 rfl (by omega) rfl
  unfold Dec.tl at sl2
  have u1 : (s.extract 0 1).size = 1 := by rw [ByteArray.size_extract]; omega
  have u2 : (s.extract 1 s.size).size = s.size - 1 := by rw [ByteArray.size_extract]; omega
  skip
  skip
  obtain ⟨j, hj⟩ : ∃ j : Nat, p - 1 = j := ⟨(p - 1).toNat, by omega⟩
  have hj2 : (p - 1).toNat = j := by omega
  have HW := Lib.hid (fun w => dwhole_any (k := j) (by omega) w)
  have hwz := Dec.whole_size (k := j) (by omega)
  have hwj : IntKind.i64.wrap (p - 1) = j := by rw [IntKind.wrap_i64]; omega
  unfold Dec.expR
  rw [if_neg c5, hj2]
  clear hj2
  generalize Dec.wholeR j = v at *
  generalize s.extract 0 1 = u at *
  generalize s.extract 1 s.size = z at *
  have k0 : ¬ 9223372036854775807 < 1 + u.size := by omega
  have k1 : ¬ 9223372036854775807 < 1 + u.size + (1 + z.size) := by omega
  have k2 : ¬ 9223372036854775807 < 1 + u.size + (1 + z.size) + 1 := by omega
  have k3 : ¬ 9223372036854775807 < 1 + u.size + (1 + z.size) + 1 + v.size := by omega
  have k4 : ¬ 9223372036854775807 < 1 + z.size := by omega
  have k5 : ¬ 9223372036854775807 < u.size := by omega
  have k6 : ¬ 9223372036854775807 < u.size + (1 + z.size) := by omega
  have k7 : ¬ 9223372036854775807 < u.size + (1 + z.size) + 1 := by omega
  have k8 : ¬ 9223372036854775807 < u.size + (1 + z.size) + 1 + v.size := by omega
  have g1 : (1 : Int) ≤ s.size := by omega
  clear u1 u2 hwz hp
  obtain ⟨T, hT⟩ : ∃ T, u ++ (Dec.dot ++ (z ++ (Dec.ee ++ v))) = T := ⟨_, rfl⟩
  rw [hT]
  have HT := Lib.hid hT
  clear hT
  unfold Dec.sgx
  cases n
  case false =>
    by_cases e0 : 0 ≤ e
    case pos =>
      have d1 : decide (0 ≤ e) = true := decide_eq_true e0
      have d1' : decide (e < 0) = false := decide_eq_false (by omega)
      have d2 : decide (p ≤ 21) = false := decide_eq_false (by omega)
      have d3 : decide (-5 ≤ p) = true := decide_eq_true (by omega)
      have d4 : decide (p ≤ 0) = false := decide_eq_false (by omega)
      clear e0 c1 c2 c3 c4 c5
      have K := B1.new w false s e
      go_enter Tryd.func18, Tryd.ntmps18
      go_wp2_with fail
      refine (VA.out _).mono ?_; rintro _ w1 ⟨rfl, hb1⟩
      replace K := K.call hb1
      clear hb1
      obtain ⟨x0, x1, x2, _⟩ := K.all
      go_wp2_with fail
      refine (HW.out _).mono ?_; rintro _ w2 ⟨rfl, hb2⟩
      replace K := K.call hb2
      clear hb2
      go_wp2
      go_ret
      refine ⟨ret_st ?_, K.below⟩
      rw [← HT.out]
      first | rfl | (apply Dec.of_l; (try unfold Dec.mn); (try unfold Dec.dot); (try unfold Dec.ee); (try unfold Dec.zr); simp [Dig.l])
    case neg =>
      have d1 : decide (0 ≤ e) = false := decide_eq_false e0
      have d1' : decide (e < 0) = true := decide_eq_true (by omega)
      by_cases e1 : 1 ≤ p
      case pos =>
        have d2 : decide (1 ≤ p) = true := decide_eq_true e1
        have d2' : decide (p ≤ 21) = false := decide_eq_false (by omega)
        have d3 : decide (-5 ≤ p) = true := decide_eq_true (by omega)
        have d4 : decide (p ≤ 0) = false := decide_eq_false (by omega)
        clear e0 e1 c1 c2 c3 c4 c5
        have K := B1.new w false s e
        go_enter Tryd.func18, Tryd.ntmps18
        go_wp2_with fail
        refine (VA.out _).mono ?_; rintro _ w1 ⟨rfl, hb1⟩
        replace K := K.call hb1
        clear hb1
        obtain ⟨x0, x1, x2, _⟩ := K.all
        go_wp2_with fail
        refine (HW.out _).mono ?_; rintro _ w2 ⟨rfl, hb2⟩
        replace K := K.call hb2
        clear hb2
        go_wp2
        go_ret
        refine ⟨ret_st ?_, K.below⟩
        rw [← HT.out]
        first | rfl | (apply Dec.of_l; (try unfold Dec.mn); (try unfold Dec.dot); (try unfold Dec.ee); (try unfold Dec.zr); simp [Dig.l])
      case neg =>
        have d2 : decide (1 ≤ p) = false := decide_eq_false e1
        have d3 : decide (-5 ≤ p) = false := decide_eq_false (by omega)
        clear e0 e1 c1 c2 c3 c4 c5
        have K := B1.new w false s e
        go_enter Tryd.func18, Tryd.ntmps18
        go_wp2_with fail
        refine (VA.out _).mono ?_; rintro _ w1 ⟨rfl, hb1⟩
        replace K := K.call hb1
        clear hb1
        obtain ⟨x0, x1, x2, _⟩ := K.all
        go_wp2_with fail
        refine (HW.out _).mono ?_; rintro _ w2 ⟨rfl, hb2⟩
        replace K := K.call hb2
        clear hb2
        go_wp2
        go_ret
        refine ⟨ret_st ?_, K.below⟩
        rw [← HT.out]
        first | rfl | (apply Dec.of_l; (try unfold Dec.mn); (try unfold Dec.dot); (try unfold Dec.ee); (try unfold Dec.zr); simp [Dig.l])
  skip
  case true =>
    by_cases e0 : 0 ≤ e
    case pos =>
      have d1 : decide (0 ≤ e) = true := decide_eq_true e0
      have d1' : decide (e < 0) = false := decide_eq_false (by omega)
      have d2 : decide (p ≤ 21) = false := decide_eq_false (by omega)
      have d3 : decide (-5 ≤ p) = true := decide_eq_true (by omega)
      have d4 : decide (p ≤ 0) = false := decide_eq_false (by omega)
      clear e0 c1 c2 c3 c4 c5
      have K := B1.new w true s e
      go_enter Tryd.func18, Tryd.ntmps18
      go_wp2_with fail
      refine (VA.out _).mono ?_; rintro _ w1 ⟨rfl, hb1⟩
      replace K := K.call hb1
      clear hb1
      obtain ⟨x0, x1, x2, _⟩ := K.all
      go_wp2_with fail
      refine (HW.out _).mono ?_; rintro _ w2 ⟨rfl, hb2⟩
      replace K := K.call hb2
      clear hb2
      go_wp2
      go_ret
      refine ⟨ret_st ?_, K.below⟩
      rw [← HT.out]
      first | rfl | (apply Dec.of_l; (try unfold Dec.mn); (try unfold Dec.dot); (try unfold Dec.ee); (try unfold Dec.zr); simp [Dig.l])
    case neg =>
      have d1 : decide (0 ≤ e) = false := decide_eq_false e0
      have d1' : decide (e < 0) = true := decide_eq_true (by omega)
      by_cases e1 : 1 ≤ p
      case pos =>
        have d2 : decide (1 ≤ p) = true := decide_eq_true e1
        have d2' : decide (p ≤ 21) = false := decide_eq_false (by omega)
        have d3 : decide (-5 ≤ p) = true := decide_eq_true (by omega)
        have d4 : decide (p ≤ 0) = false := decide_eq_false (by omega)
        clear e0 e1 c1 c2 c3 c4 c5
        have K := B1.new w true s e
        go_enter Tryd.func18, Tryd.ntmps18
        go_wp2_with fail
        refine (VA.out _).mono ?_; rintro _ w1 ⟨rfl, hb1⟩
        replace K := K.call hb1
        clear hb1
        obtain ⟨x0, x1, x2, _⟩ := K.all
        go_wp2_with fail
        refine (HW.out _).mono ?_; rintro _ w2 ⟨rfl, hb2⟩
        replace K := K.call hb2
        clear hb2
        go_wp2
        go_ret
        refine ⟨ret_st ?_, K.below⟩
        rw [← HT.out]
        first | rfl | (apply Dec.of_l; (try unfold Dec.mn); (try unfold Dec.dot); (try unfold Dec.ee); (try unfold Dec.zr); simp [Dig.l])
      case neg =>
        have d2 : decide (1 ≤ p) = false := decide_eq_false e1
        have d3 : decide (-5 ≤ p) = false := decide_eq_false (by omega)
        clear e0 e1 c1 c2 c3 c4 c5
        have K := B1.new w true s e
        go_enter Tryd.func18, Tryd.ntmps18
        go_wp2_with fail
        refine (VA.out _).mono ?_; rintro _ w1 ⟨rfl, hb1⟩
        replace K := K.call hb1
        clear hb1
        obtain ⟨x0, x1, x2, _⟩ := K.all
        go_wp2_with fail
        refine (HW.out _).mono ?_; rintro _ w2 ⟨rfl, hb2⟩
        replace K := K.call hb2
        clear hb2
        go_wp2
        go_ret
        refine ⟨ret_st ?_, K.below⟩
        rw [← HT.out]
        first | rfl | (apply Dec.of_l; (try unfold Dec.mn); (try unfold Dec.dot); (try unfold Dec.ee); (try unfold Dec.zr); simp [Dig.l])
end Go.Proofs.YtcnfgcdbjofihaaDoor
