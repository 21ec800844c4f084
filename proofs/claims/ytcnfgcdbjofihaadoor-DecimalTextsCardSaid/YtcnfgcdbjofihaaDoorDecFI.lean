/- Decimals: ints as decimals. -/
import Derived.Test.YtcnfgcdbjofihaaDoorDecMul
import Derived.Test.YtcnfgcdbjofihaaDoorDigFrom
namespace Go.Proofs.YtcnfgcdbjofihaaDoor
open Go.RowKit

namespace Dec
/-- An int as a decimal. -/
def fiR (n : Int) : Dc := (normR (decide (n < 0)) n.natAbs 0).1
theorem enc_digit {d : Nat} (h : d < 10) : Utf8.encode (48 + (d : Int)) = Dig.bs [Dig.ch d] := by
  match d, h with
  | 0, _ => rfl
  | 1, _ => rfl
  | 2, _ => rfl
  | 3, _ => rfl
  | 4, _ => rfl
  | 5, _ => rfl
  | 6, _ => rfl
  | 7, _ => rfl
  | 8, _ => rfl
  | 9, _ => rfl
theorem app_digit (A : Nat) {d : Nat} (h : d < 10) : Dig.alld (Dig.l (Dig.st A ++ Dig.bs [Dig.ch d])) ∧ Dig.V (Dig.st A ++ Dig.bs [Dig.ch d]) = 10 * A + d := by
  have e : Dig.l (Dig.st A ++ Dig.bs [Dig.ch d]) = Dig.num A ++ [Dig.ch d] := by rw [Dig.l_app, Dig.l_st, Dig.l_bs]
  unfold Dig.V
  rw [e, Dig.val_snoc, Dig.val_num, Dig.ch_nat h]
  refine ⟨fun b hb => ?_, by omega⟩
  rcases List.mem_append.1 hb with k | k
  · exact Dig.num_alld A b k
  · rw [List.mem_singleton.1 k]; exact Dig.ch_isd h
theorem int_size {N : Nat} (h : N ≤ 9223372036854775808) : (Dig.st N).size ≤ 19 := (Dig.st_size N 19).2 (by
  have e : Dig.big 19 = 10000000000000000000 := by unfold Dig.big; rfl
  omega)
end Dec

set_option maxHeartbeats 2000000 in
set_option maxRecDepth 100000 in
theorem fromInt_up {N : Nat} (h : N ≤ 9223372036854775807) (w : World) :
    Calls Tryd.prog 32 #[.int .i64 N] w fun e w' => e = .returned (Dec.ag (Dec.fiR N)) ∧ Below w.heap.size w w' := by
  have hf : Dig.fi (N : Int) = Dig.st N := by unfold Dig.fi; rw [Int.toNat_natCast]
  have HF := Lib.hid (fun w => by have := fromInt_any (N : Int) (by omega) w; rwa [hf] at this)
  unfold Dec.fiR
  rw [decide_eq_false (by omega), show ((N : Int)).natAbs = N from rfl]
  obtain ⟨R, hR⟩ : ∃ R, Dec.normR false N 0 = R := ⟨_, rfl⟩
  rw [hR]
  obtain ⟨⟨rg, rm, re⟩, rr⟩ := R
  obtain ⟨q, hq⟩ : ∃ q, Dig.st rm = q := ⟨_, rfl⟩
  have HN := Lib.hid (norm_leaf (Nat.le_trans (Dec.int_size (by omega)) (by omega)) hR hq)
  unfold Dec.ag
  dsimp only
  rw [hq]
  have hN0 : (0 : Int) ≤ N := by omega
  clear hf hR hq
  generalize Dig.st N = s at *
  generalize (N : Int) = n at *
  have d1 : decide (n < 0) = false := decide_eq_false (by omega)
  clear h
  have K := DK.new w
  go_enter Tryd.func32, Tryd.ntmps32
  go_wp2_with fail
  refine (HF.out _).mono ?_; rintro _ w1 ⟨rfl, hb1⟩
  replace K := K.call hb1
  clear hb1
  go_wp2_with fail
  refine (HN.out _).mono ?_; rintro _ w2 ⟨rfl, hb2⟩
  replace K := K.call hb2
  clear hb2
  have K2 : DK w (w2.alloc (.cells #[.bool rg, .string q, .int .i64 re] 23)) := ⟨K.res.alloc _, K.below.alloc K.below.size _⟩
  clear K
  obtain ⟨z0, z1, z2⟩ := K2.res.c3
  have zf := K2.res.frozen
  obtain ⟨hfin, hbf⟩ := K2.put (.bool rg) (.string q) (.int .i64 re)
  go_wp2
  exact bodyPost_ret (v := .agg #[.bool rg, .string q, .int .i64 re]) (by simp [results, Tryd.results32, go_sem, hfin.c3]) rfl ⟨rfl, hbf⟩
set_option maxHeartbeats 2000000 in
set_option maxRecDepth 100000 in
theorem fromInt_down {N : Nat} (h0 : 0 < N) (h : N ≤ 9223372036854775808) (w : World) :
    Calls Tryd.prog 32 #[.int .i64 (-(N : Int))] w fun e w' => e = .returned (Dec.ag (Dec.fiR (-(N : Int)))) ∧ Below w.heap.size w w' := by
  have hf : Dig.fi ((N / 10 : Nat) : Int) = Dig.st (N / 10) := by unfold Dig.fi; rw [Int.toNat_natCast]
  have HF := Lib.hid (fun w => by have := fromInt_any ((N / 10 : Nat) : Int) (by omega) w; rwa [hf] at this)
  obtain ⟨a1, a2⟩ := Dec.app_digit (N / 10) (Nat.mod_lt N (by omega : 0 < 10))
  rw [show 10 * (N / 10) + N % 10 = N by omega] at a2
  have HT := Lib.hid (fun w => by have := triml_any a1 w; rwa [a2] at this)
  have HE := Dec.enc_digit (Nat.mod_lt N (by omega : 0 < 10))
  have hs1 : (Dig.st (N / 10)).size ≤ 19 := Dec.int_size (by omega)
  have happ : ¬ 9223372036854775807 < (Dig.st (N / 10)).size + (Dig.bs [Dig.ch (N % 10)]).size := by rw [Dig.bs_size]; simp; omega
  unfold Dec.fiR
  rw [decide_eq_true (by omega), show (-(N : Int)).natAbs = N by omega]
  obtain ⟨R, hR⟩ : ∃ R, Dec.normR true N 0 = R := ⟨_, rfl⟩
  rw [hR]
  obtain ⟨⟨rg, rm, re⟩, rr⟩ := R
  obtain ⟨q, hq⟩ : ∃ q, Dig.st rm = q := ⟨_, rfl⟩
  have HN := Lib.hid (norm_leaf (Nat.le_trans (Dec.int_size h) (by omega)) hR hq)
  unfold Dec.ag
  dsimp only
  rw [hq]
  obtain ⟨d, hd⟩ : ∃ d : Nat, N % 10 = d := ⟨_, rfl⟩
  obtain ⟨t, ht⟩ : ∃ t : Nat, N / 10 = t := ⟨_, rfl⟩
  obtain ⟨n, hn⟩ : ∃ n : Int, (N : Int) = n := ⟨_, rfl⟩
  have hr1 : n % 10 = d := by omega
  have hr2 : n / 10 = t := by omega
  have hr3 : Int.tmod n 10 = d := by rw [Int.tmod_eq_emod_of_nonneg (by omega)]; exact hr1
  have hr4 : Int.tdiv n 10 = t := by rw [Int.tdiv_eq_ediv_of_nonneg (by omega)]; exact hr2
  have hn0 : 0 < n := by omega
  have hnb : n ≤ 9223372036854775808 := by omega
  have hd9 : (d : Int) < 10 := by omega
  have hd0 : (0 : Int) ≤ d := by omega
  have ht9 : (t : Int) < 922337203685477581 := by omega
  have ht0 : (0 : Int) ≤ t := by omega
  rw [hd] at HT HE happ
  rw [ht] at HT HF hs1 happ
  rw [hn]
  clear a1 a2 hf hR hq hn hd ht h h0
  generalize Dig.st N = s at *
  generalize Dig.st t = u at *
  generalize Dig.bs [Dig.ch d] = v at *
  have d1 : decide (-n < 0) = true := decide_eq_true (by omega)
  have K := DK.new w
  go_enter Tryd.func32, Tryd.ntmps32
  go_wp2_with fail
  refine (HF.out _).mono ?_; rintro _ w1 ⟨rfl, hb1⟩
  replace K := K.call hb1
  clear hb1
  go_wp2_with fail
  refine (HT.out _).mono ?_; rintro _ w' ⟨rfl, rfl⟩
  go_wp2_with fail
  refine (HN.out _).mono ?_; rintro _ w2 ⟨rfl, hb2⟩
  replace K := K.call hb2
  clear hb2
  have K2 : DK w (w2.alloc (.cells #[.bool rg, .string q, .int .i64 re] 23)) := ⟨K.res.alloc _, K.below.alloc K.below.size _⟩
  clear K
  obtain ⟨z0, z1, z2⟩ := K2.res.c3
  have zf := K2.res.frozen
  obtain ⟨hfin, hbf⟩ := K2.put (.bool rg) (.string q) (.int .i64 re)
  go_wp2
  exact bodyPost_ret (v := .agg #[.bool rg, .string q, .int .i64 re]) (by simp [results, Tryd.results32, go_sem, hfin.c3]) rfl ⟨rfl, hbf⟩
end Go.Proofs.YtcnfgcdbjofihaaDoor
