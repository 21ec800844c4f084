/- Decimals: decimals as ints, on both sides. -/
import Derived.Test.YtcnfgcdbjofihaaDoorDecFI
import Derived.Test.YtcnfgcdbjofihaaDoorDecLives
namespace Go.Proofs.YtcnfgcdbjofihaaDoor
open Go.RowKit

set_option maxHeartbeats 2000000 in
set_option maxRecDepth 100000 in
theorem rfi_up {N : Nat} (h : N ≤ 9223372036854775807) (w : World) :
    Calls Tryd.prog 34 #[.int .i64 N] w fun e w' => e = .returned (Dec.ag (Dec.fiR N)) ∧ Below w.heap.size w w' := by
  have hf : Dig.fi (N : Int) = Dig.st N := by unfold Dig.fi; rw [Int.toNat_natCast]
  have HF := Lib.hid (fun w => by have := rfromInt_any (N : Int) (by omega) w; rwa [hf] at this)
  unfold Dec.fiR
  rw [decide_eq_false (by omega), show ((N : Int)).natAbs = N from rfl]
  obtain ⟨R, hR⟩ : ∃ R, Dec.normR false N 0 = R := ⟨_, rfl⟩
  rw [hR]
  obtain ⟨⟨rg, rm, re⟩, rr⟩ := R
  obtain ⟨q, hq⟩ : ∃ q, Dig.st rm = q := ⟨_, rfl⟩
  have HN := Lib.hid (normal_st (Nat.le_trans (Dec.int_size (by omega)) (by omega)) (by omega) (by omega) hR hq)
  unfold Dec.ag
  dsimp only
  rw [hq]
  have hN0 : (0 : Int) ≤ N := by omega
  clear hf hR hq
  generalize Dig.st N = s at *
  generalize (N : Int) = n at *
  have d1 : decide (n < 0) = false := decide_eq_false (by omega)
  clear h
  have K := DK.new w
  go_enter Tryd.func34, Tryd.ntmps34
  go_wp2_with fail
  refine (HF.out _).mono ?_; rintro _ w1 ⟨rfl, hb1⟩
  replace K := K.call hb1
  clear hb1
  go_wp2_with fail
  refine (HN.out _).mono ?_; rintro _ w2 ⟨rfl, hb2⟩
  replace K := K.call hb2
  clear hb2
  have K2 : DK w (w2.alloc (.cells #[.bool rg, .string q, .int .i64 re] 23)) := ⟨K.res.alloc _, K.below.alloc K.below.size _⟩
  clear K
  obtain ⟨z0, z1, z2⟩ := K2.res.c3
  have zf := K2.res.frozen
  obtain ⟨hfin, hbf⟩ := K2.put (.bool rg) (.string q) (.int .i64 re)
  go_wp2
  exact bodyPost_ret (v := .agg #[.bool rg, .string q, .int .i64 re]) (by simp [results, Tryd.results34, go_sem, hfin.c3]) rfl ⟨rfl, hbf⟩
set_option maxHeartbeats 2000000 in
set_option maxRecDepth 100000 in
theorem rfi_down {N : Nat} (h0 : 0 < N) (h : N ≤ 9223372036854775808) (w : World) :
    Calls Tryd.prog 34 #[.int .i64 (-(N : Int))] w fun e w' => e = .returned (Dec.ag (Dec.fiR (-(N : Int)))) ∧ Below w.heap.size w w' := by
  obtain ⟨M, rfl⟩ : ∃ M, N = M + 1 := ⟨N - 1, by omega⟩
  have hf : Dig.fi (M : Int) = Dig.st M := by unfold Dig.fi; rw [Int.toNat_natCast]
  have HF := Lib.hid (fun w => by have := rfromInt_any (M : Int) (by omega) w; rwa [hf] at this)
  have HF0 := Lib.hid (fun w => by have := rfromInt_any (-((M + 1 : Nat) : Int)) (by omega) w; rwa [Dig.fi_neg (by omega)] at this)
  have HS := Lib.hid (fun w => by have := rsum_any (a := Dig.st M) (b := ⟨#[49]⟩) (Dec.str_st (Nat.le_trans (Dec.int_size (by omega)) (by omega))) ⟨by decide, by decide⟩ w; rwa [Dig.V_st, show Dig.V ⟨#[49]⟩ = 1 from by decide] at this)
  unfold Dec.fiR
  rw [decide_eq_true (by omega), show (-((M + 1 : Nat) : Int)).natAbs = M + 1 by omega]
  obtain ⟨R, hR⟩ : ∃ R, Dec.normR true (M + 1) 0 = R := ⟨_, rfl⟩
  rw [hR]
  obtain ⟨⟨rg, rm, re⟩, rr⟩ := R
  obtain ⟨q, hq⟩ : ∃ q, Dig.st rm = q := ⟨_, rfl⟩
  have HN := Lib.hid (normal_st (Nat.le_trans (Dec.int_size h) (by omega)) (by omega) (by omega) hR hq)
  unfold Dec.ag
  dsimp only
  rw [hq]
  obtain ⟨n, hn⟩ : ∃ n : Int, ((M + 1 : Nat) : Int) = n := ⟨_, rfl⟩
  rw [hn] at HF0 ⊢
  have hn0 : 0 < n := by omega
  have hn1 : n ≤ 9223372036854775808 := by omega
  have e1 : -(-n + 1) = (M : Int) := by omega
  have e2 : -n + 1 = -(M : Int) := by omega
  have hM0 : (0 : Int) ≤ M := by omega
  have hM1 : (M : Int) ≤ 9223372036854775807 := by omega
  clear hf hR hq hn h h0
  generalize Dig.st (M + 1) = s at *
  generalize Dig.st M = u at *
  generalize (M : Int) = m at *
  have d1 : decide (-n < 0) = true := decide_eq_true (by omega)
  have K := DK.new w
  go_enter Tryd.func34, Tryd.ntmps34
  go_wp2_with fail
  refine (HF0.out _).mono ?_; rintro _ w1 ⟨rfl, hb1⟩
  replace K := K.call hb1
  clear hb1
  go_wp2_with fail
  refine (HF.out _).mono ?_; rintro _ w2 ⟨rfl, hb2⟩
  replace K := K.call hb2
  clear hb2
  go_wp2_with fail
  refine (HS.out _).mono ?_; rintro _ w3 ⟨rfl, hb3⟩
  replace K := K.call hb3
  clear hb3
  go_wp2_with fail
  refine (HN.out _).mono ?_; rintro _ w4 ⟨rfl, hb4⟩
  replace K := K.call hb4
  clear hb4
  have K2 : DK w (w4.alloc (.cells #[.bool rg, .string q, .int .i64 re] 23)) := ⟨K.res.alloc _, K.below.alloc K.below.size _⟩
  clear K
  obtain ⟨z0, z1, z2⟩ := K2.res.c3
  have zf := K2.res.frozen
  obtain ⟨hfin, hbf⟩ := K2.put (.bool rg) (.string q) (.int .i64 re)
  go_wp2
  exact bodyPost_ret (v := .agg #[.bool rg, .string q, .int .i64 re]) (by simp [results, Tryd.results34, go_sem, hfin.c3]) rfl ⟨rfl, hbf⟩
theorem int_two {n : Int} (h1 : -9223372036854775808 ≤ n) (h2 : n ≤ 9223372036854775807) : (∃ N : Nat, n = N ∧ N ≤ 9223372036854775807) ∨ (∃ N : Nat, n = -(N : Int) ∧ 0 < N ∧ N ≤ 9223372036854775808) := by
  by_cases h : 0 ≤ n
  · exact Or.inl ⟨n.toNat, by omega, by omega⟩
  · exact Or.inr ⟨(-n).toNat, by omega, by omega, by omega⟩
theorem fi_any {n : Int} (h1 : -9223372036854775808 ≤ n) (h2 : n ≤ 9223372036854775807) (w : World) :
    Calls Tryd.prog 32 #[.int .i64 n] w fun e w' => e = .returned (Dec.ag (Dec.fiR n)) ∧ Below w.heap.size w w' := by
  rcases int_two h1 h2 with ⟨N, rfl, h⟩ | ⟨N, rfl, h0, h⟩
  · exact fromInt_up h w
  · exact fromInt_down h0 h w
theorem rfi_any {n : Int} (h1 : -9223372036854775808 ≤ n) (h2 : n ≤ 9223372036854775807) (w : World) :
    Calls Tryd.prog 34 #[.int .i64 n] w fun e w' => e = .returned (Dec.ag (Dec.fiR n)) ∧ Below w.heap.size w w' := by
  rcases int_two h1 h2 with ⟨N, rfl, h⟩ | ⟨N, rfl, h0, h⟩
  · exact rfi_up h w
  · exact rfi_down h0 h w
namespace Dec
def lit : ByteArray := ⟨#[57, 50, 50, 51, 51, 55, 50, 48, 51, 54, 56, 53, 52, 55, 55, 53, 56, 48, 56]⟩
def lim63 : Nat := 9223372036854775808
/-- A decimal as an int. -/
def toR (d : Dc) : Int × Int :=
  if d.e < 0 then (0, 15) else if 19 < (Dig.st d.m).size + d.e then (0, 2) else
  if d.m * 10 ^ d.e.toNat < lim63 then (if d.neg then -((d.m * 10 ^ d.e.toNat : Nat) : Int) else ((d.m * 10 ^ d.e.toNat : Nat) : Int), 0) else if d.neg = true ∧ d.m * 10 ^ d.e.toNat = lim63 then (-9223372036854775808, 0) else (0, 2)
theorem lit_st : Dig.st lim63 = lit := st_lit (x := lit) (by unfold lit; decide) (by unfold lit lim63; decide)
theorem lit_list : lit.toList = [57, 50, 50, 51, 51, 55, 50, 48, 51, 54, 56, 53, 52, 55, 55, 53, 56, 48, 56] := by rw [Lib.toList_data]; rfl
theorem lit_eq (v : Nat) : ((Dig.st v).toList == [57, 50, 50, 51, 51, 55, 50, 48, 51, 54, 56, 53, 52, 55, 55, 53, 56, 48, 56]) = decide (v = lim63) := by
  rw [← lit_list]
  by_cases h : v = lim63
  · rw [h, lit_st, decide_eq_true rfl]; exact beq_self_eq_true _
  · rw [decide_eq_false h, beq_eq_false_iff_ne]
    intro k
    apply h
    rw [Lib.toList_data, Lib.toList_data] at k
    exact Dig.st_inj ((ByteArray.ext (Array.ext' k)).trans lit_st.symm)
theorem ok_text {d : Dc} (h : ok d) {p : Nat} (hp : d.e = p) : Dig.st d.m ++ Dig.noughts p = Dig.st (d.m * 10 ^ p) := by
  by_cases h0 : d.m = 0
  · have := ((ok_all h).2.2.2 h0).2
    obtain rfl : p = 0 := by omega
    rw [h0, Nat.zero_mul, st0]
    rfl
  · exact st_mul h0 p
theorem to_size {d : Dc} (h : ok d) {p : Nat} (hp : d.e = p) (hs : ¬ 19 < ((Dig.st d.m).size : Int) + d.e) : (Dig.st (d.m * 10 ^ p)).size ≤ 19 := by
  rw [← ok_text h hp, ByteArray.size_append, Dig.noughts_size]
  omega
end Dec

set_option maxRecDepth 100000 in
theorem whole_any (n : Bool) (s : ByteArray) (e : Int) {b : Bool} (hb : decide (0 ≤ e) = b) (w : World) :
    Calls Tryd.prog 36 #[.agg #[.bool n, .string s, .int .i64 e]] w fun r w' => r = .returned (.bool b) ∧ Below w.heap.size w w' := by
  have K := B1.new w n s e
  go_enter Tryd.func36, Tryd.ntmps36
  go_wp2
  go_ret
  exact ⟨rfl, K.below⟩
set_option maxRecDepth 100000 in
theorem rwhole_any (n : Bool) (s : ByteArray) (e : Int) {b : Bool} (hb : decide (0 ≤ e) = b) (w : World) :
    Calls Tryd.prog 37 #[.agg #[.bool n, .string s, .int .i64 e]] w fun r w' => r = .returned (.bool b) ∧ Below w.heap.size w w' := by
  have K := B1.new w n s e
  go_enter Tryd.func37, Tryd.ntmps37
  go_wp2
  go_ret
  exact ⟨rfl, K.below⟩
set_option maxRecDepth 100000 in
theorem dabs_any (n : Bool) (s : ByteArray) (e : Int) (w : World) :
    Calls Tryd.prog 40 #[.agg #[.bool n, .string s, .int .i64 e]] w fun r w' => r = .returned (.agg #[.bool false, .string s, .int .i64 e]) ∧ Below w.heap.size w w' := by
  go_enter Tryd.func40, Tryd.ntmps40
  go_wp2
  exact bodyPost_ret (v := .agg #[.bool false, .string s, .int .i64 e]) (by simp [results, Tryd.results40, go_sem]) rfl ⟨rfl, ((Below.refl w.heap.size w).alloc (Nat.le_refl _) _).alloc (by simp) _⟩
set_option maxRecDepth 100000 in
theorem rabs_any (n : Bool) (s : ByteArray) (e : Int) (w : World) :
    Calls Tryd.prog 41 #[.agg #[.bool n, .string s, .int .i64 e]] w fun r w' => r = .returned (.agg #[.bool false, .string s, .int .i64 e]) ∧ Below w.heap.size w w' := by
  go_enter Tryd.func41, Tryd.ntmps41
  go_wp2
  exact bodyPost_ret (v := .agg #[.bool false, .string s, .int .i64 e]) (by simp [results, Tryd.results41, go_sem]) rfl ⟨rfl, ((Below.refl w.heap.size w).alloc (Nat.le_refl _) _).alloc (by simp) _⟩
set_option maxHeartbeats 2000000 in
set_option maxRecDepth 100000 in
theorem dti_neg {d : Dec.Dc} (hd : Dec.ok d) (he : d.e < 0) (w : World) :
    Calls Tryd.prog 33 #[Dec.ag d] w fun r w' => r = .returned (.tuple #[.int .i64 (Dec.toR d).1, .int .i64 (Dec.toR d).2]) ∧ Below w.heap.size w w' := by
  obtain ⟨a1, a2, a3, _⟩ := Dec.ok_all hd
  have VD := Lib.hid (fun w => dvalid_yes (by unfold maxLen; omega) hd w)
  unfold Dec.toR
  rw [if_pos he]
  dsimp only
  have HW := Lib.hid (fun w => whole_any d.neg (Dig.st d.m) d.e (decide_eq_false (by omega)) w)
  have d1 : decide (d.e < 0) = true := decide_eq_true he
  clear he hd
  obtain ⟨n, m, e⟩ := d
  unfold Dec.ag
  dsimp only at *
  skip
  generalize Dig.st m = x at *
  have K := B1.new w n x e
  obtain ⟨x0, x1, x2, _⟩ := K.all
  go_enter Tryd.func33, Tryd.ntmps33
  go_wp2_with fail
  refine (HW.out _).mono ?_; rintro _ w1 ⟨rfl, hb1⟩
  replace K := K.call hb1
  clear hb1 x0 x1 x2
  obtain ⟨x0, x1, x2, _⟩ := K.all
  go_wp2
  go_ret2
  exact ⟨rfl, K.below⟩
set_option maxHeartbeats 2000000 in
set_option maxRecDepth 100000 in
theorem dti_big {d : Dec.Dc} (hd : Dec.ok d) (he : ¬ d.e < 0) (hs : 19 < ((Dig.st d.m).size : Int) + d.e) (w : World) :
    Calls Tryd.prog 33 #[Dec.ag d] w fun r w' => r = .returned (.tuple #[.int .i64 (Dec.toR d).1, .int .i64 (Dec.toR d).2]) ∧ Below w.heap.size w w' := by
  obtain ⟨a1, a2, a3, _⟩ := Dec.ok_all hd
  have VD := Lib.hid (fun w => dvalid_yes (by unfold maxLen; omega) hd w)
  unfold Dec.toR
  rw [if_neg he, if_pos hs]
  dsimp only
  have HW := Lib.hid (fun w => whole_any d.neg (Dig.st d.m) d.e (decide_eq_true (by omega)) w)
  have d1 : decide (d.e < 0) = false := decide_eq_false he
  have d2 : decide (19 < ((Dig.st d.m).size : Int) + d.e) = true := decide_eq_true hs
  clear he hd hs
  obtain ⟨n, m, e⟩ := d
  unfold Dec.ag
  dsimp only at *
  skip
  generalize Dig.st m = x at *
  have K := B1.new w n x e
  obtain ⟨x0, x1, x2, _⟩ := K.all
  go_enter Tryd.func33, Tryd.ntmps33
  go_wp2_with fail
  refine (HW.out _).mono ?_; rintro _ w1 ⟨rfl, hb1⟩
  replace K := K.call hb1
  clear hb1 x0 x1 x2
  obtain ⟨x0, x1, x2, _⟩ := K.all
  go_wp2_with fail
  refine (VD.out _).mono ?_; rintro _ w2 ⟨rfl, hb2⟩
  replace K := K.call hb2
  clear hb2 x0 x1 x2
  obtain ⟨x0, x1, x2, _⟩ := K.all
  go_wp2
  go_ret2
  exact ⟨rfl, K.below⟩
set_option maxHeartbeats 2000000 in
set_option maxRecDepth 100000 in
theorem dti_sp {d : Dec.Dc} (hd : Dec.ok d) (he : ¬ d.e < 0) (hs : ¬ 19 < ((Dig.st d.m).size : Int) + d.e) (hv : d.m * 10 ^ d.e.toNat < Dec.lim63) (hn : d.neg = false) (w : World) :
    Calls Tryd.prog 33 #[Dec.ag d] w fun r w' => r = .returned (.tuple #[.int .i64 (Dec.toR d).1, .int .i64 (Dec.toR d).2]) ∧ Below w.heap.size w w' := by
  obtain ⟨a1, a2, a3, _⟩ := Dec.ok_all hd
  have VD := Lib.hid (fun w => dvalid_yes (by unfold maxLen; omega) hd w)
  unfold Dec.toR
  rw [if_neg he, if_neg hs, if_pos hv, hn, if_neg (by decide)]
  dsimp only
  have HW := Lib.hid (fun w => whole_any d.neg (Dig.st d.m) d.e (decide_eq_true (by omega)) w)
  obtain ⟨k, hk⟩ : ∃ k : Nat, d.e = k := ⟨d.e.toNat, by omega⟩
  have hk2 : d.e.toNat = k := by omega
  rw [hk2] at hv ⊢
  have hsz := Dec.to_size hd hk hs
  have htx := Dec.ok_text hd hk
  obtain ⟨v, hv1⟩ : ∃ v, d.m * 10 ^ k = v := ⟨_, rfl⟩
  rw [hv1] at hv hsz htx ⊢
  have HI := Lib.hid (fun w => toInt_any (a := v) (Dig.st_vld ((Dig.st_size v 600).1 (by omega))) w)
  have hi : Dig.intR v = ((v : Int), 0) := by unfold Dig.intR; unfold Dec.lim63 at hv; rw [if_pos (by omega)]
  rw [hi] at HI
  dsimp only at HI
  have HB := Dec.lit_eq v
  rw [decide_eq_false (by omega)] at HB
  rw [← htx] at HB
  rw [← htx] at HI
  have HZ : Hid (∀ w, Calls Tryd.prog 58 #[.string ⟨#[48]⟩, .int .i64 d.e] w fun r w' => r = .returned (.string (Dig.noughts k)) ∧ Below w.heap.size w w') := Lib.hid (fun w => by rw [hk]; exact repeat_any (n := k) (by omega) w)
  have k1 : ¬ 9223372036854775807 < (Dig.st d.m).size + (Dig.noughts k).size := by rw [Dig.noughts_size]; omega
  have d1 : decide (d.e < 0) = false := decide_eq_false he
  have d2 : decide (19 < ((Dig.st d.m).size : Int) + d.e) = false := decide_eq_false hs
  have v0 : (0 : Int) ≤ v := by omega
  have v1 : (v : Int) ≤ 9223372036854775807 := by unfold Dec.lim63 at hv; omega
  have vw : IntKind.i64.wrap (-(v : Int)) = -(v : Int) := by rw [IntKind.wrap_i64]; omega
  clear he hs hv hd hsz htx hi hk2 hv1 hk
  obtain ⟨n, m, e⟩ := d
  unfold Dec.ag
  dsimp only at *
  subst hn
  generalize Dig.st m = x at *
  generalize Dig.noughts k = u at *
  generalize (v : Int) = z at *
  have K := B1.new w false x e
  obtain ⟨x0, x1, x2, _⟩ := K.all
  go_enter Tryd.func33, Tryd.ntmps33
  go_wp2_with fail
  refine (HW.out _).mono ?_; rintro _ w1 ⟨rfl, hb1⟩
  replace K := K.call hb1
  clear hb1 x0 x1 x2
  obtain ⟨x0, x1, x2, _⟩ := K.all
  go_wp2_with fail
  refine (VD.out _).mono ?_; rintro _ w2 ⟨rfl, hb2⟩
  replace K := K.call hb2
  clear hb2 x0 x1 x2
  obtain ⟨x0, x1, x2, _⟩ := K.all
  go_upto_region 5 with fail
  go_region_held3 (fun W => W.cell? ⟨w.heap.size, 0, none⟩ = some (.bool false) ∧ W.cell? ⟨w.heap.size, 1, none⟩ = some (.string x) ∧ W.cell? ⟨w.heap.size, 2, none⟩ = some (.int .i64 e) ∧ w.heap.size < W.heap.size ∧ Below w.heap.size w W) (first | exact K.drew.all | exact keep_b1 (by assumption) (by assumption)) (first | (go_at_call 58; refine (HZ.out _).mono ?_; rintro _ w3 ⟨rfl, hb3⟩) | fail)
  rename_i kept
  obtain ⟨y0, y1, y2, y3, y4⟩ := kept
  go_wp2_with fail
  refine (HI.out _).mono ?_; rintro _ w4 ⟨rfl, rfl⟩
  go_wp2
  go_ret2
  exact ⟨rfl, y4⟩
set_option maxHeartbeats 2000000 in
set_option maxRecDepth 100000 in
theorem dti_sn {d : Dec.Dc} (hd : Dec.ok d) (he : ¬ d.e < 0) (hs : ¬ 19 < ((Dig.st d.m).size : Int) + d.e) (hv : d.m * 10 ^ d.e.toNat < Dec.lim63) (hn : d.neg = true) (w : World) :
    Calls Tryd.prog 33 #[Dec.ag d] w fun r w' => r = .returned (.tuple #[.int .i64 (Dec.toR d).1, .int .i64 (Dec.toR d).2]) ∧ Below w.heap.size w w' := by
  obtain ⟨a1, a2, a3, _⟩ := Dec.ok_all hd
  have VD := Lib.hid (fun w => dvalid_yes (by unfold maxLen; omega) hd w)
  unfold Dec.toR
  rw [if_neg he, if_neg hs, if_pos hv, hn, if_pos rfl]
  dsimp only
  have HW := Lib.hid (fun w => whole_any d.neg (Dig.st d.m) d.e (decide_eq_true (by omega)) w)
  obtain ⟨k, hk⟩ : ∃ k : Nat, d.e = k := ⟨d.e.toNat, by omega⟩
  have hk2 : d.e.toNat = k := by omega
  rw [hk2] at hv ⊢
  have hsz := Dec.to_size hd hk hs
  have htx := Dec.ok_text hd hk
  obtain ⟨v, hv1⟩ : ∃ v, d.m * 10 ^ k = v := ⟨_, rfl⟩
  rw [hv1] at hv hsz htx ⊢
  have HI := Lib.hid (fun w => toInt_any (a := v) (Dig.st_vld ((Dig.st_size v 600).1 (by omega))) w)
  have hi : Dig.intR v = ((v : Int), 0) := by unfold Dig.intR; unfold Dec.lim63 at hv; rw [if_pos (by omega)]
  rw [hi] at HI
  dsimp only at HI
  have HB := Dec.lit_eq v
  rw [decide_eq_false (by omega)] at HB
  rw [← htx] at HB
  rw [← htx] at HI
  have HZ : Hid (∀ w, Calls Tryd.prog 58 #[.string ⟨#[48]⟩, .int .i64 d.e] w fun r w' => r = .returned (.string (Dig.noughts k)) ∧ Below w.heap.size w w') := Lib.hid (fun w => by rw [hk]; exact repeat_any (n := k) (by omega) w)
  have k1 : ¬ 9223372036854775807 < (Dig.st d.m).size + (Dig.noughts k).size := by rw [Dig.noughts_size]; omega
  have d1 : decide (d.e < 0) = false := decide_eq_false he
  have d2 : decide (19 < ((Dig.st d.m).size : Int) + d.e) = false := decide_eq_false hs
  have v0 : (0 : Int) ≤ v := by omega
  have v1 : (v : Int) ≤ 9223372036854775807 := by unfold Dec.lim63 at hv; omega
  have vw : IntKind.i64.wrap (-(v : Int)) = -(v : Int) := by rw [IntKind.wrap_i64]; omega
  clear he hs hv hd hsz htx hi hk2 hv1 hk
  obtain ⟨n, m, e⟩ := d
  unfold Dec.ag
  dsimp only at *
  subst hn
  generalize Dig.st m = x at *
  generalize Dig.noughts k = u at *
  generalize (v : Int) = z at *
  have K := B1.new w true x e
  obtain ⟨x0, x1, x2, _⟩ := K.all
  go_enter Tryd.func33, Tryd.ntmps33
  go_wp2_with fail
  refine (HW.out _).mono ?_; rintro _ w1 ⟨rfl, hb1⟩
  replace K := K.call hb1
  clear hb1 x0 x1 x2
  obtain ⟨x0, x1, x2, _⟩ := K.all
  go_wp2_with fail
  refine (VD.out _).mono ?_; rintro _ w2 ⟨rfl, hb2⟩
  replace K := K.call hb2
  clear hb2 x0 x1 x2
  obtain ⟨x0, x1, x2, _⟩ := K.all
  go_upto_region 5 with fail
  go_region_held3 (fun W => W.cell? ⟨w.heap.size, 0, none⟩ = some (.bool true) ∧ W.cell? ⟨w.heap.size, 1, none⟩ = some (.string x) ∧ W.cell? ⟨w.heap.size, 2, none⟩ = some (.int .i64 e) ∧ w.heap.size < W.heap.size ∧ Below w.heap.size w W) (first | exact K.drew.all | exact keep_b1 (by assumption) (by assumption)) (first | (go_at_call 58; refine (HZ.out _).mono ?_; rintro _ w3 ⟨rfl, hb3⟩) | fail)
  rename_i kept
  obtain ⟨y0, y1, y2, y3, y4⟩ := kept
  go_wp2_with fail
  refine (HI.out _).mono ?_; rintro _ w4 ⟨rfl, rfl⟩
  go_wp2
  go_ret2
  exact ⟨rfl, y4⟩
set_option maxHeartbeats 2000000 in
set_option maxRecDepth 100000 in
theorem dti_bl {d : Dec.Dc} (hd : Dec.ok d) (he : ¬ d.e < 0) (hs : ¬ 19 < ((Dig.st d.m).size : Int) + d.e) (hv : d.m * 10 ^ d.e.toNat = Dec.lim63) (hn : d.neg = true) (w : World) :
    Calls Tryd.prog 33 #[Dec.ag d] w fun r w' => r = .returned (.tuple #[.int .i64 (Dec.toR d).1, .int .i64 (Dec.toR d).2]) ∧ Below w.heap.size w w' := by
  obtain ⟨a1, a2, a3, _⟩ := Dec.ok_all hd
  have VD := Lib.hid (fun w => dvalid_yes (by unfold maxLen; omega) hd w)
  unfold Dec.toR
  rw [if_neg he, if_neg hs, if_neg (by omega), if_pos ⟨hn, hv⟩]
  dsimp only
  have HW := Lib.hid (fun w => whole_any d.neg (Dig.st d.m) d.e (decide_eq_true (by omega)) w)
  obtain ⟨k, hk⟩ : ∃ k : Nat, d.e = k := ⟨d.e.toNat, by omega⟩
  have hk2 : d.e.toNat = k := by omega
  rw [hk2] at hv 
  have hsz := Dec.to_size hd hk hs
  have htx := Dec.ok_text hd hk
  obtain ⟨v, hv1⟩ : ∃ v, d.m * 10 ^ k = v := ⟨_, rfl⟩
  rw [hv1] at hv hsz htx 
  have HI := Lib.hid (fun w => toInt_any (a := v) (Dig.st_vld ((Dig.st_size v 600).1 (by omega))) w)
  have hi : Dig.intR v = (0, 2) := by unfold Dig.intR; unfold Dec.lim63 at hv; rw [if_neg (by omega)]
  rw [hi] at HI
  dsimp only at HI
  have HB := Dec.lit_eq v
  rw [decide_eq_true hv] at HB
  rw [← htx] at HB
  rw [← htx] at HI
  have HZ : Hid (∀ w, Calls Tryd.prog 58 #[.string ⟨#[48]⟩, .int .i64 d.e] w fun r w' => r = .returned (.string (Dig.noughts k)) ∧ Below w.heap.size w w') := Lib.hid (fun w => by rw [hk]; exact repeat_any (n := k) (by omega) w)
  have k1 : ¬ 9223372036854775807 < (Dig.st d.m).size + (Dig.noughts k).size := by rw [Dig.noughts_size]; omega
  have d1 : decide (d.e < 0) = false := decide_eq_false he
  have d2 : decide (19 < ((Dig.st d.m).size : Int) + d.e) = false := decide_eq_false hs
  clear he hs hv hd hsz htx hi hk2 hv1 hk
  obtain ⟨n, m, e⟩ := d
  unfold Dec.ag
  dsimp only at *
  subst hn
  generalize Dig.st m = x at *
  generalize Dig.noughts k = u at *
  skip
  have K := B1.new w true x e
  obtain ⟨x0, x1, x2, _⟩ := K.all
  go_enter Tryd.func33, Tryd.ntmps33
  go_wp2_with fail
  refine (HW.out _).mono ?_; rintro _ w1 ⟨rfl, hb1⟩
  replace K := K.call hb1
  clear hb1 x0 x1 x2
  obtain ⟨x0, x1, x2, _⟩ := K.all
  go_wp2_with fail
  refine (VD.out _).mono ?_; rintro _ w2 ⟨rfl, hb2⟩
  replace K := K.call hb2
  clear hb2 x0 x1 x2
  obtain ⟨x0, x1, x2, _⟩ := K.all
  go_upto_region 5 with fail
  go_region_held3 (fun W => W.cell? ⟨w.heap.size, 0, none⟩ = some (.bool true) ∧ W.cell? ⟨w.heap.size, 1, none⟩ = some (.string x) ∧ W.cell? ⟨w.heap.size, 2, none⟩ = some (.int .i64 e) ∧ w.heap.size < W.heap.size ∧ Below w.heap.size w W) (first | exact K.drew.all | exact keep_b1 (by assumption) (by assumption)) (first | (go_at_call 58; refine (HZ.out _).mono ?_; rintro _ w3 ⟨rfl, hb3⟩) | fail)
  rename_i kept
  obtain ⟨y0, y1, y2, y3, y4⟩ := kept
  go_wp2_with fail
  refine (HI.out _).mono ?_; rintro _ w4 ⟨rfl, rfl⟩
  go_wp2
  go_ret2
  exact ⟨rfl, y4⟩
set_option maxHeartbeats 2000000 in
set_option maxRecDepth 100000 in
theorem dti_bn {d : Dec.Dc} (hd : Dec.ok d) (he : ¬ d.e < 0) (hs : ¬ 19 < ((Dig.st d.m).size : Int) + d.e) (hv : ¬ d.m * 10 ^ d.e.toNat < Dec.lim63) (hl : ¬ d.m * 10 ^ d.e.toNat = Dec.lim63) (hn : d.neg = true) (w : World) :
    Calls Tryd.prog 33 #[Dec.ag d] w fun r w' => r = .returned (.tuple #[.int .i64 (Dec.toR d).1, .int .i64 (Dec.toR d).2]) ∧ Below w.heap.size w w' := by
  obtain ⟨a1, a2, a3, _⟩ := Dec.ok_all hd
  have VD := Lib.hid (fun w => dvalid_yes (by unfold maxLen; omega) hd w)
  unfold Dec.toR
  rw [if_neg he, if_neg hs, if_neg hv, if_neg (fun k => hl k.2)]
  dsimp only
  have HW := Lib.hid (fun w => whole_any d.neg (Dig.st d.m) d.e (decide_eq_true (by omega)) w)
  obtain ⟨k, hk⟩ : ∃ k : Nat, d.e = k := ⟨d.e.toNat, by omega⟩
  have hk2 : d.e.toNat = k := by omega
  rw [hk2] at hv hl 
  have hsz := Dec.to_size hd hk hs
  have htx := Dec.ok_text hd hk
  obtain ⟨v, hv1⟩ : ∃ v, d.m * 10 ^ k = v := ⟨_, rfl⟩
  rw [hv1] at hv hl hsz htx 
  have HI := Lib.hid (fun w => toInt_any (a := v) (Dig.st_vld ((Dig.st_size v 600).1 (by omega))) w)
  have hi : Dig.intR v = (0, 2) := by unfold Dig.intR; unfold Dec.lim63 at hv; rw [if_neg (by omega)]
  rw [hi] at HI
  dsimp only at HI
  have HB := Dec.lit_eq v
  rw [decide_eq_false hl] at HB
  rw [← htx] at HB
  rw [← htx] at HI
  have HZ : Hid (∀ w, Calls Tryd.prog 58 #[.string ⟨#[48]⟩, .int .i64 d.e] w fun r w' => r = .returned (.string (Dig.noughts k)) ∧ Below w.heap.size w w') := Lib.hid (fun w => by rw [hk]; exact repeat_any (n := k) (by omega) w)
  have k1 : ¬ 9223372036854775807 < (Dig.st d.m).size + (Dig.noughts k).size := by rw [Dig.noughts_size]; omega
  have d1 : decide (d.e < 0) = false := decide_eq_false he
  have d2 : decide (19 < ((Dig.st d.m).size : Int) + d.e) = false := decide_eq_false hs
  clear he hs hv hd hsz htx hi hk2 hv1 hk hl
  obtain ⟨n, m, e⟩ := d
  unfold Dec.ag
  dsimp only at *
  subst hn
  generalize Dig.st m = x at *
  generalize Dig.noughts k = u at *
  skip
  have K := B1.new w true x e
  obtain ⟨x0, x1, x2, _⟩ := K.all
  go_enter Tryd.func33, Tryd.ntmps33
  go_wp2_with fail
  refine (HW.out _).mono ?_; rintro _ w1 ⟨rfl, hb1⟩
  replace K := K.call hb1
  clear hb1 x0 x1 x2
  obtain ⟨x0, x1, x2, _⟩ := K.all
  go_wp2_with fail
  refine (VD.out _).mono ?_; rintro _ w2 ⟨rfl, hb2⟩
  replace K := K.call hb2
  clear hb2 x0 x1 x2
  obtain ⟨x0, x1, x2, _⟩ := K.all
  go_upto_region 5 with fail
  go_region_held3 (fun W => W.cell? ⟨w.heap.size, 0, none⟩ = some (.bool true) ∧ W.cell? ⟨w.heap.size, 1, none⟩ = some (.string x) ∧ W.cell? ⟨w.heap.size, 2, none⟩ = some (.int .i64 e) ∧ w.heap.size < W.heap.size ∧ Below w.heap.size w W) (first | exact K.drew.all | exact keep_b1 (by assumption) (by assumption)) (first | (go_at_call 58; refine (HZ.out _).mono ?_; rintro _ w3 ⟨rfl, hb3⟩) | fail)
  rename_i kept
  obtain ⟨y0, y1, y2, y3, y4⟩ := kept
  go_wp2_with fail
  refine (HI.out _).mono ?_; rintro _ w4 ⟨rfl, rfl⟩
  go_wp2
  go_ret2
  exact ⟨rfl, y4⟩
set_option maxHeartbeats 2000000 in
set_option maxRecDepth 100000 in
theorem dti_bp {d : Dec.Dc} (hd : Dec.ok d) (he : ¬ d.e < 0) (hs : ¬ 19 < ((Dig.st d.m).size : Int) + d.e) (hv : ¬ d.m * 10 ^ d.e.toNat < Dec.lim63) (hn : d.neg = false) (w : World) :
    Calls Tryd.prog 33 #[Dec.ag d] w fun r w' => r = .returned (.tuple #[.int .i64 (Dec.toR d).1, .int .i64 (Dec.toR d).2]) ∧ Below w.heap.size w w' := by
  obtain ⟨a1, a2, a3, _⟩ := Dec.ok_all hd
  have VD := Lib.hid (fun w => dvalid_yes (by unfold maxLen; omega) hd w)
  unfold Dec.toR
  rw [if_neg he, if_neg hs, if_neg hv, if_neg (fun k => by rw [hn] at k; cases k.1)]
  dsimp only
  have HW := Lib.hid (fun w => whole_any d.neg (Dig.st d.m) d.e (decide_eq_true (by omega)) w)
  obtain ⟨k, hk⟩ : ∃ k : Nat, d.e = k := ⟨d.e.toNat, by omega⟩
  have hk2 : d.e.toNat = k := by omega
  rw [hk2] at hv 
  have hsz := Dec.to_size hd hk hs
  have htx := Dec.ok_text hd hk
  obtain ⟨v, hv1⟩ : ∃ v, d.m * 10 ^ k = v := ⟨_, rfl⟩
  rw [hv1] at hv hsz htx 
  have HI := Lib.hid (fun w => toInt_any (a := v) (Dig.st_vld ((Dig.st_size v 600).1 (by omega))) w)
  have hi : Dig.intR v = (0, 2) := by unfold Dig.intR; unfold Dec.lim63 at hv; rw [if_neg (by omega)]
  rw [hi] at HI
  dsimp only at HI
  rw [← htx] at HI
  have HZ : Hid (∀ w, Calls Tryd.prog 58 #[.string ⟨#[48]⟩, .int .i64 d.e] w fun r w' => r = .returned (.string (Dig.noughts k)) ∧ Below w.heap.size w w') := Lib.hid (fun w => by rw [hk]; exact repeat_any (n := k) (by omega) w)
  have k1 : ¬ 9223372036854775807 < (Dig.st d.m).size + (Dig.noughts k).size := by rw [Dig.noughts_size]; omega
  have d1 : decide (d.e < 0) = false := decide_eq_false he
  have d2 : decide (19 < ((Dig.st d.m).size : Int) + d.e) = false := decide_eq_false hs
  clear he hs hv hd hsz htx hi hk2 hv1 hk
  obtain ⟨n, m, e⟩ := d
  unfold Dec.ag
  dsimp only at *
  subst hn
  generalize Dig.st m = x at *
  generalize Dig.noughts k = u at *
  skip
  have K := B1.new w false x e
  obtain ⟨x0, x1, x2, _⟩ := K.all
  go_enter Tryd.func33, Tryd.ntmps33
  go_wp2_with fail
  refine (HW.out _).mono ?_; rintro _ w1 ⟨rfl, hb1⟩
  replace K := K.call hb1
  clear hb1 x0 x1 x2
  obtain ⟨x0, x1, x2, _⟩ := K.all
  go_wp2_with fail
  refine (VD.out _).mono ?_; rintro _ w2 ⟨rfl, hb2⟩
  replace K := K.call hb2
  clear hb2 x0 x1 x2
  obtain ⟨x0, x1, x2, _⟩ := K.all
  go_upto_region 5 with fail
  go_region_held3 (fun W => W.cell? ⟨w.heap.size, 0, none⟩ = some (.bool false) ∧ W.cell? ⟨w.heap.size, 1, none⟩ = some (.string x) ∧ W.cell? ⟨w.heap.size, 2, none⟩ = some (.int .i64 e) ∧ w.heap.size < W.heap.size ∧ Below w.heap.size w W) (first | exact K.drew.all | exact keep_b1 (by assumption) (by assumption)) (first | (go_at_call 58; refine (HZ.out _).mono ?_; rintro _ w3 ⟨rfl, hb3⟩) | fail)
  rename_i kept
  obtain ⟨y0, y1, y2, y3, y4⟩ := kept
  go_wp2_with fail
  refine (HI.out _).mono ?_; rintro _ w4 ⟨rfl, rfl⟩
  go_wp2
  go_ret2
  exact ⟨rfl, y4⟩
theorem dti_any {d : Dec.Dc} (hd : Dec.ok d) (w : World) :
    Calls Tryd.prog 33 #[Dec.ag d] w fun r w' => r = .returned (.tuple #[.int .i64 (Dec.toR d).1, .int .i64 (Dec.toR d).2]) ∧ Below w.heap.size w w' := by
  by_cases he : d.e < 0
  · exact dti_neg hd he w
  by_cases hs : 19 < ((Dig.st d.m).size : Int) + d.e
  · exact dti_big hd he hs w
  by_cases hv : d.m * 10 ^ d.e.toNat < Dec.lim63
  · cases hn : d.neg
    · exact dti_sp hd he hs hv hn w
    · exact dti_sn hd he hs hv hn w
  · cases hn : d.neg
    · exact dti_bp hd he hs hv hn w
    · by_cases hl : d.m * 10 ^ d.e.toNat = Dec.lim63
      · exact dti_bl hd he hs hl hn w
      · exact dti_bn hd he hs hv hl hn w
set_option maxHeartbeats 2000000 in
set_option maxRecDepth 100000 in
theorem rti_neg {d : Dec.Dc} (hd : Dec.ok d) (he : d.e < 0) (w : World) :
    Calls Tryd.prog 35 #[Dec.ag d] w fun r w' => r = .returned (.tuple #[.int .i64 (Dec.toR d).1, .int .i64 (Dec.toR d).2]) ∧ Below w.heap.size w w' := by
  obtain ⟨a1, a2, a3, _⟩ := Dec.ok_all hd
  have VD := Lib.hid (fun w => dvalid_yes (by unfold maxLen; omega) hd w)
  unfold Dec.toR
  rw [if_pos he]
  dsimp only
  have HW := Lib.hid (fun w => whole_any d.neg (Dig.st d.m) d.e (decide_eq_false (by omega)) w)
  have d1 : decide (d.e < 0) = true := decide_eq_true he
  clear he hd
  obtain ⟨n, m, e⟩ := d
  unfold Dec.ag
  dsimp only at *
  skip
  generalize Dig.st m = x at *
  have K := B1.new w n x e
  obtain ⟨x0, x1, x2, _⟩ := K.all
  go_enter Tryd.func35, Tryd.ntmps35
  go_wp2
  go_ret2
  exact ⟨rfl, K.below⟩
set_option maxHeartbeats 2000000 in
set_option maxRecDepth 100000 in
theorem rti_big {d : Dec.Dc} (hd : Dec.ok d) (he : ¬ d.e < 0) (hs : 19 < ((Dig.st d.m).size : Int) + d.e) (w : World) :
    Calls Tryd.prog 35 #[Dec.ag d] w fun r w' => r = .returned (.tuple #[.int .i64 (Dec.toR d).1, .int .i64 (Dec.toR d).2]) ∧ Below w.heap.size w w' := by
  obtain ⟨a1, a2, a3, _⟩ := Dec.ok_all hd
  have VD := Lib.hid (fun w => dvalid_yes (by unfold maxLen; omega) hd w)
  unfold Dec.toR
  rw [if_neg he, if_pos hs]
  dsimp only
  have HW := Lib.hid (fun w => whole_any d.neg (Dig.st d.m) d.e (decide_eq_true (by omega)) w)
  have d1 : decide (d.e < 0) = false := decide_eq_false he
  have d2 : decide (19 < ((Dig.st d.m).size : Int) + d.e) = true := decide_eq_true hs
  clear he hd hs
  obtain ⟨n, m, e⟩ := d
  unfold Dec.ag
  dsimp only at *
  skip
  generalize Dig.st m = x at *
  have K := B1.new w n x e
  obtain ⟨x0, x1, x2, _⟩ := K.all
  go_enter Tryd.func35, Tryd.ntmps35
  go_wp2
  go_ret2
  exact ⟨rfl, K.below⟩
set_option maxHeartbeats 2000000 in
set_option maxRecDepth 100000 in
theorem rti_sp {d : Dec.Dc} (hd : Dec.ok d) (he : ¬ d.e < 0) (hs : ¬ 19 < ((Dig.st d.m).size : Int) + d.e) (hv : d.m * 10 ^ d.e.toNat < Dec.lim63) (hn : d.neg = false) (w : World) :
    Calls Tryd.prog 35 #[Dec.ag d] w fun r w' => r = .returned (.tuple #[.int .i64 (Dec.toR d).1, .int .i64 (Dec.toR d).2]) ∧ Below w.heap.size w w' := by
  obtain ⟨a1, a2, a3, _⟩ := Dec.ok_all hd
  have VD := Lib.hid (fun w => dvalid_yes (by unfold maxLen; omega) hd w)
  unfold Dec.toR
  rw [if_neg he, if_neg hs, if_pos hv, hn, if_neg (by decide)]
  dsimp only
  have HW := Lib.hid (fun w => whole_any d.neg (Dig.st d.m) d.e (decide_eq_true (by omega)) w)
  obtain ⟨k, hk⟩ : ∃ k : Nat, d.e = k := ⟨d.e.toNat, by omega⟩
  have hk2 : d.e.toNat = k := by omega
  rw [hk2] at hv ⊢
  have hsz := Dec.to_size hd hk hs
  have htx := Dec.ok_text hd hk
  obtain ⟨v, hv1⟩ : ∃ v, d.m * 10 ^ k = v := ⟨_, rfl⟩
  rw [hv1] at hv hsz htx ⊢
  have HI := Lib.hid (fun w => rtoInt_any (a := v) (Dig.st_vld ((Dig.st_size v 600).1 (by omega))) w)
  have hi : Dig.intR v = ((v : Int), 0) := by unfold Dig.intR; unfold Dec.lim63 at hv; rw [if_pos (by omega)]
  rw [hi] at HI
  dsimp only at HI
  have HB := Dec.lit_eq v
  rw [decide_eq_false (by omega)] at HB
  rw [← htx] at HB
  rw [← htx] at HI
  have HZ : Hid (∀ w, Calls Tryd.prog 63 #[.int .i64 d.e] w fun r w' => r = .returned (.string (Dig.noughts k)) ∧ Below w.heap.size w w') := Lib.hid (fun w => by rw [hk]; exact noughts_any (n := k) (by omega) w)
  have k1 : ¬ 9223372036854775807 < (Dig.st d.m).size + (Dig.noughts k).size := by rw [Dig.noughts_size]; omega
  have d1 : decide (d.e < 0) = false := decide_eq_false he
  have d2 : decide (19 < ((Dig.st d.m).size : Int) + d.e) = false := decide_eq_false hs
  have v0 : (0 : Int) ≤ v := by omega
  have v1 : (v : Int) ≤ 9223372036854775807 := by unfold Dec.lim63 at hv; omega
  have vw : IntKind.i64.wrap (-(v : Int)) = -(v : Int) := by rw [IntKind.wrap_i64]; omega
  clear he hs hv hd hsz htx hi hk2 hv1 hk
  obtain ⟨n, m, e⟩ := d
  unfold Dec.ag
  dsimp only at *
  subst hn
  generalize Dig.st m = x at *
  generalize Dig.noughts k = u at *
  generalize (v : Int) = z at *
  have K := B1.new w false x e
  obtain ⟨x0, x1, x2, _⟩ := K.all
  go_enter Tryd.func35, Tryd.ntmps35
  go_upto_region 5 with fail
  go_region_held3 (fun W => W.cell? ⟨w.heap.size, 0, none⟩ = some (.bool false) ∧ W.cell? ⟨w.heap.size, 1, none⟩ = some (.string x) ∧ W.cell? ⟨w.heap.size, 2, none⟩ = some (.int .i64 e) ∧ w.heap.size < W.heap.size ∧ Below w.heap.size w W) (first | exact K.drew.all | exact keep_b1 (by assumption) (by assumption)) (first | (go_at_call 63; refine (HZ.out _).mono ?_; rintro _ w3 ⟨rfl, hb3⟩) | fail)
  rename_i kept
  obtain ⟨y0, y1, y2, y3, y4⟩ := kept
  go_wp2_with fail
  refine (HI.out _).mono ?_; rintro _ w4 ⟨rfl, rfl⟩
  go_wp2
  go_ret2
  exact ⟨rfl, y4⟩
set_option maxHeartbeats 2000000 in
set_option maxRecDepth 100000 in
theorem rti_sn {d : Dec.Dc} (hd : Dec.ok d) (he : ¬ d.e < 0) (hs : ¬ 19 < ((Dig.st d.m).size : Int) + d.e) (hv : d.m * 10 ^ d.e.toNat < Dec.lim63) (hn : d.neg = true) (w : World) :
    Calls Tryd.prog 35 #[Dec.ag d] w fun r w' => r = .returned (.tuple #[.int .i64 (Dec.toR d).1, .int .i64 (Dec.toR d).2]) ∧ Below w.heap.size w w' := by
  obtain ⟨a1, a2, a3, _⟩ := Dec.ok_all hd
  have VD := Lib.hid (fun w => dvalid_yes (by unfold maxLen; omega) hd w)
  unfold Dec.toR
  rw [if_neg he, if_neg hs, if_pos hv, hn, if_pos rfl]
  dsimp only
  have HW := Lib.hid (fun w => whole_any d.neg (Dig.st d.m) d.e (decide_eq_true (by omega)) w)
  obtain ⟨k, hk⟩ : ∃ k : Nat, d.e = k := ⟨d.e.toNat, by omega⟩
  have hk2 : d.e.toNat = k := by omega
  rw [hk2] at hv ⊢
  have hsz := Dec.to_size hd hk hs
  have htx := Dec.ok_text hd hk
  obtain ⟨v, hv1⟩ : ∃ v, d.m * 10 ^ k = v := ⟨_, rfl⟩
  rw [hv1] at hv hsz htx ⊢
  have HI := Lib.hid (fun w => rtoInt_any (a := v) (Dig.st_vld ((Dig.st_size v 600).1 (by omega))) w)
  have hi : Dig.intR v = ((v : Int), 0) := by unfold Dig.intR; unfold Dec.lim63 at hv; rw [if_pos (by omega)]
  rw [hi] at HI
  dsimp only at HI
  have HB := Dec.lit_eq v
  rw [decide_eq_false (by omega)] at HB
  rw [← htx] at HB
  rw [← htx] at HI
  have HZ : Hid (∀ w, Calls Tryd.prog 63 #[.int .i64 d.e] w fun r w' => r = .returned (.string (Dig.noughts k)) ∧ Below w.heap.size w w') := Lib.hid (fun w => by rw [hk]; exact noughts_any (n := k) (by omega) w)
  have k1 : ¬ 9223372036854775807 < (Dig.st d.m).size + (Dig.noughts k).size := by rw [Dig.noughts_size]; omega
  have d1 : decide (d.e < 0) = false := decide_eq_false he
  have d2 : decide (19 < ((Dig.st d.m).size : Int) + d.e) = false := decide_eq_false hs
  have v0 : (0 : Int) ≤ v := by omega
  have v1 : (v : Int) ≤ 9223372036854775807 := by unfold Dec.lim63 at hv; omega
  have vw : IntKind.i64.wrap (-(v : Int)) = -(v : Int) := by rw [IntKind.wrap_i64]; omega
  clear he hs hv hd hsz htx hi hk2 hv1 hk
  obtain ⟨n, m, e⟩ := d
  unfold Dec.ag
  dsimp only at *
  subst hn
  generalize Dig.st m = x at *
  generalize Dig.noughts k = u at *
  generalize (v : Int) = z at *
  have K := B1.new w true x e
  obtain ⟨x0, x1, x2, _⟩ := K.all
  go_enter Tryd.func35, Tryd.ntmps35
  go_upto_region 5 with fail
  go_region_held3 (fun W => W.cell? ⟨w.heap.size, 0, none⟩ = some (.bool true) ∧ W.cell? ⟨w.heap.size, 1, none⟩ = some (.string x) ∧ W.cell? ⟨w.heap.size, 2, none⟩ = some (.int .i64 e) ∧ w.heap.size < W.heap.size ∧ Below w.heap.size w W) (first | exact K.drew.all | exact keep_b1 (by assumption) (by assumption)) (first | (go_at_call 63; refine (HZ.out _).mono ?_; rintro _ w3 ⟨rfl, hb3⟩) | fail)
  rename_i kept
  obtain ⟨y0, y1, y2, y3, y4⟩ := kept
  go_wp2_with fail
  refine (HI.out _).mono ?_; rintro _ w4 ⟨rfl, rfl⟩
  go_wp2
  go_ret2
  exact ⟨rfl, y4⟩
set_option maxHeartbeats 2000000 in
set_option maxRecDepth 100000 in
theorem rti_bl {d : Dec.Dc} (hd : Dec.ok d) (he : ¬ d.e < 0) (hs : ¬ 19 < ((Dig.st d.m).size : Int) + d.e) (hv : d.m * 10 ^ d.e.toNat = Dec.lim63) (hn : d.neg = true) (w : World) :
    Calls Tryd.prog 35 #[Dec.ag d] w fun r w' => r = .returned (.tuple #[.int .i64 (Dec.toR d).1, .int .i64 (Dec.toR d).2]) ∧ Below w.heap.size w w' := by
  obtain ⟨a1, a2, a3, _⟩ := Dec.ok_all hd
  have VD := Lib.hid (fun w => dvalid_yes (by unfold maxLen; omega) hd w)
  unfold Dec.toR
  rw [if_neg he, if_neg hs, if_neg (by omega), if_pos ⟨hn, hv⟩]
  dsimp only
  have HW := Lib.hid (fun w => whole_any d.neg (Dig.st d.m) d.e (decide_eq_true (by omega)) w)
  obtain ⟨k, hk⟩ : ∃ k : Nat, d.e = k := ⟨d.e.toNat, by omega⟩
  have hk2 : d.e.toNat = k := by omega
  rw [hk2] at hv 
  have hsz := Dec.to_size hd hk hs
  have htx := Dec.ok_text hd hk
  obtain ⟨v, hv1⟩ : ∃ v, d.m * 10 ^ k = v := ⟨_, rfl⟩
  rw [hv1] at hv hsz htx 
  have HI := Lib.hid (fun w => rtoInt_any (a := v) (Dig.st_vld ((Dig.st_size v 600).1 (by omega))) w)
  have hi : Dig.intR v = (0, 2) := by unfold Dig.intR; unfold Dec.lim63 at hv; rw [if_neg (by omega)]
  rw [hi] at HI
  dsimp only at HI
  have HB := Dec.lit_eq v
  rw [decide_eq_true hv] at HB
  rw [← htx] at HB
  rw [← htx] at HI
  have HZ : Hid (∀ w, Calls Tryd.prog 63 #[.int .i64 d.e] w fun r w' => r = .returned (.string (Dig.noughts k)) ∧ Below w.heap.size w w') := Lib.hid (fun w => by rw [hk]; exact noughts_any (n := k) (by omega) w)
  have k1 : ¬ 9223372036854775807 < (Dig.st d.m).size + (Dig.noughts k).size := by rw [Dig.noughts_size]; omega
  have d1 : decide (d.e < 0) = false := decide_eq_false he
  have d2 : decide (19 < ((Dig.st d.m).size : Int) + d.e) = false := decide_eq_false hs
  clear he hs hv hd hsz htx hi hk2 hv1 hk
  obtain ⟨n, m, e⟩ := d
  unfold Dec.ag
  dsimp only at *
  subst hn
  generalize Dig.st m = x at *
  generalize Dig.noughts k = u at *
  skip
  have K := B1.new w true x e
  obtain ⟨x0, x1, x2, _⟩ := K.all
  go_enter Tryd.func35, Tryd.ntmps35
  go_upto_region 5 with fail
  go_region_held3 (fun W => W.cell? ⟨w.heap.size, 0, none⟩ = some (.bool true) ∧ W.cell? ⟨w.heap.size, 1, none⟩ = some (.string x) ∧ W.cell? ⟨w.heap.size, 2, none⟩ = some (.int .i64 e) ∧ w.heap.size < W.heap.size ∧ Below w.heap.size w W) (first | exact K.drew.all | exact keep_b1 (by assumption) (by assumption)) (first | (go_at_call 63; refine (HZ.out _).mono ?_; rintro _ w3 ⟨rfl, hb3⟩) | fail)
  rename_i kept
  obtain ⟨y0, y1, y2, y3, y4⟩ := kept
  go_wp2
  go_ret2
  exact ⟨rfl, y4⟩
set_option maxHeartbeats 2000000 in
set_option maxRecDepth 100000 in
theorem rti_bn {d : Dec.Dc} (hd : Dec.ok d) (he : ¬ d.e < 0) (hs : ¬ 19 < ((Dig.st d.m).size : Int) + d.e) (hv : ¬ d.m * 10 ^ d.e.toNat < Dec.lim63) (hl : ¬ d.m * 10 ^ d.e.toNat = Dec.lim63) (hn : d.neg = true) (w : World) :
    Calls Tryd.prog 35 #[Dec.ag d] w fun r w' => r = .returned (.tuple #[.int .i64 (Dec.toR d).1, .int .i64 (Dec.toR d).2]) ∧ Below w.heap.size w w' := by
  obtain ⟨a1, a2, a3, _⟩ := Dec.ok_all hd
  have VD := Lib.hid (fun w => dvalid_yes (by unfold maxLen; omega) hd w)
  unfold Dec.toR
  rw [if_neg he, if_neg hs, if_neg hv, if_neg (fun k => hl k.2)]
  dsimp only
  have HW := Lib.hid (fun w => whole_any d.neg (Dig.st d.m) d.e (decide_eq_true (by omega)) w)
  obtain ⟨k, hk⟩ : ∃ k : Nat, d.e = k := ⟨d.e.toNat, by omega⟩
  have hk2 : d.e.toNat = k := by omega
  rw [hk2] at hv hl 
  have hsz := Dec.to_size hd hk hs
  have htx := Dec.ok_text hd hk
  obtain ⟨v, hv1⟩ : ∃ v, d.m * 10 ^ k = v := ⟨_, rfl⟩
  rw [hv1] at hv hl hsz htx 
  have HI := Lib.hid (fun w => rtoInt_any (a := v) (Dig.st_vld ((Dig.st_size v 600).1 (by omega))) w)
  have hi : Dig.intR v = (0, 2) := by unfold Dig.intR; unfold Dec.lim63 at hv; rw [if_neg (by omega)]
  rw [hi] at HI
  dsimp only at HI
  have HB := Dec.lit_eq v
  rw [decide_eq_false hl] at HB
  rw [← htx] at HB
  rw [← htx] at HI
  have HZ : Hid (∀ w, Calls Tryd.prog 63 #[.int .i64 d.e] w fun r w' => r = .returned (.string (Dig.noughts k)) ∧ Below w.heap.size w w') := Lib.hid (fun w => by rw [hk]; exact noughts_any (n := k) (by omega) w)
  have k1 : ¬ 9223372036854775807 < (Dig.st d.m).size + (Dig.noughts k).size := by rw [Dig.noughts_size]; omega
  have d1 : decide (d.e < 0) = false := decide_eq_false he
  have d2 : decide (19 < ((Dig.st d.m).size : Int) + d.e) = false := decide_eq_false hs
  clear he hs hv hd hsz htx hi hk2 hv1 hk hl
  obtain ⟨n, m, e⟩ := d
  unfold Dec.ag
  dsimp only at *
  subst hn
  generalize Dig.st m = x at *
  generalize Dig.noughts k = u at *
  skip
  have K := B1.new w true x e
  obtain ⟨x0, x1, x2, _⟩ := K.all
  go_enter Tryd.func35, Tryd.ntmps35
  go_upto_region 5 with fail
  go_region_held3 (fun W => W.cell? ⟨w.heap.size, 0, none⟩ = some (.bool true) ∧ W.cell? ⟨w.heap.size, 1, none⟩ = some (.string x) ∧ W.cell? ⟨w.heap.size, 2, none⟩ = some (.int .i64 e) ∧ w.heap.size < W.heap.size ∧ Below w.heap.size w W) (first | exact K.drew.all | exact keep_b1 (by assumption) (by assumption)) (first | (go_at_call 63; refine (HZ.out _).mono ?_; rintro _ w3 ⟨rfl, hb3⟩) | fail)
  rename_i kept
  obtain ⟨y0, y1, y2, y3, y4⟩ := kept
  go_wp2_with fail
  refine (HI.out _).mono ?_; rintro _ w4 ⟨rfl, rfl⟩
  go_wp2
  go_ret2
  exact ⟨rfl, y4⟩
set_option maxHeartbeats 2000000 in
set_option maxRecDepth 100000 in
theorem rti_bp {d : Dec.Dc} (hd : Dec.ok d) (he : ¬ d.e < 0) (hs : ¬ 19 < ((Dig.st d.m).size : Int) + d.e) (hv : ¬ d.m * 10 ^ d.e.toNat < Dec.lim63) (hn : d.neg = false) (w : World) :
    Calls Tryd.prog 35 #[Dec.ag d] w fun r w' => r = .returned (.tuple #[.int .i64 (Dec.toR d).1, .int .i64 (Dec.toR d).2]) ∧ Below w.heap.size w w' := by
  obtain ⟨a1, a2, a3, _⟩ := Dec.ok_all hd
  have VD := Lib.hid (fun w => dvalid_yes (by unfold maxLen; omega) hd w)
  unfold Dec.toR
  rw [if_neg he, if_neg hs, if_neg hv, if_neg (fun k => by rw [hn] at k; cases k.1)]
  dsimp only
  have HW := Lib.hid (fun w => whole_any d.neg (Dig.st d.m) d.e (decide_eq_true (by omega)) w)
  obtain ⟨k, hk⟩ : ∃ k : Nat, d.e = k := ⟨d.e.toNat, by omega⟩
  have hk2 : d.e.toNat = k := by omega
  rw [hk2] at hv 
  have hsz := Dec.to_size hd hk hs
  have htx := Dec.ok_text hd hk
  obtain ⟨v, hv1⟩ : ∃ v, d.m * 10 ^ k = v := ⟨_, rfl⟩
  rw [hv1] at hv hsz htx 
  have HI := Lib.hid (fun w => rtoInt_any (a := v) (Dig.st_vld ((Dig.st_size v 600).1 (by omega))) w)
  have hi : Dig.intR v = (0, 2) := by unfold Dig.intR; unfold Dec.lim63 at hv; rw [if_neg (by omega)]
  rw [hi] at HI
  dsimp only at HI
  rw [← htx] at HI
  have HZ : Hid (∀ w, Calls Tryd.prog 63 #[.int .i64 d.e] w fun r w' => r = .returned (.string (Dig.noughts k)) ∧ Below w.heap.size w w') := Lib.hid (fun w => by rw [hk]; exact noughts_any (n := k) (by omega) w)
  have k1 : ¬ 9223372036854775807 < (Dig.st d.m).size + (Dig.noughts k).size := by rw [Dig.noughts_size]; omega
  have d1 : decide (d.e < 0) = false := decide_eq_false he
  have d2 : decide (19 < ((Dig.st d.m).size : Int) + d.e) = false := decide_eq_false hs
  clear he hs hv hd hsz htx hi hk2 hv1 hk
  obtain ⟨n, m, e⟩ := d
  unfold Dec.ag
  dsimp only at *
  subst hn
  generalize Dig.st m = x at *
  generalize Dig.noughts k = u at *
  skip
  have K := B1.new w false x e
  obtain ⟨x0, x1, x2, _⟩ := K.all
  go_enter Tryd.func35, Tryd.ntmps35
  go_upto_region 5 with fail
  go_region_held3 (fun W => W.cell? ⟨w.heap.size, 0, none⟩ = some (.bool false) ∧ W.cell? ⟨w.heap.size, 1, none⟩ = some (.string x) ∧ W.cell? ⟨w.heap.size, 2, none⟩ = some (.int .i64 e) ∧ w.heap.size < W.heap.size ∧ Below w.heap.size w W) (first | exact K.drew.all | exact keep_b1 (by assumption) (by assumption)) (first | (go_at_call 63; refine (HZ.out _).mono ?_; rintro _ w3 ⟨rfl, hb3⟩) | fail)
  rename_i kept
  obtain ⟨y0, y1, y2, y3, y4⟩ := kept
  go_wp2_with fail
  refine (HI.out _).mono ?_; rintro _ w4 ⟨rfl, rfl⟩
  go_wp2
  go_ret2
  exact ⟨rfl, y4⟩
theorem rti_any {d : Dec.Dc} (hd : Dec.ok d) (w : World) :
    Calls Tryd.prog 35 #[Dec.ag d] w fun r w' => r = .returned (.tuple #[.int .i64 (Dec.toR d).1, .int .i64 (Dec.toR d).2]) ∧ Below w.heap.size w w' := by
  by_cases he : d.e < 0
  · exact rti_neg hd he w
  by_cases hs : 19 < ((Dig.st d.m).size : Int) + d.e
  · exact rti_big hd he hs w
  by_cases hv : d.m * 10 ^ d.e.toNat < Dec.lim63
  · cases hn : d.neg
    · exact rti_sp hd he hs hv hn w
    · exact rti_sn hd he hs hv hn w
  · cases hn : d.neg
    · exact rti_bp hd he hs hv hn w
    · by_cases hl : d.m * 10 ^ d.e.toNat = Dec.lim63
      · exact rti_bl hd he hs hl hn w
      · exact rti_bn hd he hs hv hl hn w
end Go.Proofs.YtcnfgcdbjofihaaDoor
