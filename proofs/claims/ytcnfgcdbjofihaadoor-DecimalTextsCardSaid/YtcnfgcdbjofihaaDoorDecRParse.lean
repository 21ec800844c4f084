/- Decimals: the reference's Parse. -/
import Derived.Test.YtcnfgcdbjofihaaDoorDecRParseN
namespace Go.Proofs.YtcnfgcdbjofihaaDoor
open Go.RowKit


set_option maxHeartbeats 8000000 in
set_option maxRecDepth 100000 in
theorem rparse_pos {x : ByteArray} (hx : x.size ≤ 1000) (hm : ¬ Dec.fst x = 45) (w : World) {R : Dec.Dc × Int} (hR : Dec.p1 Dec.movP false x = R) :
    Calls Tryd.prog 21 #[.string x] w fun e w' => e = .returned (.tuple #[Dec.ag R.1, .int .i64 R.2]) ∧ Below w.heap.size w w' := by
  obtain ⟨⟨rg, rm, re⟩, rr⟩ := R
  unfold Dec.ag
  dsimp only
  obtain ⟨q, hq⟩ : ∃ q, Dig.st rm = q := ⟨_, rfl⟩
  rw [hq]
  have HQ := Lib.hid hq
  clear hq
  skip
  obtain ⟨s, hs⟩ : ∃ s, Dec.tl x 0 = s := ⟨_, rfl⟩
  have hs0x : s = x := by rw [← hs]; unfold Dec.tl; simp
  have hss := Dec.tl_size x 0
  rw [hs] at hss
  rw [← hs0x] at hR
  have hn := (Dec.rn_spec s).1
  have HA := Lib.hid (Dec.rn_alld s)
  obtain ⟨n, hn0⟩ : ∃ n, Dec.rn s = n := ⟨_, rfl⟩
  obtain ⟨k, hk⟩ : ∃ k : Nat, 0 + n = k := ⟨_, rfl⟩
  have H1 := Lib.hid (run_leaf (x := x) (a := 0) (j := k) 0 rfl (by omega) (by omega) (by rw [hs, hn0]; exact hk))
  unfold Dec.p1 at hR
  rw [hn0] at hR hn HA
  obtain ⟨A0, hA0⟩ : ∃ A, s.extract 0 n = A := ⟨_, rfl⟩
  obtain ⟨s1, hs1⟩ : ∃ A, Dec.tl s n = A := ⟨_, rfl⟩
  have hA0s : A0.size = n := by rw [← hA0, ByteArray.size_extract]; omega
  have hs1x : Dec.tl x k = s1 := by rw [← hs1, ← hs, Dec.tl_tl, hk]
  have sl1 := slice_lh (s := x) (j := 0) (k := k) 0 (k : Int) rfl rfl (by omega) (by omega) (u := A0) (by rw [← hA0, ← hs, Dec.tl_take x 0 n (by omega), hk])
  have HSx := Lib.hid hs1x
  rw [hA0, hs1] at hR
  rw [hA0] at HA
  have hfx : Hid (∀ h : 0 < x.size, Dec.fst s = x[0].toNat) := Lib.hid (fun h => by rw [← hs]; exact Dec.fst_tl x h)
  clear hA0 hs1 hn0 hs1x hs hs0x
  have HE : Hid ((n = 0 ∨ (1 < n ∧ Dec.fst s = 48)) → (Dec.z0, (3 : Int)) = ((⟨rg, rm, re⟩, rr) : Dec.Dc × Int)) := Lib.hid (fun k => by rw [if_pos k] at hR; exact hR)
  have HO : Hid (¬ (n = 0 ∨ (1 < n ∧ Dec.fst s = 48)) → Dec.p2 Dec.movP false A0 s1 = ((⟨rg, rm, re⟩, rr) : Dec.Dc × Int)) := Lib.hid (fun k => by rw [if_neg k] at hR; exact hR)
  clear hR
  have hkx : k ≤ x.size := by omega
  have K := DK.new w
  obtain ⟨z0, z1, z2⟩ := K.res.c3
  have zf := K.res.frozen
  have HM := Lib.hid hm
  clear hm
  go_enter Tryd.func21, Tryd.ntmps21
  go_upto_region 2 with fail
  go_cut [20] (fun sx wx => sx = .bool false ∧ wx = w.alloc (.cells #[.bool false, .string ⟨#[]⟩, .int .i64 0] 23))
  case first =>
    by_cases h0 : 0 < x.size
    · have d1 : decide ((0 : Int) < x.size) = true := decide_eq_true (by omega)
      have d1' : decide (0 < x.size) = true := decide_eq_true h0
      have hx1 : (0 : Int) < x.size := by omega
      have d2 : ((x[0].toNat : Int) == 45) = false := by rw [beq_eq_false_iff_ne]; have := HM.out; rw [Dec.fst_get h0] at this; omega
      go_wp2_with fail
      go_meet
      exact ⟨rfl, rfl⟩
    · have d1 : decide ((0 : Int) < x.size) = false := decide_eq_false (by omega)
      have d1' : decide (0 < x.size) = false := decide_eq_false h0
      clear h0
      go_wp2_with fail
      go_meet
      exact ⟨rfl, rfl⟩
  case rest =>
  obtain ⟨rfl, rfl⟩ := hcut
  go_wp2_with fail
  refine (H1.out _).mono ?_; rintro _ w' ⟨rfl, rfl⟩
  clear H1
  go_upto_region 6 with fail
  go_cut [40] (fun sx wx => ∃ b : Bool, sx = .bool b ∧ (b = true ↔ (n = 0 ∨ (1 < n ∧ Dec.fst s = 48))) ∧ wx = w.alloc (.cells #[.bool false, .string ⟨#[]⟩, .int .i64 0] 23))
  case first =>
    by_cases c0 : n = 0
    · have d1 : ((k : Int) == 0) = true := by rw [beq_iff_eq]; omega
      have P := Lib.hid (Or.inl c0 : n = 0 ∨ (1 < n ∧ Dec.fst s = 48))
      clear c0 hk
      go_wp2_with fail
      go_meet
      exact ⟨true, rfl, ⟨fun _ => P.out, fun _ => rfl⟩, rfl⟩
    have d1 : ((k : Int) == 0) = false := by rw [beq_eq_false_iff_ne]; omega
    have hs0 : 0 < x.size := by omega
    have hs02 : (0 : Int) < x.size := by omega
    have hf := Lib.hid (hfx.out hs0)
    by_cases c2 : x[0].toNat = 48
    · have d3 : ((x[0].toNat : Int) == 48) = true := by rw [beq_iff_eq]; omega
      by_cases c1 : 1 < n
      · have d2 : decide ((1 : Int) < k) = true := decide_eq_true (by omega)
        have P := Lib.hid (Or.inr ⟨c1, hf.out.trans c2⟩ : n = 0 ∨ (1 < n ∧ Dec.fst s = 48))
        clear c0 c1 c2 hk
        go_wp2_with fail
        go_meet
        exact ⟨true, rfl, ⟨fun _ => P.out, fun _ => rfl⟩, rfl⟩
      · have d2 : decide ((1 : Int) < k) = false := decide_eq_false (by omega)
        have P : Hid (¬ (n = 0 ∨ (1 < n ∧ Dec.fst s = 48))) := Lib.hid (by rintro (k | k); exact c0 k; exact c1 k.1)
        clear c0 c1 c2 hk
        go_wp2_with fail
        go_meet
        exact ⟨false, rfl, ⟨fun k => (by cases k), fun k => absurd k P.out⟩, rfl⟩
    · have d3 : ((x[0].toNat : Int) == 48) = false := by rw [beq_eq_false_iff_ne]; omega
      have P : Hid (¬ (n = 0 ∨ (1 < n ∧ Dec.fst s = 48))) := Lib.hid (by rintro (k | k); exact c0 k; exact c2 (hf.out.symm.trans k.2))
      clear c0 c2 hk
      go_wp2_with fail
      go_meet
      exact ⟨false, rfl, ⟨fun k => (by cases k), fun k => absurd k P.out⟩, rfl⟩
  case rest =>
  obtain ⟨b, rfl, hb, rfl⟩ := hcut
  have HB := Lib.hid hb
  clear hb
  cases b
  case true =>
    have E2 := Lib.hid (leaf_bad (HE.out (HB.out.1 rfl)) HQ.out)
    clear HE HO HB
    go_wp2
    exact bodyPost_ret (v := .tuple #[.agg #[.bool false, .string ⟨#[]⟩, .int .i64 0], .int .i64 3]) (by simp [results, Tryd.results21, go_sem]) rfl ⟨E2.out, K.below⟩
  have HP := Lib.hid (HO.out (fun k => by have := HB.out.2 k; cases this))
  clear HO HE HB hfx
  have hs1s : s1.size = x.size - k := by rw [← HSx.out, Dec.tl_size]
  go_upto_region 10 with fail
  clear sl1
  go_cut [55] (fun sx wx => ∃ b : Bool, sx = .bool b ∧ (b = true ↔ Dec.fst s1 = 46) ∧ wx = w.alloc (.cells #[.bool false, .string ⟨#[]⟩, .int .i64 0] 23))
  case first =>
    have hk0 : (0 : Int) ≤ k := by omega
    by_cases g : k < x.size
    · have d1 : decide (k < x.size) = true := decide_eq_true g
      have d1' : decide ((k : Int) < x.size) = true := decide_eq_true (by omega)
      have g2 : (k : Int) < x.size := by omega
      have hf : Hid (Dec.fst s1 = x[k].toNat) := Lib.hid (by rw [← HSx.out]; exact Dec.fst_tl x g)
      by_cases c : x[k].toNat = 46
      · have d2 : ((x[k].toNat : Int) == 46) = true := by rw [beq_iff_eq]; omega
        have P := Lib.hid (hf.out.trans c)
        clear c hk hn hss hA0s hs1s
        go_wp2_with fail
        go_meet
        exact ⟨true, rfl, ⟨fun _ => P.out, fun _ => rfl⟩, rfl⟩
      · have d2 : ((x[k].toNat : Int) == 46) = false := by rw [beq_eq_false_iff_ne]; omega
        have P := Lib.hid (fun h => c (hf.out.symm.trans h))
        clear c hk hn hss hA0s hs1s
        go_wp2_with fail
        go_meet
        exact ⟨false, rfl, ⟨fun k => (by cases k), fun k => absurd k P.out⟩, rfl⟩
    · have d1 : decide (k < x.size) = false := decide_eq_false g
      have d1' : decide ((k : Int) < x.size) = false := decide_eq_false (by omega)
      have P : Hid (¬ Dec.fst s1 = 46) := Lib.hid (by rw [Dec.fst_nil (by omega)]; decide)
      clear g hk hn hss hA0s hs1s
      go_wp2_with fail
      go_meet
      exact ⟨false, rfl, ⟨fun k => (by cases k), fun k => absurd k P.out⟩, rfl⟩
  case rest =>
  obtain ⟨d, rfl, hb, rfl⟩ := hcut
  have HB := Lib.hid hb
  clear hb
  go_upto_if 55 with fail
  go_cut [6, 7, 8] (fun t6 t7 t8 wx => ∃ (k : Nat) (A : ByteArray) (e : Int), t6 = .int .i64 k ∧ t7 = .string A ∧ t8 = .int .i64 e ∧ k ≤ x.size ∧ A.size ≤ 2000 ∧ -1000 ≤ e ∧ e ≤ 0 ∧ Dig.alld (Dig.l A) ∧ Dec.fin Dec.movP false A e (Dec.tl x k) = ((⟨rg, rm, re⟩, rr) : Dec.Dc × Int) ∧ wx = w.alloc (.cells #[.bool false, .string ⟨#[]⟩, .int .i64 0] 23))
  case first =>
    cases d
    · have hF := HP.out
      unfold Dec.p2 at hF
      rw [if_neg (fun h => by have := HB.out.2 h; cases this), ← HSx.out] at hF
      have HF := Lib.hid hF
      clear hF
      go_wp2_with fail
      go_meet
      exact ⟨k, A0, 0, rfl, rfl, rfl, hkx, by omega, by omega, by omega, HA.out, HF.out, rfl⟩
    · have hf := HB.out.1 rfl
      have hs10 := Dec.fst_pos hf (by decide)
      have hF := HP.out
      unfold Dec.p2 at hF
      rw [if_pos hf] at hF
      have HB1 := Dec.rn_alld1 s1 hs10
      have hu : Dec.tl x (k + 1) = Dec.tl s1 1 := by rw [← HSx.out, Dec.tl_tl]
      have hm := (Dec.rn_spec (Dec.tl s1 1)).1
      rw [Dec.tl_size] at hm
      obtain ⟨m, hm0⟩ : ∃ m, Dec.rn (Dec.tl s1 1) = m := ⟨_, rfl⟩
      rw [hm0] at hF HB1 hm
      obtain ⟨j, hj⟩ : ∃ j, k + 1 + m = j := ⟨_, rfl⟩
      have H2 := Lib.hid (run_leaf (x := x) (a := k + 1) (j := j) ((k : Int) + 1) rfl (by omega) (by omega) (by rw [hu, hm0]; exact hj))
      clear hm0 hu hf
      have hk0 : (0 : Int) ≤ k := by omega
      by_cases c0 : m = 0
      · rw [if_pos c0] at hF
        have d1 : ((j : Int) == (k : Int) + 1) = true := by rw [beq_iff_eq]; omega
        have HF := Lib.hid hF
        clear hF c0 HB1 hj
        go_wp2_with fail
        refine (H2.out _).mono ?_; rintro _ w' ⟨rfl, rfl⟩
        have E2 := Lib.hid (leaf_bad HF.out HQ.out)
        skip
        go_wp2
        exact bodyPost_ret (v := .tuple #[.agg #[.bool false, .string ⟨#[]⟩, .int .i64 0], .int .i64 3]) (by simp [results, Tryd.results21, go_sem]) rfl ⟨E2.out, K.below⟩
      rw [if_neg c0] at hF
      have d1 : ((j : Int) == (k : Int) + 1) = false := by rw [beq_eq_false_iff_ne]; omega
      obtain ⟨B, hB⟩ : ∃ A, s1.extract 1 (m + 1) = A := ⟨_, rfl⟩
      have hBs : B.size = m := by rw [← hB, ByteArray.size_extract]; omega
      have hs2 : Dec.tl s1 (m + 1) = Dec.tl x j := by rw [← HSx.out, Dec.tl_tl]; congr 1; omega
      have sl4 := slice_lh (s := x) (j := k + 1) (k := j) ((k : Int) + 1) (j : Int) rfl rfl (by omega) (by omega) (u := B) (by rw [← hB, ← HSx.out, Dec.tl_ext x k 1 (m + 1) (by omega)]; congr 1; omega)
      rw [hB] at HB1
      rw [hB, hs2] at hF
      have HAB := Lib.hid (Dec.alld_app HA.out HB1)
      have HF := Lib.hid hF
      obtain ⟨e1, he1⟩ : ∃ e1 : Int, (k : Int) + 1 - j = e1 := ⟨_, rfl⟩
      have he2 : Hid (-(m : Int) = e1) := Lib.hid (by omega)
      have he3 : -1000 ≤ e1 := by omega
      have he4 : e1 ≤ 0 := by omega
      have hjx : j ≤ x.size := by omega
      clear hF c0 HB1 hB hs2 hj
      have hcat : ¬ 9223372036854775807 < A0.size + B.size := by omega
      go_wp2_with fail
      refine (H2.out _).mono ?_; rintro _ w' ⟨rfl, rfl⟩
      go_wp2_with fail
      go_meet
      exact ⟨j, A0 ++ B, e1, rfl, rfl, rfl, hjx, by rw [ByteArray.size_append]; omega, he3, he4, HAB.out, by rw [← he2.out]; exact HF.out, rfl⟩
  case rest =>
  obtain ⟨k2, A, e, rfl, rfl, rfl, hk2, hAs, he1, he2, hAd, hF, rfl⟩ := hcut
  have HAd := Lib.hid hAd
  have hA6 : A.size ≤ 1000000 := by omega
  clear hAd HP HB HA HSx hk hn hss hA0s hs1s hkx HM
  obtain ⟨t, ht⟩ : ∃ t, Dec.tl x k2 = t := ⟨_, rfl⟩
  have hts : t.size = x.size - k2 := by rw [← ht, Dec.tl_size]
  rw [ht] at hF
  have HT := Lib.hid ht
  have HF := Lib.hid hF
  clear ht hF
  have hk0 : (0 : Int) ≤ k2 := by omega
  go_upto_region 17 with fail
  go_cut [92] (fun sx wx => ∃ b : Bool, sx = .bool b ∧ (b = true ↔ (Dec.fst t = 101 ∨ Dec.fst t = 69)) ∧ wx = w.alloc (.cells #[.bool false, .string ⟨#[]⟩, .int .i64 0] 23))
  case first =>
    by_cases g : k2 < x.size
    · have d1 : decide (k2 < x.size) = true := decide_eq_true g
      have d1' : decide ((k2 : Int) < x.size) = true := decide_eq_true (by omega)
      have g2 : (k2 : Int) < x.size := by omega
      have hf : Hid (Dec.fst t = x[k2].toNat) := Lib.hid (by rw [← HT.out]; exact Dec.fst_tl x g)
      clear hts
      by_cases c1 : x[k2].toNat = 101
      · have d2 : ((x[k2].toNat : Int) == 101) = true := by rw [beq_iff_eq]; omega
        have P : Hid (Dec.fst t = 101 ∨ Dec.fst t = 69) := Lib.hid (Or.inl (hf.out.trans c1))
        clear c1
        go_wp2_with fail
        go_meet
        exact ⟨true, rfl, ⟨fun _ => P.out, fun _ => rfl⟩, rfl⟩
      have d2 : ((x[k2].toNat : Int) == 101) = false := by rw [beq_eq_false_iff_ne]; omega
      by_cases c2 : x[k2].toNat = 69
      · have d3 : ((x[k2].toNat : Int) == 69) = true := by rw [beq_iff_eq]; omega
        have P : Hid (Dec.fst t = 101 ∨ Dec.fst t = 69) := Lib.hid (Or.inr (hf.out.trans c2))
        clear c1 c2
        go_wp2_with fail
        go_meet
        exact ⟨true, rfl, ⟨fun _ => P.out, fun _ => rfl⟩, rfl⟩
      · have d3 : ((x[k2].toNat : Int) == 69) = false := by rw [beq_eq_false_iff_ne]; omega
        have P : Hid (¬ (Dec.fst t = 101 ∨ Dec.fst t = 69)) := Lib.hid (by rintro (h | h); exact c1 (hf.out.symm.trans h); exact c2 (hf.out.symm.trans h))
        clear c1 c2
        go_wp2_with fail
        go_meet
        exact ⟨false, rfl, ⟨fun k => (by cases k), fun k => absurd k P.out⟩, rfl⟩
    · have d1 : decide (k2 < x.size) = false := decide_eq_false g
      have d1' : decide ((k2 : Int) < x.size) = false := decide_eq_false (by omega)
      have P : Hid (¬ (Dec.fst t = 101 ∨ Dec.fst t = 69)) := Lib.hid (by rw [Dec.fst_nil (by omega)]; decide)
      clear g hts
      go_wp2_with fail
      go_meet
      exact ⟨false, rfl, ⟨fun k => (by cases k), fun k => absurd k P.out⟩, rfl⟩
  case rest =>
  obtain ⟨b, rfl, hb, rfl⟩ := hcut
  have HB := Lib.hid hb
  clear hb
  cases b
  case false =>
    by_cases g : k2 < x.size
    · have d1 : decide (k2 < x.size) = true := decide_eq_true g
      have d1' : decide ((k2 : Int) < x.size) = true := decide_eq_true (by omega)
      have E : Hid ((Dec.z0, (3 : Int)) = ((⟨rg, rm, re⟩, rr) : Dec.Dc × Int)) := Lib.hid ((Dec.fin_none (Dec.expo_bad (by omega) ⟨fun h => (by have := HB.out.2 (Or.inl h); cases this), fun h => (by have := HB.out.2 (Or.inr h); cases this)⟩)).symm.trans HF.out)
      clear g HF HB hts
      have E2 := Lib.hid (leaf_bad E.out HQ.out)
      skip
      go_wp2
      exact bodyPost_ret (v := .tuple #[.agg #[.bool false, .string ⟨#[]⟩, .int .i64 0], .int .i64 3]) (by simp [results, Tryd.results21, go_sem]) rfl ⟨E2.out, K.below⟩
    have d1 : decide (k2 < x.size) = false := decide_eq_false g
    have d1' : decide ((k2 : Int) < x.size) = false := decide_eq_false (by omega)
    have hF := HF.out
    rw [Dec.fin_some (Dec.expo_nil (by omega))] at hF
    have HF2 := Lib.hid hF
    clear hF HF HB g hts
    have HK := Lib.hid (fun w => normal_leaf (ng := false) (y := e) hA6 HAd.out (by omega) (by omega) HF2.out HQ.out w)
    go_wp2_with fail
    refine (HK.out _).mono ?_; rintro _ w1 ⟨rfl, hb1⟩
    replace K := K.call hb1
    clear hb1 z0 z1 z2 zf
    obtain ⟨z0, z1, z2⟩ := K.res.c3
    have zf := K.res.frozen
    obtain ⟨hfin, hbf⟩ := K.put (.bool rg) (.string q) (.int .i64 re)
    go_wp2_with fail
    exact bodyPost_ret (v := .tuple #[.agg #[.bool rg, .string q, .int .i64 re], .int .i64 rr]) (by simp [results, Tryd.results21, go_sem, hfin.c3]) rfl ⟨rfl, hbf⟩
  have hor := Lib.hid (HB.out.1 rfl)
  have t0 : 0 < t.size := by rcases hor.out with h | h; exact Dec.fst_pos h (by decide); exact Dec.fst_pos h (by decide)
  have T0 : Hid (t.size ≠ 0) := Lib.hid (by omega)
  obtain ⟨k3, hk3, hk3i⟩ : ∃ k3 : Nat, k2 + 1 = k3 ∧ (k2 : Int) + 1 = k3 := ⟨_, rfl, by omega⟩
  have hk3x : k3 ≤ x.size := by omega
  obtain ⟨v, hv⟩ : ∃ v, Dec.tl t 1 = v := ⟨_, rfl⟩
  have HV := Lib.hid hv
  have HX : Hid (Dec.tl x k3 = v) := Lib.hid (by rw [← hv, ← HT.out, Dec.tl_tl, hk3])
  have hvs : v.size = x.size - k3 := by rw [← HX.out, Dec.tl_size]
  have hk30 : (0 : Int) ≤ k3 := by omega
  clear hv hk3 HB t0 hts
  go_upto_region 19 with fail
  go_cut [10] (fun sx wx => ∃ b : Bool, sx = .bool b ∧ decide (Dec.fst v = 45) = b ∧ wx = w.alloc (.cells #[.bool false, .string ⟨#[]⟩, .int .i64 0] 23))
  case first =>
    by_cases g : k3 < x.size
    · have d1 : decide (k3 < x.size) = true := decide_eq_true g
      have d1' : decide ((k3 : Int) < x.size) = true := decide_eq_true (by omega)
      have g2 : (k3 : Int) < x.size := by omega
      have hf : Hid (Dec.fst v = x[k3].toNat) := Lib.hid (by rw [← HX.out]; exact Dec.fst_tl x g)
      clear hvs
      by_cases c1 : x[k3].toNat = 45
      · have d2 : ((x[k3].toNat : Int) == 45) = true := by rw [beq_iff_eq]; omega
        have P := Lib.hid (hf.out.trans c1)
        clear c1
        go_wp2_with fail
        go_meet
        exact ⟨true, rfl, decide_eq_true P.out, rfl⟩
      · have d2 : ((x[k3].toNat : Int) == 45) = false := by rw [beq_eq_false_iff_ne]; omega
        have P := Lib.hid (fun h => c1 (hf.out.symm.trans h))
        clear c1
        go_wp2_with fail
        go_meet
        exact ⟨false, rfl, decide_eq_false P.out, rfl⟩
    · have d1 : decide (k3 < x.size) = false := decide_eq_false g
      have d1' : decide ((k3 : Int) < x.size) = false := decide_eq_false (by omega)
      have P : Hid (¬ Dec.fst v = 45) := Lib.hid (by rw [Dec.fst_nil (by omega)]; decide)
      clear g hvs
      go_wp2_with fail
      go_meet
      exact ⟨false, rfl, decide_eq_false P.out, rfl⟩
  case rest =>
  obtain ⟨l, rfl, hl, rfl⟩ := hcut
  have HL := Lib.hid hl
  clear hl
  go_upto_region 20 with fail
  go_cut [120] (fun sx wx => ∃ b : Bool, sx = .bool b ∧ (b = true ↔ (Dec.fst v = 45 ∨ Dec.fst v = 43)) ∧ wx = w.alloc (.cells #[.bool false, .string ⟨#[]⟩, .int .i64 0] 23))
  case first =>
    by_cases g : k3 < x.size
    · have d1 : decide (k3 < x.size) = true := decide_eq_true g
      have d1' : decide ((k3 : Int) < x.size) = true := decide_eq_true (by omega)
      have g2 : (k3 : Int) < x.size := by omega
      have hf : Hid (Dec.fst v = x[k3].toNat) := Lib.hid (by rw [← HX.out]; exact Dec.fst_tl x g)
      clear hvs
      by_cases c1 : x[k3].toNat = 45
      · have d2 : ((x[k3].toNat : Int) == 45) = true := by rw [beq_iff_eq]; omega
        have P : Hid (Dec.fst v = 45 ∨ Dec.fst v = 43) := Lib.hid (Or.inl (hf.out.trans c1))
        clear c1
        go_wp2_with fail
        go_meet
        exact ⟨true, rfl, ⟨fun _ => P.out, fun _ => rfl⟩, rfl⟩
      have d2 : ((x[k3].toNat : Int) == 45) = false := by rw [beq_eq_false_iff_ne]; omega
      by_cases c2 : x[k3].toNat = 43
      · have d3 : ((x[k3].toNat : Int) == 43) = true := by rw [beq_iff_eq]; omega
        have P : Hid (Dec.fst v = 45 ∨ Dec.fst v = 43) := Lib.hid (Or.inr (hf.out.trans c2))
        clear c1 c2
        go_wp2_with fail
        go_meet
        exact ⟨true, rfl, ⟨fun _ => P.out, fun _ => rfl⟩, rfl⟩
      · have d3 : ((x[k3].toNat : Int) == 43) = false := by rw [beq_eq_false_iff_ne]; omega
        have P : Hid (¬ (Dec.fst v = 45 ∨ Dec.fst v = 43)) := Lib.hid (by rintro (h | h); exact c1 (hf.out.symm.trans h); exact c2 (hf.out.symm.trans h))
        clear c1 c2
        go_wp2_with fail
        go_meet
        exact ⟨false, rfl, ⟨fun k => (by cases k), fun k => absurd k P.out⟩, rfl⟩
    · have d1 : decide (k3 < x.size) = false := decide_eq_false g
      have d1' : decide ((k3 : Int) < x.size) = false := decide_eq_false (by omega)
      have P : Hid (¬ (Dec.fst v = 45 ∨ Dec.fst v = 43)) := Lib.hid (by rw [Dec.fst_nil (by omega)]; decide)
      clear g hvs
      go_wp2_with fail
      go_meet
      exact ⟨false, rfl, ⟨fun k => (by cases k), fun k => absurd k P.out⟩, rfl⟩
  case rest =>
  obtain ⟨b, rfl, hb, rfl⟩ := hcut
  have HB := Lib.hid hb
  clear hb
  go_upto_if 120 with fail
  go_cut [6] (fun sx wx => ∃ k : Nat, sx = .int .i64 k ∧ k ≤ x.size ∧ Dec.tl x k = Dec.sgn v ∧ wx = w.alloc (.cells #[.bool false, .string ⟨#[]⟩, .int .i64 0] 23))
  case first =>
    cases b
    · have P : Hid (Dec.tl x k3 = Dec.sgn v) := Lib.hid (by
        unfold Dec.sgn
        rw [if_neg (fun k => by have := HB.out.2 k; cases this)]
        exact HX.out)
      go_wp2_with fail
      go_meet
      exact ⟨k3, rfl, hk3x, P.out, rfl⟩
    · have hsv := HB.out.1 rfl
      have hv0 : 0 < v.size := by rcases hsv with g | g; exact Dec.fst_pos g (by decide); exact Dec.fst_pos g (by decide)
      have P : Hid (Dec.tl x (k3 + 1) = Dec.sgn v) := Lib.hid (by
        unfold Dec.sgn
        rw [if_pos hsv, ← HX.out, Dec.tl_tl])
      have hk4 : k3 + 1 ≤ x.size := by omega
      clear hsv hv0 hvs
      go_wp2_with fail
      go_meet
      exact ⟨k3 + 1, by go_num, hk4, P.out, rfl⟩
  case rest =>
  obtain ⟨k4, rfl, hk4, hsg, rfl⟩ := hcut
  clear HB hk3i hk3x hvs hk30 hk0 hk2
  obtain ⟨u, hu⟩ : ∃ u, Dec.sgn v = u := ⟨_, rfl⟩
  rw [hu] at hsg
  have HS := Lib.hid hu
  have HU := Lib.hid hsg
  clear hu hsg
  have hus : u.size = x.size - k4 := by rw [← HU.out, Dec.tl_size]
  have hr := (Dec.rn_spec u).1
  obtain ⟨m, hm0⟩ : ∃ m, Dec.rn u = m := ⟨_, rfl⟩
  obtain ⟨j, hj⟩ : ∃ j, k4 + m = j := ⟨_, rfl⟩
  have H2 := Lib.hid (run_leaf (x := x) (a := k4) (j := j) (k4 : Int) rfl (by omega) hk4 (by rw [HU.out, hm0]; exact hj))
  rw [hm0] at hr
  have hk40 : (0 : Int) ≤ k4 := by omega
  by_cases c0 : m = 0
  · have d1 : ((j : Int) == k4) = true := by rw [beq_iff_eq]; omega
    have d1' : (j == k4) = true := by rw [beq_iff_eq]; omega
    have E : Hid ((Dec.z0, (3 : Int)) = ((⟨rg, rm, re⟩, rr) : Dec.Dc × Int)) := Lib.hid ((Dec.fin_none (Dec.expo_none (u := u) T0.out hor.out (by rw [HV.out]; exact HS.out) (Or.inl (by rw [hm0]; exact c0)))).symm.trans HF.out)
    clear HF hm0 c0 hj hr hus
    go_wp2_with fail
    refine (H2.out _).mono ?_; rintro _ w' ⟨rfl, rfl⟩
    have E2 := Lib.hid (leaf_bad E.out HQ.out)
    skip
    go_wp2
    exact bodyPost_ret (v := .tuple #[.agg #[.bool false, .string ⟨#[]⟩, .int .i64 0], .int .i64 3]) (by simp [results, Tryd.results21, go_sem]) rfl ⟨E2.out, K.below⟩
  have d1 : ((j : Int) == k4) = false := by rw [beq_eq_false_iff_ne]; omega
  have d1' : (j == k4) = false := by rw [beq_eq_false_iff_ne]; omega
  obtain ⟨Z, hZ⟩ : ∃ Z, u.extract 0 m = Z := ⟨_, rfl⟩
  have hZd := Dec.rn_alld u
  rw [hm0, hZ] at hZd
  have hZs : Z.size = m := by rw [← hZ, ByteArray.size_extract]; omega
  have sl9 := slice_lh (s := x) (j := k4) (k := j) (k4 : Int) (j : Int) rfl rfl (by omega) (by omega) (u := Z) (by rw [← hZ, ← HU.out, Dec.tl_take x k4 m (by omega), hj])
  have HPW := Lib.hid (fun w => power_any (q := Z) ⟨hZd, by omega⟩ w)
  have hpl := Dec.powR_le (Dig.V Z)
  by_cases c1 : m = u.size
  case neg =>
    have E : Hid ((Dec.z0, (3 : Int)) = ((⟨rg, rm, re⟩, rr) : Dec.Dc × Int)) := Lib.hid ((Dec.fin_none (Dec.expo_none (u := u) T0.out hor.out (by rw [HV.out]; exact HS.out) (Or.inr (by rw [hm0]; exact c1)))).symm.trans HF.out)
    have d2 : decide ((j : Int) < x.size) = true := decide_eq_true (by omega)
    have d2' : decide (j < x.size) = true := decide_eq_true (by omega)
    generalize Dec.powR (Dig.V Z) = y at *
    clear HF hm0 c0 c1 hj hr hus hZ hZd hZs
    go_wp2_with fail
    refine (H2.out _).mono ?_; rintro _ w' ⟨rfl, rfl⟩
    go_wp2_with fail
    refine (HPW.out _).mono ?_; rintro _ w' ⟨rfl, rfl⟩
    cases l
    · skip
      have E2 := Lib.hid (leaf_bad E.out HQ.out)
      skip
      go_wp2
      exact bodyPost_ret (v := .tuple #[.agg #[.bool false, .string ⟨#[]⟩, .int .i64 0], .int .i64 3]) (by simp [results, Tryd.results21, go_sem]) rfl ⟨E2.out, K.below⟩
    · skip
      have E2 := Lib.hid (leaf_bad E.out HQ.out)
      skip
      go_wp2
      exact bodyPost_ret (v := .tuple #[.agg #[.bool false, .string ⟨#[]⟩, .int .i64 0], .int .i64 3]) (by simp [results, Tryd.results21, go_sem]) rfl ⟨E2.out, K.below⟩
  have hZu : Z = u := by rw [← hZ, c1]; simp
  have hF2 := (Dec.fin_some (A := A) (neg := false) (Dec.expo_some (mv := Dec.movP) (e := e) (u := u) (b := l) T0.out hor.out (by rw [HV.out]; exact HL.out) (by rw [HV.out]; exact HS.out) (by rw [hm0]; omega) (hm0.trans c1))).symm.trans HF.out
  rw [← hZu] at hF2
  unfold Dec.movP at hF2
  have HF2 := Lib.hid hF2
  have d2 : decide ((j : Int) < x.size) = false := decide_eq_false (by omega)
  have d2' : decide (j < x.size) = false := decide_eq_false (by omega)
  generalize Dec.powR (Dig.V Z) = y at *
  clear hF2 HF hm0 c0 c1 hj hr hus hZ hZd hZs hZu
  go_wp2_with fail
  refine (H2.out _).mono ?_; rintro _ w' ⟨rfl, rfl⟩
  go_wp2_with fail
  refine (HPW.out _).mono ?_; rintro _ w' ⟨rfl, rfl⟩
  have hwy : IntKind.i64.wrap (-y) = -y := by rw [IntKind.wrap_i64]; omega
  cases l
  · have HF3 : Hid (Dec.normR false (Dig.V A) (e + y) = ((⟨rg, rm, re⟩, rr) : Dec.Dc × Int)) := Lib.hid (by have := HF2.out; simpa using this)
    have HK := Lib.hid (fun w => normal_leaf (ng := false) (y := e + y) hA6 HAd.out (by omega) (by omega) HF3.out HQ.out w)
    go_wp2_with fail
    refine (HK.out _).mono ?_; rintro _ w1 ⟨rfl, hb1⟩
    replace K := K.call hb1
    clear hb1 z0 z1 z2 zf
    obtain ⟨z0, z1, z2⟩ := K.res.c3
    have zf := K.res.frozen
    obtain ⟨hfin, hbf⟩ := K.put (.bool rg) (.string q) (.int .i64 re)
    go_wp2_with fail
    exact bodyPost_ret (v := .tuple #[.agg #[.bool rg, .string q, .int .i64 re], .int .i64 rr]) (by simp [results, Tryd.results21, go_sem, hfin.c3]) rfl ⟨rfl, hbf⟩
  · have HF3 : Hid (Dec.normR false (Dig.V A) (e + -y) = ((⟨rg, rm, re⟩, rr) : Dec.Dc × Int)) := Lib.hid (by have := HF2.out; simpa [Int.sub_eq_add_neg] using this)
    have HK := Lib.hid (fun w => normal_leaf (ng := false) (y := e + -y) hA6 HAd.out (by omega) (by omega) HF3.out HQ.out w)
    go_wp2_with fail
    refine (HK.out _).mono ?_; rintro _ w1 ⟨rfl, hb1⟩
    replace K := K.call hb1
    clear hb1 z0 z1 z2 zf
    obtain ⟨z0, z1, z2⟩ := K.res.c3
    have zf := K.res.frozen
    obtain ⟨hfin, hbf⟩ := K.put (.bool rg) (.string q) (.int .i64 re)
    go_wp2_with fail
    exact bodyPost_ret (v := .tuple #[.agg #[.bool rg, .string q, .int .i64 re], .int .i64 rr]) (by simp [results, Tryd.results21, go_sem, hfin.c3]) rfl ⟨rfl, hbf⟩
end Go.Proofs.YtcnfgcdbjofihaaDoor
