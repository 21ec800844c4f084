/- Decimals: Parse. -/
import Derived.Test.YtcnfgcdbjofihaaDoorDecParseN
namespace Go.Proofs.YtcnfgcdbjofihaaDoor
open Go.RowKit


set_option maxHeartbeats 8000000 in
set_option maxRecDepth 100000 in
theorem parse_pos {x : ByteArray} (hx : x.size ≤ 1000) (hm : ¬ Dec.fst x = 45) (w : World) {R : Dec.Dc × Int} (hR : Dec.p1 Dec.movR false x = R) :
    Calls Tryd.prog 19 #[.string x] w fun e w' => e = .returned (.tuple #[Dec.ag R.1, .int .i64 R.2]) ∧ Below w.heap.size w w' := by
  obtain ⟨⟨rg, rm, re⟩, rr⟩ := R
  unfold Dec.ag
  dsimp only
  obtain ⟨q, hq⟩ : ∃ q, Dig.st rm = q := ⟨_, rfl⟩
  rw [hq]
  have HQ := Lib.hid hq
  clear hq
  have HM := Lib.hid (fun (s : ByteArray) (w : World) => prefix_any s 45 (by decide) w)
  have HD := Lib.hid (fun (s : ByteArray) (w : World) => prefix_any s 46 (by decide) w)
  have HPl := Lib.hid (fun (s : ByteArray) (w : World) => prefix_any s 43 (by decide) w)
  have H0 := Lib.hid (fun w => by have := HM.out x w; rwa [show (45 : UInt8).toNat = 45 from rfl, decide_eq_false hm] at this)
  obtain ⟨s, hs⟩ : ∃ s, x = s := ⟨_, rfl⟩
  rw [hs] at hR H0 ⊢
  have hss : s.size ≤ 1000 := by rw [← hs]; exact hx
  clear hs
  clear hm hx
  have hn := (Dec.rn_spec s).1
  have HA := Lib.hid (Dec.rn_alld s)
  obtain ⟨n, hn0⟩ : ∃ n, Dec.rn s = n := ⟨_, rfl⟩
  have H1 := Lib.hid (fun (w : World) => by have := run_any (x := s) (by unfold maxLen; omega) w; rwa [hn0] at this)
  unfold Dec.p1 at hR
  rw [hn0] at hR hn HA
  clear hn0
  obtain ⟨A0, hA0⟩ : ∃ A, s.extract 0 n = A := ⟨_, rfl⟩
  obtain ⟨s1, hs1⟩ : ∃ A, Dec.tl s n = A := ⟨_, rfl⟩
  have hA0s : A0.size = n := by rw [← hA0, ByteArray.size_extract]; omega
  have hs1s : s1.size ≤ 1000 := by rw [← hs1, Dec.tl_size]; omega
  have sl1 := slice_h1 (s := s) (k := n) (n : Int) rfl (by omega) hA0
  have sl2 := slice_l1 (s := s) (k := n) (n : Int) rfl (by omega) hs1
  rw [hA0, hs1] at hR
  rw [hA0] at HA
  clear hA0 hs1
  have HE : Hid ((n = 0 ∨ (1 < n ∧ Dec.fst s = 48)) → (Dec.z0, (3 : Int)) = ((⟨rg, rm, re⟩, rr) : Dec.Dc × Int)) := Lib.hid (fun k => by rw [if_pos k] at hR; exact hR)
  have HO : Hid (¬ (n = 0 ∨ (1 < n ∧ Dec.fst s = 48)) → Dec.p2 Dec.movR false A0 s1 = ((⟨rg, rm, re⟩, rr) : Dec.Dc × Int)) := Lib.hid (fun k => by rw [if_neg k] at hR; exact hR)
  clear hR
  have K := DK.new w
  obtain ⟨z0, z1, z2⟩ := K.res.c3
  have zf := K.res.frozen
  go_enter Tryd.func19, Tryd.ntmps19
  go_wp2_with fail
  refine (H0.out _).mono ?_; rintro _ w' ⟨rfl, rfl⟩
  go_wp2_with fail
  refine (H1.out _).mono ?_; rintro _ w' ⟨rfl, rfl⟩
  clear H0 H1
  go_upto_region 5 with fail
  go_cut [26] (fun sx wx => ∃ b : Bool, sx = .bool b ∧ (b = true ↔ (n = 0 ∨ (1 < n ∧ Dec.fst s = 48))) ∧ wx = w.alloc (.cells #[.bool false, .string ⟨#[]⟩, .int .i64 0] 23))
  case first =>
    by_cases c0 : n = 0
    · have d1 : ((n : Int) == 0) = true := by rw [beq_iff_eq]; omega
      have P := Lib.hid (Or.inl c0 : n = 0 ∨ (1 < n ∧ Dec.fst s = 48))
      clear c0
      go_wp2_with fail
      go_meet
      exact ⟨true, rfl, ⟨fun _ => P.out, fun _ => rfl⟩, rfl⟩
    have d1 : ((n : Int) == 0) = false := by rw [beq_eq_false_iff_ne]; omega
    have hs0 : 0 < s.size := by omega
    have hs02 : (0 : Int) < s.size := by omega
    have hf := Lib.hid (Dec.fst_get hs0)
    by_cases c1 : 1 < n
    · have d2 : decide (1 < (n : Int)) = true := decide_eq_true (by omega)
      by_cases c2 : s[0].toNat = 48
      · have d3 : ((s[0].toNat : Int) == 48) = true := by rw [beq_iff_eq]; omega
        have P := Lib.hid (Or.inr ⟨c1, hf.out.trans c2⟩ : n = 0 ∨ (1 < n ∧ Dec.fst s = 48))
        clear c0 c1 c2
        go_wp2_with fail
        go_meet
        exact ⟨true, rfl, ⟨fun _ => P.out, fun _ => rfl⟩, rfl⟩
      · have d3 : ((s[0].toNat : Int) == 48) = false := by rw [beq_eq_false_iff_ne]; omega
        have P : Hid (¬ (n = 0 ∨ (1 < n ∧ Dec.fst s = 48))) := Lib.hid (by rintro (k | k); exact c0 k; exact c2 (hf.out.symm.trans k.2))
        clear c0 c1 c2
        go_wp2_with fail
        go_meet
        exact ⟨false, rfl, ⟨fun k => (by cases k), fun k => absurd k P.out⟩, rfl⟩
    · have d2 : decide (1 < (n : Int)) = false := decide_eq_false (by omega)
      have P : Hid (¬ (n = 0 ∨ (1 < n ∧ Dec.fst s = 48))) := Lib.hid (by rintro (k | k); exact c0 k; exact c1 k.1)
      clear c0 c1
      go_wp2_with fail
      go_meet
      exact ⟨false, rfl, ⟨fun k => (by cases k), fun k => absurd k P.out⟩, rfl⟩
  case rest =>
  obtain ⟨b, rfl, hb, rfl⟩ := hcut
  have HB := Lib.hid hb
  clear hb
  cases b
  case true =>
    have E2 := Lib.hid (leaf_bad (HE.out (HB.out.1 rfl)) HQ.out)
    clear HE HO HB
    go_wp2
    exact bodyPost_ret (v := .tuple #[.agg #[.bool false, .string ⟨#[]⟩, .int .i64 0], .int .i64 3]) (by simp [results, Tryd.results19, go_sem]) rfl ⟨E2.out, K.below⟩
  have HP := Lib.hid (HO.out (fun k => by have := HB.out.2 k; cases this))
  clear HO HE HB
  have HDs := HD.out s1
  rw [show (46 : UInt8).toNat = 46 from rfl] at HDs
  obtain ⟨d, hd⟩ : ∃ d, decide (Dec.fst s1 = 46) = d := ⟨_, rfl⟩
  rw [hd] at HDs
  have HDd := Lib.hid hd
  have HDc := Lib.hid HDs
  clear hd HDs
  go_wp2_with fail
  refine (HDc.out _).mono ?_; rintro _ w' ⟨rfl, rfl⟩
  clear sl1 sl2 HDc
  go_upto_if 35 with fail
  go_cut [0, 6, 7] (fun t0 t6 t7 wx => ∃ (t A : ByteArray) (e : Int), t0 = .string t ∧ t6 = .string A ∧ t7 = .int .i64 e ∧ t.size ≤ 1000 ∧ A.size ≤ 2000 ∧ -1000 ≤ e ∧ e ≤ 0 ∧ Dig.alld (Dig.l A) ∧ Dec.fin Dec.movR false A e t = ((⟨rg, rm, re⟩, rr) : Dec.Dc × Int) ∧ wx = w.alloc (.cells #[.bool false, .string ⟨#[]⟩, .int .i64 0] 23))
  case first =>
    cases d
    · have hF := HP.out
      unfold Dec.p2 at hF
      rw [if_neg (of_decide_eq_false HDd.out)] at hF
      have HF := Lib.hid hF
      clear hF
      go_wp2_with fail
      go_meet
      exact ⟨s1, A0, 0, rfl, rfl, rfl, hs1s, by omega, by omega, by omega, HA.out, HF.out, rfl⟩
    · have hf := of_decide_eq_true HDd.out
      have hs10 := Dec.fst_pos hf (by decide)
      have hF := HP.out
      unfold Dec.p2 at hF
      rw [if_pos hf] at hF
      have HB1 := Dec.rn_alld1 s1 hs10
      have hus := Dec.tl_size s1 1
      obtain ⟨u, hu⟩ : ∃ u, Dec.tl s1 1 = u := ⟨_, rfl⟩
      have sl3 := slice_l1 (s := s1) (k := 1) 1 rfl (by omega) hu
      rw [hu] at hF HB1 hus
      clear hu
      have hm := (Dec.rn_spec u).1
      obtain ⟨m, hm0⟩ : ∃ m, Dec.rn u = m := ⟨_, rfl⟩
      have H2 := Lib.hid (fun (w : World) => by have := run_any (x := u) (by unfold maxLen; omega) w; rwa [hm0] at this)
      rw [hm0] at hF HB1 hm
      clear hm0
      by_cases c0 : m = 0
      · rw [if_pos c0] at hF
        have d1 : ((m : Int) == 0) = true := by rw [beq_iff_eq]; omega
        have HF := Lib.hid hF
        clear hF c0 HB1 hf
        go_wp2_with fail
        refine (H2.out _).mono ?_; rintro _ w' ⟨rfl, rfl⟩
        have E2 := Lib.hid (leaf_bad HF.out HQ.out)
        skip
        go_wp2
        exact bodyPost_ret (v := .tuple #[.agg #[.bool false, .string ⟨#[]⟩, .int .i64 0], .int .i64 3]) (by simp [results, Tryd.results19, go_sem]) rfl ⟨E2.out, K.below⟩
      rw [if_neg c0] at hF
      have d1 : ((m : Int) == 0) = false := by rw [beq_eq_false_iff_ne]; omega
      obtain ⟨B, hB⟩ : ∃ A, s1.extract 1 (m + 1) = A := ⟨_, rfl⟩
      obtain ⟨s2, hs2⟩ : ∃ A, Dec.tl s1 (m + 1) = A := ⟨_, rfl⟩
      have hBs : B.size = m := by rw [← hB, ByteArray.size_extract]; omega
      have hs2s : s2.size ≤ 1000 := by rw [← hs2, Dec.tl_size]; omega
      have sl4 := slice_lh (s := s1) (j := 1) (k := m + 1) 1 ((m : Int) + 1) rfl (by omega) (by omega) (by omega) hB
      have sl5 := slice_l1 (s := s1) (k := m + 1) ((m : Int) + 1) (by omega) (by omega) hs2
      rw [hB] at HB1
      rw [hB, hs2] at hF
      have HAB := Lib.hid (Dec.alld_app HA.out HB1)
      have HF := Lib.hid hF
      clear hF c0 HB1 hf hB hs2
      have hw : IntKind.i64.wrap (-(m : Int)) = -(m : Int) := by rw [IntKind.wrap_i64]; omega
      have hcat : ¬ 9223372036854775807 < A0.size + B.size := by omega
      go_wp2_with fail
      refine (H2.out _).mono ?_; rintro _ w' ⟨rfl, rfl⟩
      go_wp2_with fail
      go_meet
      exact ⟨s2, A0 ++ B, -(m : Int), rfl, rfl, rfl, hs2s, by rw [ByteArray.size_append]; omega, by omega, by omega, HAB.out, HF.out, rfl⟩
  case rest =>
  obtain ⟨t, A, e, rfl, rfl, rfl, ht, hAs, he1, he2, hAd, hF, rfl⟩ := hcut
  have HAd := Lib.hid hAd
  have hA6 : A.size ≤ 1000000 := by omega
  clear hAd HP HDd HA hA0s hs1s hn hss
  by_cases t0 : t.size = 0
  · rw [Dec.fin_some (Dec.expo_nil t0)] at hF
    have HF := Lib.hid hF
    have nt := Dig.nil_of t0
    clear hF t0
    have HK := Lib.hid (fun w => make_leaf (y := e) hA6 HAd.out HF.out HQ.out w)
    go_wp2_with fail
    refine (HK.out _).mono ?_; rintro _ w1 ⟨rfl, hb1⟩
    replace K := K.call hb1
    clear hb1 z0 z1 z2 zf
    obtain ⟨z0, z1, z2⟩ := K.res.c3
    have zf := K.res.frozen
    obtain ⟨hfin, hbf⟩ := K.put (.bool rg) (.string q) (.int .i64 re)
    go_wp2_with fail
    exact bodyPost_ret (v := .tuple #[.agg #[.bool rg, .string q, .int .i64 re], .int .i64 rr]) (by simp [results, Tryd.results19, go_sem, hfin.c3]) rfl ⟨rfl, hbf⟩
  have nt := Dig.some_of (x := t) (by omega)
  have ht0 : 0 < t.size := by omega
  have ht02 : (0 : Int) < t.size := by omega
  have HF := Lib.hid hF
  have T0 := Lib.hid t0
  clear hF t0
  go_upto_region 18 with fail
  go_cut [63] (fun sx wx => ∃ b : Bool, sx = .bool b ∧ (b = true ↔ (Dec.fst t ≠ 101 ∧ Dec.fst t ≠ 69)) ∧ wx = w.alloc (.cells #[.bool false, .string ⟨#[]⟩, .int .i64 0] 23))
  case first =>
    have hf := Lib.hid (Dec.fst_get ht0)
    by_cases c1 : t[0].toNat = 101
    · have d1 : ((t[0].toNat : Int) != 101) = false := by simp [c1]
      have P : Hid (¬ (Dec.fst t ≠ 101 ∧ Dec.fst t ≠ 69)) := Lib.hid (fun k => k.1 (hf.out.trans c1))
      clear c1
      go_wp2_with fail
      go_meet
      exact ⟨false, rfl, ⟨fun k => (by cases k), fun k => absurd k P.out⟩, rfl⟩
    have d1 : ((t[0].toNat : Int) != 101) = true := by simp; omega
    by_cases c2 : t[0].toNat = 69
    · have d2 : ((t[0].toNat : Int) != 69) = false := by simp [c2]
      have P : Hid (¬ (Dec.fst t ≠ 101 ∧ Dec.fst t ≠ 69)) := Lib.hid (fun k => k.2 (hf.out.trans c2))
      clear c1 c2
      go_wp2_with fail
      go_meet
      exact ⟨false, rfl, ⟨fun k => (by cases k), fun k => absurd k P.out⟩, rfl⟩
    · have d2 : ((t[0].toNat : Int) != 69) = true := by simp; omega
      have P : Hid (Dec.fst t ≠ 101 ∧ Dec.fst t ≠ 69) := Lib.hid ⟨fun k => c1 (hf.out.symm.trans k), fun k => c2 (hf.out.symm.trans k)⟩
      clear c1 c2
      go_wp2_with fail
      go_meet
      exact ⟨true, rfl, ⟨fun _ => P.out, fun _ => rfl⟩, rfl⟩
  case rest =>
  obtain ⟨b, rfl, hb, rfl⟩ := hcut
  have HB := Lib.hid hb
  clear hb
  cases b
  case true =>
    have E2 := Lib.hid (leaf_bad ((Dec.fin_none (Dec.expo_bad T0.out (HB.out.1 rfl))).symm.trans HF.out) HQ.out)
    clear HF HB T0
    go_wp2
    exact bodyPost_ret (v := .tuple #[.agg #[.bool false, .string ⟨#[]⟩, .int .i64 0], .int .i64 3]) (by simp [results, Tryd.results19, go_sem]) rfl ⟨E2.out, K.below⟩
  have HEe : Hid (Dec.fst t = 101 ∨ Dec.fst t = 69) := Lib.hid (by
    have := HB.out
    by_cases h1 : Dec.fst t = 101
    · exact Or.inl h1
    · by_cases h2 : Dec.fst t = 69
      · exact Or.inr h2
      · have := this.2 ⟨h1, h2⟩; cases this)
  clear HB
  have hvs := Dec.tl_size t 1
  obtain ⟨v, hv⟩ : ∃ v, Dec.tl t 1 = v := ⟨_, rfl⟩
  have sl6 := slice_l1 (s := t) (k := 1) 1 rfl (by omega) hv
  rw [hv] at hvs
  have HV := Lib.hid hv
  clear hv
  have HMs := HM.out v
  rw [show (45 : UInt8).toNat = 45 from rfl] at HMs
  obtain ⟨l, hl⟩ : ∃ d, decide (Dec.fst v = 45) = d := ⟨_, rfl⟩
  rw [hl] at HMs
  have HL := Lib.hid hl
  have HMc := Lib.hid HMs
  clear hl HMs
  have hvs2 : v.size ≤ 1000 := by omega
  clear hvs
  go_wp2_with fail
  refine (HMc.out _).mono ?_; rintro _ w' ⟨rfl, rfl⟩
  clear HMc sl6 nt
  go_upto_region 22 with fail
  go_cut [73] (fun sx wx => ∃ b : Bool, sx = .bool b ∧ (b = true ↔ (Dec.fst v = 45 ∨ Dec.fst v = 43)) ∧ wx = w.alloc (.cells #[.bool false, .string ⟨#[]⟩, .int .i64 0] 23))
  case first =>
    have HPs := HPl.out v
    rw [show (43 : UInt8).toNat = 43 from rfl] at HPs
    obtain ⟨k, hk⟩ : ∃ d, decide (Dec.fst v = 43) = d := ⟨_, rfl⟩
    rw [hk] at HPs
    have HKk := Lib.hid hk
    have HPc := Lib.hid HPs
    clear hk HPs
    cases l
    · go_wp2_with fail
      refine (HPc.out _).mono ?_; rintro _ w' ⟨rfl, rfl⟩
      go_wp2_with fail
      go_meet
      refine ⟨k, rfl, ?_, rfl⟩
      have h1 := of_decide_eq_false HL.out
      have h2 := HKk.out
      constructor
      · intro g
        rw [g] at h2
        exact Or.inr (of_decide_eq_true h2)
      · rintro (g | g)
        · exact absurd g h1
        · rw [← h2]; exact decide_eq_true g
    · go_wp2_with fail
      go_meet
      exact ⟨true, rfl, ⟨fun _ => Or.inl (of_decide_eq_true HL.out), fun _ => rfl⟩, rfl⟩
  case rest =>
  obtain ⟨b, rfl, hb, rfl⟩ := hcut
  have HB := Lib.hid hb
  clear hb
  go_upto_if 73 with fail
  go_cut [0] (fun sx wx => ∃ u : ByteArray, sx = .string u ∧ u.size ≤ 1000 ∧ Dec.sgn v = u ∧ wx = w.alloc (.cells #[.bool false, .string ⟨#[]⟩, .int .i64 0] 23))
  case first =>
    cases b
    · have P : Hid (Dec.sgn v = v) := Lib.hid (by
        unfold Dec.sgn
        rw [if_neg (fun k => by have := HB.out.2 k; cases this)])
      go_wp2_with fail
      go_meet
      exact ⟨v, rfl, hvs2, P.out, rfl⟩
    · have hor := HB.out.1 rfl
      have hv0 : 0 < v.size := by rcases hor with g | g; exact Dec.fst_pos g (by decide); exact Dec.fst_pos g (by decide)
      have P : Hid (Dec.sgn v = Dec.tl v 1) := Lib.hid (by
        unfold Dec.sgn
        rw [if_pos hor])
      clear hor
      have hts := Dec.tl_size v 1
      have sl7 := slice_l1 (s := v) (k := 1) 1 rfl (by omega) rfl
      generalize Dec.tl v 1 = u at *
      have hus : u.size ≤ 1000 := by omega
      go_wp2_with fail
      go_meet
      exact ⟨u, rfl, hus, P.out, rfl⟩
  case rest =>
  obtain ⟨u, rfl, hus, hsg, rfl⟩ := hcut
  have HS := Lib.hid hsg
  clear hsg HB
  by_cases u0 : u.size = 0
  · have nu := Dig.nil_of u0
    have E : Hid ((Dec.z0, (3 : Int)) = ((⟨rg, rm, re⟩, rr) : Dec.Dc × Int)) := Lib.hid ((Dec.fin_none (Dec.expo_none (u := u) T0.out HEe.out (by rw [HV.out]; exact HS.out) (Or.inl (Dec.rn_nil u0)))).symm.trans HF.out)
    clear u0 HF
    have E2 := Lib.hid (leaf_bad E.out HQ.out)
    skip
    go_wp2
    exact bodyPost_ret (v := .tuple #[.agg #[.bool false, .string ⟨#[]⟩, .int .i64 0], .int .i64 3]) (by simp [results, Tryd.results19, go_sem]) rfl ⟨E2.out, K.below⟩
  have nu := Dig.some_of (x := u) (by omega)
  have hr := (Dec.rn_spec u).1
  obtain ⟨m, hm0⟩ : ∃ m, Dec.rn u = m := ⟨_, rfl⟩
  have H2 := Lib.hid (fun (w : World) => by have := run_any (x := u) (by unfold maxLen; omega) w; rwa [hm0] at this)
  rw [hm0] at hr
  by_cases c1 : m = u.size
  case neg =>
    have d1 : ((m : Int) != u.size) = true := by simp; omega
    have d1' : (m != u.size) = true := by simp; omega
    have E : Hid ((Dec.z0, (3 : Int)) = ((⟨rg, rm, re⟩, rr) : Dec.Dc × Int)) := Lib.hid ((Dec.fin_none (Dec.expo_none (u := u) T0.out HEe.out (by rw [HV.out]; exact HS.out) (Or.inr (by rw [hm0]; exact c1)))).symm.trans HF.out)
    clear u0 HF hm0 c1
    go_wp2_with fail
    refine (H2.out _).mono ?_; rintro _ w' ⟨rfl, rfl⟩
    have E2 := Lib.hid (leaf_bad E.out HQ.out)
    skip
    go_wp2
    exact bodyPost_ret (v := .tuple #[.agg #[.bool false, .string ⟨#[]⟩, .int .i64 0], .int .i64 3]) (by simp [results, Tryd.results19, go_sem]) rfl ⟨E2.out, K.below⟩
  have hud := Dec.rn_all (hm0.trans c1)
  have hF2 := (Dec.fin_some (A := A) (neg := false) (Dec.expo_some (mv := Dec.movR) (e := e) (u := u) (b := l) T0.out HEe.out (by rw [HV.out]; exact HL.out) (by rw [HV.out]; exact HS.out) (by rw [hm0]; omega) (hm0.trans c1))).symm.trans HF.out
  have HT := Lib.hid (triml_any hud)
  have hq0 : Dig.Str u := ⟨hud, by omega⟩
  have hvs3 : (Dig.st (Dig.V u)).size ≤ 1000000 := Nat.le_trans ((Dig.st_size _ _).2 (Dig.V_lt hq0)) hq0.size
  have HMV := Lib.hid (fun w => moved_any e (by omega) (by omega) l hvs3 w)
  clear hq0 hvs3
  generalize Dec.movR e l (Dig.V u) = y at *
  generalize Dig.st (Dig.V u) = z at *
  have HF2 := Lib.hid hF2
  clear hF2 hud hm0 HF u0
  have d1 : ((m : Int) != u.size) = false := by simp [c1]
  have d1' : (m != u.size) = false := by simp [c1]
  clear c1
  go_wp2_with fail
  refine (H2.out _).mono ?_; rintro _ w' ⟨rfl, rfl⟩
  go_wp2_with fail
  refine (HT.out _).mono ?_; rintro _ w' ⟨rfl, rfl⟩
  go_wp2_with fail
  refine (HMV.out _).mono ?_; rintro _ w' ⟨rfl, rfl⟩
  have HK := Lib.hid (fun w => make_leaf (y := y) hA6 HAd.out HF2.out HQ.out w)
  go_wp2_with fail
  refine (HK.out _).mono ?_; rintro _ w1 ⟨rfl, hb1⟩
  replace K := K.call hb1
  clear hb1 z0 z1 z2 zf
  obtain ⟨z0, z1, z2⟩ := K.res.c3
  have zf := K.res.frozen
  obtain ⟨hfin, hbf⟩ := K.put (.bool rg) (.string q) (.int .i64 re)
  go_wp2_with fail
  exact bodyPost_ret (v := .tuple #[.agg #[.bool rg, .string q, .int .i64 re], .int .i64 rr]) (by simp [results, Tryd.results19, go_sem, hfin.c3]) rfl ⟨rfl, hbf⟩
theorem parse_any {x : ByteArray} (hx : x.size ≤ 1000) (w : World) :
    Calls Tryd.prog 19 #[.string x] w fun e w' => e = .returned (.tuple #[Dec.ag (Dec.parse Dec.movR x).1, .int .i64 (Dec.parse Dec.movR x).2]) ∧ Below w.heap.size w w' := by
  unfold Dec.parse
  by_cases h : Dec.fst x = 45
  · rw [if_pos h]; exact parse_neg hx h w rfl
  · rw [if_neg h]; exact parse_pos hx h w rfl
end Go.Proofs.YtcnfgcdbjofihaaDoor
