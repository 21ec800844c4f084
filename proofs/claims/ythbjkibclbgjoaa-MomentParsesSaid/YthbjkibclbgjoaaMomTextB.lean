/- Times: their texts, whole. -/
import Derived.Test.YthbjkibclbgjoaaMomText
import Derived.Lib.Strings
import Derived.Deep.RegionHeld3
namespace Go.Proofs.Ythbjkibclbgjoaa
open Go.RowKit

theorem Mom.str_some (q : List Int) (x : Int) : (Mom.str (q ++ [x])).toList.isEmpty = false := by
  rw [Lib.toList_data]
  simp [Mom.str]

set_option maxHeartbeats 1000000 in
theorem rclock_any (n : Int) (h0 : 0 ≤ n) (h1 : n ≤ 86399999999999) (w : World) : Calls Try.prog 38 #[.int .i64 n] w fun e w' => e = .returned (.string (Mom.str (Mom.ctx n))) ∧ Below w.heap.size w w' := by
  have b1 : 0 ≤ n / 1000000000 ∧ n / 1000000000 ≤ 86399 := by omega
  have HT : Hid (Mom.str (Mom.hms n) = Mom.str (Mom.dg 2 (n / 1000000000 / 3600)) ++ ⟨#[58]⟩ ++ Mom.str (Mom.dg 2 (n / 1000000000 / 60 % 60)) ++ ⟨#[58]⟩ ++ Mom.str (Mom.dg 2 (n / 1000000000 % 60))) := Lib.hid (by rw [lit_str.2.1]; simp only [Mom.str_append]; rfl)
  have H4 := Lib.hid (pad_any (n / 1000000000 / 3600) 2 (by omega) (by omega) (by omega))
  have H2 := Lib.hid (pad_any (n / 1000000000 / 60 % 60) 2 (by omega) (by omega) (by omega))
  have H3 := Lib.hid (pad_any (n / 1000000000 % 60) 2 (by omega) (by omega) (by omega))
  have H9 := Lib.hid (pad_any (n % 1000000000) 9 (by omega) (by omega) (by omega))
  have s1 := dg_size 2 (n / 1000000000 / 3600)
  have s2 := dg_size 2 (n / 1000000000 / 60 % 60)
  have s3 := dg_size 2 (n / 1000000000 % 60)
  have HX : Hid (Mom.str (Mom.ctx n) = if Mom.trim (Mom.dg 9 (n % 1000000000)) = [] then Mom.str (Mom.hms n) else Mom.str (Mom.hms n) ++ ⟨#[46]⟩ ++ Mom.str (Mom.trim (Mom.dg 9 (n % 1000000000)))) := Lib.hid (by
    unfold Mom.ctx
    by_cases hz : n % 1000000000 = 0
    · rw [if_pos hz, hz, if_pos (by decide)]
    · rw [if_neg hz, if_neg (fun e => hz (by have := Mom.trim_dg 9 _ e; simpa using this)), lit_str.2.2.1]
      simp only [Mom.str_append])
  generalize Mom.str (Mom.dg 2 (n / 1000000000 / 3600)) = t1 at *
  generalize Mom.str (Mom.dg 2 (n / 1000000000 / 60 % 60)) = t2 at *
  generalize Mom.str (Mom.dg 2 (n / 1000000000 % 60)) = t3 at *
  have HL := Lib.hid (Mom.dg_bd 9 (n % 1000000000))
  have hl9 := Mom.dg_length 9 (n % 1000000000)
  rw [HT.out] at HX
  clear HT
  have HF := Lib.hid (fun (e : Mom.trim (Mom.dg 9 (n % 1000000000)) = []) => HX.out.trans (if_pos e))
  have HG := Lib.hid (fun (e : Mom.trim (Mom.dg 9 (n % 1000000000)) ≠ []) => HX.out.trans (if_neg e))
  clear HX
  generalize Mom.dg 9 (n % 1000000000) = l at *
  go_enter Try.func38, Try.ntmps38
  go_wp2_with fail
  refine (H4.out _).mono ?_; rintro e w1 ⟨rfl, hb1⟩
  go_wp2_with fail
  refine (H2.out _).mono ?_; rintro e w2 ⟨rfl, hb2⟩
  replace hb1 := below_then hb1 hb2; clear hb2
  go_wp2_with fail
  refine (H3.out _).mono ?_; rintro e w2 ⟨rfl, hb2⟩
  replace hb1 := below_then hb1 hb2; clear hb2
  go_wp2_with fail
  refine (H9.out _).mono ?_; rintro e w2 ⟨rfl, hb2⟩
  replace hb1 := below_then hb1 hb2; clear hb2
  go_wp2_with fail
  go_loop [5] (fun f => ∃ p : List Int, f = .string (Mom.str p) ∧ p.length ≤ 9 ∧ Hid (Mom.trim p = Mom.trim l ∧ ∀ x ∈ p, 48 ≤ x ∧ x ≤ 57)) (fun f => (match f with | .string x => x.size | _ => 0))
  case atStart => exact ⟨l, rfl, by omega, Lib.hid ⟨rfl, HL.out⟩⟩
  case round =>
    obtain ⟨p, rfl, hp, HP⟩ := hrel
    by_cases hne : p = []
    · subst hne
      have HE : Hid (Mom.trim l = []) := Lib.hid HP.out.1.symm
      have e0 : Mom.str [] = ⟨#[]⟩ := rfl
      rw [e0]
      go_wp2
      go_ret
      rw [HF.out HE.out]
      exact ⟨rfl, hb1⟩
    obtain ⟨q, x, rfl⟩ : ∃ q x, p = q ++ [x] := ⟨p.dropLast, p.getLast hne, (List.dropLast_concat_getLast hne).symm⟩
    have hxb := HP.out.2 x (by simp)
    have hsz := Mom.str_size (q ++ [x])
    have hcut := Mom.str_cut q x
    have hsome := Mom.str_some q x
    have hlast := Mom.str_last q x (by omega) (by rw [hsz]; simp)
    simp only [List.length_append, List.length_cons, List.length_nil] at hsz hp
    have HY : Hid (x ≠ 48 → Mom.str (q ++ [x]) = Mom.str (Mom.trim l) ∧ Mom.trim l ≠ []) := Lib.hid (fun hx => by rw [← HP.out.1, Mom.trim_other _ _ hx]; simp)
    have HZ : Hid (x = 48 → Mom.trim q = Mom.trim l) := Lib.hid (fun hx => by rw [← HP.out.1, hx, Mom.trim_zero])
    have HQ : Hid (∀ z ∈ q, 48 ≤ z ∧ z ≤ 57) := Lib.hid (fun z hz => HP.out.2 z (by simp [hz]))
    clear HP hne
    generalize Mom.str (q ++ [x]) = y at *
    have e2 : y.size - 1 = q.length := by omega
    rw [e2] at hcut
    have hl2 : ((y[q.length]'(by omega)).toNat : Int) = x := by simpa only [e2] using hlast
    clear hlast e2
    by_cases hx : x = 48
    · have tx : (((y[q.length]'(by omega)).toNat : Int) == 48) = true := by rw [hl2]; simpa using hx
      replace HZ := Lib.hid (HZ.out hx)
      clear hx HY hl2
      go_wp2
      go_round
      case rel => exact ⟨q, rfl, by omega, Lib.hid ⟨HZ.out, HQ.out⟩⟩
      case measure => simp only [Mom.str_size]; omega
    · have tx : (((y[q.length]'(by omega)).toNat : Int) == 48) = false := by rw [hl2]; simpa using hx
      replace HY := Lib.hid (HY.out hx)
      clear hx HZ hl2
      go_wp2
      go_ret
      rw [HG.out HY.out.2, ← HY.out.1]
      exact ⟨rfl, hb1⟩

/-! ### Text -/
theorem Whole.c4 {W : World} {B : Nat} {t : TypeId} {a b c d : Value} (h : Whole W B t #[a, b, c, d]) : W.cell? ⟨B, 0, none⟩ = some a ∧ W.cell? ⟨B, 1, none⟩ = some b ∧ W.cell? ⟨B, 2, none⟩ = some c ∧ W.cell? ⟨B, 3, none⟩ = some d := ⟨h.cell 0, h.cell 1, h.cell 2, h.cell 3⟩
noncomputable def Mom.dtx (n : Int) : List Int := Mom.ymd (Cal.Yr n) (Cal.Mo n) (Cal.Da n)
noncomputable def Mom.txt (k d n o : Int) : List Int :=
  if Mom.Ok k d n o then (if k = 1 then Mom.dtx d else if k = 2 then Mom.ctx n else if k = 3 then Mom.dtx d ++ [84] ++ Mom.ctx n else Mom.dtx d ++ [84] ++ Mom.ctx n ++ Mom.otx o) else []
theorem Mom.len_dtx (n : Int) : (Mom.str (Mom.dtx n)).size ≤ 100 := by rw [Mom.str_size]; simp [Mom.dtx, Mom.ymd, Mom.dg_length]
theorem Mom.trim_length (l : List Int) : (Mom.trim l).length ≤ l.length := by
  unfold Mom.trim
  rw [List.length_reverse]
  exact Nat.le_trans (List.dropWhile_sublist _).length_le (by simp)
theorem Mom.len_ctx (n : Int) : (Mom.str (Mom.ctx n)).size ≤ 100 := by
  rw [Mom.str_size]
  unfold Mom.ctx Mom.hms
  have := Mom.trim_length (Mom.dg 9 (n % 1000000000))
  rw [Mom.dg_length] at this
  split
  · simp [Mom.dg_length]
  · simp [Mom.dg_length]; omega
theorem Mom.len_otx (n : Int) : (Mom.str (Mom.otx n)).size ≤ 100 := by
  rw [Mom.str_size]
  unfold Mom.otx
  split
  · simp
  split <;> simp [Mom.dg_length]

theorem keep_time {B : Nat} {w0 W W' : World} {a b c d : Value} (h : Below W.heap.size W W')
    (hs : W.cell? ⟨B, 0, none⟩ = some a ∧ W.cell? ⟨B, 1, none⟩ = some b ∧ W.cell? ⟨B, 2, none⟩ = some c ∧ W.cell? ⟨B, 3, none⟩ = some d ∧ B < W.heap.size ∧ Below w0.heap.size w0 W) :
    W'.cell? ⟨B, 0, none⟩ = some a ∧ W'.cell? ⟨B, 1, none⟩ = some b ∧ W'.cell? ⟨B, 2, none⟩ = some c ∧ W'.cell? ⟨B, 3, none⟩ = some d ∧ B < W'.heap.size ∧ Below w0.heap.size w0 W' := by
  obtain ⟨x0, x1, x2, x3, x4, x5⟩ := hs
  have g : ∀ i, W'.cell? ⟨B, i, none⟩ = W.cell? ⟨B, i, none⟩ := fun i => h.cell (p := ⟨B, i, none⟩) x4
  exact ⟨(g 0).trans x0, (g 1).trans x1, (g 2).trans x2, (g 3).trans x3, Nat.lt_of_lt_of_le x4 h.size, below_then x5 h⟩

theorem sixth {A B C D E F : Prop} (h : A ∧ B ∧ C ∧ D ∧ E ∧ F) : F := h.2.2.2.2.2

set_option maxHeartbeats 1000000 in
theorem text_any (k d n o : Int) (w : World) : Calls Try.prog 14 #[.agg #[.int .i64 k, .int .i64 d, .int .i64 n, .int .i64 o]] w fun e w' => e = .returned (.string (Mom.str (Mom.txt k d n o))) ∧ Below w.heap.size w w' := by
  have HV := Lib.hid (valid_any k d n o)
  unfold Mom.txt
  by_cases hv : Mom.Ok k d n o
  · rw [if_pos hv]
    rw [decide_eq_true hv] at HV
    obtain ⟨⟨b1, b2, b3, b4, b5, b6, b7, b8⟩, c1, c2, c3⟩ := hv
    have HD := Lib.hid (dateText_any d ⟨b3, b4⟩)
    have HC := Lib.hid (clockText_any n b5 b6)
    have HO := Lib.hid (offsetText_any o b7 b8)
    change Hid (∀ w, Calls Try.prog 33 #[.int .i64 d] w fun e w' => e = .returned (.string (Mom.str (Mom.dtx d))) ∧ Below w.heap.size w w') at HD
    have l1 := Mom.len_dtx d
    have l2 := Mom.len_ctx n
    have l3 := Mom.len_otx o
    have hk : k = 1 ∨ k = 2 ∨ k = 3 ∨ k = 4 := by omega
    have r3 : Hid (Mom.str (Mom.dtx d ++ [84] ++ Mom.ctx n) = Mom.str (Mom.dtx d) ++ ⟨#[84]⟩ ++ Mom.str (Mom.ctx n)) := Lib.hid (by rw [lit_str.2.2.2.1]; simp only [Mom.str_append])
    have r4 : Hid (Mom.str (Mom.dtx d ++ [84] ++ Mom.ctx n ++ Mom.otx o) = Mom.str (Mom.dtx d) ++ ⟨#[84]⟩ ++ Mom.str (Mom.ctx n) ++ Mom.str (Mom.otx o)) := Lib.hid (by rw [lit_str.2.2.2.1]; simp only [Mom.str_append])
    clear c1 c2 c3 b3 b4 b5 b6 b7 b8
    rcases hk with rfl | rfl | rfl | rfl
    · rw [if_pos rfl]
      go_enter Try.func14, Try.ntmps14
      go_wp2_with fail
      refine (HV.out _).mono ?_; rintro e w1 ⟨rfl, hb1⟩
      have hp1 := (Whole.new w 23 #[.int .i64 1, .int .i64 d, .int .i64 n, .int .i64 o]).below hb1 (by simp)
      have hbb : Below w.heap.size w w1 := ((Below.refl _ _).alloc (Nat.le_refl _) _).trans (hb1.mono (by simp))
      have hz1 := hp1.lt
      clear hb1
      obtain ⟨x0, x1, x2, x3⟩ := hp1.c4
      go_wp2_with fail
      refine (HD.out _).mono ?_; rintro e w2 ⟨rfl, hb2⟩
      go_wp2_with fail
      go_ret
      exact ⟨rfl, below_then hbb hb2⟩
    · rw [if_neg (by omega), if_pos rfl]
      go_enter Try.func14, Try.ntmps14
      go_wp2_with fail
      refine (HV.out _).mono ?_; rintro e w1 ⟨rfl, hb1⟩
      have hp1 := (Whole.new w 23 #[.int .i64 2, .int .i64 d, .int .i64 n, .int .i64 o]).below hb1 (by simp)
      have hbb : Below w.heap.size w w1 := ((Below.refl _ _).alloc (Nat.le_refl _) _).trans (hb1.mono (by simp))
      have hz1 := hp1.lt
      clear hb1
      obtain ⟨x0, x1, x2, x3⟩ := hp1.c4
      go_wp2_with fail
      refine (HC.out _).mono ?_; rintro e w2 ⟨rfl, hb2⟩
      go_wp2_with fail
      go_ret
      exact ⟨rfl, below_then hbb hb2⟩
    · rw [if_neg (by omega), if_neg (by omega), if_pos rfl, r3.out]
      clear r3 r4
      generalize Mom.str (Mom.dtx d) = X at *
      generalize Mom.str (Mom.ctx n) = Y at *
      generalize Mom.str (Mom.otx o) = Z at *
      have q1 : ¬ 9223372036854775807 < X.size + 1 := by omega
      have q2 : ¬ 9223372036854775807 < X.size + 1 + Y.size := by omega
      have q3 : ¬ 9223372036854775807 < X.size + 1 + Y.size + Z.size := by omega
      go_enter Try.func14, Try.ntmps14
      go_wp2_with fail
      refine (HV.out _).mono ?_; rintro e w1 ⟨rfl, hb1⟩
      have hp1 := (Whole.new w 23 #[.int .i64 3, .int .i64 d, .int .i64 n, .int .i64 o]).below hb1 (by simp)
      have hbb : Below w.heap.size w w1 := ((Below.refl _ _).alloc (Nat.le_refl _) _).trans (hb1.mono (by simp))
      have hz1 := hp1.lt
      clear hb1
      obtain ⟨x0, x1, x2, x3⟩ := hp1.c4
      go_wp2_with fail
      go_region_held3 (fun W => W.cell? ⟨w.heap.size, 0, none⟩ = some (.int .i64 3) ∧ W.cell? ⟨w.heap.size, 1, none⟩ = some (.int .i64 d) ∧ W.cell? ⟨w.heap.size, 2, none⟩ = some (.int .i64 n) ∧ W.cell? ⟨w.heap.size, 3, none⟩ = some (.int .i64 o) ∧ w.heap.size < W.heap.size ∧ Below w.heap.size w W) (first | exact ⟨x0, x1, x2, x3, hz1, hbb.drew⟩ | exact keep_time (by assumption) (by assumption)) (first | (go_at_call 33; refine (HD.out _).mono ?_; rintro e w2 ⟨rfl, hb2⟩) | (go_at_call 34; refine (HC.out _).mono ?_; rintro e w3 ⟨rfl, hb3⟩) | (go_at_call 35; refine (HO.out _).mono ?_; rintro e w4 ⟨rfl, hb4⟩))
      go_wp2
      go_ret
      exact ⟨rfl, sixth (by assumption)⟩
    · rw [if_neg (by omega), if_neg (by omega), if_neg (by omega), r4.out]
      clear r3 r4
      generalize Mom.str (Mom.dtx d) = X at *
      generalize Mom.str (Mom.ctx n) = Y at *
      generalize Mom.str (Mom.otx o) = Z at *
      have q1 : ¬ 9223372036854775807 < X.size + 1 := by omega
      have q2 : ¬ 9223372036854775807 < X.size + 1 + Y.size := by omega
      have q3 : ¬ 9223372036854775807 < X.size + 1 + Y.size + Z.size := by omega
      go_enter Try.func14, Try.ntmps14
      go_wp2_with fail
      refine (HV.out _).mono ?_; rintro e w1 ⟨rfl, hb1⟩
      have hp1 := (Whole.new w 23 #[.int .i64 4, .int .i64 d, .int .i64 n, .int .i64 o]).below hb1 (by simp)
      have hbb : Below w.heap.size w w1 := ((Below.refl _ _).alloc (Nat.le_refl _) _).trans (hb1.mono (by simp))
      have hz1 := hp1.lt
      clear hb1
      obtain ⟨x0, x1, x2, x3⟩ := hp1.c4
      go_wp2_with fail
      go_region_held3 (fun W => W.cell? ⟨w.heap.size, 0, none⟩ = some (.int .i64 4) ∧ W.cell? ⟨w.heap.size, 1, none⟩ = some (.int .i64 d) ∧ W.cell? ⟨w.heap.size, 2, none⟩ = some (.int .i64 n) ∧ W.cell? ⟨w.heap.size, 3, none⟩ = some (.int .i64 o) ∧ w.heap.size < W.heap.size ∧ Below w.heap.size w W) (first | exact ⟨x0, x1, x2, x3, hz1, hbb.drew⟩ | exact keep_time (by assumption) (by assumption)) (first | (go_at_call 33; refine (HD.out _).mono ?_; rintro e w2 ⟨rfl, hb2⟩) | (go_at_call 34; refine (HC.out _).mono ?_; rintro e w3 ⟨rfl, hb3⟩) | (go_at_call 35; refine (HO.out _).mono ?_; rintro e w4 ⟨rfl, hb4⟩))
      go_wp2
      go_ret
      exact ⟨rfl, sixth (by assumption)⟩
  · rw [if_neg hv]
    rw [decide_eq_false hv] at HV
    clear hv
    go_enter Try.func14, Try.ntmps14
    go_wp2_with fail
    refine (HV.out _).mono ?_; rintro e w1 ⟨rfl, hb1⟩
    go_wp2_with fail
    go_ret
    exact ⟨rfl, ((Below.refl _ _).alloc (Nat.le_refl _) _).trans (hb1.mono (by simp))⟩

set_option maxHeartbeats 2000000 in
theorem rtext_any (k d n o : Int) (w : World) : Calls Try.prog 15 #[.agg #[.int .i64 k, .int .i64 d, .int .i64 n, .int .i64 o]] w fun e w' => e = .returned (.string (Mom.str (Mom.txt k d n o))) ∧ Below w.heap.size w w' := by
  have HV := Lib.hid (rvalid_any k d n o)
  unfold Mom.txt
  by_cases hv : Mom.Ok k d n o
  case neg =>
    rw [if_neg hv]
    rw [decide_eq_false hv] at HV
    clear hv
    go_enter Try.func15, Try.ntmps15
    go_wp2_with fail
    refine (HV.out _).mono ?_; rintro e w1 ⟨rfl, hb1⟩
    go_wp2_with fail
    go_ret
    exact ⟨rfl, ((Below.refl _ _).alloc (Nat.le_refl _) _).trans (hb1.mono (by simp))⟩
  rw [if_pos hv]
  rw [decide_eq_true hv] at HV
  obtain ⟨⟨b1, b2, b3, b4, b5, b6, b7, b8⟩, c1, c2, c3⟩ := hv
  have HD := Lib.hid (rdate_at d · ⟨b3, b4⟩)
  obtain ⟨e1, e2, e3, e4, e5, e6⟩ := Cal.dt_bd (⟨b3, b4⟩ : Cal.kn d)
  have P1 := Lib.hid (pad_any (Cal.Yr d) 4 (by omega) (by omega) (by omega))
  have P2 := Lib.hid (pad_any (Cal.Mo d) 2 (by omega) (by omega) (by omega))
  have P3 := Lib.hid (pad_any (Cal.Da d) 2 (by omega) (by omega) (by omega))
  have HC := Lib.hid (rclock_any n b5 b6)
  have HO := Lib.hid (roffset_any o b7 b8)
  have l2 := Mom.len_ctx n
  have l3 := Mom.len_otx o
  have s1 := dg_size 4 (Cal.Yr d)
  have s2 := dg_size 2 (Cal.Mo d)
  have s3 := dg_size 2 (Cal.Da d)
  have HT : Hid (Mom.str (Mom.dtx d) = Mom.str (Mom.dg 4 (Cal.Yr d)) ++ ⟨#[45]⟩ ++ Mom.str (Mom.dg 2 (Cal.Mo d)) ++ ⟨#[45]⟩ ++ Mom.str (Mom.dg 2 (Cal.Da d))) := Lib.hid (by rw [lit_str.1]; simp only [Mom.str_append]; rfl)
  have r3 : Hid (Mom.str (Mom.dtx d ++ [84] ++ Mom.ctx n) = Mom.str (Mom.dtx d) ++ ⟨#[84]⟩ ++ Mom.str (Mom.ctx n)) := Lib.hid (by rw [lit_str.2.2.2.1]; simp only [Mom.str_append])
  have r4 : Hid (Mom.str (Mom.dtx d ++ [84] ++ Mom.ctx n ++ Mom.otx o) = Mom.str (Mom.dtx d) ++ ⟨#[84]⟩ ++ Mom.str (Mom.ctx n) ++ Mom.str (Mom.otx o)) := Lib.hid (by rw [lit_str.2.2.2.1]; simp only [Mom.str_append])
  have hk : k = 1 ∨ k = 2 ∨ k = 3 ∨ k = 4 := by omega
  rw [HT.out] at r3 r4
  clear c1 c2 c3 b3 b4 b5 b6 b7 b8
  rcases hk with rfl | rfl | rfl | rfl
  · rw [if_pos rfl, HT.out]
    clear r3 r4 HT
    generalize Mom.str (Mom.dg 4 (Cal.Yr d)) = X1 at *
    generalize Mom.str (Mom.dg 2 (Cal.Mo d)) = X2 at *
    generalize Mom.str (Mom.dg 2 (Cal.Da d)) = X3 at *
    generalize Mom.str (Mom.ctx n) = Y at *
    generalize Mom.str (Mom.otx o) = Z at *
    have q1 : ¬ 9223372036854775807 < X1.size + 1 + X2.size + 1 + X3.size + 1 + Y.size := by omega
    have q2 : ¬ 9223372036854775807 < X1.size + 1 + X2.size + 1 + X3.size + 1 + Y.size + Z.size := by omega
    have q3 : ¬ 9223372036854775807 < 11 + Y.size := by omega
    have q4 : ¬ 9223372036854775807 < 11 + Y.size + Z.size := by omega
    go_enter Try.func15, Try.ntmps15
    go_wp2_with fail
    refine (HV.out _).mono ?_; rintro e w1 ⟨rfl, hb1⟩
    have hp1 := (Whole.new w 23 #[.int .i64 1, .int .i64 d, .int .i64 n, .int .i64 o]).below hb1 (by simp)
    have hbb : Below w.heap.size w w1 := ((Below.refl _ _).alloc (Nat.le_refl _) _).trans (hb1.mono (by simp))
    have hz1 := hp1.lt
    clear hb1
    obtain ⟨x0, x1, x2, x3⟩ := hp1.c4
    go_wp2_with fail
    refine (HD.out _).mono ?_; rintro e w2 ⟨rfl, rfl⟩
    go_wp2_with fail
    refine (P1.out _).mono ?_; rintro e w2 ⟨rfl, hb2⟩
    have hbb2 := below_then hbb hb2
    have hp2 := hp1.below hb2 hz1
    clear hb2
    go_wp2_with fail
    refine (P2.out _).mono ?_; rintro e w3 ⟨rfl, hb3⟩
    have hbb3 := below_then hbb2 hb3
    have hp3 := hp2.below hb3 hp2.lt
    clear hb3
    go_wp2_with fail
    refine (P3.out _).mono ?_; rintro e w4 ⟨rfl, hb4⟩
    have hbb4 := below_then hbb3 hb4
    have hp4 := hp3.below hb4 hp3.lt
    have hz4 := hp4.lt
    clear hb4 hbb hbb2 hbb3 hp1 hp2 hp3 x0 x1 x2 x3 hz1
    obtain ⟨x0, x1, x2, x3⟩ := hp4.c4
    go_wp2_with fail
    go_ret
    exact ⟨rfl, hbb4⟩
  · rw [if_neg (by omega), if_pos rfl]
    clear r3 r4 HT
    generalize Mom.str (Mom.dg 4 (Cal.Yr d)) = X1 at *
    generalize Mom.str (Mom.dg 2 (Cal.Mo d)) = X2 at *
    generalize Mom.str (Mom.dg 2 (Cal.Da d)) = X3 at *
    generalize Mom.str (Mom.ctx n) = Y at *
    generalize Mom.str (Mom.otx o) = Z at *
    have q1 : ¬ 9223372036854775807 < X1.size + 1 + X2.size + 1 + X3.size + 1 + Y.size := by omega
    have q2 : ¬ 9223372036854775807 < X1.size + 1 + X2.size + 1 + X3.size + 1 + Y.size + Z.size := by omega
    have q3 : ¬ 9223372036854775807 < 11 + Y.size := by omega
    have q4 : ¬ 9223372036854775807 < 11 + Y.size + Z.size := by omega
    go_enter Try.func15, Try.ntmps15
    go_wp2_with fail
    refine (HV.out _).mono ?_; rintro e w1 ⟨rfl, hb1⟩
    have hp1 := (Whole.new w 23 #[.int .i64 2, .int .i64 d, .int .i64 n, .int .i64 o]).below hb1 (by simp)
    have hbb : Below w.heap.size w w1 := ((Below.refl _ _).alloc (Nat.le_refl _) _).trans (hb1.mono (by simp))
    have hz1 := hp1.lt
    clear hb1
    obtain ⟨x0, x1, x2, x3⟩ := hp1.c4
    go_wp2_with fail
    refine (HD.out _).mono ?_; rintro e w2 ⟨rfl, rfl⟩
    go_wp2_with fail
    refine (P1.out _).mono ?_; rintro e w2 ⟨rfl, hb2⟩
    have hbb2 := below_then hbb hb2
    have hp2 := hp1.below hb2 hz1
    clear hb2
    go_wp2_with fail
    refine (P2.out _).mono ?_; rintro e w3 ⟨rfl, hb3⟩
    have hbb3 := below_then hbb2 hb3
    have hp3 := hp2.below hb3 hp2.lt
    clear hb3
    go_wp2_with fail
    refine (P3.out _).mono ?_; rintro e w4 ⟨rfl, hb4⟩
    have hbb4 := below_then hbb3 hb4
    have hp4 := hp3.below hb4 hp3.lt
    have hz4 := hp4.lt
    clear hb4 hbb hbb2 hbb3 hp1 hp2 hp3 x0 x1 x2 x3 hz1
    obtain ⟨x0, x1, x2, x3⟩ := hp4.c4
    go_wp2_with fail
    refine (HC.out _).mono ?_; rintro e w5 ⟨rfl, hb5⟩
    go_wp2_with fail
    go_ret
    exact ⟨rfl, below_then hbb4 hb5⟩
  · rw [if_neg (by omega), if_neg (by omega), if_pos rfl, r3.out]
    clear r3 r4 HT
    generalize Mom.str (Mom.dg 4 (Cal.Yr d)) = X1 at *
    generalize Mom.str (Mom.dg 2 (Cal.Mo d)) = X2 at *
    generalize Mom.str (Mom.dg 2 (Cal.Da d)) = X3 at *
    generalize Mom.str (Mom.ctx n) = Y at *
    generalize Mom.str (Mom.otx o) = Z at *
    have q1 : ¬ 9223372036854775807 < X1.size + 1 + X2.size + 1 + X3.size + 1 + Y.size := by omega
    have q2 : ¬ 9223372036854775807 < X1.size + 1 + X2.size + 1 + X3.size + 1 + Y.size + Z.size := by omega
    have q3 : ¬ 9223372036854775807 < 11 + Y.size := by omega
    have q4 : ¬ 9223372036854775807 < 11 + Y.size + Z.size := by omega
    go_enter Try.func15, Try.ntmps15
    go_wp2_with fail
    refine (HV.out _).mono ?_; rintro e w1 ⟨rfl, hb1⟩
    have hp1 := (Whole.new w 23 #[.int .i64 3, .int .i64 d, .int .i64 n, .int .i64 o]).below hb1 (by simp)
    have hbb : Below w.heap.size w w1 := ((Below.refl _ _).alloc (Nat.le_refl _) _).trans (hb1.mono (by simp))
    have hz1 := hp1.lt
    clear hb1
    obtain ⟨x0, x1, x2, x3⟩ := hp1.c4
    go_wp2_with fail
    refine (HD.out _).mono ?_; rintro e w2 ⟨rfl, rfl⟩
    go_wp2_with fail
    refine (P1.out _).mono ?_; rintro e w2 ⟨rfl, hb2⟩
    have hbb2 := below_then hbb hb2
    have hp2 := hp1.below hb2 hz1
    clear hb2
    go_wp2_with fail
    refine (P2.out _).mono ?_; rintro e w3 ⟨rfl, hb3⟩
    have hbb3 := below_then hbb2 hb3
    have hp3 := hp2.below hb3 hp2.lt
    clear hb3
    go_wp2_with fail
    refine (P3.out _).mono ?_; rintro e w4 ⟨rfl, hb4⟩
    have hbb4 := below_then hbb3 hb4
    have hp4 := hp3.below hb4 hp3.lt
    have hz4 := hp4.lt
    clear hb4 hbb hbb2 hbb3 hp1 hp2 hp3 x0 x1 x2 x3 hz1
    obtain ⟨x0, x1, x2, x3⟩ := hp4.c4
    go_wp2_with fail
    refine (HC.out _).mono ?_; rintro e w5 ⟨rfl, hb5⟩
    go_wp2_with fail
    go_ret
    exact ⟨rfl, below_then hbb4 hb5⟩
  · rw [if_neg (by omega), if_neg (by omega), if_neg (by omega), r4.out]
    clear r3 r4 HT
    generalize Mom.str (Mom.dg 4 (Cal.Yr d)) = X1 at *
    generalize Mom.str (Mom.dg 2 (Cal.Mo d)) = X2 at *
    generalize Mom.str (Mom.dg 2 (Cal.Da d)) = X3 at *
    generalize Mom.str (Mom.ctx n) = Y at *
    generalize Mom.str (Mom.otx o) = Z at *
    have q1 : ¬ 9223372036854775807 < X1.size + 1 + X2.size + 1 + X3.size + 1 + Y.size := by omega
    have q2 : ¬ 9223372036854775807 < X1.size + 1 + X2.size + 1 + X3.size + 1 + Y.size + Z.size := by omega
    have q3 : ¬ 9223372036854775807 < 11 + Y.size := by omega
    have q4 : ¬ 9223372036854775807 < 11 + Y.size + Z.size := by omega
    go_enter Try.func15, Try.ntmps15
    go_wp2_with fail
    refine (HV.out _).mono ?_; rintro e w1 ⟨rfl, hb1⟩
    have hp1 := (Whole.new w 23 #[.int .i64 4, .int .i64 d, .int .i64 n, .int .i64 o]).below hb1 (by simp)
    have hbb : Below w.heap.size w w1 := ((Below.refl _ _).alloc (Nat.le_refl _) _).trans (hb1.mono (by simp))
    have hz1 := hp1.lt
    clear hb1
    obtain ⟨x0, x1, x2, x3⟩ := hp1.c4
    go_wp2_with fail
    refine (HD.out _).mono ?_; rintro e w2 ⟨rfl, rfl⟩
    go_wp2_with fail
    refine (P1.out _).mono ?_; rintro e w2 ⟨rfl, hb2⟩
    have hbb2 := below_then hbb hb2
    have hp2 := hp1.below hb2 hz1
    clear hb2
    go_wp2_with fail
    refine (P2.out _).mono ?_; rintro e w3 ⟨rfl, hb3⟩
    have hbb3 := below_then hbb2 hb3
    have hp3 := hp2.below hb3 hp2.lt
    clear hb3
    go_wp2_with fail
    refine (P3.out _).mono ?_; rintro e w4 ⟨rfl, hb4⟩
    have hbb4 := below_then hbb3 hb4
    have hp4 := hp3.below hb4 hp3.lt
    have hz4 := hp4.lt
    clear hb4 hbb hbb2 hbb3 hp1 hp2 hp3 x0 x1 x2 x3 hz1
    obtain ⟨x0, x1, x2, x3⟩ := hp4.c4
    go_wp2_with fail
    go_region_held3 (fun W => W.cell? ⟨w.heap.size, 0, none⟩ = some (.int .i64 4) ∧ W.cell? ⟨w.heap.size, 1, none⟩ = some (.int .i64 d) ∧ W.cell? ⟨w.heap.size, 2, none⟩ = some (.int .i64 n) ∧ W.cell? ⟨w.heap.size, 3, none⟩ = some (.int .i64 o) ∧ w.heap.size < W.heap.size ∧ Below w.heap.size w W) (first | exact ⟨x0, x1, x2, x3, hz4, hbb4.drew⟩ | exact keep_time (by assumption) (by assumption)) (first | (go_at_call 38; refine (HC.out _).mono ?_; rintro e w5 ⟨rfl, hb5⟩) | (go_at_call 39; refine (HO.out _).mono ?_; rintro e w6 ⟨rfl, hb6⟩))
    go_wp2
    go_ret
    exact ⟨rfl, sixth (by assumption)⟩
end Go.Proofs.Ythbjkibclbgjoaa
