/- Times: plain: Parse of a text is the time. -/
import Derived.Test.YthbjkibclbgjoaaMomBackM
namespace Go.Proofs.Ythbjkibclbgjoaa
open Go.RowKit

attribute [local irreducible] Mom.num Mom.one Mom.frac Mom.date Mom.hms3 Mom.clock Mom.offs
namespace Mom
theorem str_nil_size : (str []).size = 0 := rfl
theorem str_some_size {l : List Int} (h : l ≠ []) : (str l).size ≠ 0 := by
  rw [str_size]
  exact fun e => h (List.length_eq_zero_iff.1 e)
theorem ctx_by (n : Int) : By (ctx n) := by
  have hh : By (hms n) := by
    unfold hms
    exact ((((dg_by _ _).app (By.cons (by omega) By.nil)).app (dg_by _ _)).app (By.cons (by omega) By.nil)).app (dg_by _ _)
  unfold ctx
  split
  · exact hh
  · refine (hh.app (By.cons (by omega) By.nil)).app ?_
    obtain ⟨j, q, _, et, _⟩ := trim_ex 9 (n % 1000000000) (by omega) (by omega)
    rw [et]; exact dg_by _ _
theorem otx_by {o : Int} : By (otx o) := by
  unfold otx
  split
  · exact By.cons (by omega) By.nil
  split
  · exact (((By.cons (by omega) By.nil).app (dg_by _ _)).app (By.cons (by omega) By.nil)).app (dg_by _ _)
  · exact (((By.cons (by omega) By.nil).app (dg_by _ _)).app (By.cons (by omega) By.nil)).app (dg_by _ _)
theorem ctx_colon (n : Int) : ∃ R, ctx n = dg 2 (n / 1000000000 / 3600) ++ 58 :: R := by
  unfold ctx hms secs
  split <;> exact ⟨_, by simp only [List.append_assoc, List.cons_append, List.nil_append]; rfl⟩
theorem otx_after {o : Int} : After (otx o) := by
  refine ⟨otx_by, ?_, ?_⟩
  all_goals
    unfold otx
    split
    · decide
    split
    · simp
    · simp
theorem otx_some (o : Int) : otx o ≠ [] := by
  unfold otx
  split
  · simp
  split <;> simp
theorem dtx_eq (n : Int) (rest : List Int) : dtx n ++ rest = dg 4 (Cal.Yr n) ++ 45 :: (dg 2 (Cal.Mo n) ++ 45 :: (dg 2 (Cal.Da n) ++ rest)) := by
  unfold dtx ymd; simp
theorem date_dtx {n : Int} {rest : List Int} {b : Bool} {f : Fl} (hr : By rest) (hk : Cal.kn n) : date ⟨str (dtx n ++ rest), b⟩ f = (⟨str rest, b⟩, { f with y := Cal.Yr n, mo := Cal.Mo n, d := Cal.Da n }) := by
  have hb := Cal.dt_bd hk
  rw [dtx_eq]
  exact date_txt hr (by omega) (by omega) (by omega)
theorem dtx_two {n : Int} {rest : List Int} (hr : By rest) : bt (str (dtx n ++ rest)) 2 ≠ 58 := by
  rw [dtx_eq]
  have hb : By (45 :: (dg 2 (Cal.Mo n) ++ 45 :: (dg 2 (Cal.Da n) ++ rest))) := By.cons (by omega) ((dg_by _ _).app (By.cons (by omega) ((dg_by _ _).app hr)))
  have := alld_dg (w := 4) (n := Cal.Yr n) hb 2 (by omega)
  unfold isd at this
  omega
theorem ctx_two {n : Int} {rest : List Int} (hr : By rest) : bt (str (ctx n ++ rest)) 2 = 58 := by
  rw [bt_str ((ctx_by n).app hr)]
  obtain ⟨R, e⟩ := ctx_colon n
  rw [e, List.append_assoc, List.getD_eq_getElem?_getD, List.getElem?_append_right (by rw [dg_length]; omega), dg_length]
  rfl
theorem has84 : has tees 84 := by decide
theorem after_nil : After [] := ⟨By.nil, by decide, by decide⟩

theorem made_ok {k : Int} {f : Fl} {x : ByteArray} (hx : x.size = 0) (hv : k = 2 ∨ Cal.Vld f.y f.mo f.d) (hl : ¬ late f) : made (k, ⟨x, false⟩, f) =
    (⟨k, if k = 2 then 0 else Cal.num f.y f.mo f.d, ((f.h * 60 + f.mi) * 60 + f.s) * 1000000000 + f.n, if f.sg = 45 then -(f.oh * 60 + f.om) else f.oh * 60 + f.om⟩, 0) := by
  unfold made
  dsimp only
  rw [if_neg (by simp [hx]), if_neg (fun h => hv.elim h.1 h.2), if_neg hl]

noncomputable def fd (d : Int) : Fl := ⟨Cal.Yr d, Cal.Mo d, Cal.Da d, 0, 0, 0, 0, 0, 0, 0⟩
def fc (f : Fl) (n : Int) : Fl := ⟨f.y, f.mo, f.d, n / 1000000000 / 3600, n / 1000000000 / 60 % 60, n / 1000000000 % 60, n % 1000000000, f.sg, f.oh, f.om⟩
theorem clock_fc {n : Int} {rest : List Int} {b : Bool} {f : Fl} (hr : After rest) (h0 : 0 ≤ n) (h1 : n ≤ 86399999999999) (hf : f.n = 0) : clock ⟨str (ctx n ++ rest), b⟩ f = (⟨str rest, b⟩, fc f n) := clock_txt hr h0 h1 hf
theorem date_fd {n : Int} {rest : List Int} {b : Bool} (hr : By rest) (hk : Cal.kn n) : date ⟨str (dtx n ++ rest), b⟩ fl0 = (⟨str rest, b⟩, fd n) := date_dtx hr hk
theorem fc_sum (n : Int) : ((n / 1000000000 / 3600 * 60 + n / 1000000000 / 60 % 60) * 60 + n / 1000000000 % 60) * 1000000000 + n % 1000000000 = n := by omega
theorem late_fd (d : Int) : ¬ late (fd d) := by unfold late fd; dsimp only; omega
theorem late_fc {f : Fl} {n : Int} (h0 : 0 ≤ n) (h1 : n ≤ 86399999999999) (h : f.oh = 0 ∧ f.om = 0) : ¬ late (fc f n) := by unfold late fc; dsimp only; omega
attribute [local irreducible] fc fd
theorem form_k1 {d : Int} (hk : Cal.kn d) : form ⟨str (dtx d), false⟩ fl0 = (1, ⟨str [], false⟩, fd d) := by
  rw [← List.append_nil (dtx d)]
  unfold form
  rw [if_neg (dtx_two By.nil), date_fd By.nil hk]
  dsimp only
  rw [if_pos str_nil_size]
theorem form_k2 {n : Int} (h0 : 0 ≤ n) (h1 : n ≤ 86399999999999) : form ⟨str (ctx n), false⟩ fl0 = (2, ⟨str [], false⟩, fc fl0 n) := by
  rw [← List.append_nil (ctx n)]
  unfold form
  rw [if_pos (ctx_two By.nil), clock_fc after_nil h0 h1 rfl]
theorem fd_n (d : Int) : (fd d).n = 0 := by unfold fd; rfl
theorem fc_off (f : Fl) (n : Int) : (fc f n).sg = f.sg ∧ (fc f n).oh = f.oh ∧ (fc f n).om = f.om := by unfold fc; exact ⟨rfl, rfl, rfl⟩
theorem fd_off (d : Int) : (fd d).sg = 0 ∧ (fd d).oh = 0 ∧ (fd d).om = 0 := by unfold fd; exact ⟨rfl, rfl, rfl⟩
theorem form_local {s : Rd} {f : Fl} {D C : Rd × Fl} {O : Rd} (h0 : ¬ bt s.x 2 = 58) (hd : date s f = D) (hz : ¬ D.1.x.size = 0) (ho : (one D.1 tees).2 = O) (hc : clock O D.2 = C) (hz2 : C.1.x.size = 0) : form s f = (3, C) := by
  subst hd ho hc
  unfold form
  rw [if_neg h0, if_neg hz, if_pos hz2]
theorem form_full {s : Rd} {f : Fl} {D C : Rd × Fl} {O : Rd} (h0 : ¬ bt s.x 2 = 58) (hd : date s f = D) (hz : ¬ D.1.x.size = 0) (ho : (one D.1 tees).2 = O) (hc : clock O D.2 = C) (hz2 : ¬ C.1.x.size = 0) : form s f = (4, offs C.1 C.2) := by
  subst hd ho hc
  unfold form
  rw [if_neg h0, if_neg hz, if_neg hz2]
theorem form_k3 {d n : Int} (hk : Cal.kn d) (h0 : 0 ≤ n) (h1 : n ≤ 86399999999999) : form ⟨str (dtx d ++ [84] ++ ctx n), false⟩ fl0 = (3, ⟨str [], false⟩, fc (fd d) n) := by
  have hb : By (84 :: (ctx n ++ [])) := By.cons (by omega) ((ctx_by n).app By.nil)
  rw [show dtx d ++ [84] ++ ctx n = dtx d ++ 84 :: (ctx n ++ []) by simp]
  exact form_local (D := (⟨str (84 :: (ctx n ++ [])), false⟩, fd d)) (C := (⟨str [], false⟩, fc (fd d) n)) (O := ⟨str (ctx n ++ []), false⟩) (dtx_two hb) (date_fd hb hk) (str_some_size (List.cons_ne_nil _ _)) (congrArg Prod.snd (one_in hb has84)) (clock_fc after_nil h0 h1 (fd_n d)) str_nil_size
theorem form_k4 {d n o : Int} {g : Fl} (hk : Cal.kn d) (h0 : 0 ≤ n) (h1 : n ≤ 86399999999999) (he : offs ⟨str (otx o), false⟩ (fc (fd d) n) = (⟨str [], false⟩, g)) : form ⟨str (dtx d ++ [84] ++ ctx n ++ otx o), false⟩ fl0 = (4, ⟨str [], false⟩, g) := by
  have hb : By (84 :: (ctx n ++ otx o)) := By.cons (by omega) ((ctx_by n).app otx_by)
  rw [show dtx d ++ [84] ++ ctx n ++ otx o = dtx d ++ 84 :: (ctx n ++ otx o) by simp, ← he]
  exact form_full (D := (⟨str (84 :: (ctx n ++ otx o)), false⟩, fd d)) (C := (⟨str (otx o), false⟩, fc (fd d) n)) (O := ⟨str (ctx n ++ otx o), false⟩) (dtx_two hb) (date_fd hb hk) (str_some_size (List.cons_ne_nil _ _)) (congrArg Prod.snd (one_in hb has84)) (clock_fc otx_after h0 h1 (fd_n d)) (str_some_size (otx_some o))
theorem parse_txt {k d n o : Int} (h : Ok k d n o) : parse (str (txt k d n o)) = (⟨k, d, n, o⟩, 0) := by
  unfold txt
  rw [if_pos h]
  obtain ⟨⟨b1, b2, b3, b4, b5, b6, b7, b8⟩, c1, c2, c3⟩ := h
  have hk : Cal.kn d := ⟨b3, b4⟩
  have hv := Cal.dt_vld hk
  have hn := Cal.dt_num hk
  unfold parse
  have hc : k = 1 ∨ k = 2 ∨ k = 3 ∨ k = 4 := by omega
  rcases hc with rfl | rfl | rfl | rfl
  · rw [if_pos rfl, form_k1 hk, made_ok rfl (Or.inr (by unfold fd; exact hv)) (late_fd d), c2 rfl, c3 (by omega)]
    unfold fd
    dsimp only
    rw [hn, if_neg (by decide), if_neg (by decide)]
    rfl
  · rw [if_neg (by omega), if_pos rfl, form_k2 b5 b6, made_ok rfl (Or.inl rfl) (late_fc b5 b6 ⟨rfl, rfl⟩), c1 rfl, c3 (by omega)]
    unfold fc
    dsimp only
    rw [fc_sum, if_pos rfl, if_neg (by decide)]
    rfl
  · rw [if_neg (by omega), if_neg (by omega), if_pos rfl, form_k3 hk b5 b6, made_ok rfl (Or.inr (by unfold fc fd; exact hv)) (late_fc b5 b6 (fd_off d).2), c3 (by omega)]
    unfold fc fd
    dsimp only
    rw [hn, fc_sum, if_neg (by decide), if_neg (by decide)]
    rfl
  · rw [if_neg (by omega), if_neg (by omega), if_neg (by omega)]
    obtain ⟨g, e4, e5, g1, g2, g3, g4, g5⟩ := offs_txt (b := false) (f := fc (fd d) n) b7 b8 ((fc_off _ _).2.1.trans (fd_off d).2.1) ((fc_off _ _).2.2.trans (fd_off d).2.2)
    unfold fc fd at e5
    have l1 : g.y = Cal.Yr d := by rw [e5]
    have l2 : g.mo = Cal.Mo d := by rw [e5]
    have l3 : g.d = Cal.Da d := by rw [e5]
    have l4 : g.h = n / 1000000000 / 3600 := by rw [e5]
    have l5 : g.mi = n / 1000000000 / 60 % 60 := by rw [e5]
    have l6 : g.s = n / 1000000000 % 60 := by rw [e5]
    have l7 : g.n = n % 1000000000 := by rw [e5]
    rw [form_k4 hk b5 b6 e4, made_ok rfl (Or.inr (by rw [l1, l2, l3]; exact hv)) (by unfold late; rw [l4, l5, l6]; omega), g5, l1, l2, l3, l4, l5, l6, l7, hn, fc_sum, if_neg (by decide)]
/-- Two valid times with one text are one time. -/
theorem txt_inj {k d n o q p r s : Int} (h : Ok k d n o) (h' : Ok q p r s) (e : str (txt k d n o) = str (txt q p r s)) : (k, d, n, o) = (q, p, r, s) := by
  have h1 := parse_txt h
  rw [e, parse_txt h'] at h1
  simp only [Prod.mk.injEq, Tm.mk.injEq] at h1
  obtain ⟨⟨rfl, rfl, rfl, rfl⟩, _⟩ := h1
  rfl

/-! ### what is parsed is valid -/
theorem form_one {x : ByteArray} (h : (form ⟨x, false⟩ fl0).1 = 1) : (form ⟨x, false⟩ fl0).2.2.h = 0 ∧ (form ⟨x, false⟩ fl0).2.2.mi = 0 ∧ (form ⟨x, false⟩ fl0).2.2.s = 0 ∧ (form ⟨x, false⟩ fl0).2.2.n = 0 := by
  unfold form at h ⊢
  split at h
  · cases h
  split at h
  · rename_i h1 h2
    rw [if_neg h1, if_pos h2]
    unfold date
    exact ⟨rfl, rfl, rfl, rfl⟩
  split at h
  · cases h
  · cases h
theorem date_off (s : Rd) (f : Fl) : (date s f).2.sg = f.sg ∧ (date s f).2.oh = f.oh ∧ (date s f).2.om = f.om := by unfold date; exact ⟨rfl, rfl, rfl⟩
theorem clock_off (s : Rd) (f : Fl) : (clock s f).2.sg = f.sg ∧ (clock s f).2.oh = f.oh ∧ (clock s f).2.om = f.om := by
  unfold clock hms3
  split <;> exact ⟨rfl, rfl, rfl⟩
set_option maxHeartbeats 1000000 in
theorem form_off {x : ByteArray} (h : (form ⟨x, false⟩ fl0).1 ≠ 4) : (form ⟨x, false⟩ fl0).2.2.sg = 0 ∧ (form ⟨x, false⟩ fl0).2.2.oh = 0 ∧ (form ⟨x, false⟩ fl0).2.2.om = 0 := by
  unfold form at h ⊢
  split
  · exact clock_off _ _
  split
  · exact date_off _ _
  split
  · dsimp only
    obtain ⟨e1, e2, e3⟩ := clock_off (one (date ⟨x, false⟩ fl0).1 tees).2 (date ⟨x, false⟩ fl0).2
    obtain ⟨e4, e5, e6⟩ := date_off ⟨x, false⟩ fl0
    rw [e1, e2, e3, e4, e5, e6]
    exact ⟨rfl, rfl, rfl⟩
  · rename_i h1 h2 h3
    rw [if_neg h1, if_neg h2, if_neg h3] at h
    exact absurd rfl h
theorem parse_valid {x : ByteArray} (h : (parse x).2 = 0) : OkT (parse x).1 := by
  have hf := form_fb (s := ⟨x, false⟩) (f := fl0) (by unfold Fb fl0; exact ⟨by decide, by decide, by decide, ⟨by decide, by decide⟩, by decide, by decide⟩)
  have hk := form_kind ⟨x, false⟩ fl0
  have h1 := form_one (x := x)
  have h4 := form_off (x := x)
  unfold parse at h ⊢
  generalize form ⟨x, false⟩ fl0 = P at *
  obtain ⟨k, s, f⟩ := P
  unfold made at h ⊢
  dsimp only at *
  by_cases a1 : s.b = true ∨ s.x.size ≠ 0
  · rw [if_pos a1] at h; cases h
  rw [if_neg a1] at h ⊢
  by_cases a2 : k ≠ 2 ∧ ¬ Cal.Vld f.y f.mo f.d
  · rw [if_pos a2] at h; cases h
  rw [if_neg a2] at h ⊢
  by_cases a3 : late f
  · rw [if_pos a3] at h; cases h
  rw [if_neg a3]
  unfold late at a3
  unfold Fb at hf
  have hd : 0 ≤ (if k = 2 then 0 else Cal.num f.y f.mo f.d) ∧ (if k = 2 then 0 else Cal.num f.y f.mo f.d) ≤ 3652058 := by
    split
    · omega
    · exact Cal.num_bd (Decidable.byContradiction fun g => a2 ⟨by assumption, g⟩)
  refine ⟨⟨by dsimp only; omega, by dsimp only; omega, hd.1, hd.2, by dsimp only; omega, by dsimp only; omega, ?_, ?_⟩, ?_, ?_, ?_⟩
  · dsimp only; split <;> omega
  · dsimp only; split <;> omega
  · dsimp only; intro e; rw [if_pos e]
  · dsimp only; intro e; have := h1 e; omega
  · dsimp only; intro e; obtain ⟨g1, g2, g3⟩ := h4 e; rw [g1, g2, g3]; rfl
theorem parse_err (x : ByteArray) : ((parse x).2 = 0) ∨ ((parse x).1 = tz ∧ ((parse x).2 = 3 ∨ (parse x).2 = 2)) := by
  unfold parse made
  split
  · exact Or.inr ⟨rfl, Or.inl rfl⟩
  split
  · exact Or.inr ⟨rfl, Or.inr rfl⟩
  split
  · exact Or.inr ⟨rfl, Or.inr rfl⟩
  · exact Or.inl rfl
end Mom
end Go.Proofs.Ythbjkibclbgjoaa
