/- Times: the reference's Parse of a date and a clock (printed by gen_refj.py). -/
import Derived.Test.YthbjkibclbgjoaaMomRefI
import Derived.Test.YthbjkibclbgjoaaMomRefR
namespace Go.Proofs.Ythbjkibclbgjoaa
open Go.RowKit

theorem Mom.rClk_size (x : ByteArray) : (Mom.rClk x).2.1.size ≤ x.size := by
  unfold Mom.rClk Mom.rest8
  split
  · exact Nat.zero_le _
  split
  · dsimp only; rw [ByteArray.size_extract]; omega
  split
  · exact Nat.zero_le _
  · dsimp only; rw [ByteArray.size_extract, ByteArray.size_extract]; omega
/-- The result and a time of the call's own. -/
structure RT (w W : World) (B : Nat) (k d n o : Int) : Prop where
  res : Whole W w.heap.size 23 #[.int .i64 0, .int .i64 0, .int .i64 0, .int .i64 0]
  box : Whole W B 23 #[.int .i64 k, .int .i64 d, .int .i64 n, .int .i64 o]
  below : Below w.heap.size w W
  lt : w.heap.size < B
theorem RT.new {w W : World} (h : RK w W) (k d n o : Int) : RT w (W.alloc (.cells #[.int .i64 k, .int .i64 d, .int .i64 n, .int .i64 o] 23)) W.heap.size k d n o := ⟨h.res.alloc _, Whole.new _ _ _, h.below.alloc h.below.size _, h.res.lt⟩
theorem RT.call {w W W' : World} {B : Nat} {k d n o : Int} (h : RT w W B k d n o) (hb : Below W.heap.size W W') : RT w W' B k d n o := ⟨h.res.below hb h.res.lt, h.box.below hb h.box.lt, below_then h.below hb, h.lt⟩
theorem RT.up {w W : World} {B : Nat} {k d n o : Int} (h : RT w W B k d n o) (k' o' : Int) : RT w ((W.setCell ⟨B, 0, none⟩ (.int .i64 k')).setCell ⟨B, 3, none⟩ (.int .i64 o')) B k' d n o' :=
  ⟨(h.res.far (by have := h.lt; simp; omega) _).far (by have := h.lt; simp; omega) _, (h.box.set 0 _).set 3 _, (h.below.setCell (p := ⟨B, 0, none⟩) (Nat.le_of_lt h.lt) _).setCell (p := ⟨B, 3, none⟩) (Nat.le_of_lt h.lt) _, h.lt⟩
theorem RT.rk {w W : World} {B : Nat} {k d n o : Int} (h : RT w W B k d n o) : RK w W := ⟨h.res, h.below⟩
theorem ret_in {R : Mom.Tm × Int} {a b c d r : Int} (h : R = (⟨a, b, c, d⟩, r)) : Ending.returned (Value.tuple #[.agg #[.int .i64 a, .int .i64 b, .int .i64 c, .int .i64 d], .int .i64 r]) = .returned (.tuple #[Mom.ag R.1, .int .i64 R.2]) := by rw [h]; rfl

set_option maxHeartbeats 16000000 in
theorem rparse_in {x : ByteArray} (hx : x.size ≤ maxLen) (h : Mom.lk x Mom.dateF) (hs : 10 < x.size) (hb : Mom.bt x 10 = 84 ∨ Mom.bt x 10 = 116 ∨ Mom.bt x 10 = 32) (hc : (Mom.rClk (Mom.rest11 x)).2.2.1 = true) (w : World) :
    Calls Try.prog 18 #[.string x] w fun e w' => e = .returned (.tuple #[Mom.ag (Mom.rIn x).1, .int .i64 (Mom.rIn x).2]) ∧ Below w.heap.size w w' := by
  have HL := Lib.hid (like_any (f := Mom.dateF) hx)
  rw [decide_eq_true h] at HL
  unfold Mom.dateF at HL
  obtain ⟨h10, n1, n2, n3⟩ := date_nums h
  have HD := Lib.hid (rday_any (Mom.ryr x) (Mom.rmo x) (Mom.rda x))
  unfold Cal.dayN Cal.dayE at HD
  have N1 := Lib.hid n1
  have N2 := Lib.hid n2
  have N3 := Lib.hid n3
  clear n1 n2 n3 h
  have HN : Hid (∀ y v, Hid (Mom.numOk y v) → ∀ w, Calls Try.prog 45 #[.string y] w fun e w' => e = .returned (.int .i64 v) ∧ w = w') := Lib.hid (fun y v h w => num_is h.out w)
  have K := RK.new w
  obtain ⟨y, hy⟩ : ∃ y, x.extract 10 x.size = y := ⟨_, rfl⟩
  have ysz : y.size = x.size - 10 := by rw [← hy, ByteArray.size_extract]; omega
  have y0 : 0 < y.size := by omega
  have ye : y.toList.isEmpty = false := some_list y0
  have yb : ∀ i, Mom.bt y i = Mom.bt x (10 + i) := fun i => by rw [← hy]; exact Mom.bt_tail x 10 i (by omega)
  have yb0 := yb 0
  rw [Mom.bt_in y0] at yb0
  have hy1 : y.size ≤ maxLen := by omega
  have hy2 : (y.extract 1 y.size).size ≤ maxLen := by rw [ByteArray.size_extract]; omega
  have HC := Lib.hid (takeClock_any hy2)
  have RES : Mom.rIn x = Mom.rIn x := rfl
  conv at RES => rhs; unfold Mom.rIn Mom.rest11
  unfold Mom.rest11 at hc
  rw [hy] at hc RES
  have yl1 : (1 : Int) ≤ y.size := by omega
  have hb3 : ((y[0].toNat : Int) != 84) = false ∨ (((y[0].toNat : Int) != 84) = true ∧ ((y[0].toNat : Int) != 116) = false) ∨ (((y[0].toNat : Int) != 84) = true ∧ ((y[0].toNat : Int) != 116) = true ∧ ((y[0].toNat : Int) != 32) = false) := by
    rw [yb0]
    rcases hb with e | e | e
    · exact Or.inl (by rw [e]; rfl)
    · exact Or.inr (Or.inl (by rw [e]; exact ⟨rfl, rfl⟩))
    · exact Or.inr (Or.inr (by rw [e]; exact ⟨rfl, rfl, rfl⟩))
  have zsz := Nat.le_trans (Mom.rClk_size _) hy2
  generalize Mom.rClk (y.extract 1 y.size) = Z at *
  obtain ⟨cn, cr, cf, ci⟩ := Z
  dsimp only at hc RES zsz
  subst hc
  have HO := Lib.hid (takeOff_any zsz)
  generalize Mom.rOff cr = O at *
  obtain ⟨on, of, oi⟩ := O
  unfold Mom.c4 at HC
  dsimp only at HC HO RES
  have yl : (0 : Int) < y.size := by omega
  clear yb yb0 hb ysz hy1 hy2
  have HY := Lib.hid hy
  clear hy
  have l1 : (4 : Int) ≤ x.size := by omega
  have l2 : (7 : Int) ≤ x.size := by omega
  have l3 : (10 : Int) ≤ x.size := by omega
  clear hs
  unfold maxLen at hx zsz
  generalize Mom.rIn x = R at *
  have F : ∃ dn de : Int, (if Cal.Vld (Mom.ryr x) (Mom.rmo x) (Mom.rda x) then Cal.num (Mom.ryr x) (Mom.rmo x) (Mom.rda x) else 0) = dn ∧ (if Cal.Vld (Mom.ryr x) (Mom.rmo x) (Mom.rda x) then (0 : Int) else 2) = de ∧
      ((((de : Int) != 0) = true ∧ (cr.size = 0 ∨ of = true → R = (Mom.tz, 2))) ∨ (((de : Int) != 0) = false ∧ (cr.size = 0 → ci = true → R = (⟨3, dn, cn, 0⟩, 0)) ∧ (cr.size = 0 ∨ of = true → ci = false → R = (Mom.tz, 2)) ∧ (cr.size ≠ 0 → of = true → ci = true → oi = true → R = (⟨4, dn, cn, on⟩, 0)) ∧ (cr.size ≠ 0 → of = true → oi = false → R = (Mom.tz, 2)))) ∧ (cr.size ≠ 0 → of = false → R = (Mom.tz, 3)) := by
    refine ⟨_, _, rfl, rfl, ?_, ?_⟩
    · by_cases hv : Cal.Vld (Mom.ryr x) (Mom.rmo x) (Mom.rda x)
      · refine Or.inr ⟨by rw [if_pos hv]; rfl, ?_, ?_, ?_, ?_⟩
        · intro a b; rw [RES, if_pos a, if_pos ⟨hv, b⟩, if_pos hv]
        · rintro a rfl
          by_cases z : cr.size = 0
          · rw [RES, if_pos z, if_neg (fun k => by cases k.2)]
          · rcases a with a | rfl
            · exact absurd a z
            · rw [RES, if_neg z, if_neg (by decide), if_neg (fun k => by cases k.2.1)]
        · rintro a rfl rfl rfl; rw [RES, if_neg a, if_neg (by decide), if_pos ⟨hv, rfl, rfl⟩, if_pos hv]
        · rintro a rfl rfl; rw [RES, if_neg a, if_neg (by decide), if_neg (fun k => by cases k.2.2)]
      · refine Or.inl ⟨by rw [if_neg hv]; rfl, ?_⟩
        intro a
        by_cases z : cr.size = 0
        · rw [RES, if_pos z, if_neg (fun k => hv k.1)]
        · rcases a with a | rfl
          · exact absurd a z
          · rw [RES, if_neg z, if_neg (by decide), if_neg (fun k => hv k.1)]
    · rintro a rfl; rw [RES, if_neg a, if_pos rfl]
  clear RES
  obtain ⟨dn, de, e1, e2, F1, F2⟩ := F
  rw [e1, e2] at HD
  clear e1 e2
  generalize Mom.ryr x = Y at *
  generalize Mom.rmo x = M at *
  generalize Mom.rda x = D at *
  have G := Lib.hid F1
  have G2 := Lib.hid F2
  clear F1 F2
  have cre : (cr.size = 0 ∧ cr.toList.isEmpty = true) ∨ (cr.size ≠ 0 ∧ cr.toList.isEmpty = false) := by
    by_cases z : cr.size = 0
    · exact Or.inl ⟨z, none_list z⟩
    · exact Or.inr ⟨z, some_list (by omega)⟩
  have CRE := Lib.hid cre
  clear cre
  rcases hb3 with v1 | ⟨v1, v2⟩ | ⟨v1, v2, v3⟩
  all_goals
    go_enter Try.func18, Try.ntmps18
    go_wp2_with fail
    refine (HL.out _).mono ?_; rintro e w1 ⟨rfl, hb1⟩
    replace K := K.call hb1
    clear hb1
    go_upto_region 8 with fail
    go_region_held3 (fun W => RK w W) (first | exact ⟨K.res, K.below.drew⟩ | assumption) (first | (go_at_call 45; refine (HN.out _ _ (by assumption) _).mono ?_; rintro e wx ⟨rfl, rfl⟩) | (go_at_call 44; refine (HD.out _).mono ?_; rintro e wy ⟨rfl, rfl⟩))
    go_upto_region 10 with fail
    rw [HY.out]
    have KD : RK w w1.drew := ⟨K.res, K.below.drew⟩
    clear K
    generalize w1.drew = W2 at *
    go_wp2_with fail
    refine (HC.out _).mono ?_; rintro e w3 ⟨rfl, hb3⟩
    replace KD := KD.call hb3
    clear hb3
    have T3 := RT.new KD 3 dn cn 0
    go_upto_region 20 with fail
    clear KD
    generalize w3.alloc (.cells #[.int .i64 3, .int .i64 dn, .int .i64 cn, .int .i64 0] 23) = W4 at *
    generalize w3.heap.size = B at *
    rcases CRE.out with ⟨z, ze⟩ | ⟨z, ze⟩
    · rcases G.out with ⟨q, f⟩ | ⟨q, fa, fb, _, _⟩
      · have R0 := f (Or.inl z)
        clear f z
        obtain ⟨z0, z1, z2, z3⟩ := T3.res.c4
        have zf := T3.res.frozen
        obtain ⟨hfin, hbf⟩ := RK.put T3.rk Mom.tz
        unfold putT Mom.tz at hfin hbf
        have RR := Lib.hid R0
        clear R0
        clear CRE G G2
        go_wp2_with fail
        exact bodyPost_ret (v := .tuple #[.agg #[.int .i64 0, .int .i64 0, .int .i64 0, .int .i64 0], .int .i64 2]) (by simp [results, Try.results18, go_sem, hfin.c4]) rfl ⟨ret_in RR.out, hbf⟩
      · rcases (show ci = true ∨ ci = false by cases ci; exact Or.inr rfl; exact Or.inl rfl) with c | c
        · have R0 := fa z c
          clear fa fb z
          obtain ⟨z0, z1, z2, z3⟩ := T3.res.c4
          have zf := T3.res.frozen
          obtain ⟨u0, u1, u2, u3⟩ := T3.box.c4
          obtain ⟨hfin, hbf⟩ := RK.put T3.rk ⟨3, dn, cn, 0⟩
          unfold putT at hfin hbf
          dsimp only at hfin hbf
          have RR := Lib.hid R0
          clear R0
          clear CRE G G2
          go_wp2_with fail
          exact bodyPost_ret (v := .tuple #[.agg #[.int .i64 3, .int .i64 dn, .int .i64 cn, .int .i64 0], .int .i64 0]) (by simp [results, Try.results18, go_sem, hfin.c4]) rfl ⟨ret_in RR.out, hbf⟩
        · have R0 := fb (Or.inl z) c
          clear fa fb z
          obtain ⟨z0, z1, z2, z3⟩ := T3.res.c4
          have zf := T3.res.frozen
          obtain ⟨hfin, hbf⟩ := RK.put T3.rk Mom.tz
          unfold putT Mom.tz at hfin hbf
          have RR := Lib.hid R0
          clear R0
          clear CRE G G2
          go_wp2_with fail
          exact bodyPost_ret (v := .tuple #[.agg #[.int .i64 0, .int .i64 0, .int .i64 0, .int .i64 0], .int .i64 2]) (by simp [results, Try.results18, go_sem, hfin.c4]) rfl ⟨ret_in RR.out, hbf⟩
    · have Z := Lib.hid z
      clear z
      go_wp2_with fail
      refine (HO.out _).mono ?_; rintro e w5 ⟨rfl, hb5⟩
      replace T3 := T3.call hb5
      clear hb5
      rcases (show of = true ∨ of = false by cases of; exact Or.inr rfl; exact Or.inl rfl) with c | c
      · have T5 := T3.up 4 on
        obtain ⟨u0, u1, u2, u3⟩ := T3.box.c4
        have uf := T3.box.frozen
        go_upto_region 26 with fail
        clear u0 u1 u2 u3 uf T3
        generalize (w5.setCell ⟨B, 0, none⟩ (.int .i64 4)).setCell ⟨B, 3, none⟩ (.int .i64 on) = W6 at *
        rcases G.out with ⟨q, f⟩ | ⟨q, _, fb, fa, fc⟩
        · have R0 := f (Or.inr c)
          clear f
          rcases (show ci = true ∨ ci = false by cases ci; exact Or.inr rfl; exact Or.inl rfl) with d | d
          · obtain ⟨z0, z1, z2, z3⟩ := T5.res.c4
            have zf := T5.res.frozen
            obtain ⟨hfin, hbf⟩ := RK.put T5.rk Mom.tz
            unfold putT Mom.tz at hfin hbf
            have RR := Lib.hid R0
            clear R0
            clear CRE G G2
            go_wp2_with fail
            exact bodyPost_ret (v := .tuple #[.agg #[.int .i64 0, .int .i64 0, .int .i64 0, .int .i64 0], .int .i64 2]) (by simp [results, Try.results18, go_sem, hfin.c4]) rfl ⟨ret_in RR.out, hbf⟩
          · obtain ⟨z0, z1, z2, z3⟩ := T5.res.c4
            have zf := T5.res.frozen
            obtain ⟨hfin, hbf⟩ := RK.put T5.rk Mom.tz
            unfold putT Mom.tz at hfin hbf
            have RR := Lib.hid R0
            clear R0
            clear CRE G G2
            go_wp2_with fail
            exact bodyPost_ret (v := .tuple #[.agg #[.int .i64 0, .int .i64 0, .int .i64 0, .int .i64 0], .int .i64 2]) (by simp [results, Try.results18, go_sem, hfin.c4]) rfl ⟨ret_in RR.out, hbf⟩
        · rcases (show ci = true ∨ ci = false by cases ci; exact Or.inr rfl; exact Or.inl rfl) with d | d
          · rcases (show oi = true ∨ oi = false by cases oi; exact Or.inr rfl; exact Or.inl rfl) with g | g
            · have R0 := fa Z.out c d g
              clear fa fb fc
              obtain ⟨z0, z1, z2, z3⟩ := T5.res.c4
              have zf := T5.res.frozen
              obtain ⟨u0, u1, u2, u3⟩ := T5.box.c4
              obtain ⟨hfin, hbf⟩ := RK.put T5.rk ⟨4, dn, cn, on⟩
              unfold putT at hfin hbf
              dsimp only at hfin hbf
              have RR := Lib.hid R0
              clear R0
              clear CRE G G2
              go_wp2_with fail
              exact bodyPost_ret (v := .tuple #[.agg #[.int .i64 4, .int .i64 dn, .int .i64 cn, .int .i64 on], .int .i64 0]) (by simp [results, Try.results18, go_sem, hfin.c4]) rfl ⟨ret_in RR.out, hbf⟩
            · have R0 := fc Z.out c g
              clear fa fb fc
              obtain ⟨z0, z1, z2, z3⟩ := T5.res.c4
              have zf := T5.res.frozen
              obtain ⟨hfin, hbf⟩ := RK.put T5.rk Mom.tz
              unfold putT Mom.tz at hfin hbf
              have RR := Lib.hid R0
              clear R0
              clear CRE G G2
              go_wp2_with fail
              exact bodyPost_ret (v := .tuple #[.agg #[.int .i64 0, .int .i64 0, .int .i64 0, .int .i64 0], .int .i64 2]) (by simp [results, Try.results18, go_sem, hfin.c4]) rfl ⟨ret_in RR.out, hbf⟩
          · have R0 := fb (Or.inr c) d
            clear fa fb fc
            obtain ⟨z0, z1, z2, z3⟩ := T5.res.c4
            have zf := T5.res.frozen
            obtain ⟨hfin, hbf⟩ := RK.put T5.rk Mom.tz
            unfold putT Mom.tz at hfin hbf
            have RR := Lib.hid R0
            clear R0
            clear CRE G G2
            go_wp2_with fail
            exact bodyPost_ret (v := .tuple #[.agg #[.int .i64 0, .int .i64 0, .int .i64 0, .int .i64 0], .int .i64 2]) (by simp [results, Try.results18, go_sem, hfin.c4]) rfl ⟨ret_in RR.out, hbf⟩
      · have R0 := G2.out Z.out c
        obtain ⟨z0, z1, z2, z3⟩ := T3.res.c4
        have zf := T3.res.frozen
        obtain ⟨hfin, hbf⟩ := RK.put T3.rk Mom.tz
        unfold putT Mom.tz at hfin hbf
        have RR := Lib.hid R0
        clear R0
        clear CRE G G2
        go_wp2_with fail
        exact bodyPost_ret (v := .tuple #[.agg #[.int .i64 0, .int .i64 0, .int .i64 0, .int .i64 0], .int .i64 3]) (by simp [results, Try.results18, go_sem, hfin.c4]) rfl ⟨ret_in RR.out, hbf⟩
end Go.Proofs.Ythbjkibclbgjoaa
