/- Times: the law of moves (printed by gen_mommove.py). -/
import Derived.Test.YthbjkibclbgjoaaMomMoveM
import Derived.Test.YthbjkibclbgjoaaMomCmpL
import Derived.Deep.DeepCutAuto
namespace Go.Proofs.Ythbjkibclbgjoaa
open Go.RowKit

set_option maxRecDepth 100000 in
set_option maxHeartbeats 4000000 in
theorem walk_MomentMoves (k d n o q p r s u v : Int) (_ : (Lit.int .i64 k).wf = true) (_ : (Lit.int .i64 d).wf = true) (_ : (Lit.int .i64 n).wf = true) (_ : (Lit.int .i64 o).wf = true) (_ : (Lit.int .i64 q).wf = true) (_ : (Lit.int .i64 p).wf = true) (_ : (Lit.int .i64 r).wf = true) (_ : (Lit.int .i64 s).wf = true) (hu : (Lit.int .i64 u).wf = true) (hv : (Lit.int .i64 v).wf = true) (w : World) :
    Calls Try.prog 9 #[.agg #[.int .i64 k, .int .i64 d, .int .i64 n, .int .i64 o], .agg #[.int .i64 q, .int .i64 p, .int .i64 r, .int .i64 s], .int .i64 u, .int .i64 v] w fun e w' => e = .returned (.bool true) ∧ Below w.heap.size w w' := by
  have iu := wf_i64 hu
  have iv := wf_i64 hv
  clear hu hv
  have HB := Lib.hid (between_any ⟨k, d, n, o⟩ ⟨q, p, r, s⟩)
  have ib := Mom.btw_bd ⟨k, d, n, o⟩ ⟨q, p, r, s⟩
  have hz := Lib.hid (fun (D N : Int) (h : Mom.btw ⟨k, d, n, o⟩ ⟨q, p, r, s⟩ = (D, N, 0)) => Mom.btw_zero h)
  have HA := Lib.hid mom_awake
  generalize Mom.btw ⟨k, d, n, o⟩ ⟨q, p, r, s⟩ = X at *
  obtain ⟨D, N, C⟩ := X
  dsimp only at ib
  have HE := Lib.hid (shift_any ⟨k, d, n, o⟩ D N ib.1 ib.2)
  clear ib
  have HS := Lib.hid (shift_any ⟨k, d, n, o⟩ u v iu iv)
  have hn := Lib.hid (Mom.shift_not (t := ⟨k, d, n, o⟩) (u := u) (v := v))
  have hbk := Lib.hid (fun z (h : Mom.shift ⟨k, d, n, o⟩ u v = (z, 0)) => Mom.shift_back h)
  have iu1 := iu.1
  have iu2 := iu.2
  have iv1 := iv.1
  have iv2 := iv.2
  clear iu iv
  unfold Mom.bt3 Mom.ag at HB
  unfold Mom.ag at HE HS
  dsimp only at HB HE HS
  have K := BK.new w k d n o q p r s
  obtain ⟨⟨x0, x1, x2, x3⟩, y0, y1, y2, y3⟩ := K.cells
  go_enter Try.func9, Try.ntmps9
  go_wp2_with fail
  refine (HB.out _).mono ?_; rintro e w1 ⟨rfl, hb⟩
  replace K := K.call hb
  clear hb x0 x1 x2 x3 y0 y1 y2 y3
  obtain ⟨⟨x0, x1, x2, x3⟩, y0, y1, y2, y3⟩ := K.cells
  go_upto_region 2 with fail
  go_cut [31] (fun sx wx => ∃ b : Bool, sx = .bool b ∧ (b = true → C = 0 ∧ k ≠ 2) ∧ wx = w1)
  case first =>
    by_cases hC : C = 0
    · have t1 : (C == 0) = true := beq_iff_eq.2 hC
      have hC' := Lib.hid hC
      clear hC
      by_cases hk : k = 2
      · have t2 : (k != 2) = false := by simpa using hk
        clear hk
        go_wp2_with fail
        go_meet
        exact ⟨false, rfl, by simp, rfl⟩
      · have t2 : (k != 2) = true := by simpa using hk
        have hk' := Lib.hid hk
        clear hk
        go_wp2_with fail
        go_meet
        exact ⟨true, rfl, fun _ => ⟨hC'.out, hk'.out⟩, rfl⟩
    · have t1 : (C == 0) = false := beq_eq_false_iff_ne.2 hC
      clear hC
      go_wp2_with fail
      go_meet
      exact ⟨false, rfl, by simp, rfl⟩
  case rest =>
  obtain ⟨b, rfl, hb0, rfl⟩ := hcut
  have hb1 := Lib.hid hb0
  clear hb0
  go_upto_if 31 with fail
  go_cut [] (fun wx => BK w k d n o q p r s wx)
  case first =>
    cases b
    · go_wp2_with fail
      go_meet
      exact K
    · obtain ⟨hC, hk⟩ := hb1.out rfl
      rw [hC] at hz
      obtain ⟨o1, o2, o3, o4, o5⟩ := hz.out D N rfl
      have F := Mom.shift_btw o1 o2 o3 hk
      rw [← o4, ← o5] at F
      have hv := Lib.hid (fun z (h : Mom.shift ⟨k, d, n, o⟩ D N = (z, 0)) => Mom.shift_valid h)
      clear hz hb1 hC hk o3 o4 o5 HS hn hbk
      obtain ⟨⟨f1, f2⟩, _, f3, f4⟩ := F
      have F4 := Lib.hid f4
      clear f4
      generalize Mom.shift ⟨k, d, n, o⟩ D N = Z at *
      obtain ⟨⟨a, b, c, g⟩, e⟩ := Z
      dsimp only at f3 HE
      rcases f3 with rfl | rfl
      · have hs := F4.out _ rfl
        have HQ := Lib.hid (equalT_ok (k := a) (d := b) (n := c) (o := g) (q := q) (p := p) (r := r) (s := s) (hv.out _ rfl) o2)
        rw [decide_eq_true hs] at HQ
        clear hs F4 hv o1 o2
        go_wp2_with fail
        refine (HE.out _).mono ?_; rintro e w2 ⟨rfl, hb2⟩
        replace K := K.call hb2
        clear hb2 x0 x1 x2 x3 y0 y1 y2 y3
        have ht := Whole.new w2 23 #[.int .i64 a, .int .i64 b, .int .i64 c, .int .i64 g]
        replace K := K.alloc (.cells #[.int .i64 a, .int .i64 b, .int .i64 c, .int .i64 g] 23)
        obtain ⟨⟨x0, x1, x2, x3⟩, y0, y1, y2, y3⟩ := K.cells
        obtain ⟨z0, z1, z2, z3⟩ := ht.c4
        go_wp2_with fail
        refine (HQ.out _).mono ?_; rintro e w3 ⟨rfl, hb3⟩
        replace K := K.call hb3
        clear hb3 x0 x1 x2 x3 y0 y1 y2 y3 z0 z1 z2 z3
        go_wp2_with fail
        go_meet
        exact K
      · clear F4 hv o1 o2
        go_wp2_with fail
        refine (HE.out _).mono ?_; rintro e w2 ⟨rfl, hb2⟩
        replace K := K.call hb2
        clear hb2 x0 x1 x2 x3 y0 y1 y2 y3
        replace K := K.alloc (.cells #[.int .i64 a, .int .i64 b, .int .i64 c, .int .i64 g] 23)
        go_wp2_with fail
        go_meet
        exact K
  case rest =>
  clear K x0 x1 x2 x3 y0 y1 y2 y3 hz HB HE hb1
  have K : BK w k d n o q p r s wc := hcut
  clear hcut
  obtain ⟨⟨x0, x1, x2, x3⟩, y0, y1, y2, y3⟩ := K.cells
  by_cases c1 : u < -3652058
  · go_wp2_with fail
    refine (HA.out _).mono ?_; rintro e wa ⟨rfl, hba⟩
    go_wp2_with fail
    go_ret
    exact ⟨rfl, below_then K.below hba⟩
  by_cases c2 : 3652058 < u
  · go_wp2_with fail
    refine (HA.out _).mono ?_; rintro e wa ⟨rfl, hba⟩
    go_wp2_with fail
    go_ret
    exact ⟨rfl, below_then K.below hba⟩
  by_cases c3 : v < -86399999999999
  · go_wp2_with fail
    refine (HA.out _).mono ?_; rintro e wa ⟨rfl, hba⟩
    go_wp2_with fail
    go_ret
    exact ⟨rfl, below_then K.below hba⟩
  by_cases c4 : 86399999999999 < v
  · go_wp2_with fail
    refine (HA.out _).mono ?_; rintro e wa ⟨rfl, hba⟩
    go_wp2_with fail
    go_ret
    exact ⟨rfl, below_then K.below hba⟩
  clear iu1 iu2 iv1 iv2
  have HR : Hid (∀ a b c g, Mom.shift ⟨k, d, n, o⟩ u v = (⟨a, b, c, g⟩, 0) → ∀ w, Calls Try.prog 25 #[.agg #[.int .i64 a, .int .i64 b, .int .i64 c, .int .i64 g], .int .i64 (-u), .int .i64 (-v)] w fun e w' => e = .returned (.tuple #[.agg #[.int .i64 k, .int .i64 d, .int .i64 n, .int .i64 o], .int .i64 0]) ∧ Below w.heap.size w w') := Lib.hid (fun a b c g h w => by
    have := shift_any ⟨a, b, c, g⟩ (-u) (-v) (by unfold Mom.i64; omega) (by unfold Mom.i64; omega) w
    rwa [hbk.out _ h] at this)
  clear hbk
  generalize Mom.shift ⟨k, d, n, o⟩ u v = Z at *
  obtain ⟨⟨a, b, c, g⟩, e⟩ := Z
  dsimp only at HS
  by_cases he : e = 0
  · subst he
    replace HR := Lib.hid (HR.out a b c g rfl)
    have q1 : ∀ W, (binOp .eql 23 (.agg #[.int .i64 k, .int .i64 d, .int .i64 n, .int .i64 o]) (.agg #[.int .i64 k, .int .i64 d, .int .i64 n, .int .i64 o])).run Try.prog W = .ok (.bool true) W := fun W => by rw [time_eql, decide_eq_true rfl]
    clear hn
    go_wp2_with fail
    refine (HS.out _).mono ?_; rintro e w2 ⟨rfl, hb2⟩
    replace K := K.call hb2
    clear hb2 x0 x1 x2 x3 y0 y1 y2 y3
    have ht := Whole.new w2 23 #[.int .i64 a, .int .i64 b, .int .i64 c, .int .i64 g]
    replace K := K.alloc (.cells #[.int .i64 a, .int .i64 b, .int .i64 c, .int .i64 g] 23)
    obtain ⟨⟨x0, x1, x2, x3⟩, y0, y1, y2, y3⟩ := K.cells
    obtain ⟨z0, z1, z2, z3⟩ := ht.c4
    go_wp2_with fail
    refine (HR.out _).mono ?_; rintro e w3 ⟨rfl, hb3⟩
    replace K := K.call hb3
    clear hb3 x0 x1 x2 x3 y0 y1 y2 y3 z0 z1 z2 z3 ht
    have ht := Whole.new w3 23 #[.int .i64 k, .int .i64 d, .int .i64 n, .int .i64 o]
    replace K := K.alloc (.cells #[.int .i64 k, .int .i64 d, .int .i64 n, .int .i64 o] 23)
    obtain ⟨⟨x0, x1, x2, x3⟩, y0, y1, y2, y3⟩ := K.cells
    obtain ⟨z0, z1, z2, z3⟩ := ht.c4
    go_wp2_with fail
    refine (HA.out _).mono ?_; rintro e wa ⟨rfl, hba⟩
    go_wp2_with fail
    go_ret
    exact ⟨rfl, below_then K.below hba⟩
  · have hz := hn.out he
    dsimp only at hz
    injection hz with h1 h2 h3 h4
    subst h1 h2 h3 h4
    have t1 : (e != 0) = true := by simpa using he
    have q1 : ∀ W, (binOp .eql 23 (.agg #[.int .i64 0, .int .i64 0, .int .i64 0, .int .i64 0]) (.agg #[.int .i64 0, .int .i64 0, .int .i64 0, .int .i64 0])).run Try.prog W = .ok (.bool true) W := fun W => by rw [time_eql, decide_eq_true rfl]
    clear he hn HR
    go_wp2_with fail
    refine (HS.out _).mono ?_; rintro e w2 ⟨rfl, hb2⟩
    replace K := K.call hb2
    clear hb2 x0 x1 x2 x3 y0 y1 y2 y3
    have ht := Whole.new w2 23 #[.int .i64 0, .int .i64 0, .int .i64 0, .int .i64 0]
    replace K := K.alloc (.cells #[.int .i64 0, .int .i64 0, .int .i64 0, .int .i64 0] 23)
    obtain ⟨z0, z1, z2, z3⟩ := ht.c4
    go_wp2_with fail
    refine (HA.out _).mono ?_; rintro e wa ⟨rfl, hba⟩
    go_wp2_with fail
    go_ret
    exact ⟨rfl, below_then K.below hba⟩
end Go.Proofs.Ythbjkibclbgjoaa
