/- Decimals: sums. -/
import Derived.Test.YtcnfgcdbjofihaaDoorDecAlign
import Derived.Deep.RegionWith
namespace Go.Proofs.YtcnfgcdbjofihaaDoor
open Go.RowKit

/-- Two decimals in boxes, and a result that is still empty. -/
structure B3 (w W : World) (n : Bool) (x : ByteArray) (e : Int) (n' : Bool) (y : ByteArray) (e' : Int) : Prop where
  one : Whole W w.heap.size 23 #[.bool n, .string x, .int .i64 e]
  two : Whole W (w.heap.size + 1) 23 #[.bool n', .string y, .int .i64 e']
  res : Whole W (w.heap.size + 2) 23 #[.bool false, .string ⟨#[]⟩, .int .i64 0]
  below : Below w.heap.size w W
section
variable {w W : World} {n n' : Bool} {x y : ByteArray} {e e' : Int}
theorem B3.new (w : World) (n : Bool) (x : ByteArray) (e : Int) (n' : Bool) (y : ByteArray) (e' : Int) : B3 w (((w.alloc (.cells #[.bool n, .string x, .int .i64 e] 23)).alloc (.cells #[.bool n', .string y, .int .i64 e'] 23)).alloc (.cells #[.bool false, .string ⟨#[]⟩, .int .i64 0] 23)) n x e n' y e' := by
  have K := B2.new w n x e n' y e'
  refine ⟨K.one.alloc _, K.two.alloc _, ?_, K.below.alloc K.below.size _⟩
  have := Whole.new ((w.alloc (.cells #[.bool n, .string x, .int .i64 e] 23)).alloc (.cells #[.bool n', .string y, .int .i64 e'] 23)) 23 #[.bool false, .string ⟨#[]⟩, .int .i64 0]
  simpa using this
theorem B3.call {W' : World} (h : B3 w W n x e n' y e') (hb : Below W.heap.size W W') : B3 w W' n x e n' y e' := ⟨h.one.below hb h.one.lt, h.two.below hb h.two.lt, h.res.below hb h.res.lt, below_then h.below hb⟩
theorem B3.drew (h : B3 w W n x e n' y e') : B3 w W.drew n x e n' y e' := ⟨h.one.drew, h.two.drew, h.res.drew, h.below.drew⟩
theorem B3.cells (h : B3 w W n x e n' y e') : (W.cell? ⟨w.heap.size, 0, none⟩ = some (.bool n) ∧ W.cell? ⟨w.heap.size, 1, none⟩ = some (.string x) ∧ W.cell? ⟨w.heap.size, 2, none⟩ = some (.int .i64 e)) ∧ (W.cell? ⟨w.heap.size + 1, 0, none⟩ = some (.bool n') ∧ W.cell? ⟨w.heap.size + 1, 1, none⟩ = some (.string y) ∧ W.cell? ⟨w.heap.size + 1, 2, none⟩ = some (.int .i64 e')) ∧ W.cell? ⟨w.heap.size + 2, 0, none⟩ = some (.bool false) ∧ W.cell? ⟨w.heap.size + 2, 1, none⟩ = some (.string ⟨#[]⟩) ∧ W.cell? ⟨w.heap.size + 2, 2, none⟩ = some (.int .i64 0) := ⟨h.one.c3, h.two.c3, h.res.c3⟩
theorem B3.put (h : B3 w W n x e n' y e') (a b c : Value) : Whole (((W.setCell ⟨w.heap.size + 2, 0, none⟩ a).setCell ⟨w.heap.size + 2, 1, none⟩ b).setCell ⟨w.heap.size + 2, 2, none⟩ c) (w.heap.size + 2) 23 #[a, b, c] ∧ Below w.heap.size w (((W.setCell ⟨w.heap.size + 2, 0, none⟩ a).setCell ⟨w.heap.size + 2, 1, none⟩ b).setCell ⟨w.heap.size + 2, 2, none⟩ c) :=
  ⟨h.res.s3 _ _ _, ((h.below.setCell (p := ⟨w.heap.size + 2, 0, none⟩) (Nat.le_add_right _ _) _).setCell (p := ⟨w.heap.size + 2, 1, none⟩) (Nat.le_add_right _ _) _).setCell (p := ⟨w.heap.size + 2, 2, none⟩) (Nat.le_add_right _ _) _⟩
end
namespace Dec
theorem al_size {a b : Dc} (ha : ok a) (hb : ok b) : (Dig.st (al a b).1).size ≤ 1000 ∧ (Dig.st (al a b).2.1).size ≤ 1000 := by
  obtain ⟨a1, a2, a3, _⟩ := ok_all ha
  obtain ⟨b1, b2, b3, _⟩ := ok_all hb
  have z : (Dig.st 0).size = 0 := by rw [st0]; rfl
  unfold al
  split
  · exact ⟨by dsimp only; omega, by dsimp only; omega⟩
  · rename_i h1
    split
    · exact ⟨by dsimp only; omega, by dsimp only; omega⟩
    · rename_i h2
      dsimp only
      rw [← st_mul h1, ← st_mul h2, ByteArray.size_append, ByteArray.size_append, Dig.noughts_size, Dig.noughts_size]
      omega
theorem str_st {m : Nat} (h : (Dig.st m).size ≤ 1000000) : Dig.Str (Dig.st m) := ⟨by rw [Dig.l_st]; exact Dig.num_alld m, h⟩
theorem add_size {x y : Nat} (hx : (Dig.st x).size ≤ 1000) (hy : (Dig.st y).size ≤ 1000) : (Dig.st (x + y)).size ≤ 1000000 :=
  Nat.le_trans ((Dig.st_size _ 1001).2 (Dig.sum_lt ((Dig.st_size x 1000).1 hx) ((Dig.st_size y 1000).1 hy))) (by omega)
theorem sub_size {x y : Nat} (hx : (Dig.st x).size ≤ 1000) : (Dig.st (x - y)).size ≤ 1000000 :=
  Nat.le_trans ((Dig.st_size _ 1000).2 (Nat.lt_of_le_of_lt (Nat.sub_le _ _) ((Dig.st_size x 1000).1 hx))) (by omega)
/-- The sum. -/
def addR (a b : Dc) : Dc × Int :=
  if a.neg = b.neg then normR a.neg ((al a b).1 + (al a b).2.1) (al a b).2.2 else if (al a b).2.1 ≤ (al a b).1 then normR a.neg ((al a b).1 - (al a b).2.1) (al a b).2.2 else normR b.neg ((al a b).2.1 - (al a b).1) (al a b).2.2
end Dec
theorem norm_leaf {ng : Bool} {m : Nat} {y : Int} {rg : Bool} {rm : Nat} {re rr : Int} {q : ByteArray} (hA : (Dig.st m).size ≤ 1000000) (h : Dec.normR ng m y = (⟨rg, rm, re⟩, rr)) (hq : Dig.st rm = q) (w : World) :
    Calls Tryd.prog 50 #[.bool ng, .string (Dig.st m), .int .i64 y] w fun e w' => e = .returned (.tuple #[.agg #[.bool rg, .string q, .int .i64 re], .int .i64 rr]) ∧ Below w.heap.size w w' := by
  have := norm_any ng hA y w
  rw [h] at this
  unfold Dec.ag at this
  dsimp only at this
  rwa [hq] at this

set_option maxHeartbeats 4000000 in
set_option maxRecDepth 100000 in
theorem add_same {a b : Dec.Dc} (ha : Dec.ok a) (hb : Dec.ok b) (hn : a.neg = b.neg) (w : World) :
    Calls Tryd.prog 23 #[Dec.ag a, Dec.ag b] w fun r w' => r = .returned (.tuple #[Dec.ag (Dec.addR a b).1, .int .i64 (Dec.addR a b).2]) ∧ Below w.heap.size w w' := by
  have HAL := Lib.hid (align_any ha hb)
  obtain ⟨s1, s2⟩ := Dec.al_size ha hb
  unfold Dec.addR
  rw [if_pos hn]
  generalize Dec.al a b = L at *
  obtain ⟨X, Y, z⟩ := L
  dsimp only at *
  have HP := Lib.hid (fun w => by have := dplus_any (Dec.str_st (m := X) (by omega)) (Dec.str_st (m := Y) (by omega)) w; rwa [Dig.V_st, Dig.V_st] at this)
  obtain ⟨R, hR⟩ : ∃ R, Dec.normR a.neg (X + Y) z = R := ⟨_, rfl⟩
  rw [hR]
  obtain ⟨⟨rg, rm, re⟩, rr⟩ := R
  obtain ⟨q, hq⟩ : ∃ q, Dig.st rm = q := ⟨_, rfl⟩
  have HN := Lib.hid (norm_leaf (Dec.add_size s1 s2) hR hq)
  obtain ⟨n, m, e⟩ := a
  obtain ⟨n', m', e'⟩ := b
  dsimp only at hn HN
  subst hn
  unfold Dec.ag at *
  dsimp only at *
  rw [hq]
  clear hR hq ha hb s1 s2
  generalize Dig.st (X + Y) = S at *
  generalize Dig.st X = sx at *
  generalize Dig.st Y = sy at *
  generalize Dig.st m = x at *
  generalize Dig.st m' = y at *
  have K := B3.new w n x e n y e'
  go_enter Tryd.func23, Tryd.ntmps23
  go_wp2_with fail
  refine (HAL.out _).mono ?_; rintro _ w1 ⟨rfl, hb1⟩
  replace K := K.call hb1
  clear hb1
  obtain ⟨⟨x0, x1, x2⟩, ⟨y0, y1, y2⟩, z0, z1, z2⟩ := K.cells
  go_upto_region 3 with fail
  replace K := K.drew
  go_region_with (first
    | (go_at_call 69; refine (HP.out _).mono ?_; rintro _ w3 ⟨rfl, hb3⟩; replace K := K.call hb3; clear hb3 x0 x1 x2 y0 y1 y2 z0 z1 z2; obtain ⟨⟨x0, x1, x2⟩, ⟨y0, y1, y2⟩, z0, z1, z2⟩ := K.cells)
    | (go_at_call 50; refine (HN.out _).mono ?_; rintro _ w4 ⟨rfl, hb4⟩; replace K := K.call hb4; clear hb4 x0 x1 x2 y0 y1 y2 z0 z1 z2; obtain ⟨⟨x0, x1, x2⟩, ⟨y0, y1, y2⟩, z0, z1, z2⟩ := K.cells; have zf := K.res.frozen))
  all_goals
    obtain ⟨hfin, hbf⟩ := K.put (.bool rg) (.string q) (.int .i64 re)
    go_wp2
    exact bodyPost_ret (v := .tuple #[.agg #[.bool rg, .string q, .int .i64 re], .int .i64 rr]) (by simp [results, Tryd.results23, go_sem, hfin.c3]) rfl ⟨rfl, hbf⟩
set_option maxHeartbeats 4000000 in
set_option maxRecDepth 100000 in
theorem add_ge {a b : Dec.Dc} (ha : Dec.ok a) (hb : Dec.ok b) (hn : ¬ a.neg = b.neg) (hge : (Dec.al a b).2.1 ≤ (Dec.al a b).1) (w : World) :
    Calls Tryd.prog 23 #[Dec.ag a, Dec.ag b] w fun r w' => r = .returned (.tuple #[Dec.ag (Dec.addR a b).1, .int .i64 (Dec.addR a b).2]) ∧ Below w.heap.size w w' := by
  have HAL := Lib.hid (align_any ha hb)
  obtain ⟨s1, s2⟩ := Dec.al_size ha hb
  unfold Dec.addR
  rw [if_neg hn, if_pos hge]
  generalize Dec.al a b = L at *
  obtain ⟨X, Y, z⟩ := L
  dsimp only at *
  have HC := Lib.hid (dcmp_any (Dec.str_st (m := X) (by omega)) (Dec.str_st (m := Y) (by omega)))
  have HP := Lib.hid (fun w => by have := dminus_any (Dec.str_st (m := X) (by omega)) (Dec.str_st (m := Y) (by omega)) (by rw [Dig.V_st, Dig.V_st]; exact hge) w; rwa [Dig.V_st, Dig.V_st] at this)
  have hcc := Dig.cmp_ge hge
  have d2 : decide ((0 : Int) ≤ Dig.cmp X Y) = true := decide_eq_true hcc
  have hcl := Dig.cmp_le1 X Y
  clear hge
  generalize Dig.cmp X Y = cc at *
  obtain ⟨R, hR⟩ : ∃ R, Dec.normR a.neg (X - Y) z = R := ⟨_, rfl⟩
  rw [hR]
  obtain ⟨⟨rg, rm, re⟩, rr⟩ := R
  obtain ⟨q, hq⟩ : ∃ q, Dig.st rm = q := ⟨_, rfl⟩
  have HN := Lib.hid (norm_leaf (Dec.sub_size s1) hR hq)
  obtain ⟨n, m, e⟩ := a
  obtain ⟨n', m', e'⟩ := b
  dsimp only at hn HN
  have d1 : (n == n') = false := by rw [beq_eq_false_iff_ne]; exact hn
  clear hn
  unfold Dec.ag at *
  dsimp only at *
  rw [hq]
  clear hR hq ha hb s1 s2
  generalize Dig.st (X - Y) = S at *
  generalize Dig.st X = sx at *
  generalize Dig.st Y = sy at *
  generalize Dig.st m = x at *
  generalize Dig.st m' = y at *
  have K := B3.new w n x e n' y e'
  go_enter Tryd.func23, Tryd.ntmps23
  go_wp2_with fail
  refine (HAL.out _).mono ?_; rintro _ w1 ⟨rfl, hb1⟩
  replace K := K.call hb1
  clear hb1
  obtain ⟨⟨x0, x1, x2⟩, ⟨y0, y1, y2⟩, z0, z1, z2⟩ := K.cells
  go_wp2_with fail
  refine (HC.out _).mono ?_; rintro _ w' ⟨rfl, rfl⟩
  go_upto_region 5 with fail
  replace K := K.drew
  go_region_with (first
    | (go_at_call 71; refine (HP.out _).mono ?_; rintro _ w3 ⟨rfl, hb3⟩; replace K := K.call hb3; clear hb3 x0 x1 x2 y0 y1 y2 z0 z1 z2; obtain ⟨⟨x0, x1, x2⟩, ⟨y0, y1, y2⟩, z0, z1, z2⟩ := K.cells)
    | (go_at_call 50; refine (HN.out _).mono ?_; rintro _ w4 ⟨rfl, hb4⟩; replace K := K.call hb4; clear hb4 x0 x1 x2 y0 y1 y2 z0 z1 z2; obtain ⟨⟨x0, x1, x2⟩, ⟨y0, y1, y2⟩, z0, z1, z2⟩ := K.cells; have zf := K.res.frozen))
  all_goals
    obtain ⟨hfin, hbf⟩ := K.put (.bool rg) (.string q) (.int .i64 re)
    go_wp2
    exact bodyPost_ret (v := .tuple #[.agg #[.bool rg, .string q, .int .i64 re], .int .i64 rr]) (by simp [results, Tryd.results23, go_sem, hfin.c3]) rfl ⟨rfl, hbf⟩
set_option maxHeartbeats 4000000 in
set_option maxRecDepth 100000 in
theorem add_lt {a b : Dec.Dc} (ha : Dec.ok a) (hb : Dec.ok b) (hn : ¬ a.neg = b.neg) (hge : ¬ (Dec.al a b).2.1 ≤ (Dec.al a b).1) (w : World) :
    Calls Tryd.prog 23 #[Dec.ag a, Dec.ag b] w fun r w' => r = .returned (.tuple #[Dec.ag (Dec.addR a b).1, .int .i64 (Dec.addR a b).2]) ∧ Below w.heap.size w w' := by
  have HAL := Lib.hid (align_any ha hb)
  obtain ⟨s1, s2⟩ := Dec.al_size ha hb
  unfold Dec.addR
  rw [if_neg hn, if_neg hge]
  generalize Dec.al a b = L at *
  obtain ⟨X, Y, z⟩ := L
  dsimp only at *
  have HC := Lib.hid (dcmp_any (Dec.str_st (m := X) (by omega)) (Dec.str_st (m := Y) (by omega)))
  have HP := Lib.hid (fun w => by have := dminus_any (Dec.str_st (m := Y) (by omega)) (Dec.str_st (m := X) (by omega)) (by rw [Dig.V_st, Dig.V_st]; omega) w; rwa [Dig.V_st, Dig.V_st] at this)
  rw [Dig.cmp_no (by omega)] at HC
  clear hge
  obtain ⟨R, hR⟩ : ∃ R, Dec.normR b.neg (Y - X) z = R := ⟨_, rfl⟩
  rw [hR]
  obtain ⟨⟨rg, rm, re⟩, rr⟩ := R
  obtain ⟨q, hq⟩ : ∃ q, Dig.st rm = q := ⟨_, rfl⟩
  have HN := Lib.hid (norm_leaf (Dec.sub_size s2) hR hq)
  obtain ⟨n, m, e⟩ := a
  obtain ⟨n', m', e'⟩ := b
  dsimp only at hn HN
  have d1 : (n == n') = false := by rw [beq_eq_false_iff_ne]; exact hn
  clear hn
  unfold Dec.ag at *
  dsimp only at *
  rw [hq]
  clear hR hq ha hb s1 s2
  generalize Dig.st (Y - X) = S at *
  generalize Dig.st X = sx at *
  generalize Dig.st Y = sy at *
  generalize Dig.st m = x at *
  generalize Dig.st m' = y at *
  have K := B3.new w n x e n' y e'
  go_enter Tryd.func23, Tryd.ntmps23
  go_wp2_with fail
  refine (HAL.out _).mono ?_; rintro _ w1 ⟨rfl, hb1⟩
  replace K := K.call hb1
  clear hb1
  obtain ⟨⟨x0, x1, x2⟩, ⟨y0, y1, y2⟩, z0, z1, z2⟩ := K.cells
  go_wp2_with fail
  refine (HC.out _).mono ?_; rintro _ w' ⟨rfl, rfl⟩
  go_upto_region 6 with fail
  replace K := K.drew
  go_region_with (first
    | (go_at_call 71; refine (HP.out _).mono ?_; rintro _ w3 ⟨rfl, hb3⟩; replace K := K.call hb3; clear hb3 x0 x1 x2 y0 y1 y2 z0 z1 z2; obtain ⟨⟨x0, x1, x2⟩, ⟨y0, y1, y2⟩, z0, z1, z2⟩ := K.cells)
    | (go_at_call 50; refine (HN.out _).mono ?_; rintro _ w4 ⟨rfl, hb4⟩; replace K := K.call hb4; clear hb4 x0 x1 x2 y0 y1 y2 z0 z1 z2; obtain ⟨⟨x0, x1, x2⟩, ⟨y0, y1, y2⟩, z0, z1, z2⟩ := K.cells; have zf := K.res.frozen))
  all_goals
    obtain ⟨hfin, hbf⟩ := K.put (.bool rg) (.string q) (.int .i64 re)
    go_wp2
    exact bodyPost_ret (v := .tuple #[.agg #[.bool rg, .string q, .int .i64 re], .int .i64 rr]) (by simp [results, Tryd.results23, go_sem, hfin.c3]) rfl ⟨rfl, hbf⟩
theorem dadd_any {a b : Dec.Dc} (ha : Dec.ok a) (hb : Dec.ok b) (w : World) :
    Calls Tryd.prog 23 #[Dec.ag a, Dec.ag b] w fun r w' => r = .returned (.tuple #[Dec.ag (Dec.addR a b).1, .int .i64 (Dec.addR a b).2]) ∧ Below w.heap.size w w' := by
  by_cases hn : a.neg = b.neg
  · exact add_same ha hb hn w
  · by_cases hge : (Dec.al a b).2.1 ≤ (Dec.al a b).1
    · exact add_ge ha hb hn hge w
    · exact add_lt ha hb hn hge w
end Go.Proofs.YtcnfgcdbjofihaaDoor
