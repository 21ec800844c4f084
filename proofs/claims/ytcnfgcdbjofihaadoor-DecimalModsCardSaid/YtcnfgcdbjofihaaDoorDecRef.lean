/- Decimals: the reference's sums and order. -/
import Derived.Test.YtcnfgcdbjofihaaDoorDecT3
import Derived.Test.YtcnfgcdbjofihaaDoorDecText
namespace Go.Proofs.YtcnfgcdbjofihaaDoor
open Go.RowKit

theorem B2.full {w W : World} {n n' : Bool} {x y : ByteArray} {e e' : Int} (h : B2 w W n x e n' y e') : W.cell? ⟨w.heap.size, 0, none⟩ = some (.bool n) ∧ W.cell? ⟨w.heap.size, 1, none⟩ = some (.string x) ∧ W.cell? ⟨w.heap.size, 2, none⟩ = some (.int .i64 e) ∧ W.cell? ⟨w.heap.size + 1, 0, none⟩ = some (.bool n') ∧ W.cell? ⟨w.heap.size + 1, 1, none⟩ = some (.string y) ∧ W.cell? ⟨w.heap.size + 1, 2, none⟩ = some (.int .i64 e') ∧ B2 w W n x e n' y e' := ⟨h.one.c3.1, h.one.c3.2.1, h.one.c3.2.2, h.two.c3.1, h.two.c3.2.1, h.two.c3.2.2, h⟩
theorem B3.full {w W : World} {n n' : Bool} {x y : ByteArray} {e e' : Int} (h : B3 w W n x e n' y e') : W.cell? ⟨w.heap.size, 0, none⟩ = some (.bool n) ∧ W.cell? ⟨w.heap.size, 1, none⟩ = some (.string x) ∧ W.cell? ⟨w.heap.size, 2, none⟩ = some (.int .i64 e) ∧ W.cell? ⟨w.heap.size + 1, 0, none⟩ = some (.bool n') ∧ W.cell? ⟨w.heap.size + 1, 1, none⟩ = some (.string y) ∧ W.cell? ⟨w.heap.size + 1, 2, none⟩ = some (.int .i64 e') ∧ B3 w W n x e n' y e' := ⟨h.one.c3.1, h.one.c3.2.1, h.one.c3.2.2, h.two.c3.1, h.two.c3.2.1, h.two.c3.2.2, h⟩
theorem seventh {A B C D E F G : Prop} (h : A ∧ B ∧ C ∧ D ∧ E ∧ F ∧ G) : G := h.2.2.2.2.2.2
theorem keep_b2f {w W W' : World} {n n' : Bool} {x y : ByteArray} {e e' : Int} (hb : Below W.heap.size W W') (h : W.cell? ⟨w.heap.size, 0, none⟩ = some (.bool n) ∧ W.cell? ⟨w.heap.size, 1, none⟩ = some (.string x) ∧ W.cell? ⟨w.heap.size, 2, none⟩ = some (.int .i64 e) ∧ W.cell? ⟨w.heap.size + 1, 0, none⟩ = some (.bool n') ∧ W.cell? ⟨w.heap.size + 1, 1, none⟩ = some (.string y) ∧ W.cell? ⟨w.heap.size + 1, 2, none⟩ = some (.int .i64 e') ∧ B2 w W n x e n' y e') : W'.cell? ⟨w.heap.size, 0, none⟩ = some (.bool n) ∧ W'.cell? ⟨w.heap.size, 1, none⟩ = some (.string x) ∧ W'.cell? ⟨w.heap.size, 2, none⟩ = some (.int .i64 e) ∧ W'.cell? ⟨w.heap.size + 1, 0, none⟩ = some (.bool n') ∧ W'.cell? ⟨w.heap.size + 1, 1, none⟩ = some (.string y) ∧ W'.cell? ⟨w.heap.size + 1, 2, none⟩ = some (.int .i64 e') ∧ B2 w W' n x e n' y e' := ((seventh h).call hb).full
theorem keep_b3f {w W W' : World} {n n' : Bool} {x y : ByteArray} {e e' : Int} (hb : Below W.heap.size W W') (h : W.cell? ⟨w.heap.size, 0, none⟩ = some (.bool n) ∧ W.cell? ⟨w.heap.size, 1, none⟩ = some (.string x) ∧ W.cell? ⟨w.heap.size, 2, none⟩ = some (.int .i64 e) ∧ W.cell? ⟨w.heap.size + 1, 0, none⟩ = some (.bool n') ∧ W.cell? ⟨w.heap.size + 1, 1, none⟩ = some (.string y) ∧ W.cell? ⟨w.heap.size + 1, 2, none⟩ = some (.int .i64 e') ∧ B3 w W n x e n' y e') : W'.cell? ⟨w.heap.size, 0, none⟩ = some (.bool n) ∧ W'.cell? ⟨w.heap.size, 1, none⟩ = some (.string x) ∧ W'.cell? ⟨w.heap.size, 2, none⟩ = some (.int .i64 e) ∧ W'.cell? ⟨w.heap.size + 1, 0, none⟩ = some (.bool n') ∧ W'.cell? ⟨w.heap.size + 1, 1, none⟩ = some (.string y) ∧ W'.cell? ⟨w.heap.size + 1, 2, none⟩ = some (.int .i64 e') ∧ B3 w W' n x e n' y e' := ((seventh h).call hb).full


set_option maxHeartbeats 2000000 in
set_option maxRecDepth 100000 in
theorem rlower_any (n : Bool) (x : ByteArray) (e : Int) (n' : Bool) (y : ByteArray) (e' : Int) {z : Int} (hz : min e e' = z) (w : World) :
    Calls Tryd.prog 72 #[.agg #[.bool n, .string x, .int .i64 e], .agg #[.bool n', .string y, .int .i64 e']] w fun r w' => r = .returned (.int .i64 z) ∧ Below w.heap.size w w' := by
  have K := B2.new w n x e n' y e'
  by_cases h : e < e'
  · have d1 : decide (e < e') = true := decide_eq_true h
    obtain rfl : e = z := by omega
    clear h hz
    go_enter Tryd.func72, Tryd.ntmps72
    go_wp2
    go_ret
    exact ⟨rfl, K.below⟩
  · have d1 : decide (e < e') = false := decide_eq_false h
    obtain rfl : e' = z := by omega
    clear h hz
    go_enter Tryd.func72, Tryd.ntmps72
    go_wp2
    go_ret
    exact ⟨rfl, K.below⟩
set_option maxHeartbeats 2000000 in
set_option maxRecDepth 100000 in
theorem rat2_any (n : Bool) (x : ByteArray) (e z : Int) {p : Nat} (hp : e - z = p) (hx : x.size ≤ 1000) (hp1 : p ≤ 1000) {q : ByteArray} (hq : x ++ Dig.noughts p = q) (w : World) :
    Calls Tryd.prog 73 #[.agg #[.bool n, .string x, .int .i64 e], .int .i64 z] w fun r w' => r = .returned (.string q) ∧ Below w.heap.size w w' := by
  have HR := Lib.hid (fun w => noughts_any (n := p) (by omega) w)
  have K := B1.new w n x e
  have k1 : ¬ 9223372036854775807 < x.size + (Dig.noughts p).size := by rw [Dig.noughts_size]; omega
  have hwp : IntKind.i64.wrap (p : Int) = p := by rw [IntKind.wrap_i64]; omega
  have hwp2 : IntKind.i64.wrap (e - z) = p := by rw [hp]; exact hwp
  have HQ := Lib.hid hq
  clear hq hp1 hx
  generalize Dig.noughts p = u at *
  obtain ⟨x0, x1, x2, _⟩ := K.all
  go_enter Tryd.func73, Tryd.ntmps73
  go_upto_region 1 with fail
  go_region_held3 (fun W => W.cell? ⟨w.heap.size, 0, none⟩ = some (.bool n) ∧ W.cell? ⟨w.heap.size, 1, none⟩ = some (.string x) ∧ W.cell? ⟨w.heap.size, 2, none⟩ = some (.int .i64 e) ∧ w.heap.size < W.heap.size ∧ Below w.heap.size w W) (first | exact K.drew.all | exact keep_b1 (by assumption) (by assumption)) (first | (go_at_call 63; refine (HR.out _).mono ?_; rintro e w3 ⟨rfl, hb3⟩) | fail)
  all_goals
    go_wp2
    go_ret
    exact ⟨by rw [HQ.out]; rfl, fifth (by assumption)⟩
def AtOk (x : ByteArray) (e z : Int) (q : ByteArray) : Prop := ∃ p : Nat, e - z = p ∧ x.size ≤ 1000 ∧ p ≤ 1000 ∧ x ++ Dig.noughts p = q
theorem rat2_ok : Hid (∀ (n : Bool) (x : ByteArray) (e z : Int) (q : ByteArray), Hid (AtOk x e z q) → ∀ w, Calls Tryd.prog 73 #[.agg #[.bool n, .string x, .int .i64 e], .int .i64 z] w fun r w' => r = .returned (.string q) ∧ Below w.heap.size w w') := Lib.hid (fun n x e z q h w => by
  obtain ⟨p, h1, h2, h3, h4⟩ := h.out
  exact rat2_any n x e z h1 h2 h3 h4 w)
theorem normal_st {ng : Bool} {m : Nat} {y : Int} {rg : Bool} {rm : Nat} {re rr : Int} {q : ByteArray} (hA : (Dig.st m).size ≤ 1000000) (h1 : -9223372036854775808 ≤ y) (h2 : y ≤ 9223372036854775807) (h : Dec.normR ng m y = (⟨rg, rm, re⟩, rr)) (hq : Dig.st rm = q) (w : World) :
    Calls Tryd.prog 53 #[.bool ng, .string (Dig.st m), .int .i64 y] w fun e w' => e = .returned (.tuple #[.agg #[.bool rg, .string q, .int .i64 re], .int .i64 rr]) ∧ Below w.heap.size w w' := by
  have := normal_any ng (Dec.str_st hA) y h1 h2 w
  rw [Dig.V_st, h] at this
  unfold Dec.ag at this
  dsimp only at this
  rwa [hq] at this
theorem Dec.mag_m {d : Dec.Dc} (h : d.m = 0) : Dec.N d = 0 := by unfold Dec.N; rw [Dec.mag_zero h]; unfold Dec.sgd; split <;> rfl

set_option maxHeartbeats 4000000 in
set_option maxRecDepth 100000 in
theorem radd_za {a b : Dec.Dc} (ha : Dec.ok a) (hb : Dec.ok b) (ha0 : a.m = 0) (w : World) :
    Calls Tryd.prog 25 #[Dec.ag a, Dec.ag b] w fun r w' => r = .returned (.tuple #[Dec.ag (Dec.addR a b).1, .int .i64 (Dec.addR a b).2]) ∧ Below w.heap.size w w' := by
  rw [Dec.add_of ha hb hb (by rw [Dec.mag_m ha0]; omega)]
  obtain ⟨n, m, e⟩ := a
  obtain ⟨n', m', e'⟩ := b
  unfold Dec.ag
  dsimp only at *
  subst ha0
  rw [Dec.st0]
  clear ha hb
  generalize Dig.st m' = y at *
  have K := B3.new w n ⟨#[]⟩ e n' y e'
  obtain ⟨⟨x0, x1, x2⟩, ⟨y0, y1, y2⟩, z0, z1, z2⟩ := K.cells
  go_enter Tryd.func25, Tryd.ntmps25
  go_wp2
  exact bodyPost_ret (v := .tuple #[.agg #[.bool n', .string y, .int .i64 e'], .int .i64 0]) (by simp [results, Tryd.results25, go_sem]) rfl ⟨rfl, by first | exact (K.put (.bool n') (.string y) (.int .i64 e')).2 | exact (((Below.refl w.heap.size w).alloc (Nat.le_refl _) _).alloc (by simp) _).alloc (by simp; omega) _⟩
set_option maxHeartbeats 4000000 in
set_option maxRecDepth 100000 in
theorem radd_zb {a b : Dec.Dc} (ha : Dec.ok a) (hb : Dec.ok b) (ha0 : ¬ a.m = 0) (hb0 : b.m = 0) (w : World) :
    Calls Tryd.prog 25 #[Dec.ag a, Dec.ag b] w fun r w' => r = .returned (.tuple #[Dec.ag (Dec.addR a b).1, .int .i64 (Dec.addR a b).2]) ∧ Below w.heap.size w w' := by
  rw [Dec.add_of ha hb ha (by rw [Dec.mag_m hb0]; omega)]
  have ne := Dig.some_of (Dec.st_pos ha0)
  obtain ⟨n, m, e⟩ := a
  obtain ⟨n', m', e'⟩ := b
  unfold Dec.ag
  dsimp only at *
  subst hb0
  rw [Dec.st0]
  clear ha hb ha0
  generalize Dig.st m = x at *
  have K := B3.new w n x e n' ⟨#[]⟩ e'
  obtain ⟨⟨x0, x1, x2⟩, ⟨y0, y1, y2⟩, z0, z1, z2⟩ := K.cells
  go_enter Tryd.func25, Tryd.ntmps25
  go_wp2
  exact bodyPost_ret (v := .tuple #[.agg #[.bool n, .string x, .int .i64 e], .int .i64 0]) (by simp [results, Tryd.results25, go_sem]) rfl ⟨rfl, by first | exact (K.put (.bool n) (.string x) (.int .i64 e)).2 | exact (((Below.refl w.heap.size w).alloc (Nat.le_refl _) _).alloc (by simp) _).alloc (by simp; omega) _⟩
set_option maxHeartbeats 8000000 in
set_option maxRecDepth 100000 in
theorem radd_same {a b : Dec.Dc} (ha : Dec.ok a) (hb : Dec.ok b) (ha0 : ¬ a.m = 0) (hb0 : ¬ b.m = 0) (hn : a.neg = b.neg) (w : World) :
    Calls Tryd.prog 25 #[Dec.ag a, Dec.ag b] w fun r w' => r = .returned (.tuple #[Dec.ag (Dec.addR a b).1, .int .i64 (Dec.addR a b).2]) ∧ Below w.heap.size w w' := by
  obtain ⟨s1, s2⟩ := Dec.al_size ha hb
  obtain ⟨a1, a2, a3, _⟩ := Dec.ok_all ha
  obtain ⟨b1, b2, b3, _⟩ := Dec.ok_all hb
  have hal : Dec.al a b = (a.m * 10 ^ (a.e - min a.e b.e).toNat, b.m * 10 ^ (b.e - min a.e b.e).toNat, min a.e b.e) := by unfold Dec.al; rw [if_neg ha0, if_neg hb0]
  obtain ⟨z, hz, hz1, hz2, hz3⟩ : ∃ z : Int, min a.e b.e = z ∧ z ≤ a.e ∧ z ≤ b.e ∧ -400 ≤ z := ⟨_, rfl, by omega, by omega, by omega⟩
  rw [hz] at hal
  obtain ⟨X, hX⟩ : ∃ X, a.m * 10 ^ (a.e - z).toNat = X := ⟨_, rfl⟩
  obtain ⟨Y, hY⟩ : ∃ X, b.m * 10 ^ (b.e - z).toNat = X := ⟨_, rfl⟩
  rw [hX, hY] at hal
  have HLO := Lib.hid (fun w => rlower_any a.neg (Dig.st a.m) a.e b.neg (Dig.st b.m) b.e hz w)
  have HAA : Hid (AtOk (Dig.st a.m) a.e z (Dig.st X)) := Lib.hid ⟨(a.e - z).toNat, by omega, by omega, by omega, by rw [Dec.st_mul ha0, hX]⟩
  have HAB : Hid (AtOk (Dig.st b.m) b.e z (Dig.st Y)) := Lib.hid ⟨(b.e - z).toNat, by omega, by omega, by omega, by rw [Dec.st_mul hb0, hY]⟩
  have HAT := rat2_ok
  have ne1 := Dig.some_of (Dec.st_pos ha0)
  have ne2 := Dig.some_of (Dec.st_pos hb0)
  have hz4 : z ≤ 400 := by omega
  clear hX hY hz hz1 hz2
  unfold Dec.addR
  rw [hal] at s1 s2 ⊢
  dsimp only at s1 s2 ⊢
  rw [if_pos hn]
  have HP := Lib.hid (fun w => by have := rsum_any (Dec.str_st (m := X) (by omega)) (Dec.str_st (m := Y) (by omega)) w; rwa [Dig.V_st, Dig.V_st] at this)
  obtain ⟨R, hR⟩ : ∃ R, Dec.normR a.neg (X + Y) z = R := ⟨_, rfl⟩
  rw [hR]
  obtain ⟨⟨rg, rm, re⟩, rr⟩ := R
  obtain ⟨q, hq⟩ : ∃ q, Dig.st rm = q := ⟨_, rfl⟩
  have HN := Lib.hid (normal_st (Dec.add_size s1 s2) (by omega) (by omega) hR hq)
  clear hal
  obtain ⟨n, m, e⟩ := a
  obtain ⟨n', m', e'⟩ := b
  dsimp only at *
  subst hn
  unfold Dec.ag at *
  dsimp only at *
  rw [hq]
  clear hR hq ha hb s1 s2 ha0 hb0 a1 b1 hz3 hz4 a2 a3 b2 b3
  generalize Dig.st (X + Y) = S at *
  generalize Dig.st X = sx at *
  generalize Dig.st Y = sy at *
  generalize Dig.st m = x at *
  generalize Dig.st m' = y at *
  have K := B3.new w n x e n y e'
  obtain ⟨⟨x0, x1, x2⟩, ⟨y0, y1, y2⟩, z0, z1, z2⟩ := K.cells
  go_enter Tryd.func25, Tryd.ntmps25
  go_wp2_with fail
  refine (HLO.out _).mono ?_; rintro _ w1 ⟨rfl, hb1⟩
  replace K := K.call hb1
  clear hb1 x0 x1 x2 y0 y1 y2 z0 z1 z2
  obtain ⟨⟨x0, x1, x2⟩, ⟨y0, y1, y2⟩, z0, z1, z2⟩ := K.cells
  go_upto_region 6 with fail
  go_region_held3 (fun W => W.cell? ⟨w.heap.size, 0, none⟩ = some (.bool n) ∧ W.cell? ⟨w.heap.size, 1, none⟩ = some (.string x) ∧ W.cell? ⟨w.heap.size, 2, none⟩ = some (.int .i64 e) ∧ W.cell? ⟨w.heap.size + 1, 0, none⟩ = some (.bool n) ∧ W.cell? ⟨w.heap.size + 1, 1, none⟩ = some (.string y) ∧ W.cell? ⟨w.heap.size + 1, 2, none⟩ = some (.int .i64 e') ∧ B3 w W n x e n y e') (first | exact K.drew.full | exact keep_b3f (by assumption) (by assumption)) (first | (go_at_call 73; refine (HAT.out _ _ _ _ _ (by assumption) _).mono ?_; rintro _ w3 ⟨rfl, hb3⟩) | fail)
  clear K x0 x1 x2 y0 y1 y2 z0 z1 z2
  rename_i kept
  have K := seventh kept
  clear kept
  obtain ⟨⟨x0, x1, x2⟩, ⟨y0, y1, y2⟩, z0, z1, z2⟩ := K.cells
  go_upto_region 8 with fail
  replace K := K.drew
  go_region_with (first
    | (go_at_call 74; refine (HP.out _).mono ?_; rintro _ w3 ⟨rfl, hb3⟩; replace K := K.call hb3; clear hb3 x0 x1 x2 y0 y1 y2 z0 z1 z2; obtain ⟨⟨x0, x1, x2⟩, ⟨y0, y1, y2⟩, z0, z1, z2⟩ := K.cells)
    | (go_at_call 53; refine (HN.out _).mono ?_; rintro _ w4 ⟨rfl, hb4⟩; replace K := K.call hb4; clear hb4 x0 x1 x2 y0 y1 y2 z0 z1 z2; obtain ⟨⟨x0, x1, x2⟩, ⟨y0, y1, y2⟩, z0, z1, z2⟩ := K.cells; have zf := K.res.frozen))
  all_goals
    obtain ⟨hfin, hbf⟩ := K.put (.bool rg) (.string q) (.int .i64 re)
    go_wp2
    exact bodyPost_ret (v := .tuple #[.agg #[.bool rg, .string q, .int .i64 re], .int .i64 rr]) (by simp [results, Tryd.results25, go_sem, hfin.c3]) rfl ⟨rfl, hbf⟩
set_option maxHeartbeats 8000000 in
set_option maxRecDepth 100000 in
theorem radd_ge {a b : Dec.Dc} (ha : Dec.ok a) (hb : Dec.ok b) (ha0 : ¬ a.m = 0) (hb0 : ¬ b.m = 0) (hn : ¬ a.neg = b.neg) (hge : (Dec.al a b).2.1 ≤ (Dec.al a b).1) (w : World) :
    Calls Tryd.prog 25 #[Dec.ag a, Dec.ag b] w fun r w' => r = .returned (.tuple #[Dec.ag (Dec.addR a b).1, .int .i64 (Dec.addR a b).2]) ∧ Below w.heap.size w w' := by
  obtain ⟨s1, s2⟩ := Dec.al_size ha hb
  obtain ⟨a1, a2, a3, _⟩ := Dec.ok_all ha
  obtain ⟨b1, b2, b3, _⟩ := Dec.ok_all hb
  have hal : Dec.al a b = (a.m * 10 ^ (a.e - min a.e b.e).toNat, b.m * 10 ^ (b.e - min a.e b.e).toNat, min a.e b.e) := by unfold Dec.al; rw [if_neg ha0, if_neg hb0]
  obtain ⟨z, hz, hz1, hz2, hz3⟩ : ∃ z : Int, min a.e b.e = z ∧ z ≤ a.e ∧ z ≤ b.e ∧ -400 ≤ z := ⟨_, rfl, by omega, by omega, by omega⟩
  rw [hz] at hal
  obtain ⟨X, hX⟩ : ∃ X, a.m * 10 ^ (a.e - z).toNat = X := ⟨_, rfl⟩
  obtain ⟨Y, hY⟩ : ∃ X, b.m * 10 ^ (b.e - z).toNat = X := ⟨_, rfl⟩
  rw [hX, hY] at hal
  have HLO := Lib.hid (fun w => rlower_any a.neg (Dig.st a.m) a.e b.neg (Dig.st b.m) b.e hz w)
  have HAA : Hid (AtOk (Dig.st a.m) a.e z (Dig.st X)) := Lib.hid ⟨(a.e - z).toNat, by omega, by omega, by omega, by rw [Dec.st_mul ha0, hX]⟩
  have HAB : Hid (AtOk (Dig.st b.m) b.e z (Dig.st Y)) := Lib.hid ⟨(b.e - z).toNat, by omega, by omega, by omega, by rw [Dec.st_mul hb0, hY]⟩
  have HAT := rat2_ok
  have ne1 := Dig.some_of (Dec.st_pos ha0)
  have ne2 := Dig.some_of (Dec.st_pos hb0)
  have hz4 : z ≤ 400 := by omega
  clear hX hY hz hz1 hz2
  unfold Dec.addR
  rw [hal] at hge s1 s2 ⊢
  dsimp only at hge s1 s2 ⊢
  rw [if_neg hn, if_pos hge]
  have HC := Lib.hid (rcmp_any (Dec.str_st (m := X) (by omega)) (Dec.str_st (m := Y) (by omega)))
  have HP := Lib.hid (fun w => by have := rless_any (Dec.str_st (m := X) (by omega)) (Dec.str_st (m := Y) (by omega)) (by rw [Dig.V_st, Dig.V_st]; exact hge) w; rwa [Dig.V_st, Dig.V_st] at this)
  have hcc := Dig.cmp_ge hge
  have d2 : decide (Dig.cmp X Y < 0) = false := decide_eq_false (by omega)
  have hcl := Dig.cmp_le1 X Y
  clear hge
  generalize Dig.cmp X Y = cc at *
  obtain ⟨R, hR⟩ : ∃ R, Dec.normR a.neg (X - Y) z = R := ⟨_, rfl⟩
  rw [hR]
  obtain ⟨⟨rg, rm, re⟩, rr⟩ := R
  obtain ⟨q, hq⟩ : ∃ q, Dig.st rm = q := ⟨_, rfl⟩
  have HN := Lib.hid (normal_st (Dec.sub_size s1) (by omega) (by omega) hR hq)
  clear hal
  obtain ⟨n, m, e⟩ := a
  obtain ⟨n', m', e'⟩ := b
  dsimp only at *
  have d1 : (n == n') = false := by rw [beq_eq_false_iff_ne]; exact hn
  clear hn
  unfold Dec.ag at *
  dsimp only at *
  rw [hq]
  clear hR hq ha hb s1 s2 ha0 hb0 a1 b1 hz3 hz4 a2 a3 b2 b3
  generalize Dig.st (X - Y) = S at *
  generalize Dig.st X = sx at *
  generalize Dig.st Y = sy at *
  generalize Dig.st m = x at *
  generalize Dig.st m' = y at *
  have K := B3.new w n x e n' y e'
  obtain ⟨⟨x0, x1, x2⟩, ⟨y0, y1, y2⟩, z0, z1, z2⟩ := K.cells
  go_enter Tryd.func25, Tryd.ntmps25
  go_wp2_with fail
  refine (HLO.out _).mono ?_; rintro _ w1 ⟨rfl, hb1⟩
  replace K := K.call hb1
  clear hb1 x0 x1 x2 y0 y1 y2 z0 z1 z2
  obtain ⟨⟨x0, x1, x2⟩, ⟨y0, y1, y2⟩, z0, z1, z2⟩ := K.cells
  go_upto_region 6 with fail
  go_region_held3 (fun W => W.cell? ⟨w.heap.size, 0, none⟩ = some (.bool n) ∧ W.cell? ⟨w.heap.size, 1, none⟩ = some (.string x) ∧ W.cell? ⟨w.heap.size, 2, none⟩ = some (.int .i64 e) ∧ W.cell? ⟨w.heap.size + 1, 0, none⟩ = some (.bool n') ∧ W.cell? ⟨w.heap.size + 1, 1, none⟩ = some (.string y) ∧ W.cell? ⟨w.heap.size + 1, 2, none⟩ = some (.int .i64 e') ∧ B3 w W n x e n' y e') (first | exact K.drew.full | exact keep_b3f (by assumption) (by assumption)) (first | (go_at_call 73; refine (HAT.out _ _ _ _ _ (by assumption) _).mono ?_; rintro _ w3 ⟨rfl, hb3⟩) | fail)
  clear K x0 x1 x2 y0 y1 y2 z0 z1 z2
  rename_i kept
  have K := seventh kept
  clear kept
  obtain ⟨⟨x0, x1, x2⟩, ⟨y0, y1, y2⟩, z0, z1, z2⟩ := K.cells
  go_wp2_with fail
  refine (HC.out _).mono ?_; rintro _ w' ⟨rfl, rfl⟩
  go_upto_region 11 with fail
  replace K := K.drew
  go_region_with (first
    | (go_at_call 76; refine (HP.out _).mono ?_; rintro _ w3 ⟨rfl, hb3⟩; replace K := K.call hb3; clear hb3 x0 x1 x2 y0 y1 y2 z0 z1 z2; obtain ⟨⟨x0, x1, x2⟩, ⟨y0, y1, y2⟩, z0, z1, z2⟩ := K.cells)
    | (go_at_call 53; refine (HN.out _).mono ?_; rintro _ w4 ⟨rfl, hb4⟩; replace K := K.call hb4; clear hb4 x0 x1 x2 y0 y1 y2 z0 z1 z2; obtain ⟨⟨x0, x1, x2⟩, ⟨y0, y1, y2⟩, z0, z1, z2⟩ := K.cells; have zf := K.res.frozen))
  all_goals
    obtain ⟨hfin, hbf⟩ := K.put (.bool rg) (.string q) (.int .i64 re)
    go_wp2
    exact bodyPost_ret (v := .tuple #[.agg #[.bool rg, .string q, .int .i64 re], .int .i64 rr]) (by simp [results, Tryd.results25, go_sem, hfin.c3]) rfl ⟨rfl, hbf⟩
set_option maxHeartbeats 8000000 in
set_option maxRecDepth 100000 in
theorem radd_lt {a b : Dec.Dc} (ha : Dec.ok a) (hb : Dec.ok b) (ha0 : ¬ a.m = 0) (hb0 : ¬ b.m = 0) (hn : ¬ a.neg = b.neg) (hge : ¬ (Dec.al a b).2.1 ≤ (Dec.al a b).1) (w : World) :
    Calls Tryd.prog 25 #[Dec.ag a, Dec.ag b] w fun r w' => r = .returned (.tuple #[Dec.ag (Dec.addR a b).1, .int .i64 (Dec.addR a b).2]) ∧ Below w.heap.size w w' := by
  obtain ⟨s1, s2⟩ := Dec.al_size ha hb
  obtain ⟨a1, a2, a3, _⟩ := Dec.ok_all ha
  obtain ⟨b1, b2, b3, _⟩ := Dec.ok_all hb
  have hal : Dec.al a b = (a.m * 10 ^ (a.e - min a.e b.e).toNat, b.m * 10 ^ (b.e - min a.e b.e).toNat, min a.e b.e) := by unfold Dec.al; rw [if_neg ha0, if_neg hb0]
  obtain ⟨z, hz, hz1, hz2, hz3⟩ : ∃ z : Int, min a.e b.e = z ∧ z ≤ a.e ∧ z ≤ b.e ∧ -400 ≤ z := ⟨_, rfl, by omega, by omega, by omega⟩
  rw [hz] at hal
  obtain ⟨X, hX⟩ : ∃ X, a.m * 10 ^ (a.e - z).toNat = X := ⟨_, rfl⟩
  obtain ⟨Y, hY⟩ : ∃ X, b.m * 10 ^ (b.e - z).toNat = X := ⟨_, rfl⟩
  rw [hX, hY] at hal
  have HLO := Lib.hid (fun w => rlower_any a.neg (Dig.st a.m) a.e b.neg (Dig.st b.m) b.e hz w)
  have HAA : Hid (AtOk (Dig.st a.m) a.e z (Dig.st X)) := Lib.hid ⟨(a.e - z).toNat, by omega, by omega, by omega, by rw [Dec.st_mul ha0, hX]⟩
  have HAB : Hid (AtOk (Dig.st b.m) b.e z (Dig.st Y)) := Lib.hid ⟨(b.e - z).toNat, by omega, by omega, by omega, by rw [Dec.st_mul hb0, hY]⟩
  have HAT := rat2_ok
  have ne1 := Dig.some_of (Dec.st_pos ha0)
  have ne2 := Dig.some_of (Dec.st_pos hb0)
  have hz4 : z ≤ 400 := by omega
  clear hX hY hz hz1 hz2
  unfold Dec.addR
  rw [hal] at hge s1 s2 ⊢
  dsimp only at hge s1 s2 ⊢
  rw [if_neg hn, if_neg hge]
  have HC := Lib.hid (rcmp_any (Dec.str_st (m := X) (by omega)) (Dec.str_st (m := Y) (by omega)))
  have HP := Lib.hid (fun w => by have := rless_any (Dec.str_st (m := Y) (by omega)) (Dec.str_st (m := X) (by omega)) (by rw [Dig.V_st, Dig.V_st]; omega) w; rwa [Dig.V_st, Dig.V_st] at this)
  rw [Dig.cmp_no (by omega)] at HC
  clear hge
  obtain ⟨R, hR⟩ : ∃ R, Dec.normR b.neg (Y - X) z = R := ⟨_, rfl⟩
  rw [hR]
  obtain ⟨⟨rg, rm, re⟩, rr⟩ := R
  obtain ⟨q, hq⟩ : ∃ q, Dig.st rm = q := ⟨_, rfl⟩
  have HN := Lib.hid (normal_st (Dec.sub_size s2) (by omega) (by omega) hR hq)
  clear hal
  obtain ⟨n, m, e⟩ := a
  obtain ⟨n', m', e'⟩ := b
  dsimp only at *
  have d1 : (n == n') = false := by rw [beq_eq_false_iff_ne]; exact hn
  clear hn
  unfold Dec.ag at *
  dsimp only at *
  rw [hq]
  clear hR hq ha hb s1 s2 ha0 hb0 a1 b1 hz3 hz4 a2 a3 b2 b3
  generalize Dig.st (Y - X) = S at *
  generalize Dig.st X = sx at *
  generalize Dig.st Y = sy at *
  generalize Dig.st m = x at *
  generalize Dig.st m' = y at *
  have K := B3.new w n x e n' y e'
  obtain ⟨⟨x0, x1, x2⟩, ⟨y0, y1, y2⟩, z0, z1, z2⟩ := K.cells
  go_enter Tryd.func25, Tryd.ntmps25
  go_wp2_with fail
  refine (HLO.out _).mono ?_; rintro _ w1 ⟨rfl, hb1⟩
  replace K := K.call hb1
  clear hb1 x0 x1 x2 y0 y1 y2 z0 z1 z2
  obtain ⟨⟨x0, x1, x2⟩, ⟨y0, y1, y2⟩, z0, z1, z2⟩ := K.cells
  go_upto_region 6 with fail
  go_region_held3 (fun W => W.cell? ⟨w.heap.size, 0, none⟩ = some (.bool n) ∧ W.cell? ⟨w.heap.size, 1, none⟩ = some (.string x) ∧ W.cell? ⟨w.heap.size, 2, none⟩ = some (.int .i64 e) ∧ W.cell? ⟨w.heap.size + 1, 0, none⟩ = some (.bool n') ∧ W.cell? ⟨w.heap.size + 1, 1, none⟩ = some (.string y) ∧ W.cell? ⟨w.heap.size + 1, 2, none⟩ = some (.int .i64 e') ∧ B3 w W n x e n' y e') (first | exact K.drew.full | exact keep_b3f (by assumption) (by assumption)) (first | (go_at_call 73; refine (HAT.out _ _ _ _ _ (by assumption) _).mono ?_; rintro _ w3 ⟨rfl, hb3⟩) | fail)
  clear K x0 x1 x2 y0 y1 y2 z0 z1 z2
  rename_i kept
  have K := seventh kept
  clear kept
  obtain ⟨⟨x0, x1, x2⟩, ⟨y0, y1, y2⟩, z0, z1, z2⟩ := K.cells
  go_wp2_with fail
  refine (HC.out _).mono ?_; rintro _ w' ⟨rfl, rfl⟩
  go_upto_region 10 with fail
  replace K := K.drew
  go_region_with (first
    | (go_at_call 76; refine (HP.out _).mono ?_; rintro _ w3 ⟨rfl, hb3⟩; replace K := K.call hb3; clear hb3 x0 x1 x2 y0 y1 y2 z0 z1 z2; obtain ⟨⟨x0, x1, x2⟩, ⟨y0, y1, y2⟩, z0, z1, z2⟩ := K.cells)
    | (go_at_call 53; refine (HN.out _).mono ?_; rintro _ w4 ⟨rfl, hb4⟩; replace K := K.call hb4; clear hb4 x0 x1 x2 y0 y1 y2 z0 z1 z2; obtain ⟨⟨x0, x1, x2⟩, ⟨y0, y1, y2⟩, z0, z1, z2⟩ := K.cells; have zf := K.res.frozen))
  all_goals
    obtain ⟨hfin, hbf⟩ := K.put (.bool rg) (.string q) (.int .i64 re)
    go_wp2
    exact bodyPost_ret (v := .tuple #[.agg #[.bool rg, .string q, .int .i64 re], .int .i64 rr]) (by simp [results, Tryd.results25, go_sem, hfin.c3]) rfl ⟨rfl, hbf⟩
theorem radd_any {a b : Dec.Dc} (ha : Dec.ok a) (hb : Dec.ok b) (w : World) :
    Calls Tryd.prog 25 #[Dec.ag a, Dec.ag b] w fun r w' => r = .returned (.tuple #[Dec.ag (Dec.addR a b).1, .int .i64 (Dec.addR a b).2]) ∧ Below w.heap.size w w' := by
  by_cases a0 : a.m = 0
  · exact radd_za ha hb a0 w
  by_cases b0 : b.m = 0
  · exact radd_zb ha hb a0 b0 w
  by_cases hn : a.neg = b.neg
  · exact radd_same ha hb a0 b0 hn w
  · by_cases hge : (Dec.al a b).2.1 ≤ (Dec.al a b).1
    · exact radd_ge ha hb a0 b0 hn hge w
    · exact radd_lt ha hb a0 b0 hn hge w
end Go.Proofs.YtcnfgcdbjofihaaDoor
