/- Decimals: the reference's order, negative, differences. -/
import Derived.Test.YtcnfgcdbjofihaaDoorDecRef
namespace Go.Proofs.YtcnfgcdbjofihaaDoor
open Go.RowKit

namespace Dec
theorem st_len10 {m : Nat} (h : m ≠ 0) (k : Nat) : (Dig.st (m * 10 ^ k)).size = (Dig.st m).size + k := by
  rw [← st_mul h, ByteArray.size_append, Dig.noughts_size]
theorem al_nz {a b : Dc} (a0 : a.m ≠ 0) (b0 : b.m ≠ 0) : al a b = (a.m * 10 ^ (a.e - min a.e b.e).toNat, b.m * 10 ^ (b.e - min a.e b.e).toNat, min a.e b.e) := by unfold al; rw [if_neg a0, if_neg b0]
theorem size_lt {a b : Dc} (a0 : a.m ≠ 0) (b0 : b.m ≠ 0) (h : ((Dig.st a.m).size : Int) + a.e < (Dig.st b.m).size + b.e) : Dig.cmp (al a b).1 (al a b).2.1 = -1 := by
  rw [al_nz a0 b0]
  dsimp only
  refine Dig.cmp_lt ?_
  rw [st_len10 a0, st_len10 b0]
  omega
theorem size_gt {a b : Dc} (a0 : a.m ≠ 0) (b0 : b.m ≠ 0) (h : ((Dig.st b.m).size : Int) + b.e < (Dig.st a.m).size + a.e) : Dig.cmp (al a b).1 (al a b).2.1 = 1 := by
  rw [al_nz a0 b0]
  dsimp only
  refine Dig.cmp_gt ?_
  rw [st_len10 a0, st_len10 b0]
  omega
theorem size_ge {a b : Dc} (a0 : a.m ≠ 0) (b0 : b.m ≠ 0) (h : ((Dig.st a.m).size : Int) + a.e = (Dig.st b.m).size + b.e) (hn : (Dig.st b.m).size ≤ (Dig.st a.m).size) : (al a b).1 = a.m ∧ (al a b).2.1 = b.m * 10 ^ ((Dig.st a.m).size - (Dig.st b.m).size) := by
  rw [al_nz a0 b0]
  dsimp only
  rw [show (a.e - min a.e b.e).toNat = 0 by omega, show (b.e - min a.e b.e).toNat = (Dig.st a.m).size - (Dig.st b.m).size by omega, Nat.pow_zero, Nat.mul_one]
  exact ⟨rfl, rfl⟩
theorem size_le {a b : Dc} (a0 : a.m ≠ 0) (b0 : b.m ≠ 0) (h : ((Dig.st a.m).size : Int) + a.e = (Dig.st b.m).size + b.e) (hn : (Dig.st a.m).size ≤ (Dig.st b.m).size) : (al a b).1 = a.m * 10 ^ ((Dig.st b.m).size - (Dig.st a.m).size) ∧ (al a b).2.1 = b.m := by
  rw [al_nz a0 b0]
  dsimp only
  rw [show (b.e - min a.e b.e).toNat = 0 by omega, show (a.e - min a.e b.e).toNat = (Dig.st b.m).size - (Dig.st a.m).size by omega, Nat.pow_zero, Nat.mul_one]
  exact ⟨rfl, rfl⟩
end Dec
theorem app_nil (x : ByteArray) : x ++ (⟨#[]⟩ : ByteArray) = x := by
  apply ByteArray.ext
  simp [ByteArray.data_append]
theorem B2.drewN {w W : World} {n n' : Bool} {x y : ByteArray} {e e' : Int} (h : B2 w W n x e n' y e') (k : Nat) : B2 w (W.drewN k) n x e n' y e' := ⟨h.one, h.two, ⟨h.below.os, h.below.tape, h.below.output, h.below.size, h.below.block⟩⟩
def CmpOk (x y : ByteArray) (k : Int) : Prop := ∃ X Y : Nat, Dig.Str (Dig.st X) ∧ Dig.Str (Dig.st Y) ∧ Dig.st X = x ∧ Dig.st Y = y ∧ Dig.cmp X Y = k
theorem rcmp_ok : Hid (∀ (x y : ByteArray) (k : Int), Hid (CmpOk x y k) → ∀ w, Calls Tryd.prog 75 #[.string x, .string y] w fun r w' => r = .returned (.int .i64 k) ∧ Below w.heap.size w w') := Lib.hid (fun x y k h w => by
  obtain ⟨X, Y, h1, h2, h3, h4, h5⟩ := h.out
  subst h3 h4 h5
  refine (rcmp_any h1 h2 w).mono ?_
  rintro e w' ⟨he, rfl⟩
  exact ⟨he, Below.refl _ _⟩)
def ZerosOk (i : Int) (q : ByteArray) : Prop := ∃ p : Nat, i = p ∧ p ≤ 1000 ∧ Dig.noughts p = q
theorem zeros_ok : Hid (∀ (i : Int) (q : ByteArray), Hid (ZerosOk i q) → ∀ w, Calls Tryd.prog 63 #[.int .i64 i] w fun r w' => r = .returned (.string q) ∧ Below w.heap.size w w') := Lib.hid (fun i q h w => by
  obtain ⟨p, rfl, h2, rfl⟩ := h.out
  exact noughts_any (by omega) w)

set_option maxHeartbeats 4000000 in
set_option maxRecDepth 100000 in
theorem rsize_za {a b : Dec.Dc} (ha : Dec.ok a) (hb : Dec.ok b) (a0 : a.m = 0) (w : World) :
    Calls Tryd.prog 77 #[Dec.ag a, Dec.ag b] w fun r w' => r = .returned (.int .i64 (Dig.cmp (Dec.al a b).1 (Dec.al a b).2.1)) ∧ Below w.heap.size w w' := by
  have hal : (Dec.al a b).1 = a.m ∧ (Dec.al a b).2.1 = b.m := by unfold Dec.al; rw [if_pos a0, a0]; exact ⟨rfl, rfl⟩
  rw [hal.1, hal.2]
  have H := Lib.hid (rcmp_any (Dec.str_st (m := a.m) (by have := (Dec.ok_all ha).1; omega)) (Dec.str_st (m := b.m) (by have := (Dec.ok_all hb).1; omega)))
  skip
  obtain ⟨n, m, e⟩ := a
  obtain ⟨n', m', e'⟩ := b
  unfold Dec.ag
  dsimp only at *
  generalize Dig.cmp m m' = c at *
  subst a0
  rw [Dec.st0] at H ⊢
  clear ha hb hal 
  generalize Dig.st m' = y at *
  have K := B2.new w n ⟨#[]⟩ e n' y e'
  go_enter Tryd.func77, Tryd.ntmps77
  go_wp2_with fail
  refine (H.out _).mono ?_; rintro _ w1 ⟨rfl, rfl⟩
  go_wp2
  go_ret
  exact ⟨rfl, K.below⟩
set_option maxHeartbeats 4000000 in
set_option maxRecDepth 100000 in
theorem rsize_zb {a b : Dec.Dc} (ha : Dec.ok a) (hb : Dec.ok b) (a0 : a.m ≠ 0) (b0 : b.m = 0) (w : World) :
    Calls Tryd.prog 77 #[Dec.ag a, Dec.ag b] w fun r w' => r = .returned (.int .i64 (Dig.cmp (Dec.al a b).1 (Dec.al a b).2.1)) ∧ Below w.heap.size w w' := by
  have hal : (Dec.al a b).1 = a.m ∧ (Dec.al a b).2.1 = b.m := by unfold Dec.al; rw [if_neg a0, if_pos b0, b0]; exact ⟨rfl, rfl⟩
  rw [hal.1, hal.2]
  have H := Lib.hid (rcmp_any (Dec.str_st (m := a.m) (by have := (Dec.ok_all ha).1; omega)) (Dec.str_st (m := b.m) (by have := (Dec.ok_all hb).1; omega)))
  have ne := Dig.some_of (Dec.st_pos a0)
  obtain ⟨n, m, e⟩ := a
  obtain ⟨n', m', e'⟩ := b
  unfold Dec.ag
  dsimp only at *
  generalize Dig.cmp m m' = c at *
  subst b0
  rw [Dec.st0] at H ⊢
  clear ha hb hal a0
  generalize Dig.st m = x at *
  have K := B2.new w n x e n' ⟨#[]⟩ e'
  go_enter Tryd.func77, Tryd.ntmps77
  go_wp2_with fail
  refine (H.out _).mono ?_; rintro _ w1 ⟨rfl, rfl⟩
  go_wp2
  go_ret
  exact ⟨rfl, K.below⟩
set_option maxHeartbeats 4000000 in
set_option maxRecDepth 100000 in
theorem rsize_lt {a b : Dec.Dc} (ha : Dec.ok a) (hb : Dec.ok b) (a0 : a.m ≠ 0) (b0 : b.m ≠ 0) (h : ((Dig.st a.m).size : Int) + a.e < (Dig.st b.m).size + b.e) (w : World) :
    Calls Tryd.prog 77 #[Dec.ag a, Dec.ag b] w fun r w' => r = .returned (.int .i64 (Dig.cmp (Dec.al a b).1 (Dec.al a b).2.1)) ∧ Below w.heap.size w w' := by
  obtain ⟨a1, a2, a3, _⟩ := Dec.ok_all ha
  obtain ⟨b1, b2, b3, _⟩ := Dec.ok_all hb
  have ne1 := Dig.some_of (Dec.st_pos a0)
  have ne2 := Dig.some_of (Dec.st_pos b0)
  rw [Dec.size_lt a0 b0 h]
  obtain ⟨n, m, e⟩ := a
  obtain ⟨n', m', e'⟩ := b
  unfold Dec.ag
  dsimp only at *
  clear ha hb
  clear a0 b0
  generalize Dig.st m = x at *
  generalize Dig.st m' = y at *
  obtain ⟨P, hP⟩ : ∃ P : Int, (x.size : Int) + e = P := ⟨_, rfl⟩
  obtain ⟨Q, hQ⟩ : ∃ Q : Int, (y.size : Int) + e' = Q := ⟨_, rfl⟩
  have hp1 : P ≤ 600 := by omega
  have hp2 : -600 ≤ P := by omega
  have hq1 : Q ≤ 600 := by omega
  have hq2 : -600 ≤ Q := by omega
  have hwP : IntKind.i64.wrap P = P := by rw [IntKind.wrap_i64]; omega
  have hwQ : IntKind.i64.wrap Q = Q := by rw [IntKind.wrap_i64]; omega
  have d1 : decide (P < Q) = true := decide_eq_true (by omega)
  clear h 
  have K := B2.new w n x e n' y e'
  have x0 := K.all.1; have x1 := K.all.2.1; have x2 := K.all.2.2.1; have y0 := K.all.2.2.2.1; have y1 := K.all.2.2.2.2.1; have y2 := K.all.2.2.2.2.2.1
  go_enter Tryd.func77, Tryd.ntmps77
  go_upto_region 3 with fail
  go_quiet (fail)
  go_wp2
  go_ret
  exact ⟨rfl, ⟨K.below.os, K.below.tape, K.below.output, K.below.size, K.below.block⟩⟩
set_option maxHeartbeats 4000000 in
set_option maxRecDepth 100000 in
theorem rsize_gt {a b : Dec.Dc} (ha : Dec.ok a) (hb : Dec.ok b) (a0 : a.m ≠ 0) (b0 : b.m ≠ 0) (h : ((Dig.st b.m).size : Int) + b.e < (Dig.st a.m).size + a.e) (w : World) :
    Calls Tryd.prog 77 #[Dec.ag a, Dec.ag b] w fun r w' => r = .returned (.int .i64 (Dig.cmp (Dec.al a b).1 (Dec.al a b).2.1)) ∧ Below w.heap.size w w' := by
  obtain ⟨a1, a2, a3, _⟩ := Dec.ok_all ha
  obtain ⟨b1, b2, b3, _⟩ := Dec.ok_all hb
  have ne1 := Dig.some_of (Dec.st_pos a0)
  have ne2 := Dig.some_of (Dec.st_pos b0)
  rw [Dec.size_gt a0 b0 h]
  obtain ⟨n, m, e⟩ := a
  obtain ⟨n', m', e'⟩ := b
  unfold Dec.ag
  dsimp only at *
  clear ha hb
  clear a0 b0
  generalize Dig.st m = x at *
  generalize Dig.st m' = y at *
  obtain ⟨P, hP⟩ : ∃ P : Int, (x.size : Int) + e = P := ⟨_, rfl⟩
  obtain ⟨Q, hQ⟩ : ∃ Q : Int, (y.size : Int) + e' = Q := ⟨_, rfl⟩
  have hp1 : P ≤ 600 := by omega
  have hp2 : -600 ≤ P := by omega
  have hq1 : Q ≤ 600 := by omega
  have hq2 : -600 ≤ Q := by omega
  have hwP : IntKind.i64.wrap P = P := by rw [IntKind.wrap_i64]; omega
  have hwQ : IntKind.i64.wrap Q = Q := by rw [IntKind.wrap_i64]; omega
  have d1 : decide (P < Q) = false := decide_eq_false (by omega)
  have d2 : decide (Q < P) = true := decide_eq_true (by omega)
  clear h 
  have K := B2.new w n x e n' y e'
  have x0 := K.all.1; have x1 := K.all.2.1; have x2 := K.all.2.2.1; have y0 := K.all.2.2.2.1; have y1 := K.all.2.2.2.2.1; have y2 := K.all.2.2.2.2.2.1
  go_enter Tryd.func77, Tryd.ntmps77
  go_upto_region 3 with fail
  go_quiet (fail)
  go_wp2
  go_ret
  exact ⟨rfl, ⟨K.below.os, K.below.tape, K.below.output, K.below.size, K.below.block⟩⟩
set_option maxHeartbeats 4000000 in
set_option maxRecDepth 100000 in
theorem rsize_ge {a b : Dec.Dc} (ha : Dec.ok a) (hb : Dec.ok b) (a0 : a.m ≠ 0) (b0 : b.m ≠ 0) (h : ((Dig.st a.m).size : Int) + a.e = (Dig.st b.m).size + b.e) (hn : (Dig.st b.m).size ≤ (Dig.st a.m).size) (w : World) :
    Calls Tryd.prog 77 #[Dec.ag a, Dec.ag b] w fun r w' => r = .returned (.int .i64 (Dig.cmp (Dec.al a b).1 (Dec.al a b).2.1)) ∧ Below w.heap.size w w' := by
  obtain ⟨a1, a2, a3, _⟩ := Dec.ok_all ha
  obtain ⟨b1, b2, b3, _⟩ := Dec.ok_all hb
  have ne1 := Dig.some_of (Dec.st_pos a0)
  have ne2 := Dig.some_of (Dec.st_pos b0)
  obtain ⟨l1, l2⟩ := Dec.size_ge a0 b0 h hn
  rw [l1, l2]
  have HC : Hid (CmpOk (Dig.st a.m ++ ⟨#[]⟩) (Dig.st b.m ++ Dig.noughts ((Dig.st a.m).size - (Dig.st b.m).size)) (Dig.cmp a.m (b.m * 10 ^ ((Dig.st a.m).size - (Dig.st b.m).size)))) := Lib.hid ⟨a.m, b.m * 10 ^ ((Dig.st a.m).size - (Dig.st b.m).size), Dec.str_st (by omega), Dec.str_st (by rw [Dec.st_len10 b0]; omega), (app_nil _).symm, by rw [Dec.st_mul b0], rfl⟩
  have HZ0 : Hid (ZerosOk 0 ⟨#[]⟩) := Lib.hid ⟨0, rfl, by omega, rfl⟩
  obtain ⟨p, hp⟩ : ∃ p : Nat, (Dig.st a.m).size - (Dig.st b.m).size = p := ⟨_, rfl⟩
  have hps : ((Dig.st a.m).size : Int) - (Dig.st b.m).size = p := by omega
  have hps2 : ((Dig.st a.m).size : Int) - (Dig.st a.m).size = 0 := by omega
  have hwp1 : IntKind.i64.wrap (p : Int) = p := by rw [IntKind.wrap_i64]; omega
  have hwp2 := hwp1
  rw [← hps] at hwp2
  have hwp3 := hwp2.trans hps
  clear hwp2
  rw [hp] at HC ⊢
  have HZ1 : Hid (ZerosOk p (Dig.noughts p)) := Lib.hid ⟨p, rfl, by omega, rfl⟩
  have hu := Dig.noughts_size p
  clear l1 l2
  have HCO := rcmp_ok
  have HZO := zeros_ok
  have HC2 := HC
  rw [app_nil] at HC2
  have k3 : ¬ 9223372036854775807 < (Dig.st a.m).size := by omega
  have k4 : ¬ 9223372036854775807 < (Dig.st b.m).size := by omega
  have k1 : ¬ 9223372036854775807 < (Dig.st a.m).size + (Dig.noughts p).size := by omega
  have k2 : ¬ 9223372036854775807 < (Dig.st b.m).size + (Dig.noughts p).size := by omega
  clear hu
  obtain ⟨n, m, e⟩ := a
  obtain ⟨n', m', e'⟩ := b
  unfold Dec.ag
  dsimp only at *
  clear ha hb
  generalize Dig.cmp m (m' * 10 ^ p) = c at *
  clear a0 b0 hp
  generalize Dig.noughts p = u at *
  generalize Dig.st m = x at *
  generalize Dig.st m' = y at *
  obtain ⟨P, hP⟩ : ∃ P : Int, (x.size : Int) + e = P := ⟨_, rfl⟩
  obtain ⟨Q, hQ⟩ : ∃ Q : Int, (y.size : Int) + e' = Q := ⟨_, rfl⟩
  have hp1 : P ≤ 600 := by omega
  have hp2 : -600 ≤ P := by omega
  have hq1 : Q ≤ 600 := by omega
  have hq2 : -600 ≤ Q := by omega
  have hwP : IntKind.i64.wrap P = P := by rw [IntKind.wrap_i64]; omega
  have hwQ : IntKind.i64.wrap Q = Q := by rw [IntKind.wrap_i64]; omega
  obtain rfl : P = Q := by omega
  have d1 : decide (P < P) = false := decide_eq_false (by omega)
  have d3 : decide (x.size < y.size) = false := decide_eq_false (by omega)
  have d3' : decide ((x.size : Int) < y.size) = false := decide_eq_false (by omega)
  clear h hn
  have K := B2.new w n x e n' y e'
  have x0 := K.all.1; have x1 := K.all.2.1; have x2 := K.all.2.2.1; have y0 := K.all.2.2.2.1; have y1 := K.all.2.2.2.2.1; have y2 := K.all.2.2.2.2.2.1
  go_enter Tryd.func77, Tryd.ntmps77
  go_upto_region 3 with fail
  go_quiet (fail)
  go_upto_region 11 with fail
  go_region_held3 (fun W => W.cell? ⟨w.heap.size, 0, none⟩ = some (.bool n) ∧ W.cell? ⟨w.heap.size, 1, none⟩ = some (.string x) ∧ W.cell? ⟨w.heap.size, 2, none⟩ = some (.int .i64 e) ∧ W.cell? ⟨w.heap.size + 1, 0, none⟩ = some (.bool n') ∧ W.cell? ⟨w.heap.size + 1, 1, none⟩ = some (.string y) ∧ W.cell? ⟨w.heap.size + 1, 2, none⟩ = some (.int .i64 e') ∧ B2 w W n x e n' y e') (first | exact (K.drewN _).drew.full | exact keep_b2f (by assumption) (by assumption)) (first | (go_at_call 63; refine (HZO.out _ _ (by assumption) _).mono ?_; rintro _ w3 ⟨rfl, hb3⟩) | (go_at_call 75; refine (HCO.out _ _ _ (by assumption) _).mono ?_; rintro _ w4 ⟨rfl, hb4⟩))
  all_goals
    rename_i kept
    go_wp2
    go_ret
    exact ⟨rfl, (seventh kept).below⟩
set_option maxHeartbeats 4000000 in
set_option maxRecDepth 100000 in
theorem rsize_le {a b : Dec.Dc} (ha : Dec.ok a) (hb : Dec.ok b) (a0 : a.m ≠ 0) (b0 : b.m ≠ 0) (h : ((Dig.st a.m).size : Int) + a.e = (Dig.st b.m).size + b.e) (hn : (Dig.st a.m).size < (Dig.st b.m).size) (w : World) :
    Calls Tryd.prog 77 #[Dec.ag a, Dec.ag b] w fun r w' => r = .returned (.int .i64 (Dig.cmp (Dec.al a b).1 (Dec.al a b).2.1)) ∧ Below w.heap.size w w' := by
  obtain ⟨a1, a2, a3, _⟩ := Dec.ok_all ha
  obtain ⟨b1, b2, b3, _⟩ := Dec.ok_all hb
  have ne1 := Dig.some_of (Dec.st_pos a0)
  have ne2 := Dig.some_of (Dec.st_pos b0)
  obtain ⟨l1, l2⟩ := Dec.size_le a0 b0 h (by omega)
  rw [l1, l2]
  have HC : Hid (CmpOk (Dig.st a.m ++ Dig.noughts ((Dig.st b.m).size - (Dig.st a.m).size)) (Dig.st b.m ++ ⟨#[]⟩) (Dig.cmp (a.m * 10 ^ ((Dig.st b.m).size - (Dig.st a.m).size)) b.m)) := Lib.hid ⟨a.m * 10 ^ ((Dig.st b.m).size - (Dig.st a.m).size), b.m, Dec.str_st (by rw [Dec.st_len10 a0]; omega), Dec.str_st (by omega), by rw [Dec.st_mul a0], (app_nil _).symm, rfl⟩
  have HZ0 : Hid (ZerosOk 0 ⟨#[]⟩) := Lib.hid ⟨0, rfl, by omega, rfl⟩
  obtain ⟨p, hp⟩ : ∃ p : Nat, (Dig.st b.m).size - (Dig.st a.m).size = p := ⟨_, rfl⟩
  have hps : ((Dig.st b.m).size : Int) - (Dig.st a.m).size = p := by omega
  have hps2 : ((Dig.st b.m).size : Int) - (Dig.st b.m).size = 0 := by omega
  have hwp1 : IntKind.i64.wrap (p : Int) = p := by rw [IntKind.wrap_i64]; omega
  have hwp2 := hwp1
  rw [← hps] at hwp2
  have hwp3 := hwp2.trans hps
  clear hwp2
  rw [hp] at HC ⊢
  have HZ1 : Hid (ZerosOk p (Dig.noughts p)) := Lib.hid ⟨p, rfl, by omega, rfl⟩
  have hu := Dig.noughts_size p
  clear l1 l2
  have HCO := rcmp_ok
  have HZO := zeros_ok
  have HC2 := HC
  rw [app_nil] at HC2
  have k3 : ¬ 9223372036854775807 < (Dig.st a.m).size := by omega
  have k4 : ¬ 9223372036854775807 < (Dig.st b.m).size := by omega
  have k1 : ¬ 9223372036854775807 < (Dig.st a.m).size + (Dig.noughts p).size := by omega
  have k2 : ¬ 9223372036854775807 < (Dig.st b.m).size + (Dig.noughts p).size := by omega
  clear hu
  obtain ⟨n, m, e⟩ := a
  obtain ⟨n', m', e'⟩ := b
  unfold Dec.ag
  dsimp only at *
  clear ha hb
  generalize Dig.cmp (m * 10 ^ p) m' = c at *
  clear a0 b0 hp
  generalize Dig.noughts p = u at *
  generalize Dig.st m = x at *
  generalize Dig.st m' = y at *
  obtain ⟨P, hP⟩ : ∃ P : Int, (x.size : Int) + e = P := ⟨_, rfl⟩
  obtain ⟨Q, hQ⟩ : ∃ Q : Int, (y.size : Int) + e' = Q := ⟨_, rfl⟩
  have hp1 : P ≤ 600 := by omega
  have hp2 : -600 ≤ P := by omega
  have hq1 : Q ≤ 600 := by omega
  have hq2 : -600 ≤ Q := by omega
  have hwP : IntKind.i64.wrap P = P := by rw [IntKind.wrap_i64]; omega
  have hwQ : IntKind.i64.wrap Q = Q := by rw [IntKind.wrap_i64]; omega
  obtain rfl : P = Q := by omega
  have d1 : decide (P < P) = false := decide_eq_false (by omega)
  have d3 : decide (x.size < y.size) = true := decide_eq_true (by omega)
  have d3' : decide ((x.size : Int) < y.size) = true := decide_eq_true (by omega)
  clear h hn
  have K := B2.new w n x e n' y e'
  have x0 := K.all.1; have x1 := K.all.2.1; have x2 := K.all.2.2.1; have y0 := K.all.2.2.2.1; have y1 := K.all.2.2.2.2.1; have y2 := K.all.2.2.2.2.2.1
  go_enter Tryd.func77, Tryd.ntmps77
  go_upto_region 3 with fail
  go_quiet (fail)
  go_upto_region 11 with fail
  go_region_held3 (fun W => W.cell? ⟨w.heap.size, 0, none⟩ = some (.bool n) ∧ W.cell? ⟨w.heap.size, 1, none⟩ = some (.string x) ∧ W.cell? ⟨w.heap.size, 2, none⟩ = some (.int .i64 e) ∧ W.cell? ⟨w.heap.size + 1, 0, none⟩ = some (.bool n') ∧ W.cell? ⟨w.heap.size + 1, 1, none⟩ = some (.string y) ∧ W.cell? ⟨w.heap.size + 1, 2, none⟩ = some (.int .i64 e') ∧ B2 w W n x e n' y e') (first | exact (K.drewN _).drew.full | exact keep_b2f (by assumption) (by assumption)) (first | (go_at_call 63; refine (HZO.out _ _ (by assumption) _).mono ?_; rintro _ w3 ⟨rfl, hb3⟩) | (go_at_call 75; refine (HCO.out _ _ _ (by assumption) _).mono ?_; rintro _ w4 ⟨rfl, hb4⟩))
  all_goals
    rename_i kept
    go_wp2
    go_ret
    exact ⟨rfl, (seventh kept).below⟩
theorem rsize_any {a b : Dec.Dc} (ha : Dec.ok a) (hb : Dec.ok b) (w : World) :
    Calls Tryd.prog 77 #[Dec.ag a, Dec.ag b] w fun r w' => r = .returned (.int .i64 (Dig.cmp (Dec.al a b).1 (Dec.al a b).2.1)) ∧ Below w.heap.size w w' := by
  by_cases a0 : a.m = 0
  · exact rsize_za ha hb a0 w
  by_cases b0 : b.m = 0
  · exact rsize_zb ha hb a0 b0 w
  rcases Int.lt_trichotomy (((Dig.st a.m).size : Int) + a.e) ((Dig.st b.m).size + b.e) with h | h | h
  · exact rsize_lt ha hb a0 b0 h w
  · by_cases hn : (Dig.st b.m).size ≤ (Dig.st a.m).size
    · exact rsize_ge ha hb a0 b0 h hn w
    · exact rsize_le ha hb a0 b0 h (by omega) w
  · exact rsize_gt ha hb a0 b0 h w
set_option maxHeartbeats 2000000 in
set_option maxRecDepth 100000 in
theorem rorder_any {a b : Dec.Dc} (ha : Dec.ok a) (hb : Dec.ok b) (w : World) :
    Calls Tryd.prog 27 #[Dec.ag a, Dec.ag b] w fun r w' => r = .returned (.int .i64 (Dec.cmpR a b)) ∧ Below w.heap.size w w' := by
  have HAB := Lib.hid (rsize_any ha hb)
  have HBA := Lib.hid (rsize_any hb ha)
  unfold Dec.cmpR
  generalize Dig.cmp (Dec.al a b).1 (Dec.al a b).2.1 = c1 at *
  generalize Dig.cmp (Dec.al b a).1 (Dec.al b a).2.1 = c2 at *
  obtain ⟨n, m, e⟩ := a
  obtain ⟨n', m', e'⟩ := b
  unfold Dec.ag at *
  dsimp only at *
  clear ha hb
  generalize Dig.st m = x at *
  generalize Dig.st m' = y at *
  have K := B2.new w n x e n' y e'
  cases n <;> cases n' <;> simp only [if_true, if_false, Bool.false_eq_true]
  · go_enter Tryd.func27, Tryd.ntmps27
    go_wp2_with fail
    refine (HAB.out _).mono ?_; rintro _ w1 ⟨rfl, hb1⟩
    go_wp2
    go_ret
    exact ⟨rfl, (K.call hb1).below⟩
  · go_enter Tryd.func27, Tryd.ntmps27
    go_wp2_with fail
    go_ret
    exact ⟨rfl, K.below⟩
  · go_enter Tryd.func27, Tryd.ntmps27
    go_wp2_with fail
    go_ret
    exact ⟨rfl, K.below⟩
  · go_enter Tryd.func27, Tryd.ntmps27
    go_wp2_with fail
    refine (HBA.out _).mono ?_; rintro _ w1 ⟨rfl, hb1⟩
    go_wp2
    go_ret
    exact ⟨rfl, (K.call hb1).below⟩
set_option maxHeartbeats 2000000 in
set_option maxRecDepth 100000 in
theorem rneg_any (a : Dec.Dc) (w : World) :
    Calls Tryd.prog 39 #[Dec.ag a] w fun r w' => r = .returned (Dec.ag (Dec.negR a)) ∧ Below w.heap.size w w' := by
  obtain ⟨n, m, e⟩ := a
  unfold Dec.negR Dec.ag
  dsimp only
  by_cases h0 : m = 0
  · rw [if_pos h0, h0, Dec.st0]
    clear h0
    go_enter Tryd.func39, Tryd.ntmps39
    go_wp2
    exact bodyPost_ret (v := .agg #[.bool n, .string ⟨#[]⟩, .int .i64 e]) (by simp [results, Tryd.results39, go_sem]) rfl ⟨rfl, ((Below.refl w.heap.size w).alloc (Nat.le_refl _) _).alloc (by simp) _⟩
  · rw [if_neg h0]
    have ne := Dig.some_of (Dec.st_pos h0)
    dsimp only
    clear h0
    generalize Dig.st m = x at *
    go_enter Tryd.func39, Tryd.ntmps39
    go_wp2
    exact bodyPost_ret (v := .agg #[.bool (!n), .string x, .int .i64 e]) (by simp [results, Tryd.results39, go_sem]) rfl ⟨rfl, ((Below.refl w.heap.size w).alloc (Nat.le_refl _) _).alloc (by simp) _⟩
theorem radd_leaf {a b : Dec.Dc} {rg : Bool} {rm : Nat} {re rr : Int} {q : ByteArray} (ha : Dec.ok a) (hb : Dec.ok b) (h : Dec.addR a b = (⟨rg, rm, re⟩, rr)) (hq : Dig.st rm = q) (w : World) :
    Calls Tryd.prog 25 #[Dec.ag a, Dec.ag b] w fun e w' => e = .returned (.tuple #[.agg #[.bool rg, .string q, .int .i64 re], .int .i64 rr]) ∧ Below w.heap.size w w' := by
  have := radd_any ha hb w
  rw [h] at this
  unfold Dec.ag at this ⊢
  dsimp only at this
  rwa [hq] at this
set_option maxHeartbeats 4000000 in
set_option maxRecDepth 100000 in
theorem rsub_any {a b : Dec.Dc} (ha : Dec.ok a) (hb : Dec.ok b) (w : World) :
    Calls Tryd.prog 26 #[Dec.ag a, Dec.ag b] w fun r w' => r = .returned (.tuple #[Dec.ag (Dec.addR a (Dec.negR b)).1, .int .i64 (Dec.addR a (Dec.negR b)).2]) ∧ Below w.heap.size w w' := by
  have HN := Lib.hid (rneg_any b)
  obtain ⟨R, hR⟩ : ∃ R, Dec.addR a (Dec.negR b) = R := ⟨_, rfl⟩
  rw [hR]
  obtain ⟨⟨rg, rm, re⟩, rr⟩ := R
  obtain ⟨q, hq⟩ : ∃ q, Dig.st rm = q := ⟨_, rfl⟩
  have HA := Lib.hid (radd_leaf ha (Dec.neg_ok hb) hR hq)
  generalize Dec.negR b = c at *
  clear hR ha hb
  obtain ⟨n, m, e⟩ := a
  obtain ⟨n', m', e'⟩ := b
  obtain ⟨n1, m1, e1⟩ := c
  unfold Dec.ag at *
  dsimp only at *
  rw [hq]
  clear hq
  generalize Dig.st m = x at *
  generalize Dig.st m' = y at *
  generalize Dig.st m1 = y1 at *
  have K := B3.new w n x e n' y e'
  obtain ⟨⟨x0, x1, x2⟩, ⟨y0, y1, y2⟩, z0, z1, z2⟩ := K.cells
  go_enter Tryd.func26, Tryd.ntmps26
  go_upto_region 1 with fail
  replace K := K.drew
  go_region_with (first
    | (go_at_call 39; refine (HN.out _).mono ?_; rintro _ w3 ⟨rfl, hb3⟩; replace K := K.call hb3; clear hb3 x0 x1 x2 y0 y1 y2 z0 z1 z2; obtain ⟨⟨x0, x1, x2⟩, ⟨y0, y1, y2⟩, z0, z1, z2⟩ := K.cells)
    | (go_at_call 25; refine (HA.out _).mono ?_; rintro _ w4 ⟨rfl, hb4⟩; replace K := K.call hb4; clear hb4 x0 x1 x2 y0 y1 y2 z0 z1 z2; obtain ⟨⟨x0, x1, x2⟩, ⟨y0, y1, y2⟩, z0, z1, z2⟩ := K.cells; have zf := K.res.frozen))
  all_goals
    obtain ⟨hfin, hbf⟩ := K.put (.bool rg) (.string q) (.int .i64 re)
    go_wp2
    exact bodyPost_ret (v := .tuple #[.agg #[.bool rg, .string q, .int .i64 re], .int .i64 rr]) (by simp [results, Tryd.results26, go_sem, hfin.c3]) rfl ⟨rfl, hbf⟩
end Go.Proofs.YtcnfgcdbjofihaaDoor
