/- Decimals: the reference's products and exact quotients. -/
import Derived.Test.YtcnfgcdbjofihaaDoorDecMul
namespace Go.Proofs.YtcnfgcdbjofihaaDoor
open Go.RowKit

/-- What a cell holds. -/
def cv (W : World) (B i : Nat) : Value := (W.cell? ⟨B, i, none⟩).getD (.bool false)
theorem cv_of {W : World} {B i : Nat} {v : Value} (h : W.cell? ⟨B, i, none⟩ = some v) : W.cell? ⟨B, i, none⟩ = some (cv W B i) := by unfold cv; rw [h]; rfl
/-- Two decimals in boxes, and the block of a result, whatever it holds. -/
structure B3v (w W : World) (n : Bool) (x : ByteArray) (e : Int) (n' : Bool) (y : ByteArray) (e' : Int) : Prop where
  one : Whole W w.heap.size 23 #[.bool n, .string x, .int .i64 e]
  two : Whole W (w.heap.size + 1) 23 #[.bool n', .string y, .int .i64 e']
  res : ∃ a b c, Whole W (w.heap.size + 2) 23 #[a, b, c]
  below : Below w.heap.size w W
section
variable {w W W' : World} {n n' : Bool} {x y : ByteArray} {e e' : Int}
theorem B3.v (h : B3 w W n x e n' y e') : B3v w W n x e n' y e' := ⟨h.one, h.two, ⟨_, _, _, h.res⟩, h.below⟩
theorem B3v.call (h : B3v w W n x e n' y e') (hb : Below W.heap.size W W') : B3v w W' n x e n' y e' := by
  obtain ⟨h1, h2, ⟨a, b, c, h3⟩, h4⟩ := h
  exact ⟨h1.below hb h1.lt, h2.below hb h2.lt, ⟨a, b, c, h3.below hb h3.lt⟩, below_then h4 hb⟩
theorem B3v.put (h : B3v w W n x e n' y e') (a b c : Value) : Whole (((W.setCell ⟨w.heap.size + 2, 0, none⟩ a).setCell ⟨w.heap.size + 2, 1, none⟩ b).setCell ⟨w.heap.size + 2, 2, none⟩ c) (w.heap.size + 2) 23 #[a, b, c] ∧ Below w.heap.size w (((W.setCell ⟨w.heap.size + 2, 0, none⟩ a).setCell ⟨w.heap.size + 2, 1, none⟩ b).setCell ⟨w.heap.size + 2, 2, none⟩ c) := by
  obtain ⟨h1, h2, ⟨a', b', c', h3⟩, h4⟩ := h
  exact ⟨h3.s3 _ _ _, ((h4.setCell (p := ⟨w.heap.size + 2, 0, none⟩) (Nat.le_add_right _ _) _).setCell (p := ⟨w.heap.size + 2, 1, none⟩) (Nat.le_add_right _ _) _).setCell (p := ⟨w.heap.size + 2, 2, none⟩) (Nat.le_add_right _ _) _⟩
theorem B3v.set (h : B3v w W n x e n' y e') (a b c : Value) : B3v w (((W.setCell ⟨w.heap.size + 2, 0, none⟩ a).setCell ⟨w.heap.size + 2, 1, none⟩ b).setCell ⟨w.heap.size + 2, 2, none⟩ c) n x e n' y e' := by
  obtain ⟨k1, k2⟩ := h.put a b c
  refine ⟨?_, ?_, ⟨a, b, c, k1⟩, k2⟩
  · exact ((h.one.far (p := ⟨w.heap.size + 2, 0, none⟩) (by simp) a).far (p := ⟨w.heap.size + 2, 1, none⟩) (by simp) b).far (p := ⟨w.heap.size + 2, 2, none⟩) (by simp) c
  · exact ((h.two.far (p := ⟨w.heap.size + 2, 0, none⟩) (by simp) a).far (p := ⟨w.heap.size + 2, 1, none⟩) (by simp) b).far (p := ⟨w.heap.size + 2, 2, none⟩) (by simp) c
theorem B3v.full (h : B3v w W n x e n' y e') : W.cell? ⟨w.heap.size, 0, none⟩ = some (.bool n) ∧ W.cell? ⟨w.heap.size, 1, none⟩ = some (.string x) ∧ W.cell? ⟨w.heap.size, 2, none⟩ = some (.int .i64 e) ∧ W.cell? ⟨w.heap.size + 1, 0, none⟩ = some (.bool n') ∧ W.cell? ⟨w.heap.size + 1, 1, none⟩ = some (.string y) ∧ W.cell? ⟨w.heap.size + 1, 2, none⟩ = some (.int .i64 e') ∧ W.frozen? ⟨w.heap.size + 2, 0, none⟩ = false ∧ W.frozen? ⟨w.heap.size + 2, 1, none⟩ = false ∧ W.frozen? ⟨w.heap.size + 2, 2, none⟩ = false ∧ W.cell? ⟨w.heap.size + 2, 0, none⟩ = some (cv W (w.heap.size + 2) 0) ∧ W.cell? ⟨w.heap.size + 2, 1, none⟩ = some (cv W (w.heap.size + 2) 1) ∧ W.cell? ⟨w.heap.size + 2, 2, none⟩ = some (cv W (w.heap.size + 2) 2) ∧ B3v w W n x e n' y e' := by
  obtain ⟨a, b, c, h3⟩ := h.res
  exact ⟨h.one.c3.1, h.one.c3.2.1, h.one.c3.2.2, h.two.c3.1, h.two.c3.2.1, h.two.c3.2.2, h3.frozen 0, h3.frozen 1, h3.frozen 2, cv_of h3.c3.1, cv_of h3.c3.2.1, cv_of h3.c3.2.2, h⟩
end
theorem Whole.back {W : World} {B : Nat} {t : TypeId} {cs : Array Value} {i : Nat} {u : Value} (h : Whole (W.setCell ⟨B, i, none⟩ u) B t cs) : ∃ cs', Whole W B t cs' ∧ cs'.size = cs.size := by
  unfold Whole at h ⊢
  simp only [World.setCell, Array.getElem?_modify, if_true] at h
  cases hW : W.heap[B]? with
  | none => rw [hW] at h; simp at h
  | some o =>
    rw [hW] at h
    cases o <;> simp at h
    rename_i cs0 t0 fr0
    obtain ⟨h1, h2, h3⟩ := h
    exact ⟨cs0, by rw [h2, h3], by rw [← h1]; simp⟩
theorem B3v.done {w W : World} {n n' : Bool} {x y : ByteArray} {e e' : Int} {a b c : Value} (h : B3v w (((W.setCell ⟨w.heap.size + 1 + 1, 0, none⟩ a).setCell ⟨w.heap.size + 1 + 1, 1, none⟩ b).setCell ⟨w.heap.size + 1 + 1, 2, none⟩ c) n x e n' y e') :
    Whole (((W.setCell ⟨w.heap.size + 1 + 1, 0, none⟩ a).setCell ⟨w.heap.size + 1 + 1, 1, none⟩ b).setCell ⟨w.heap.size + 1 + 1, 2, none⟩ c) (w.heap.size + 1 + 1) 23 #[a, b, c] ∧ Below w.heap.size w (((W.setCell ⟨w.heap.size + 1 + 1, 0, none⟩ a).setCell ⟨w.heap.size + 1 + 1, 1, none⟩ b).setCell ⟨w.heap.size + 1 + 1, 2, none⟩ c) := by
  obtain ⟨a', b', c', h3⟩ := h.res
  obtain ⟨cs1, h4, s4⟩ := h3.back
  obtain ⟨cs2, h5, s5⟩ := h4.back
  obtain ⟨cs3, h6, s6⟩ := h5.back
  have hs : cs3.size = 3 := by rw [s6, s5, s4]; rfl
  obtain ⟨d0, d1, d2, rfl⟩ : ∃ d0 d1 d2, cs3 = #[d0, d1, d2] := by
    obtain ⟨l⟩ := cs3
    match l, hs with
    | [d0, d1, d2], _ => exact ⟨d0, d1, d2, rfl⟩
  exact ⟨h6.s3 _ _ _, h.below⟩
theorem eighth' {A B C D E F G H I J K L M : Prop} (h : A ∧ B ∧ C ∧ D ∧ E ∧ F ∧ G ∧ H ∧ I ∧ J ∧ K ∧ L ∧ M) : M := h.2.2.2.2.2.2.2.2.2.2.2.2
theorem keep_b3v {w W W' : World} {n n' : Bool} {x y : ByteArray} {e e' : Int} (hb : Below W.heap.size W W') (h : W.cell? ⟨w.heap.size, 0, none⟩ = some (.bool n) ∧ W.cell? ⟨w.heap.size, 1, none⟩ = some (.string x) ∧ W.cell? ⟨w.heap.size, 2, none⟩ = some (.int .i64 e) ∧ W.cell? ⟨w.heap.size + 1, 0, none⟩ = some (.bool n') ∧ W.cell? ⟨w.heap.size + 1, 1, none⟩ = some (.string y) ∧ W.cell? ⟨w.heap.size + 1, 2, none⟩ = some (.int .i64 e') ∧ W.frozen? ⟨w.heap.size + 2, 0, none⟩ = false ∧ W.frozen? ⟨w.heap.size + 2, 1, none⟩ = false ∧ W.frozen? ⟨w.heap.size + 2, 2, none⟩ = false ∧ W.cell? ⟨w.heap.size + 2, 0, none⟩ = some (cv W (w.heap.size + 2) 0) ∧ W.cell? ⟨w.heap.size + 2, 1, none⟩ = some (cv W (w.heap.size + 2) 1) ∧ W.cell? ⟨w.heap.size + 2, 2, none⟩ = some (cv W (w.heap.size + 2) 2) ∧ B3v w W n x e n' y e') : W'.cell? ⟨w.heap.size, 0, none⟩ = some (.bool n) ∧ W'.cell? ⟨w.heap.size, 1, none⟩ = some (.string x) ∧ W'.cell? ⟨w.heap.size, 2, none⟩ = some (.int .i64 e) ∧ W'.cell? ⟨w.heap.size + 1, 0, none⟩ = some (.bool n') ∧ W'.cell? ⟨w.heap.size + 1, 1, none⟩ = some (.string y) ∧ W'.cell? ⟨w.heap.size + 1, 2, none⟩ = some (.int .i64 e') ∧ W'.frozen? ⟨w.heap.size + 2, 0, none⟩ = false ∧ W'.frozen? ⟨w.heap.size + 2, 1, none⟩ = false ∧ W'.frozen? ⟨w.heap.size + 2, 2, none⟩ = false ∧ W'.cell? ⟨w.heap.size + 2, 0, none⟩ = some (cv W' (w.heap.size + 2) 0) ∧ W'.cell? ⟨w.heap.size + 2, 1, none⟩ = some (cv W' (w.heap.size + 2) 1) ∧ W'.cell? ⟨w.heap.size + 2, 2, none⟩ = some (cv W' (w.heap.size + 2) 2) ∧ B3v w W' n x e n' y e' := ((eighth' h).call hb).full
theorem keep_b3s {w W : World} {n n' : Bool} {x y : ByteArray} {e e' : Int} {a b c : Value} (h : W.cell? ⟨w.heap.size, 0, none⟩ = some (.bool n) ∧ W.cell? ⟨w.heap.size, 1, none⟩ = some (.string x) ∧ W.cell? ⟨w.heap.size, 2, none⟩ = some (.int .i64 e) ∧ W.cell? ⟨w.heap.size + 1, 0, none⟩ = some (.bool n') ∧ W.cell? ⟨w.heap.size + 1, 1, none⟩ = some (.string y) ∧ W.cell? ⟨w.heap.size + 1, 2, none⟩ = some (.int .i64 e') ∧ W.frozen? ⟨w.heap.size + 2, 0, none⟩ = false ∧ W.frozen? ⟨w.heap.size + 2, 1, none⟩ = false ∧ W.frozen? ⟨w.heap.size + 2, 2, none⟩ = false ∧ W.cell? ⟨w.heap.size + 2, 0, none⟩ = some (cv W (w.heap.size + 2) 0) ∧ W.cell? ⟨w.heap.size + 2, 1, none⟩ = some (cv W (w.heap.size + 2) 1) ∧ W.cell? ⟨w.heap.size + 2, 2, none⟩ = some (cv W (w.heap.size + 2) 2) ∧ B3v w W n x e n' y e') : (fun W => W.cell? ⟨w.heap.size, 0, none⟩ = some (.bool n) ∧ W.cell? ⟨w.heap.size, 1, none⟩ = some (.string x) ∧ W.cell? ⟨w.heap.size, 2, none⟩ = some (.int .i64 e) ∧ W.cell? ⟨w.heap.size + 1, 0, none⟩ = some (.bool n') ∧ W.cell? ⟨w.heap.size + 1, 1, none⟩ = some (.string y) ∧ W.cell? ⟨w.heap.size + 1, 2, none⟩ = some (.int .i64 e') ∧ W.frozen? ⟨w.heap.size + 2, 0, none⟩ = false ∧ W.frozen? ⟨w.heap.size + 2, 1, none⟩ = false ∧ W.frozen? ⟨w.heap.size + 2, 2, none⟩ = false ∧ W.cell? ⟨w.heap.size + 2, 0, none⟩ = some (cv W (w.heap.size + 2) 0) ∧ W.cell? ⟨w.heap.size + 2, 1, none⟩ = some (cv W (w.heap.size + 2) 1) ∧ W.cell? ⟨w.heap.size + 2, 2, none⟩ = some (cv W (w.heap.size + 2) 2) ∧ B3v w W n x e n' y e') (((W.setCell ⟨w.heap.size + 2, 0, none⟩ a).setCell ⟨w.heap.size + 2, 1, none⟩ b).setCell ⟨w.heap.size + 2, 2, none⟩ c) := ((eighth' h).set a b c).full

set_option maxHeartbeats 2000000 in
set_option maxRecDepth 100000 in
theorem rmul_any {a b : Dec.Dc} (ha : Dec.ok a) (hb : Dec.ok b) (w : World) :
    Calls Tryd.prog 48 #[Dec.ag a, Dec.ag b] w fun r w' => r = .returned (.tuple #[Dec.ag (Dec.mulR a b).1, .int .i64 (Dec.mulR a b).2]) ∧ Below w.heap.size w w' := by
  obtain ⟨a1, a2, a3, _⟩ := Dec.ok_all ha
  obtain ⟨b1, b2, b3, _⟩ := Dec.ok_all hb
  have hlt : a.m * b.m < Dig.big 240 := Dec.lt_mul (Dec.ok_lt ha) (Dec.ok_lt hb) rfl
  have HM := Lib.hid (fun w => by have := rtimes_any (Dec.str_st (m := a.m) (by omega)) (Dec.str_st (m := b.m) (by omega)) w; rwa [Dig.V_st, Dig.V_st] at this)
  obtain ⟨ng, hng⟩ : ∃ ng, (a.neg != b.neg) = ng := ⟨_, rfl⟩
  have hng2 : (!(a.neg == b.neg)) = ng := hng
  obtain ⟨z, hz⟩ : ∃ z, a.e + b.e = z := ⟨_, rfl⟩
  have hwz : IntKind.i64.wrap z = z := by rw [IntKind.wrap_i64]; omega
  have hwz2 : IntKind.i64.wrap (a.e + b.e) = z := by rw [hz]; exact hwz
  unfold Dec.mulR
  rw [hng, hz]
  obtain ⟨R, hR⟩ : ∃ R, Dec.normR ng (a.m * b.m) z = R := ⟨_, rfl⟩
  rw [hR]
  obtain ⟨⟨rg, rm, re⟩, rr⟩ := R
  obtain ⟨q, hq⟩ : ∃ q, Dig.st rm = q := ⟨_, rfl⟩
  have HN := Lib.hid (normal_st (Nat.le_trans ((Dig.st_size _ 240).2 hlt) (by omega)) (by omega) (by omega) hR hq)
  obtain ⟨n, m, e⟩ := a
  obtain ⟨n', m', e'⟩ := b
  unfold Dec.ag at *
  dsimp only at *
  rw [hq]
  clear hR hq ha hb hlt a1 b1
  generalize Dig.st (m * m') = S at *
  generalize Dig.st m = x at *
  generalize Dig.st m' = y at *
  have K := B3.new w n x e n' y e'
  obtain ⟨⟨x0, x1, x2⟩, ⟨y0, y1, y2⟩, z0, z1, z2⟩ := K.cells
  go_enter Tryd.func48, Tryd.ntmps48
  go_upto_region 1 with fail
  go_region_held3 (fun W => W.cell? ⟨w.heap.size, 0, none⟩ = some (.bool n) ∧ W.cell? ⟨w.heap.size, 1, none⟩ = some (.string x) ∧ W.cell? ⟨w.heap.size, 2, none⟩ = some (.int .i64 e) ∧ W.cell? ⟨w.heap.size + 1, 0, none⟩ = some (.bool n') ∧ W.cell? ⟨w.heap.size + 1, 1, none⟩ = some (.string y) ∧ W.cell? ⟨w.heap.size + 1, 2, none⟩ = some (.int .i64 e') ∧ W.frozen? ⟨w.heap.size + 2, 0, none⟩ = false ∧ W.frozen? ⟨w.heap.size + 2, 1, none⟩ = false ∧ W.frozen? ⟨w.heap.size + 2, 2, none⟩ = false ∧ W.cell? ⟨w.heap.size + 2, 0, none⟩ = some (cv W (w.heap.size + 2) 0) ∧ W.cell? ⟨w.heap.size + 2, 1, none⟩ = some (cv W (w.heap.size + 2) 1) ∧ W.cell? ⟨w.heap.size + 2, 2, none⟩ = some (cv W (w.heap.size + 2) 2) ∧ B3v w W n x e n' y e') (first | exact K.drew.v.full | exact keep_b3v (by assumption) (by assumption) | exact keep_b3s (by assumption)) (first
    | (go_at_call 88; refine (HM.out _).mono ?_; rintro _ w3 ⟨rfl, hb3⟩)
    | (go_at_call 53; refine (HN.out _).mono ?_; rintro _ w4 ⟨rfl, hb4⟩))
  rename_i kept
  obtain ⟨hfin, hbf⟩ := (eighth' kept).done
  clear kept
  all_goals
    go_wp2
    exact bodyPost_ret (v := .tuple #[.agg #[.bool rg, .string q, .int .i64 re], .int .i64 rr]) (by simp [results, Tryd.results48, go_sem, hfin.c3]) rfl ⟨rfl, hbf⟩
set_option maxHeartbeats 4000000 in
set_option maxRecDepth 100000 in
theorem rdiv_b0 {a b : Dec.Dc} (h0 : b.m = 0) (w : World) :
    Calls Tryd.prog 49 #[Dec.ag a, Dec.ag b] w fun r w' => r = .returned (.tuple #[Dec.ag (Dec.divR a b).1, .int .i64 (Dec.divR a b).2]) ∧ Below w.heap.size w w' := by
  unfold Dec.divR
  rw [if_pos h0]
  dsimp only
  rw [Dec.ag_z0]
  obtain ⟨n, m, e⟩ := a
  obtain ⟨n', m', e'⟩ := b
  unfold Dec.ag
  dsimp only at *
  subst h0
  rw [Dec.st0]
  generalize Dig.st m = x at *
  have K := B3.new w n x e n' ⟨#[]⟩ e'
  obtain ⟨⟨x0, x1, x2⟩, ⟨y0, y1, y2⟩, z0, z1, z2⟩ := K.cells
  have zf := K.res.frozen
  go_enter Tryd.func49, Tryd.ntmps49
  go_wp2
  exact bodyPost_ret (v := .tuple #[.agg #[.bool false, .string ⟨#[]⟩, .int .i64 0], .int .i64 14]) (by simp [results, Tryd.results49, go_sem]) rfl ⟨rfl, by first | exact (K.put (.bool false) (.string ⟨#[]⟩) (.int .i64 0)).2 | exact K.below⟩
set_option maxHeartbeats 2000000 in
set_option maxRecDepth 100000 in
theorem rdiv_bad {a b : Dec.Dc} (ha : Dec.ok a) (hb : Dec.ok b) (h0 : b.m ≠ 0) (hr : a.m * Dig.big 400 % b.m ≠ 0) (w : World) :
    Calls Tryd.prog 49 #[Dec.ag a, Dec.ag b] w fun r w' => r = .returned (.tuple #[Dec.ag (Dec.divR a b).1, .int .i64 (Dec.divR a b).2]) ∧ Below w.heap.size w w' := by
  obtain ⟨a1, a2, a3, _⟩ := Dec.ok_all ha
  obtain ⟨b1, b2, b3, _⟩ := Dec.ok_all hb
  have ne2 := Dig.some_of (Dec.st_pos h0)
  have HZ : Hid (∀ w, Calls Tryd.prog 63 #[.int .i64 400] w fun r w' => r = .returned (.string (Dig.noughts 400)) ∧ Below w.heap.size w w') := Lib.hid (fun w => noughts_any (n := 400) (by omega) w)
  have k1 : ¬ 9223372036854775807 < (Dig.st a.m).size + (Dig.noughts 400).size := by rw [Dig.noughts_size]; omega
  have hXs : Dig.alld (Dig.l (Dig.st a.m ++ Dig.noughts 400)) ∧ Dig.V (Dig.st a.m ++ Dig.noughts 400) = a.m * Dig.big 400 := Dec.app_val a.m 400
  have HD := Lib.hid (fun w => by have := rquo_any (a := Dig.st a.m ++ Dig.noughts 400) ⟨hXs.1, by rw [ByteArray.size_append, Dig.noughts_size]; omega⟩ (Nat.lt_of_lt_of_le (Dec.ok_lt hb) (Dig.big_le (show 120 ≤ 900000 by omega))) (Nat.pos_of_ne_zero h0) w; rwa [hXs.2] at this)
  have hQ : a.m * Dig.big 400 / b.m < Dig.big 520 := Nat.lt_of_le_of_lt (Nat.div_le_self _ _) (Dec.lt_mulb (Dec.ok_lt ha) rfl)
  unfold Dec.divR
  rw [if_neg h0, if_pos hr]
  have ne3 := Dig.some_of (Dec.st_pos hr)
  dsimp only
  rw [Dec.ag_z0]
  obtain ⟨r, hr1⟩ : ∃ r, Dig.st (a.m * Dig.big 400 % b.m) = r := ⟨_, rfl⟩
  rw [hr1] at HD ne3
  obtain ⟨d, hd⟩ : ∃ d, Dig.st (a.m * Dig.big 400 / b.m) = d := ⟨_, rfl⟩
  rw [hd] at HD
  clear hXs hQ hr hr1 hd ha hb h0
  obtain ⟨n, m, e⟩ := a
  obtain ⟨n', m', e'⟩ := b
  unfold Dec.ag at *
  dsimp only at *
  generalize Dig.noughts 400 = u at *
  generalize Dig.st m = x at *
  generalize Dig.st m' = y at *
  have K := B3.new w n x e n' y e'
  obtain ⟨⟨x0, x1, x2⟩, ⟨y0, y1, y2⟩, z0, z1, z2⟩ := K.cells
  go_enter Tryd.func49, Tryd.ntmps49
  go_upto_region 3 with fail
  go_region_held3 (fun W => W.cell? ⟨w.heap.size, 0, none⟩ = some (.bool n) ∧ W.cell? ⟨w.heap.size, 1, none⟩ = some (.string x) ∧ W.cell? ⟨w.heap.size, 2, none⟩ = some (.int .i64 e) ∧ W.cell? ⟨w.heap.size + 1, 0, none⟩ = some (.bool n') ∧ W.cell? ⟨w.heap.size + 1, 1, none⟩ = some (.string y) ∧ W.cell? ⟨w.heap.size + 1, 2, none⟩ = some (.int .i64 e') ∧ B3 w W n x e n' y e') (first | exact K.drew.full | exact keep_b3f (by assumption) (by assumption)) (first | (go_at_call 63; refine (HZ.out _).mono ?_; rintro _ w3 ⟨rfl, hb3⟩) | (go_at_call 79; refine (HD.out _).mono ?_; rintro _ w4 ⟨rfl, hb4⟩))
  clear K x0 x1 x2 y0 y1 y2 z0 z1 z2
  rename_i kept
  have K := seventh kept
  clear kept
  obtain ⟨⟨x0, x1, x2⟩, ⟨y0, y1, y2⟩, z0, z1, z2⟩ := K.cells
  have zf := K.res.frozen
  obtain ⟨hfin, hbf⟩ := K.put (.bool false) (.string ⟨#[]⟩) (.int .i64 0)
  go_wp2
  exact bodyPost_ret (v := .tuple #[.agg #[.bool false, .string ⟨#[]⟩, .int .i64 0], .int .i64 15]) (by simp [results, Tryd.results49, go_sem, hfin.c3]) rfl ⟨rfl, hbf⟩
set_option maxHeartbeats 2000000 in
set_option maxRecDepth 100000 in
theorem rdiv_ok {a b : Dec.Dc} (ha : Dec.ok a) (hb : Dec.ok b) (h0 : b.m ≠ 0) (hr : a.m * Dig.big 400 % b.m = 0) (w : World) :
    Calls Tryd.prog 49 #[Dec.ag a, Dec.ag b] w fun r w' => r = .returned (.tuple #[Dec.ag (Dec.divR a b).1, .int .i64 (Dec.divR a b).2]) ∧ Below w.heap.size w w' := by
  obtain ⟨a1, a2, a3, _⟩ := Dec.ok_all ha
  obtain ⟨b1, b2, b3, _⟩ := Dec.ok_all hb
  have ne2 := Dig.some_of (Dec.st_pos h0)
  have HZ : Hid (∀ w, Calls Tryd.prog 63 #[.int .i64 400] w fun r w' => r = .returned (.string (Dig.noughts 400)) ∧ Below w.heap.size w w') := Lib.hid (fun w => noughts_any (n := 400) (by omega) w)
  have k1 : ¬ 9223372036854775807 < (Dig.st a.m).size + (Dig.noughts 400).size := by rw [Dig.noughts_size]; omega
  have hXs : Dig.alld (Dig.l (Dig.st a.m ++ Dig.noughts 400)) ∧ Dig.V (Dig.st a.m ++ Dig.noughts 400) = a.m * Dig.big 400 := Dec.app_val a.m 400
  have HD := Lib.hid (fun w => by have := rquo_any (a := Dig.st a.m ++ Dig.noughts 400) ⟨hXs.1, by rw [ByteArray.size_append, Dig.noughts_size]; omega⟩ (Nat.lt_of_lt_of_le (Dec.ok_lt hb) (Dig.big_le (show 120 ≤ 900000 by omega))) (Nat.pos_of_ne_zero h0) w; rwa [hXs.2] at this)
  have hQ : a.m * Dig.big 400 / b.m < Dig.big 520 := Nat.lt_of_le_of_lt (Nat.div_le_self _ _) (Dec.lt_mulb (Dec.ok_lt ha) rfl)
  unfold Dec.divR
  rw [if_neg h0, if_neg (fun k => k hr)]
  rw [hr, Dec.st0] at HD
  obtain ⟨ng, hng⟩ : ∃ ng, (a.neg != b.neg) = ng := ⟨_, rfl⟩
  have hng2 : (!(a.neg == b.neg)) = ng := hng
  rw [hng]
  obtain ⟨z1, hz1⟩ : ∃ z, a.e - b.e = z := ⟨_, rfl⟩
  obtain ⟨z2, hz2⟩ : ∃ z, z1 - 400 = z := ⟨_, rfl⟩
  have hwa : IntKind.i64.wrap z1 = z1 := by rw [IntKind.wrap_i64]; omega
  have hwb : IntKind.i64.wrap z2 = z2 := by rw [IntKind.wrap_i64]; omega
  have hwc : IntKind.i64.wrap (a.e - b.e) = z1 := by rw [hz1]; exact hwa
  have hwd : IntKind.i64.wrap (z1 - 400) = z2 := by rw [hz2]; exact hwb
  rw [hz1, hz2]
  obtain ⟨R, hR⟩ : ∃ R, Dec.normR ng (a.m * Dig.big 400 / b.m) z2 = R := ⟨_, rfl⟩
  rw [hR]
  obtain ⟨⟨rg, rm, re⟩, rr⟩ := R
  obtain ⟨q, hq⟩ : ∃ q, Dig.st rm = q := ⟨_, rfl⟩
  have HN := Lib.hid (normal_st (Nat.le_trans ((Dig.st_size _ 520).2 hQ) (by omega)) (by omega) (by omega) hR hq)
  have HT := Lib.hid (fun w => by have := rstrip_any (x := Dig.st (a.m * Dig.big 400 / b.m)) (by have := (Dig.st_size _ 520).2 hQ; unfold maxLen; omega) w; rwa [Dig.st_strip (Dec.st_str _), Dig.V_st] at this)
  obtain ⟨d, hd⟩ : ∃ d, Dig.st (a.m * Dig.big 400 / b.m) = d := ⟨_, rfl⟩
  rw [hd] at HD HN HT
  clear hXs hQ hr hR hd ha hb h0
  obtain ⟨n, m, e⟩ := a
  obtain ⟨n', m', e'⟩ := b
  unfold Dec.ag at *
  dsimp only at *
  rw [hq]
  clear hq
  generalize Dig.noughts 400 = u at *
  generalize Dig.st m = x at *
  generalize Dig.st m' = y at *
  have K := B3.new w n x e n' y e'
  obtain ⟨⟨x0, x1, x2⟩, ⟨y0, y1, y2⟩, z0, z1, z2⟩ := K.cells
  go_enter Tryd.func49, Tryd.ntmps49
  go_upto_region 3 with fail
  go_region_held3 (fun W => W.cell? ⟨w.heap.size, 0, none⟩ = some (.bool n) ∧ W.cell? ⟨w.heap.size, 1, none⟩ = some (.string x) ∧ W.cell? ⟨w.heap.size, 2, none⟩ = some (.int .i64 e) ∧ W.cell? ⟨w.heap.size + 1, 0, none⟩ = some (.bool n') ∧ W.cell? ⟨w.heap.size + 1, 1, none⟩ = some (.string y) ∧ W.cell? ⟨w.heap.size + 1, 2, none⟩ = some (.int .i64 e') ∧ B3 w W n x e n' y e') (first | exact K.drew.full | exact keep_b3f (by assumption) (by assumption)) (first | (go_at_call 63; refine (HZ.out _).mono ?_; rintro _ w3 ⟨rfl, hb3⟩) | (go_at_call 79; refine (HD.out _).mono ?_; rintro _ w4 ⟨rfl, hb4⟩))
  clear K x0 x1 x2 y0 y1 y2 z0 z1 z2
  rename_i kept
  have K := seventh kept
  clear kept
  obtain ⟨⟨x0, x1, x2⟩, ⟨y0, y1, y2⟩, z0, z1, z2⟩ := K.cells
  have zf := K.res.frozen
  go_upto_region 6 with fail
  go_region_held3 (fun W => W.cell? ⟨w.heap.size, 0, none⟩ = some (.bool n) ∧ W.cell? ⟨w.heap.size, 1, none⟩ = some (.string x) ∧ W.cell? ⟨w.heap.size, 2, none⟩ = some (.int .i64 e) ∧ W.cell? ⟨w.heap.size + 1, 0, none⟩ = some (.bool n') ∧ W.cell? ⟨w.heap.size + 1, 1, none⟩ = some (.string y) ∧ W.cell? ⟨w.heap.size + 1, 2, none⟩ = some (.int .i64 e') ∧ W.frozen? ⟨w.heap.size + 2, 0, none⟩ = false ∧ W.frozen? ⟨w.heap.size + 2, 1, none⟩ = false ∧ W.frozen? ⟨w.heap.size + 2, 2, none⟩ = false ∧ W.cell? ⟨w.heap.size + 2, 0, none⟩ = some (cv W (w.heap.size + 2) 0) ∧ W.cell? ⟨w.heap.size + 2, 1, none⟩ = some (cv W (w.heap.size + 2) 1) ∧ W.cell? ⟨w.heap.size + 2, 2, none⟩ = some (cv W (w.heap.size + 2) 2) ∧ B3v w W n x e n' y e') (first | exact K.drew.v.full | exact keep_b3v (by assumption) (by assumption) | exact keep_b3s (by assumption) | assumption) (first
    | (go_at_call 85; refine (HT.out _).mono ?_; rintro _ w5 ⟨rfl, rfl⟩)
    | (go_at_call 53; refine (HN.out _).mono ?_; rintro _ w4 ⟨rfl, hb4⟩))
  rename_i kept
  obtain ⟨hfin, hbf⟩ := (eighth' kept).done
  clear kept
  go_wp2
  exact bodyPost_ret (v := .tuple #[.agg #[.bool rg, .string q, .int .i64 re], .int .i64 rr]) (by simp [results, Tryd.results49, go_sem, hfin.c3]) rfl ⟨rfl, hbf⟩
theorem rdiv_any {a b : Dec.Dc} (ha : Dec.ok a) (hb : Dec.ok b) (w : World) :
    Calls Tryd.prog 49 #[Dec.ag a, Dec.ag b] w fun r w' => r = .returned (.tuple #[Dec.ag (Dec.divR a b).1, .int .i64 (Dec.divR a b).2]) ∧ Below w.heap.size w w' := by
  by_cases h0 : b.m = 0
  · exact rdiv_b0 h0 w
  by_cases hr : a.m * Dig.big 400 % b.m = 0
  · exact rdiv_ok ha hb h0 hr w
  · exact rdiv_bad ha hb h0 hr w
end Go.Proofs.YtcnfgcdbjofihaaDoor
