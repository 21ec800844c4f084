/- Decimals: two numbers with one exponent. -/
import Derived.Test.YtcnfgcdbjofihaaDoorDecSum
import Derived.Test.YtcnfgcdbjofihaaDoorDecValid
import Derived.Test.YtcnfgcdbjofihaaDoorDigShift
import Derived.Deep.RegionHeld3
namespace Go.Proofs.YtcnfgcdbjofihaaDoor
open Go.RowKit

/-- Two decimals in boxes. -/
structure B2 (w W : World) (n : Bool) (x : ByteArray) (e : Int) (n' : Bool) (y : ByteArray) (e' : Int) : Prop where
  one : Whole W w.heap.size 23 #[.bool n, .string x, .int .i64 e]
  two : Whole W (w.heap.size + 1) 23 #[.bool n', .string y, .int .i64 e']
  below : Below w.heap.size w W
section
variable {w W : World} {n n' : Bool} {x y : ByteArray} {e e' : Int}
theorem B2.new (w : World) (n : Bool) (x : ByteArray) (e : Int) (n' : Bool) (y : ByteArray) (e' : Int) : B2 w ((w.alloc (.cells #[.bool n, .string x, .int .i64 e] 23)).alloc (.cells #[.bool n', .string y, .int .i64 e'] 23)) n x e n' y e' :=
  ⟨(Whole.new w _ _).alloc _, by have := Whole.new (w.alloc (.cells #[.bool n, .string x, .int .i64 e] 23)) 23 #[.bool n', .string y, .int .i64 e']; simpa using this, ((Below.refl _ _).alloc (Nat.le_refl _) _).alloc (by simp) _⟩
theorem B2.call {W' : World} (h : B2 w W n x e n' y e') (hb : Below W.heap.size W W') : B2 w W' n x e n' y e' := ⟨h.one.below hb h.one.lt, h.two.below hb h.two.lt, below_then h.below hb⟩
theorem B2.cells (h : B2 w W n x e n' y e') : (W.cell? ⟨w.heap.size, 0, none⟩ = some (.bool n) ∧ W.cell? ⟨w.heap.size, 1, none⟩ = some (.string x) ∧ W.cell? ⟨w.heap.size, 2, none⟩ = some (.int .i64 e)) ∧ W.cell? ⟨w.heap.size + 1, 0, none⟩ = some (.bool n') ∧ W.cell? ⟨w.heap.size + 1, 1, none⟩ = some (.string y) ∧ W.cell? ⟨w.heap.size + 1, 2, none⟩ = some (.int .i64 e') := ⟨h.one.c3, h.two.c3⟩
theorem B2.drew (h : B2 w W n x e n' y e') : B2 w W.drew n x e n' y e' := ⟨h.one.drew, h.two.drew, h.below.drew⟩
theorem B2.all (h : B2 w W n x e n' y e') : W.cell? ⟨w.heap.size, 0, none⟩ = some (.bool n) ∧ W.cell? ⟨w.heap.size, 1, none⟩ = some (.string x) ∧ W.cell? ⟨w.heap.size, 2, none⟩ = some (.int .i64 e) ∧ W.cell? ⟨w.heap.size + 1, 0, none⟩ = some (.bool n') ∧ W.cell? ⟨w.heap.size + 1, 1, none⟩ = some (.string y) ∧ W.cell? ⟨w.heap.size + 1, 2, none⟩ = some (.int .i64 e') ∧ w.heap.size + 1 < W.heap.size ∧ Below w.heap.size w W := by
  obtain ⟨⟨a, b, c⟩, d, f, g⟩ := h.cells
  exact ⟨a, b, c, d, f, g, h.two.lt, h.below⟩
end
theorem keep_b2 {w W W' : World} {n n' : Bool} {x y : ByteArray} {e e' : Int} (hb : Below W.heap.size W W') (h : W.cell? ⟨w.heap.size, 0, none⟩ = some (.bool n) ∧ W.cell? ⟨w.heap.size, 1, none⟩ = some (.string x) ∧ W.cell? ⟨w.heap.size, 2, none⟩ = some (.int .i64 e) ∧ W.cell? ⟨w.heap.size + 1, 0, none⟩ = some (.bool n') ∧ W.cell? ⟨w.heap.size + 1, 1, none⟩ = some (.string y) ∧ W.cell? ⟨w.heap.size + 1, 2, none⟩ = some (.int .i64 e') ∧ w.heap.size + 1 < W.heap.size ∧ Below w.heap.size w W) :
    W'.cell? ⟨w.heap.size, 0, none⟩ = some (.bool n) ∧ W'.cell? ⟨w.heap.size, 1, none⟩ = some (.string x) ∧ W'.cell? ⟨w.heap.size, 2, none⟩ = some (.int .i64 e) ∧ W'.cell? ⟨w.heap.size + 1, 0, none⟩ = some (.bool n') ∧ W'.cell? ⟨w.heap.size + 1, 1, none⟩ = some (.string y) ∧ W'.cell? ⟨w.heap.size + 1, 2, none⟩ = some (.int .i64 e') ∧ w.heap.size + 1 < W'.heap.size ∧ Below w.heap.size w W' := by
  obtain ⟨x0, x1, x2, y0, y1, y2, hz, hbb⟩ := h
  have g : ∀ i, W'.cell? ⟨w.heap.size, i, none⟩ = W.cell? ⟨w.heap.size, i, none⟩ := fun i => hb.cell (p := ⟨w.heap.size, i, none⟩) (Nat.lt_trans (Nat.lt_succ_self _) hz)
  have g' : ∀ i, W'.cell? ⟨w.heap.size + 1, i, none⟩ = W.cell? ⟨w.heap.size + 1, i, none⟩ := fun i => hb.cell (p := ⟨w.heap.size + 1, i, none⟩) hz
  exact ⟨(g 0).trans x0, (g 1).trans x1, (g 2).trans x2, (g' 0).trans y0, (g' 1).trans y1, (g' 2).trans y2, Nat.lt_of_lt_of_le hz hb.size, below_then hbb hb⟩
theorem eighth {A B C D E F G H : Prop} (h : A ∧ B ∧ C ∧ D ∧ E ∧ F ∧ G ∧ H) : H := h.2.2.2.2.2.2.2

namespace Dec
/-- A valid decimal. -/
def ok (d : Dc) : Prop := vd d.neg (Dig.st d.m) d.e
theorem ok_all {d : Dc} (h : ok d) : (Dig.st d.m).size ≤ 120 ∧ -400 ≤ d.e ∧ d.e ≤ 400 ∧ (d.m = 0 → d.neg = false ∧ d.e = 0) := by
  unfold ok vd at h
  split at h
  · rename_i h0
    exact ⟨by omega, by omega, by omega, fun _ => h⟩
  · rename_i h0
    exact ⟨h.2.1, h.2.2.2.1, h.2.2.2.2, fun k => by rw [k] at h0; exact absurd (by unfold Dig.st; rw [Dig.num_zero]; rfl) h0⟩
theorem st0 : Dig.st 0 = ⟨#[]⟩ := by unfold Dig.st; rw [Dig.num_zero]; rfl
theorem st_mul {m : Nat} (h : m ≠ 0) (k : Nat) : Dig.st m ++ Dig.noughts k = Dig.st (m * 10 ^ k) := by
  have e : Dig.st m ++ Dig.noughts k = Dig.bs (Dig.num m ++ List.replicate k 48) := by
    apply ByteArray.ext
    rw [ByteArray.data_append]
    apply Array.ext'
    simp [Dig.st, Dig.noughts, Dig.bs]
  rw [e, Dig.num_app0 h]
  rfl
theorem st_pos {m : Nat} (h : m ≠ 0) : 0 < (Dig.st m).size := by
  rcases Nat.eq_zero_or_pos (Dig.st m).size with g | g
  · exact absurd ((Dig.st_size m 0).1 (by omega)) (by unfold Dig.big; simp; omega)
  · exact g
/-- Two numbers with one exponent. -/
def al (a b : Dc) : Nat × Nat × Int :=
  if a.m = 0 then (0, b.m, b.e) else if b.m = 0 then (a.m, 0, a.e) else (a.m * 10 ^ (a.e - min a.e b.e).toNat, b.m * 10 ^ (b.e - min a.e b.e).toNat, min a.e b.e)
end Dec
theorem dvalid_yes {n : Bool} {s : ByteArray} {e : Int} (hs : s.size ≤ maxLen) (h : Dec.vd n s e) (w : World) : Calls Tryd.prog 16 #[.agg #[.bool n, .string s, .int .i64 e]] w fun r w' => r = .returned (.bool true) ∧ Below w.heap.size w w' := by
  have := dvalid_any n hs e w
  rwa [decide_eq_true h] at this

set_option maxHeartbeats 4000000 in
set_option maxRecDepth 100000 in
theorem align_any {a b : Dec.Dc} (ha : Dec.ok a) (hb : Dec.ok b) (w : World) :
    Calls Tryd.prog 68 #[Dec.ag a, Dec.ag b] w fun r w' => r = .returned (.tuple #[.string (Dig.st (Dec.al a b).1), .string (Dig.st (Dec.al a b).2.1), .int .i64 (Dec.al a b).2.2]) ∧ Below w.heap.size w w' := by
  obtain ⟨a1, a2, a3, a4⟩ := Dec.ok_all ha
  obtain ⟨b1, b2, b3, b4⟩ := Dec.ok_all hb
  have VA := Lib.hid (dvalid_yes (by unfold maxLen; omega) ha)
  have VB := Lib.hid (dvalid_yes (by unfold maxLen; omega) hb)
  clear ha hb a4 b4
  obtain ⟨n, m, e⟩ := a
  obtain ⟨n', m', e'⟩ := b
  unfold Dec.ag Dec.al
  dsimp only at *
  have K := B2.new w n (Dig.st m) e n' (Dig.st m') e'
  by_cases c1 : m = 0
  · rw [if_pos c1]
    dsimp only
    rw [c1, Dec.st0] at VA K a1
    rw [c1, Dec.st0]
    generalize Dig.st m' = y at *
    clear c1
    go_enter Tryd.func68, Tryd.ntmps68
    go_wp2_with fail
    refine (VA.out _).mono ?_; rintro _ w1 ⟨rfl, hb1⟩
    replace K := K.call hb1
    clear hb1
    obtain ⟨⟨x0, x1, x2⟩, y0, y1, y2⟩ := K.cells
    go_wp2_with fail
    refine (VB.out _).mono ?_; rintro _ w2 ⟨rfl, hb2⟩
    replace K := K.call hb2
    clear hb2 x0 x1 x2 y0 y1 y2
    obtain ⟨⟨x0, x1, x2⟩, y0, y1, y2⟩ := K.cells
    go_wp2_with fail
    go_quiet (fail)
    go_wp2
    go_ret3
    exact ⟨rfl, ⟨K.below.os, K.below.tape, K.below.output, K.below.size, K.below.block⟩⟩
  rw [if_neg c1]
  have p1 := Dec.st_pos c1
  have ne1 := Dig.some_of p1
  by_cases c2 : m' = 0
  · rw [if_pos c2]
    dsimp only
    rw [c2, Dec.st0] at VB K b1
    rw [c2, Dec.st0]
    generalize Dig.st m = x at *
    clear c1 c2
    go_enter Tryd.func68, Tryd.ntmps68
    go_wp2_with fail
    refine (VA.out _).mono ?_; rintro _ w1 ⟨rfl, hb1⟩
    replace K := K.call hb1
    clear hb1
    obtain ⟨⟨x0, x1, x2⟩, y0, y1, y2⟩ := K.cells
    go_wp2_with fail
    refine (VB.out _).mono ?_; rintro _ w2 ⟨rfl, hb2⟩
    replace K := K.call hb2
    clear hb2 x0 x1 x2 y0 y1 y2
    obtain ⟨⟨x0, x1, x2⟩, y0, y1, y2⟩ := K.cells
    go_wp2_with fail
    go_quiet (fail)
    go_wp2
    go_ret3
    exact ⟨rfl, ⟨K.below.os, K.below.tape, K.below.output, K.below.size, K.below.block⟩⟩
  rw [if_neg c2]
  dsimp only
  have p2 := Dec.st_pos c2
  have ne2 := Dig.some_of p2
  obtain ⟨z, hz, hz1, hz2, hz3⟩ : ∃ z : Int, min e e' = z ∧ z ≤ e ∧ z ≤ e' ∧ -400 ≤ z := ⟨_, rfl, by omega, by omega, by omega⟩
  rw [hz]
  obtain ⟨p, hp⟩ : ∃ p : Nat, e - z = p := ⟨(e - z).toNat, by omega⟩
  obtain ⟨q, hq⟩ : ∃ q : Nat, e' - z = q := ⟨(e' - z).toNat, by omega⟩
  have ep : (e - z).toNat = p := by omega
  have eq : (e' - z).toNat = q := by omega
  rw [ep, eq, ← Dec.st_mul c1, ← Dec.st_mul c2]
  have hp1 : Hid (p ≤ 1000000) := Lib.hid (by omega)
  have hq1 : Hid (q ≤ 1000000) := Lib.hid (by omega)
  have HR : Hid (∀ n : Nat, Hid (n ≤ 1000000) → ∀ w, Calls Tryd.prog 58 #[.string ⟨#[48]⟩, .int .i64 n] w fun e w' => e = .returned (.string (Dig.noughts n)) ∧ Below w.heap.size w w') := Lib.hid (fun n h w => repeat_any h.out w)
  have k1 : ¬ 9223372036854775807 < (Dig.st m).size + (Dig.noughts p).size := by rw [Dig.noughts_size]; omega
  have k2 : ¬ 9223372036854775807 < (Dig.st m').size + (Dig.noughts q).size := by rw [Dig.noughts_size]; omega
  have hwp : IntKind.i64.wrap (p : Int) = p := by rw [IntKind.wrap_i64]; omega
  have hwq : IntKind.i64.wrap (q : Int) = q := by rw [IntKind.wrap_i64]; omega
  clear ep eq c1 c2 p1 p2
  generalize Dig.st m = x at *
  generalize Dig.st m' = y at *
  go_enter Tryd.func68, Tryd.ntmps68
  go_wp2_with fail
  refine (VA.out _).mono ?_; rintro _ w1 ⟨rfl, hb1⟩
  replace K := K.call hb1
  clear hb1
  obtain ⟨⟨x0, x1, x2⟩, y0, y1, y2⟩ := K.cells
  go_wp2_with fail
  refine (VB.out _).mono ?_; rintro _ w2 ⟨rfl, hb2⟩
  replace K := K.call hb2
  clear hb2 x0 x1 x2 y0 y1 y2
  obtain ⟨⟨x0, x1, x2⟩, y0, y1, y2⟩ := K.cells
  go_upto_region 8 with fail
  go_region_held3 (fun W => W.cell? ⟨w.heap.size, 0, none⟩ = some (.bool n) ∧ W.cell? ⟨w.heap.size, 1, none⟩ = some (.string x) ∧ W.cell? ⟨w.heap.size, 2, none⟩ = some (.int .i64 e) ∧ W.cell? ⟨w.heap.size + 1, 0, none⟩ = some (.bool n') ∧ W.cell? ⟨w.heap.size + 1, 1, none⟩ = some (.string y) ∧ W.cell? ⟨w.heap.size + 1, 2, none⟩ = some (.int .i64 e') ∧ w.heap.size + 1 < W.heap.size ∧ Below w.heap.size w W) (first | exact K.drew.all | exact keep_b2 (by assumption) (by assumption)) (first | (go_at_call 58; refine (HR.out _ (by assumption) _).mono ?_; rintro e w3 ⟨rfl, hb3⟩) | fail)
  all_goals
    go_wp2
    go_ret3
    exact ⟨rfl, eighth (by assumption)⟩
end Go.Proofs.YtcnfgcdbjofihaaDoor
