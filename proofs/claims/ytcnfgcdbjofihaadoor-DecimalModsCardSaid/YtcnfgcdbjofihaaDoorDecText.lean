/- Decimals: their texts: the case 0.000x. -/
import Derived.Test.YtcnfgcdbjofihaaDoorDecAdd
namespace Go.Proofs.YtcnfgcdbjofihaaDoor
open Go.RowKit

/-- A decimal in a box. -/
structure B1 (w W : World) (n : Bool) (x : ByteArray) (e : Int) : Prop where
  one : Whole W w.heap.size 23 #[.bool n, .string x, .int .i64 e]
  below : Below w.heap.size w W
section
variable {w W : World} {n : Bool} {x : ByteArray} {e : Int}
theorem B1.new (w : World) (n : Bool) (x : ByteArray) (e : Int) : B1 w (w.alloc (.cells #[.bool n, .string x, .int .i64 e] 23)) n x e := ⟨Whole.new w _ _, (Below.refl _ _).alloc (Nat.le_refl _) _⟩
theorem B1.call {W' : World} (h : B1 w W n x e) (hb : Below W.heap.size W W') : B1 w W' n x e := ⟨h.one.below hb h.one.lt, below_then h.below hb⟩
theorem B1.drew (h : B1 w W n x e) : B1 w W.drew n x e := ⟨h.one.drew, h.below.drew⟩
theorem B1.all (h : B1 w W n x e) : W.cell? ⟨w.heap.size, 0, none⟩ = some (.bool n) ∧ W.cell? ⟨w.heap.size, 1, none⟩ = some (.string x) ∧ W.cell? ⟨w.heap.size, 2, none⟩ = some (.int .i64 e) ∧ w.heap.size < W.heap.size ∧ Below w.heap.size w W := ⟨h.one.c3.1, h.one.c3.2.1, h.one.c3.2.2, h.one.lt, h.below⟩
end
theorem keep_b1 {w W W' : World} {n : Bool} {x : ByteArray} {e : Int} (hb : Below W.heap.size W W') (h : W.cell? ⟨w.heap.size, 0, none⟩ = some (.bool n) ∧ W.cell? ⟨w.heap.size, 1, none⟩ = some (.string x) ∧ W.cell? ⟨w.heap.size, 2, none⟩ = some (.int .i64 e) ∧ w.heap.size < W.heap.size ∧ Below w.heap.size w W) :
    W'.cell? ⟨w.heap.size, 0, none⟩ = some (.bool n) ∧ W'.cell? ⟨w.heap.size, 1, none⟩ = some (.string x) ∧ W'.cell? ⟨w.heap.size, 2, none⟩ = some (.int .i64 e) ∧ w.heap.size < W'.heap.size ∧ Below w.heap.size w W' := by
  obtain ⟨x0, x1, x2, hz, hbb⟩ := h
  have g : ∀ i, W'.cell? ⟨w.heap.size, i, none⟩ = W.cell? ⟨w.heap.size, i, none⟩ := fun i => hb.cell (p := ⟨w.heap.size, i, none⟩) hz
  exact ⟨(g 0).trans x0, (g 1).trans x1, (g 2).trans x2, Nat.lt_of_lt_of_le hz hb.size, below_then hbb hb⟩
theorem fifth {A B C D E : Prop} (h : A ∧ B ∧ C ∧ D ∧ E) : E := h.2.2.2.2
namespace Dec
def sg (n : Bool) : ByteArray := if n then ⟨#[45]⟩ else ⟨#[]⟩
end Dec

set_option maxHeartbeats 4000000 in
set_option maxRecDepth 100000 in
theorem text_c (n : Bool) {s : ByteArray} {e : Int} {k : Nat} (hv : Dec.vd n s e) (h0 : 0 < s.size) (h120 : s.size ≤ 120) (he : -400 ≤ e) (he2 : e ≤ 400) (hk : (s.size : Int) + e = -(k : Int)) (hk5 : k ≤ 5) (w : World) :
    Calls Tryd.prog 18 #[.agg #[.bool n, .string s, .int .i64 e]] w fun r w' => r = .returned (.string (Dec.sg n ++ ⟨#[48, 46]⟩ ++ Dig.noughts k ++ s)) ∧ Below w.heap.size w w' := by
  have VA := Lib.hid (dvalid_yes (by unfold maxLen; omega) hv)
  have HR := Lib.hid (fun w => repeat_any (n := k) (by omega) w)
  have K := B1.new w n s e
  have ne := Dig.some_of h0
  have hu := Dig.noughts_size k
  obtain ⟨u, hu0⟩ : ∃ u, Dig.noughts k = u := ⟨_, rfl⟩
  rw [hu0] at hu HR ⊢
  have hus : u.size ≤ 5 := by omega
  clear hu hu0 hv
  obtain ⟨p, hp, hp2⟩ : ∃ p : Int, (s.size : Int) + e = p ∧ -p = k := ⟨-(k : Int), hk, by omega⟩
  have hw1 : IntKind.i64.wrap (-p) = k := by rw [IntKind.wrap_i64]; omega
  have hw2 : IntKind.i64.wrap (k : Int) = k := by rw [IntKind.wrap_i64]; omega
  have hp3 : p ≤ 0 := by omega
  have hp4 : -5 ≤ p := by omega
  have d1 : decide (0 ≤ e) = false := decide_eq_false (by omega)
  have d2 : decide (e < 0) = true := decide_eq_true (by omega)
  have d3 : decide (1 ≤ p) = false := decide_eq_false (by omega)
  have d4 : decide (-5 ≤ p) = true := decide_eq_true (by omega)
  have d5 : decide (p ≤ 0) = true := decide_eq_true (by omega)
  have k1 : ¬ 9223372036854775807 < 2 + u.size := by omega
  have k2 : ¬ 9223372036854775807 < 2 + u.size + s.size := by omega
  have k3 : ¬ 9223372036854775807 < 3 + u.size := by omega
  have k4 : ¬ 9223372036854775807 < 3 + u.size + s.size := by omega
  clear hk hk5 h0
  cases n
  · go_enter Tryd.func18, Tryd.ntmps18
    go_wp2_with fail
    refine (VA.out _).mono ?_; rintro _ w1 ⟨rfl, hb1⟩
    replace K := K.call hb1
    clear hb1
    obtain ⟨x0, x1, x2, _⟩ := K.all
    go_upto_region 13 with fail
    go_region_held3 (fun W => W.cell? ⟨w.heap.size, 0, none⟩ = some (.bool false) ∧ W.cell? ⟨w.heap.size, 1, none⟩ = some (.string s) ∧ W.cell? ⟨w.heap.size, 2, none⟩ = some (.int .i64 e) ∧ w.heap.size < W.heap.size ∧ Below w.heap.size w W) (first | exact K.drew.all | exact keep_b1 (by assumption) (by assumption)) (first | (go_at_call 58; refine (HR.out _).mono ?_; rintro e w3 ⟨rfl, hb3⟩) | fail)
    go_wp2
    go_ret
    refine ⟨ret_st ?_, fifth (by assumption)⟩
    unfold Dec.sg
    first | rfl | simp
  · go_enter Tryd.func18, Tryd.ntmps18
    go_wp2_with fail
    refine (VA.out _).mono ?_; rintro _ w1 ⟨rfl, hb1⟩
    replace K := K.call hb1
    clear hb1
    obtain ⟨x0, x1, x2, _⟩ := K.all
    go_upto_region 13 with fail
    go_region_held3 (fun W => W.cell? ⟨w.heap.size, 0, none⟩ = some (.bool true) ∧ W.cell? ⟨w.heap.size, 1, none⟩ = some (.string s) ∧ W.cell? ⟨w.heap.size, 2, none⟩ = some (.int .i64 e) ∧ w.heap.size < W.heap.size ∧ Below w.heap.size w W) (first | exact K.drew.all | exact keep_b1 (by assumption) (by assumption)) (first | (go_at_call 58; refine (HR.out _).mono ?_; rintro e w3 ⟨rfl, hb3⟩) | fail)
    go_wp2
    go_ret
    refine ⟨ret_st ?_, fifth (by assumption)⟩
    unfold Dec.sg
    first | rfl | simp
end Go.Proofs.YtcnfgcdbjofihaaDoor
