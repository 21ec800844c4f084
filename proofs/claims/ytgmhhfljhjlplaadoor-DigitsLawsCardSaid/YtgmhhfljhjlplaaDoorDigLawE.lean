/- Numerals: the laws of arithmetic. -/
import Derived.Test.YtgmhhfljhjlplaaDoorDigLawA
import Derived.Deep.QuietTactic
import Derived.BigQuiet
namespace Go.Proofs.YtgmhhfljhjlplaaDoor
open Go.RowKit

namespace Dig
theorem lim_yes {n : Nat} (h : n < big 600) : lim n = (st n, 0) := by unfold lim; rw [if_pos h]
theorem mul_lt {a b m n : Nat} (ha : a < big m) (hb : b < big n) : a * b < big (m + n) := by unfold big at *; rw [Nat.pow_add]; exact Nat.mul_lt_mul'' ha hb
end Dig
theorem below_drewN {w W w1 : World} {n : Nat} (h : Below w.heap.size w W) (k : Below (W.drewN n).heap.size (W.drewN n) w1) : Below w.heap.size w w1 := by
  have h2 : Below w.heap.size w (W.drewN n) := ⟨h.os, h.tape, h.output, h.size, h.block⟩
  exact below_then h2 k

set_option maxRecDepth 100000 in
set_option maxHeartbeats 8000000 in
theorem walk_DigitsLaws (a b c : ByteArray) (ha : a.size ≤ maxLen) (hb : b.size ≤ maxLen) (hc : c.size ≤ maxLen) (w : World) :
    Calls Tryd.prog 6 #[.agg #[.string a, .string b, .string c]] w fun e w' => e = .returned (.bool true) ∧ Below w.heap.size w w' := by
  have HL := Lib.hid (dig_lives)
  obtain ⟨x0, x1, x2⟩ : (w.alloc (.cells #[.string a, .string b, .string c] 35)).cell? ⟨w.heap.size, 0, none⟩ = some (.string a) ∧ (w.alloc (.cells #[.string a, .string b, .string c] 35)).cell? ⟨w.heap.size, 1, none⟩ = some (.string b) ∧ (w.alloc (.cells #[.string a, .string b, .string c] 35)).cell? ⟨w.heap.size, 2, none⟩ = some (.string c) :=
    ⟨(Whole.new w 35 _).cell 0, (Whole.new w 35 _).cell 1, (Whole.new w 35 _).cell 2⟩
  have hb0 : Below w.heap.size w (w.alloc (.cells #[.string a, .string b, .string c] 35)) := (Below.refl w.heap.size w).alloc (Nat.le_refl _) _
  by_cases va : Dig.vld a
  case neg =>
    have VA := Lib.hid (rvalid_no ha va)
    clear va ha hb hc
    go_enter Tryd.func6, Tryd.ntmps6
    go_wp2_with fail
    go_quiet (fail)
    clear x0 x1 x2
    go_wp2_with fail
    refine (VA.out _).mono ?_; rintro _ w' ⟨rfl, rfl⟩
    go_wp2_with fail
    refine (HL.out _).mono ?_; rintro _ w1 ⟨rfl, hb1⟩
    go_wp2
    go_ret
    exact ⟨rfl, below_drewN hb0 hb1⟩
  by_cases vb : Dig.vld b
  case neg =>
    have VA := Lib.hid (rvalid_yes ha va)
    have VB := Lib.hid (rvalid_no hb vb)
    clear va vb ha hb hc
    go_enter Tryd.func6, Tryd.ntmps6
    go_wp2_with fail
    go_quiet (fail)
    clear x0 x1 x2
    go_wp2_with fail
    refine (VA.out _).mono ?_; rintro _ w' ⟨rfl, rfl⟩
    go_wp2_with fail
    refine (VB.out _).mono ?_; rintro _ w' ⟨rfl, rfl⟩
    go_wp2_with fail
    refine (HL.out _).mono ?_; rintro _ w1 ⟨rfl, hb1⟩
    go_wp2
    go_ret
    exact ⟨rfl, below_drewN hb0 hb1⟩
  by_cases vc : Dig.vld c
  case neg =>
    have VA := Lib.hid (rvalid_yes ha va)
    have VB := Lib.hid (rvalid_yes hb vb)
    have VC := Lib.hid (rvalid_no hc vc)
    clear va vb vc ha hb hc
    go_enter Tryd.func6, Tryd.ntmps6
    go_wp2_with fail
    go_quiet (fail)
    clear x0 x1 x2
    go_wp2_with fail
    refine (VA.out _).mono ?_; rintro _ w' ⟨rfl, rfl⟩
    go_wp2_with fail
    refine (VB.out _).mono ?_; rintro _ w' ⟨rfl, rfl⟩
    go_wp2_with fail
    refine (VC.out _).mono ?_; rintro _ w' ⟨rfl, rfl⟩
    go_wp2_with fail
    refine (HL.out _).mono ?_; rintro _ w1 ⟨rfl, hb1⟩
    go_wp2
    go_ret
    exact ⟨rfl, below_drewN hb0 hb1⟩
  have VA := Lib.hid (rvalid_yes ha va)
  have VB := Lib.hid (rvalid_yes hb vb)
  have VC := Lib.hid (rvalid_yes hc vc)
  have za := va.1
  have zb := vb.1
  have zc := vc.1
  by_cases hs : 590 < a.size + b.size + c.size
  · have d1 : decide (590 < (a.size : Int) + b.size + c.size) = true := decide_eq_true (by omega)
    have d2 : decide (590 < a.size + b.size + c.size) = true := decide_eq_true hs
    clear va vb vc ha hb hc hs
    go_enter Tryd.func6, Tryd.ntmps6
    go_wp2_with fail
    go_quiet (fail)
    clear x0 x1 x2
    go_wp2_with fail
    refine (VA.out _).mono ?_; rintro _ w' ⟨rfl, rfl⟩
    go_wp2_with fail
    refine (VB.out _).mono ?_; rintro _ w' ⟨rfl, rfl⟩
    go_wp2_with fail
    refine (VC.out _).mono ?_; rintro _ w' ⟨rfl, rfl⟩
    go_wp2_with fail
    refine (HL.out _).mono ?_; rintro _ w1 ⟨rfl, hb1⟩
    go_wp2
    go_ret
    exact ⟨rfl, below_drewN hb0 hb1⟩
  have d1 : decide (590 < (a.size : Int) + b.size + c.size) = false := decide_eq_false (by omega)
  have d2 : decide (590 < a.size + b.size + c.size) = false := decide_eq_false hs
  obtain ⟨A, rfl⟩ := vst va
  obtain ⟨B, rfl⟩ := vst vb
  obtain ⟨C, rfl⟩ := vst vc
  have lA := (Dig.st_size A _).1 (Nat.le_refl (Dig.st A).size)
  have lB := (Dig.st_size B _).1 (Nat.le_refl (Dig.st B).size)
  have lC := (Dig.st_size C _).1 (Nat.le_refl (Dig.st C).size)
  have hAB : A + B < Dig.big ((Dig.st A).size + (Dig.st B).size + 1) := Dig.sum_lt (Nat.lt_of_lt_of_le lA (Dig.big_le (by omega))) (Nat.lt_of_lt_of_le lB (Dig.big_le (by omega)))
  have b600 : ∀ {x k : Nat}, x < Dig.big k → k ≤ 600 → x < Dig.big 600 := fun h hk => Nat.lt_of_lt_of_le h (Dig.big_le hk)
  have eAB : A + B < Dig.big 600 := b600 hAB (by omega)
  have hX : (A + B) * C < Dig.big ((Dig.st A).size + (Dig.st B).size + 1 + (Dig.st C).size) := Dig.mul_lt hAB lC
  have eX : (A + B) * C < Dig.big 600 := b600 hX (by omega)
  have eAC : A * C < Dig.big 600 := b600 (Dig.mul_lt lA lC) (by omega)
  have eCB : C * B < Dig.big 600 := b600 (Dig.mul_lt lC lB) (by omega)
  have vAB := Dig.st_vld eAB
  have vAC := Dig.st_vld eAC
  have vCB := Dig.st_vld eCB
  have H1 := Lib.hid (addS va vb)
  rw [Dig.lim_yes eAB] at H1
  have H2 := Lib.hid (addS vb va)
  rw [Nat.add_comm B A, Dig.lim_yes eAB] at H2
  have H3 := Lib.hid (sub_any vAB vb)
  rw [show Dig.subR (A + B) B = (Dig.st A, 0) by unfold Dig.subR; rw [if_neg (by omega), Nat.add_sub_cancel]] at H3
  have H4 := Lib.hid (mulS vAB vc)
  rw [Dig.lim_yes eX] at H4
  have H5 := Lib.hid (mulS va vc)
  rw [Dig.lim_yes eAC] at H5
  have H6 := Lib.hid (mulS vc vb)
  rw [Dig.lim_yes eCB] at H6
  have H7 := Lib.hid (addS vAC vCB)
  rw [show A * C + C * B = (A + B) * C by rw [Nat.add_mul, Nat.mul_comm C B], Dig.lim_yes eX] at H7
  dsimp only at H1 H2 H3 H4 H5 H6 H7
  have T : (C = 0 ∧ (Dig.st C).toList.isEmpty = true) ∨ ((Dig.st C).toList.isEmpty = false ∧ ∃ q r p : ByteArray,
      Hid (∀ w, Calls Tryd.prog 14 #[.string (Dig.st A), .string (Dig.st C)] w fun e w' => e = .returned (.tuple #[.string q, .string r, .int .i64 0]) ∧ Below w.heap.size w w') ∧
      Hid (∀ w, Calls Tryd.prog 12 #[.string q, .string (Dig.st C)] w fun e w' => e = .returned (.tuple #[.string p, .int .i64 0]) ∧ Below w.heap.size w w') ∧
      Hid (∀ w, Calls Tryd.prog 16 #[.string p, .string r] w fun e w' => e = .returned (.tuple #[.string (Dig.st A), .int .i64 0]) ∧ Below w.heap.size w w') ∧
      Hid (∀ w, Calls Tryd.prog 20 #[.string r, .string (Dig.st C)] w fun e w' => e = .returned (.int .i64 (-1)) ∧ w = w')) := by
    rcases Nat.eq_zero_or_pos C with h0 | h0
    · exact Or.inl ⟨h0, Dig.nil_of (by rw [h0, Dig.st_zero]; rfl)⟩
    · have eA := b600 lA za
      have hq : A / C < Dig.big 600 := Nat.lt_of_le_of_lt (Nat.div_le_self _ _) eA
      have hp : A / C * C < Dig.big 600 := Nat.lt_of_le_of_lt (Nat.div_mul_le_self _ _) eA
      have hr : A % C < Dig.big 600 := Nat.lt_of_le_of_lt (Nat.mod_le _ _) eA
      have g2 := mulS (Dig.st_vld hq) vc
      rw [Dig.lim_yes hp] at g2
      have g3 := addS (Dig.st_vld hp) (Dig.st_vld hr)
      rw [show A / C * C + A % C = A by rw [Nat.mul_comm]; exact Nat.div_add_mod A C, Dig.lim_yes eA] at g3
      have g4 := cmp_any (Dig.vld_str (Dig.st_vld hr)) (Dig.vld_str vc)
      rw [Dig.cmp_no (Nat.mod_lt A h0)] at g4
      exact Or.inr ⟨Dig.some_of (Dig.st_pos (by omega)), _, _, _, Lib.hid (quoS va vc h0), Lib.hid g2, Lib.hid g3, Lib.hid g4⟩
  have TT : ((Dig.st C).toList.isEmpty = true) ∨ ((Dig.st C).toList.isEmpty = false ∧ ∃ q r p : ByteArray,
      Hid (∀ w, Calls Tryd.prog 14 #[.string (Dig.st A), .string (Dig.st C)] w fun e w' => e = .returned (.tuple #[.string q, .string r, .int .i64 0]) ∧ Below w.heap.size w w') ∧
      Hid (∀ w, Calls Tryd.prog 12 #[.string q, .string (Dig.st C)] w fun e w' => e = .returned (.tuple #[.string p, .int .i64 0]) ∧ Below w.heap.size w w') ∧
      Hid (∀ w, Calls Tryd.prog 16 #[.string p, .string r] w fun e w' => e = .returned (.tuple #[.string (Dig.st A), .int .i64 0]) ∧ Below w.heap.size w w') ∧
      Hid (∀ w, Calls Tryd.prog 20 #[.string r, .string (Dig.st C)] w fun e w' => e = .returned (.int .i64 (-1)) ∧ w = w')) := T.imp_left And.right
  clear T va vb vc ha hb hc hs lA lB lC hAB b600 eAB hX eX eAC eCB vAB vAC vCB
  generalize Dig.st (A + B) = s at *
  generalize Dig.st ((A + B) * C) = u at *
  generalize Dig.st (A * C) = ac at *
  generalize Dig.st (C * B) = cb at *
  generalize Dig.st A = x at *
  generalize Dig.st B = y at *
  generalize Dig.st C = z at *
  rcases TT with e0 | ⟨e0, q, r, p, G1, G2, G3, G4⟩
  · go_enter Tryd.func6, Tryd.ntmps6
    go_wp2_with fail
    go_quiet (fail)
    clear x0 x1 x2
    go_wp2_with fail
    refine (VA.out _).mono ?_; rintro _ w' ⟨rfl, rfl⟩
    go_wp2_with fail
    refine (VB.out _).mono ?_; rintro _ w' ⟨rfl, rfl⟩
    go_wp2_with fail
    refine (VC.out _).mono ?_; rintro _ w' ⟨rfl, rfl⟩
    clear VA VB VC
    go_wp2_with fail
    refine (H1.out _).mono ?_; rintro _ w1 ⟨rfl, b1⟩
    have k1 : Below w.heap.size w w1 := below_drewN hb0 b1
    clear hb0 b1
    go_wp2_with fail
    refine (H2.out _).mono ?_; rintro _ w2 ⟨rfl, b2⟩
    have k2 := below_then k1 b2
    clear k1 b2
    go_wp2_with fail
    refine (H3.out _).mono ?_; rintro _ w3 ⟨rfl, b3⟩
    have k3 := below_then k2 b3
    clear k2 b3
    go_wp2_with fail
    refine (H4.out _).mono ?_; rintro _ w4 ⟨rfl, b4⟩
    have k4 := below_then k3 b4
    clear k3 b4
    go_wp2_with fail
    refine (H5.out _).mono ?_; rintro _ w5 ⟨rfl, b5⟩
    have k5 := below_then k4 b5
    clear k4 b5
    go_wp2_with fail
    refine (H6.out _).mono ?_; rintro _ w6 ⟨rfl, b6⟩
    have k6 := below_then k5 b6
    clear k5 b6
    go_wp2_with fail
    refine (H7.out _).mono ?_; rintro _ w7 ⟨rfl, b7⟩
    have k7 := below_then k6 b7
    clear k6 b7
    clear H1 H2 H3 H4 H5 H6 H7
    go_wp2_with fail
    refine (HL.out _).mono ?_; rintro _ w8 ⟨rfl, b8⟩
    go_wp2
    go_ret
    exact ⟨rfl, below_then k7 b8⟩
  · go_enter Tryd.func6, Tryd.ntmps6
    go_wp2_with fail
    go_quiet (fail)
    clear x0 x1 x2
    go_wp2_with fail
    refine (VA.out _).mono ?_; rintro _ w' ⟨rfl, rfl⟩
    go_wp2_with fail
    refine (VB.out _).mono ?_; rintro _ w' ⟨rfl, rfl⟩
    go_wp2_with fail
    refine (VC.out _).mono ?_; rintro _ w' ⟨rfl, rfl⟩
    clear VA VB VC
    go_wp2_with fail
    refine (H1.out _).mono ?_; rintro _ w1 ⟨rfl, b1⟩
    have k1 : Below w.heap.size w w1 := below_drewN hb0 b1
    clear hb0 b1
    go_wp2_with fail
    refine (H2.out _).mono ?_; rintro _ w2 ⟨rfl, b2⟩
    have k2 := below_then k1 b2
    clear k1 b2
    go_wp2_with fail
    refine (H3.out _).mono ?_; rintro _ w3 ⟨rfl, b3⟩
    have k3 := below_then k2 b3
    clear k2 b3
    go_wp2_with fail
    refine (H4.out _).mono ?_; rintro _ w4 ⟨rfl, b4⟩
    have k4 := below_then k3 b4
    clear k3 b4
    go_wp2_with fail
    refine (H5.out _).mono ?_; rintro _ w5 ⟨rfl, b5⟩
    have k5 := below_then k4 b5
    clear k4 b5
    go_wp2_with fail
    refine (H6.out _).mono ?_; rintro _ w6 ⟨rfl, b6⟩
    have k6 := below_then k5 b6
    clear k5 b6
    go_wp2_with fail
    refine (H7.out _).mono ?_; rintro _ w7 ⟨rfl, b7⟩
    have k7 := below_then k6 b7
    clear k6 b7
    clear H1 H2 H3 H4 H5 H6 H7
    go_wp2_with fail
    refine (G1.out _).mono ?_; rintro _ w8 ⟨rfl, b8⟩
    have k8 := below_then k7 b8
    clear k7 b8
    go_wp2_with fail
    refine (G2.out _).mono ?_; rintro _ w9 ⟨rfl, b9⟩
    have k9 := below_then k8 b9
    clear k8 b9
    go_wp2_with fail
    refine (G3.out _).mono ?_; rintro _ w10 ⟨rfl, b10⟩
    have k10 := below_then k9 b10
    clear k9 b10
    go_wp2_with fail
    refine (G4.out _).mono ?_; rintro _ w11 ⟨rfl, rfl⟩
    go_wp2_with fail
    refine (HL.out _).mono ?_; rintro _ w12 ⟨rfl, b12⟩
    go_wp2
    go_ret
    exact ⟨rfl, below_then k10 b12⟩
end Go.Proofs.YtgmhhfljhjlplaaDoor
