/- Times: plain: what the program's reader reads is what the reference reads. -/
import Derived.Test.YthbjkibclbgjoaaMomRefE
namespace Go.Proofs.Ythbjkibclbgjoaa
open Go.RowKit

namespace Mom
theorem ext_ext (x : ByteArray) (a b : Nat) (h : a ≤ x.size) : (x.extract a x.size).extract b (x.extract a x.size).size = x.extract (a + b) x.size := by
  apply ByteArray.ext
  rw [ByteArray.data_extract, ByteArray.data_extract, ByteArray.data_extract, ByteArray.size_extract]
  simp only [Nat.min_self]
  apply Array.ext'
  simp [Array.toList_extract]
  omega
theorem num_inv {s : Rd} {w : Nat} (h : (num s w).2.b = false) : alld s.x w ∧ s.b = false ∧ num s w = (nv s.x w, ⟨s.x.extract w s.x.size, false⟩) := by
  unfold num at h ⊢
  by_cases g : alld s.x w
  · rw [if_pos g] at h ⊢; dsimp only at h; rw [h]; exact ⟨g, rfl, rfl⟩
  · rw [if_neg g] at h; cases h
theorem one_inv {s : Rd} {o : ByteArray} (h : (one s o).2.b = false) : has o (bt s.x 0) ∧ s.b = false ∧ one s o = (bt s.x 0, ⟨s.x.extract 1 s.x.size, false⟩) := by
  unfold one at h ⊢
  by_cases g : has o (bt s.x 0)
  · rw [if_pos g] at h ⊢; dsimp only at h; rw [h]; exact ⟨g, rfl, rfl⟩
  · rw [if_neg g] at h; cases h
theorem frac_inv {s : Rd} (h : (frac s).2.b = false) : (1 ≤ cnt s.x ∧ cnt s.x ≤ 9) ∧ s.b = false := by
  unfold frac at h
  by_cases g : 1 ≤ cnt s.x ∧ cnt s.x ≤ 9
  · rw [if_pos g] at h; exact ⟨g, h⟩
  · rw [if_neg g] at h; cases h
theorem num_y {x : ByteArray} {b : Bool} {w : Nat} (h : alld x w) : num ⟨x, b⟩ w = (nv x w, ⟨x.extract w x.size, b⟩) := by unfold num; rw [if_pos (show alld (Rd.mk x b).x w from h)]
theorem one_y {x : ByteArray} {b : Bool} {o : ByteArray} (h : has o (bt x 0)) : one ⟨x, b⟩ o = (bt x 0, ⟨x.extract 1 x.size, b⟩) := by unfold one; rw [if_pos (show has o (bt (Rd.mk x b).x 0) from h)]
theorem alld_le {x : ByteArray} {w : Nat} (h : alld x w) : w ≤ x.size := by
  rcases Nat.eq_zero_or_pos w with h0 | h0
  · omega
  · have := isd_lt (h (w - 1) (by omega)); omega
theorem bt_lt {x : ByteArray} {i : Nat} (h : 0 ≤ bt x i) : i < x.size := by
  rcases Nat.lt_or_ge i x.size with k | k
  · exact k
  · rw [bt_out (x := x) (by omega)] at h; omega
theorem has1 {u : UInt8} {c : Int} (h : has ⟨#[u]⟩ c) : c = u.toNat := by
  obtain ⟨j, hj, he⟩ := h
  have : j = 0 := by have : (ByteArray.mk #[u]).size = 1 := rfl; omega
  subst this
  exact he.symm
/-- Five steps: digits, a byte, digits, the byte, digits. -/
structure F5 (x : ByteArray) (a b d : Nat) (u : UInt8) : Prop where
  size : a + b + d + 2 ≤ x.size
  p : ∀ j, j < a → isd x j
  q : bt x a = u.toNat
  r : ∀ j, j < b → isd x (a + 1 + j)
  s : bt x (a + 1 + b) = u.toNat
  t : ∀ j, j < d → isd x (a + b + 2 + j)
theorem five_y {x : ByteArray} {a b d : Nat} {u : UInt8} (h : F5 x a b d u) (c : Bool) :
    num ⟨x, c⟩ a = (nv x a, ⟨x.extract a x.size, c⟩) ∧ one ⟨x.extract a x.size, c⟩ ⟨#[u]⟩ = ((u.toNat : Int), ⟨x.extract (a + 1) x.size, c⟩) ∧
    num ⟨x.extract (a + 1) x.size, c⟩ b = (nv (x.extract (a + 1) x.size) b, ⟨x.extract (a + 1 + b) x.size, c⟩) ∧ one ⟨x.extract (a + 1 + b) x.size, c⟩ ⟨#[u]⟩ = ((u.toNat : Int), ⟨x.extract (a + b + 2) x.size, c⟩) ∧
    num ⟨x.extract (a + b + 2) x.size, c⟩ d = (nv (x.extract (a + b + 2) x.size) d, ⟨x.extract (a + b + d + 2) x.size, c⟩) := by
  have hs := h.size
  have hu : has ⟨#[u]⟩ (u.toNat : Int) := ⟨0, by show 0 < 1; omega, rfl⟩
  refine ⟨num_y h.p, ?_, ?_, ?_, ?_⟩
  · have e : bt (x.extract a x.size) 0 = u.toNat := by rw [bt_tail x a 0 (by omega)]; exact h.q
    rw [one_y (by rw [e]; exact hu), e, ext_ext x a 1 (by omega)]
  · rw [num_y (fun j hj => (isd_tail (by omega)).2 (h.r j hj)), ext_ext x (a + 1) b (by omega)]
  · have e : bt (x.extract (a + 1 + b) x.size) 0 = u.toNat := by rw [bt_tail x (a + 1 + b) 0 (by omega)]; exact h.s
    rw [one_y (by rw [e]; exact hu), e, ext_ext x (a + 1 + b) 1 (by omega), show a + 1 + b + 1 = a + b + 2 by omega]
  · rw [num_y (fun j hj => (isd_tail (by omega)).2 (h.t j hj)), ext_ext x (a + b + 2) d (by omega), show a + b + 2 + d = a + b + d + 2 by omega]
theorem five_n {s : Rd} {a b d : Nat} {u : UInt8} (hd : 1 ≤ d) (h : (num (one (num (one (num s a).2 ⟨#[u]⟩).2 b).2 ⟨#[u]⟩).2 d).2.b = false) : s.b = false ∧ F5 s.x a b d u := by
  obtain ⟨h5, g5, _⟩ := num_inv h
  obtain ⟨h4, g4, e4⟩ := one_inv g5
  rw [e4] at h5
  obtain ⟨h3, g3, e3⟩ := num_inv g4
  rw [e3] at h4 h5
  obtain ⟨h2, g2, e2⟩ := one_inv g3
  rw [e2] at h3 h4 h5
  obtain ⟨h1, g1, e1⟩ := num_inv g2
  rw [e1] at h2 h3 h4 h5
  dsimp only at h1 h2 h3 h4 h5
  have l1 := alld_le h1
  have b2 := has1 h2
  rw [bt_tail _ a 0 l1, Nat.add_zero] at b2
  have l2 : a < s.x.size := bt_lt (by omega)
  rw [ext_ext _ a 1 l1] at h3 h4 h5
  have l3 := alld_le h3
  rw [ByteArray.size_extract] at l3
  have b4 := has1 h4
  rw [ext_ext _ (a + 1) b (by omega)] at b4 h5
  rw [bt_tail _ (a + 1 + b) 0 (by omega), Nat.add_zero] at b4
  have l4 : a + 1 + b < s.x.size := bt_lt (by omega)
  rw [ext_ext _ (a + 1 + b) 1 (by omega)] at h5
  have l5 := alld_le h5
  rw [ByteArray.size_extract] at l5
  refine ⟨g1, by omega, h1, b2, fun j hj => (isd_tail (by omega)).1 (h3 j hj), b4, fun j hj => ?_⟩
  have := (isd_tail (by omega)).1 (h5 j hj)
  rwa [show a + 1 + b + 1 + j = a + b + 2 + j by omega] at this
theorem nv_ext {x : ByteArray} {a w : Nat} (h : a + w ≤ x.size) : nv (x.extract a x.size) w = nv (x.extract a (a + w)) w :=
  nv_congr w (fun i hi => by rw [bt_tail x a i (by omega), bt_ext x a (a + w) i (by omega) h])
theorem nv_front {x : ByteArray} {w : Nat} (h : w ≤ x.size) : nv x w = nv (x.extract 0 w) w :=
  nv_congr w (fun i hi => by rw [bt_ext x 0 w i (by omega) h, Nat.zero_add])
theorem okc_of_d {s f : ByteArray} {i : Nat} (hf : bt f i = 100) (h : isd s i) : okc s f i := by unfold okc; rwa [if_pos hf]
theorem okc_of_c {s f : ByteArray} {i : Nat} (hf : bt f i ≠ 100) (h : bt s i = bt f i) : okc s f i := by unfold okc; rwa [if_neg hf]

/-! ### clocks -/
theorem clk_five {x : ByteArray} : lk x clkF ↔ F5 x 2 2 2 58 := by
  constructor
  · intro h
    have D : ∀ i, i < 8 → bt clkF i = 100 → isd x i := fun i hi hf => okc_d (h.2 i (by show i < 8; exact hi)) hf
    have E : ∀ i, i < 8 → bt clkF i = 58 → bt x i = 58 := fun i hi hf => okc_c (h.2 i (by show i < 8; exact hi)) hf (by decide)
    refine ⟨h.1, fun j hj => ?_, E 2 (by omega) (by decide), fun j hj => ?_, E 5 (by omega) (by decide), fun j hj => ?_⟩
    · have e : j = 0 ∨ j = 1 := by omega
      rcases e with rfl | rfl <;> exact D _ (by omega) (by decide)
    · have e : j = 0 ∨ j = 1 := by omega
      rcases e with rfl | rfl <;> exact D _ (by omega) (by decide)
    · have e : j = 0 ∨ j = 1 := by omega
      rcases e with rfl | rfl <;> exact D _ (by omega) (by decide)
  · intro h
    refine ⟨h.size, fun i hi => ?_⟩
    have e : i = 0 ∨ i = 1 ∨ i = 2 ∨ i = 3 ∨ i = 4 ∨ i = 5 ∨ i = 6 ∨ i = 7 := by have : i < 8 := hi; omega
    rcases e with rfl | rfl | rfl | rfl | rfl | rfl | rfl | rfl
    · exact okc_of_d (by decide) (h.p 0 (by omega))
    · exact okc_of_d (by decide) (h.p 1 (by omega))
    · exact okc_of_c (by decide) (h.q.trans (by decide))
    · exact okc_of_d (by decide) (h.r 0 (by omega))
    · exact okc_of_d (by decide) (h.r 1 (by omega))
    · exact okc_of_c (by decide) (h.s.trans (by decide))
    · exact okc_of_d (by decide) (h.t 0 (by omega))
    · exact okc_of_d (by decide) (h.t 1 (by omega))
theorem hms3_y {x : ByteArray} {b : Bool} {f : Fl} (h : lk x clkF) : hms3 ⟨x, b⟩ f = (⟨rest8 x, b⟩, { f with h := nv (x.extract 0 2) 2, mi := nv (x.extract 3 5) 2, s := nv (x.extract 6 8) 2 }) := by
  have h5 := clk_five.1 h
  have hs := h5.size
  obtain ⟨e1, e2, e3, e4, e5⟩ := five_y h5 b
  unfold hms3
  simp only [e1, e2, e3, e4, e5]
  rw [nv_front (show 2 ≤ x.size by omega), nv_ext (show 2 + 1 + 2 ≤ x.size by omega), nv_ext (show 2 + 2 + 2 + 2 ≤ x.size by omega)]
  rfl
theorem hms3_n {s : Rd} {f : Fl} (h : (hms3 s f).1.b = false) : s.b = false ∧ lk s.x clkF := by
  unfold hms3 at h
  dsimp only at h
  have := five_n (s := s) (a := 2) (b := 2) (d := 2) (u := 58) (by omega) h
  exact ⟨this.1, clk_five.2 this.2⟩
theorem rest8_bt {x : ByteArray} (h : lk x clkF) : bt (rest8 x) 0 = bt x 8 := by unfold rest8; rw [bt_tail x 8 0 h.1]
theorem rClk_bad {x : ByteArray} (h : ¬ lk x clkF) : (rClk x).2.2.1 = false := by unfold rClk; rw [if_pos h]
theorem rClk_plain {x : ByteArray} (h : lk x clkF) (g : bt x 8 ≠ 46) : rClk x = (base x, rest8 x, true, okClk x) := by
  unfold rClk; rw [if_neg (fun k => k h), if_pos g]
theorem rClk_frac {x : ByteArray} (h : lk x clkF) (g : bt x 8 = 46) (hc : 1 ≤ cnt (frc x) ∧ cnt (frc x) ≤ 9) :
    rClk x = (base x + nv (frc x) (cnt (frc x)) * 10 ^ (9 - cnt (frc x)), (rest8 x).extract (1 + cnt (frc x)) (rest8 x).size, true, okClk x) := by
  unfold rClk; rw [if_neg (fun k => k h), if_neg (fun k => k g), if_neg (by omega)]
theorem rClk_long {x : ByteArray} (h : lk x clkF) (g : bt x 8 = 46) (hc : ¬ (1 ≤ cnt (frc x) ∧ cnt (frc x) ≤ 9)) : (rClk x).2.2.1 = false := by
  unfold rClk; rw [if_neg (fun k => k h), if_neg (fun k => k g), if_pos (by omega)]
theorem clock_n {s : Rd} {f : Fl} (h : (clock s f).1.b = false) : s.b = false ∧ (rClk s.x).2.2.1 = true := by
  unfold clock at h
  obtain ⟨x, b⟩ := s
  by_cases h4 : lk x clkF
  · rw [hms3_y h4] at h
    dsimp only at h
    by_cases g : bt (rest8 x) 0 = 46
    · rw [if_pos g] at h
      dsimp only at h
      obtain ⟨h1, h2⟩ := frac_inv h
      exact ⟨h2, by dsimp only; rw [rClk_frac h4 ((rest8_bt h4).symm.trans g) h1]⟩
    · rw [if_neg g] at h
      exact ⟨h, by dsimp only; rw [rClk_plain h4 (fun k => g ((rest8_bt h4).trans k))]⟩
  · exfalso
    generalize hQ : hms3 ⟨x, b⟩ f = Q at h
    have hb : Q.1.b = false := by
      by_cases g : bt Q.1.x 0 = 46
      · rw [if_pos g] at h; exact (frac_inv h).2
      · rw [if_neg g] at h; exact h
    rw [← hQ] at hb
    exact h4 (hms3_n hb).2
theorem clock_y {x : ByteArray} {b : Bool} {f : Fl} (hf : f.n = 0) (h : (rClk x).2.2.1 = true) :
    ∃ H M S N : Int, clock ⟨x, b⟩ f = (⟨(rClk x).2.1, b⟩, { f with h := H, mi := M, s := S, n := N }) ∧ ((H * 60 + M) * 60 + S) * 1000000000 + N = (rClk x).1 ∧ ((rClk x).2.2.2 = true ↔ H ≤ 23 ∧ M ≤ 59 ∧ S ≤ 59) := by
  have h4 : lk x clkF := Decidable.byContradiction fun k => by rw [rClk_bad k] at h; cases h
  refine ⟨nv (x.extract 0 2) 2, nv (x.extract 3 5) 2, nv (x.extract 6 8) 2, ?_⟩
  have ok : okClk x = true ↔ nv (x.extract 0 2) 2 ≤ 23 ∧ nv (x.extract 3 5) 2 ≤ 59 ∧ nv (x.extract 6 8) 2 ≤ 59 := by unfold okClk; rw [decide_eq_true_iff]
  by_cases g8 : bt x 8 = 46
  · have hc : 1 ≤ cnt (frc x) ∧ cnt (frc x) ≤ 9 := Decidable.byContradiction fun k => by rw [rClk_long h4 g8 k] at h; cases h
    rw [rClk_frac h4 g8 hc]
    refine ⟨nv (frc x) (cnt (frc x)) * 10 ^ (9 - cnt (frc x)), ?_, by unfold base; rfl, ok⟩
    have h1 : 1 ≤ (rest8 x).size := by have := bt_lt (x := x) (i := 8) (by omega); unfold rest8; rw [ByteArray.size_extract]; omega
    have e := ext_ext (rest8 x) 1 (cnt (frc x)) h1
    have e2 : frac ⟨frc x, b⟩ = (nv (frc x) (cnt (frc x)) * 10 ^ (9 - cnt (frc x)), ⟨(frc x).extract (cnt (frc x)) (frc x).size, b⟩) := by unfold frac; rw [if_pos hc]
    have e3 : (frc x).extract (cnt (frc x)) (frc x).size = (rest8 x).extract (1 + cnt (frc x)) (rest8 x).size := e
    rw [e3] at e2
    unfold clock
    rw [hms3_y h4]
    dsimp only
    rw [if_pos ((rest8_bt h4).trans g8), show (rest8 x).extract 1 (rest8 x).size = frc x from rfl, e2]
  · rw [rClk_plain h4 g8]
    refine ⟨0, ?_, by unfold base; simp, ok⟩
    unfold clock
    rw [hms3_y h4]
    dsimp only
    rw [if_neg (fun k => g8 ((rest8_bt h4).symm.trans k)), ← hf]
end Mom
end Go.Proofs.Ythbjkibclbgjoaa
