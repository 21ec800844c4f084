/- Times: the reference's clocks. -/
import Derived.Test.YthbjkibclbgjoaaMomRefB
namespace Go.Proofs.Ythbjkibclbgjoaa
open Go.RowKit

theorem takeOff_any {x : ByteArray} (hx : x.size ≤ maxLen) (w : World) :
    Calls Try.prog 46 #[.string x] w fun e w' => e = .returned (.tuple #[.int .i64 (Mom.rOff x).1, .bool (Mom.rOff x).2.1, .bool (Mom.rOff x).2.2]) ∧ Below w.heap.size w w' := by
  unfold Mom.rOff
  by_cases hz : x.toList = [90] ∨ x.toList = [122]
  · rw [if_pos hz]; exact takeOff_z hz w
  rw [if_neg hz]
  by_cases hb : x.size ≠ 6 ∨ (¬ Mom.lk x Mom.plusF ∧ ¬ Mom.lk x Mom.minusF)
  · rw [if_pos hb]; exact takeOff_bad hx hz hb w
  · rw [if_neg hb]
    have h1 : x.size = 6 := Decidable.byContradiction fun g => hb (Or.inl g)
    have h2 : Mom.lk x Mom.plusF ∨ Mom.lk x Mom.minusF := by
      by_cases g : Mom.lk x Mom.plusF
      · exact Or.inl g
      · exact Or.inr (Decidable.byContradiction fun k => hb (Or.inr ⟨g, k⟩))
    exact takeOff_ok h1 hz h2 w

def Mom.clkF : ByteArray := ⟨#[100, 100, 58, 100, 100, 58, 100, 100]⟩
def Mom.c4 (n : Int) (r : ByteArray) (a b : Bool) : Value := .tuple #[.int .i64 n, .string r, .bool a, .bool b]
theorem takeClock_no {x : ByteArray} (hx : x.size ≤ maxLen) (h : ¬ Mom.lk x Mom.clkF) (w : World) :
    Calls Try.prog 43 #[.string x] w fun e w' => e = .returned (Mom.c4 0 ⟨#[]⟩ false false) ∧ Below w.heap.size w w' := by
  have HL := Lib.hid (like_any (f := Mom.clkF) hx)
  rw [decide_eq_false h] at HL
  unfold Mom.clkF at HL
  clear h
  unfold maxLen at hx
  go_enter Try.func43, Try.ntmps43
  go_wp2_with fail
  refine (HL.out _).mono ?_; rintro e w1 ⟨rfl, hbb⟩
  go_wp2_with fail
  refine bodyPost_ret (v := Mom.c4 0 ⟨#[]⟩ false false) (by unfold Mom.c4; simp [results, Try.results43, go_sem]) rfl ⟨rfl, hbb⟩

/-- The numbers of a clock that has the form. -/
theorem clk_nums {x : ByteArray} (h : Mom.lk x Mom.clkF) : 8 ≤ x.size ∧ Mom.numOk (x.extract 0 2) (Mom.nv (x.extract 0 2) 2) ∧ Mom.numOk (x.extract 3 5) (Mom.nv (x.extract 3 5) 2) ∧ Mom.numOk (x.extract 6 8) (Mom.nv (x.extract 6 8) 2) ∧
    (0 ≤ Mom.nv (x.extract 0 2) 2 ∧ Mom.nv (x.extract 0 2) 2 < 100) ∧ (0 ≤ Mom.nv (x.extract 3 5) 2 ∧ Mom.nv (x.extract 3 5) 2 < 100) ∧ (0 ≤ Mom.nv (x.extract 6 8) 2 ∧ Mom.nv (x.extract 6 8) 2 < 100) := by
  have h8 : 8 ≤ x.size := h.1
  have key : ∀ a : Nat, a + 2 ≤ 8 → Mom.isd x a → Mom.isd x (a + 1) → Mom.numOk (x.extract a (a + 2)) (Mom.nv (x.extract a (a + 2)) 2) ∧ (0 ≤ Mom.nv (x.extract a (a + 2)) 2 ∧ Mom.nv (x.extract a (a + 2)) 2 < 100) := by
    intro a ha d1 d2
    have n := Mom.numOk_ext (x := x) (a := a) (b := a + 2) (by omega) (by omega) (fun i p q => by
      have e : i = a ∨ i = a + 1 := by omega
      rcases e with rfl | rfl
      · exact d1
      · exact d2)
    rw [show a + 2 - a = 2 by omega] at n
    have b := Mom.nv_bd n.2.1
    have e : (x.extract a (a + 2)).size = 2 := by rw [ByteArray.size_extract]; omega
    rw [e] at b
    exact ⟨n, b⟩
  have D : ∀ i, i < 8 → Mom.bt Mom.clkF i = 100 → Mom.isd x i := fun i hi hf => Mom.okc_d (h.2 i (by show i < 8; exact hi)) hf
  have k0 := key 0 (by omega) (D 0 (by omega) (by decide)) (D 1 (by omega) (by decide))
  have k3 := key 3 (by omega) (D 3 (by omega) (by decide)) (D 4 (by omega) (by decide))
  have k6 := key 6 (by omega) (D 6 (by omega) (by decide)) (D 7 (by omega) (by decide))
  exact ⟨h8, k0.1, k3.1, k6.1, k0.2, k3.2, k6.2⟩
theorem ret_c4 {a b : Int} {r s : ByteArray} {c d : Bool} (h : a = b) (g : r = s) (k : c = d) : Ending.returned (Value.tuple #[.int .i64 a, .string r, .bool true, .bool c]) = .returned (Mom.c4 b s true d) := by rw [h, g, k]; rfl

set_option maxHeartbeats 4000000 in
theorem takeClock_plain {x : ByteArray} (hx : x.size ≤ maxLen) (h : Mom.lk x Mom.clkF) (hp : Mom.bt x 8 ≠ 46) (w : World) :
    Calls Try.prog 43 #[.string x] w fun e w' => e = .returned (Mom.c4 (((Mom.nv (x.extract 0 2) 2 * 60 + Mom.nv (x.extract 3 5) 2) * 60 + Mom.nv (x.extract 6 8) 2) * 1000000000) (x.extract 8 x.size) true (decide (Mom.nv (x.extract 0 2) 2 ≤ 23 ∧ Mom.nv (x.extract 3 5) 2 ≤ 59 ∧ Mom.nv (x.extract 6 8) 2 ≤ 59))) ∧ Below w.heap.size w w' := by
  have HL := Lib.hid (like_any (f := Mom.clkF) hx)
  rw [decide_eq_true h] at HL
  unfold Mom.clkF at HL
  obtain ⟨h8, n1, n2, n3, ⟨b1, b2⟩, ⟨b3, b4⟩, ⟨b5, b6⟩⟩ := clk_nums h
  generalize Mom.nv (x.extract 0 2) 2 = A at *
  generalize Mom.nv (x.extract 3 5) 2 = B at *
  generalize Mom.nv (x.extract 6 8) 2 = C at *
  have N1 := Lib.hid n1
  have N2 := Lib.hid n2
  have N3 := Lib.hid n3
  have HN : Hid (∀ y v, Hid (Mom.numOk y v) → ∀ w, Calls Try.prog 45 #[.string y] w fun e w' => e = .returned (.int .i64 v) ∧ w = w') := Lib.hid (fun y v h w => num_is h.out w)
  obtain ⟨Q, hQ⟩ : ∃ r, decide (A ≤ 23 ∧ B ≤ 59 ∧ C ≤ 59) = r := ⟨_, rfl⟩
  rw [hQ]
  have HQ := Lib.hid hQ
  have l1 : (2 : Int) ≤ x.size := by omega
  have l2 : (5 : Int) ≤ x.size := by omega
  have l3 : (8 : Int) ≤ x.size := by omega
  obtain ⟨y, hy⟩ : ∃ y, x.extract 8 x.size = y := ⟨_, rfl⟩
  have ys : y.size = x.size - 8 := by rw [← hy, ByteArray.size_extract]; omega
  have y0 : (y.size = 0) ∨ ∃ g : 0 < y.size, ((y[0].toNat : Int) == 46) = false := by
    rcases Nat.eq_zero_or_pos y.size with g | g
    · exact Or.inl g
    · refine Or.inr ⟨g, beq_eq_false_iff_ne.2 (fun e => hp ?_)⟩
      rw [← Mom.bt_in g, ← hy, Mom.bt_ext x 8 x.size 0 (by omega) (Nat.le_refl _)] at e
      exact e
  rw [hy]
  have HY := Lib.hid hy
  clear n1 n2 n3 hQ h hp hy
  unfold maxLen at hx
  go_enter Try.func43, Try.ntmps43
  go_wp2_with fail
  refine (HL.out _).mono ?_; rintro e w1 ⟨rfl, hbb⟩
  go_upto_region 3 with fail
  go_region_held3 (fun W => Below w.heap.size w W) (first | exact hbb.drew | assumption) (first | (go_at_call 45; refine (HN.out _ _ (by assumption) _).mono ?_; rintro e wx ⟨rfl, rfl⟩) | fail)
  go_upto_region 6 with fail
  rw [HY.out]
  rcases y0 with g | ⟨g, t2⟩
  · have d1 : decide (0 < (y.size : Int)) = false := decide_eq_false (by omega)
    by_cases c1 : A ≤ 23
    · by_cases c2 : B ≤ 59
      · by_cases c3 : C ≤ 59
        · have hq : Q = true := by rw [← HQ.out]; exact decide_eq_true (by omega)
          subst hq
          go_wp2_with fail
          exact bodyPost_ret (v := Mom.c4 (((A * 60 + B) * 60 + C) * 1000000000) y true true) (by unfold Mom.c4; simp [results, Try.results43, go_sem]) rfl ⟨rfl, by assumption⟩
        · have u1 : decide (C ≤ 59) = false := decide_eq_false c3
          have hq : Q = false := by rw [← HQ.out]; exact decide_eq_false (by omega)
          subst hq
          go_wp2_with fail
          exact bodyPost_ret (v := Mom.c4 (((A * 60 + B) * 60 + C) * 1000000000) y true false) (by unfold Mom.c4; simp [results, Try.results43, go_sem]) rfl ⟨rfl, by assumption⟩
      · have u1 : decide (B ≤ 59) = false := decide_eq_false c2
        have hq : Q = false := by rw [← HQ.out]; exact decide_eq_false (by omega)
        subst hq
        go_wp2_with fail
        exact bodyPost_ret (v := Mom.c4 (((A * 60 + B) * 60 + C) * 1000000000) y true false) (by unfold Mom.c4; simp [results, Try.results43, go_sem]) rfl ⟨rfl, by assumption⟩
    · have u1 : decide (A ≤ 23) = false := decide_eq_false c1
      have hq : Q = false := by rw [← HQ.out]; exact decide_eq_false (by omega)
      subst hq
      go_wp2_with fail
      exact bodyPost_ret (v := Mom.c4 (((A * 60 + B) * 60 + C) * 1000000000) y true false) (by unfold Mom.c4; simp [results, Try.results43, go_sem]) rfl ⟨rfl, by assumption⟩
  · have d1 : (0 : Int) < y.size := by omega
    by_cases c1 : A ≤ 23
    · by_cases c2 : B ≤ 59
      · by_cases c3 : C ≤ 59
        · have hq : Q = true := by rw [← HQ.out]; exact decide_eq_true (by omega)
          subst hq
          go_wp2_with fail
          exact bodyPost_ret (v := Mom.c4 (((A * 60 + B) * 60 + C) * 1000000000) y true true) (by unfold Mom.c4; simp [results, Try.results43, go_sem]) rfl ⟨rfl, by assumption⟩
        · have u1 : decide (C ≤ 59) = false := decide_eq_false c3
          have hq : Q = false := by rw [← HQ.out]; exact decide_eq_false (by omega)
          subst hq
          go_wp2_with fail
          exact bodyPost_ret (v := Mom.c4 (((A * 60 + B) * 60 + C) * 1000000000) y true false) (by unfold Mom.c4; simp [results, Try.results43, go_sem]) rfl ⟨rfl, by assumption⟩
      · have u1 : decide (B ≤ 59) = false := decide_eq_false c2
        have hq : Q = false := by rw [← HQ.out]; exact decide_eq_false (by omega)
        subst hq
        go_wp2_with fail
        exact bodyPost_ret (v := Mom.c4 (((A * 60 + B) * 60 + C) * 1000000000) y true false) (by unfold Mom.c4; simp [results, Try.results43, go_sem]) rfl ⟨rfl, by assumption⟩
    · have u1 : decide (A ≤ 23) = false := decide_eq_false c1
      have hq : Q = false := by rw [← HQ.out]; exact decide_eq_false (by omega)
      subst hq
      go_wp2_with fail
      exact bodyPost_ret (v := Mom.c4 (((A * 60 + B) * 60 + C) * 1000000000) y true false) (by unfold Mom.c4; simp [results, Try.results43, go_sem]) rfl ⟨rfl, by assumption⟩
end Go.Proofs.Ythbjkibclbgjoaa
