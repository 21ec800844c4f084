/- Times: the reference's offsets. -/
import Derived.Test.YthbjkibclbgjoaaMomRefA
import Derived.Deep.RegionHeld3
import Derived.Deep.Cut
namespace Go.Proofs.Ythbjkibclbgjoaa
open Go.RowKit

namespace Mom
def numOk (y : ByteArray) (v : Int) : Prop := y.size ≤ 9 ∧ alld y y.size ∧ nv y y.size = v
def plusF : ByteArray := ⟨#[43, 100, 100, 58, 100, 100]⟩
def minusF : ByteArray := ⟨#[45, 100, 100, 58, 100, 100]⟩
def rOff (x : ByteArray) : Int × Bool × Bool :=
  if x.toList = [90] ∨ x.toList = [122] then (0, true, true)
  else if x.size ≠ 6 ∨ (¬ lk x plusF ∧ ¬ lk x minusF) then (0, false, false)
  else (if bt x 0 = 45 then -(nv (x.extract 1 3) 2 * 60 + nv (x.extract 4 6) 2) else nv (x.extract 1 3) 2 * 60 + nv (x.extract 4 6) 2, true, decide (nv (x.extract 1 3) 2 ≤ 23 ∧ nv (x.extract 4 6) 2 ≤ 59))
theorem bt_ext (x : ByteArray) (a b i : Nat) (h : a + i < b) (hb : b ≤ x.size) : bt (x.extract a b) i = bt x (a + i) := by
  have hs : (x.extract a b).size = b - a := by rw [ByteArray.size_extract]; omega
  rw [bt_in (by rw [hs]; omega), bt_in (by omega)]
  congr 2
  simp [ByteArray.getElem_extract]
theorem numOk_ext {x : ByteArray} {a b : Nat} (hb : b ≤ x.size) (hab : b ≤ a + 9) (h : ∀ i, a ≤ i → i < b → isd x i) : numOk (x.extract a b) (nv (x.extract a b) (b - a)) := by
  have hs : (x.extract a b).size = b - a := by rw [ByteArray.size_extract]; omega
  refine ⟨by omega, fun j hj => ?_, by rw [hs]⟩
  have := h (a + j) (by omega) (by omega)
  unfold isd at this ⊢
  rwa [bt_ext x a b j (by omega) hb]
end Mom
theorem num_is {y : ByteArray} {v : Int} (h : Mom.numOk y v) (w : World) :
    Calls Try.prog 45 #[.string y] w fun e w' => e = .returned (.int .i64 v) ∧ w = w' := by
  have := number_any h.1 h.2.1 w
  rwa [h.2.2] at this

set_option maxHeartbeats 2000000 in
theorem takeOff_z {x : ByteArray} (h : x.toList = [90] ∨ x.toList = [122]) (w : World) :
    Calls Try.prog 46 #[.string x] w fun e w' => e = .returned (.tuple #[.int .i64 0, .bool true, .bool true]) ∧ Below w.heap.size w w' := by
  rcases h with h | h
  · have z1 : (x.toList == [90]) = true := beq_iff_eq.2 h
    clear h
    go_enter Try.func46, Try.ntmps46
    go_wp2_with fail
    go_ret3
    exact ⟨rfl, Below.refl _ _⟩
  · have z1 : (x.toList == [90]) = false := by rw [h]; rfl
    have z2 : (x.toList == [122]) = true := beq_iff_eq.2 h
    clear h
    go_enter Try.func46, Try.ntmps46
    go_wp2_with fail
    go_ret3
    exact ⟨rfl, Below.refl _ _⟩

theorem not_z {x : ByteArray} (h : ¬ (x.toList = [90] ∨ x.toList = [122])) : (x.toList == [90]) = false ∧ (x.toList == [122]) = false :=
  ⟨beq_eq_false_iff_ne.2 (fun e => h (Or.inl e)), beq_eq_false_iff_ne.2 (fun e => h (Or.inr e))⟩
set_option maxHeartbeats 2000000 in
theorem takeOff_bad {x : ByteArray} (hx : x.size ≤ maxLen) (hz : ¬ (x.toList = [90] ∨ x.toList = [122])) (h : x.size ≠ 6 ∨ (¬ Mom.lk x Mom.plusF ∧ ¬ Mom.lk x Mom.minusF)) (w : World) :
    Calls Try.prog 46 #[.string x] w fun e w' => e = .returned (.tuple #[.int .i64 0, .bool false, .bool false]) ∧ Below w.heap.size w w' := by
  obtain ⟨z1, z2⟩ := not_z hz
  have HP := Lib.hid (like_any (f := Mom.plusF) hx)
  have HM := Lib.hid (like_any (f := Mom.minusF) hx)
  clear hz
  unfold maxLen at hx
  by_cases hs : x.size = 6
  · have t1 : ((x.size : Int) != 6) = false := by simp [hs]
    obtain ⟨h1, h2⟩ := h.resolve_left (fun g => g hs)
    rw [decide_eq_false h1] at HP
    rw [decide_eq_false h2] at HM
    unfold Mom.plusF at HP
    unfold Mom.minusF at HM
    clear h h1 h2 hs
    go_enter Try.func46, Try.ntmps46
    go_wp2_with fail
    refine (HP.out _).mono ?_; rintro e w1 ⟨rfl, hb1⟩
    go_wp2_with fail
    refine (HM.out _).mono ?_; rintro e w2 ⟨rfl, hb2⟩
    go_wp2_with fail
    go_ret3
    exact ⟨rfl, below_then hb1 hb2⟩
  · have t1 : ((x.size : Int) != 6) = true := by simp; omega
    clear h hs HP HM
    go_enter Try.func46, Try.ntmps46
    go_wp2_with fail
    go_ret3
    exact ⟨rfl, Below.refl _ _⟩
theorem ret_obb {a b : Int} {c d : Bool} (h : a = b) (k : c = d) : Ending.returned (Value.tuple #[.int .i64 a, .bool true, .bool c]) = .returned (.tuple #[.int .i64 b, .bool true, .bool d]) := by rw [h, k]
theorem Mom.okc_d {s f : ByteArray} {i : Nat} (h : Mom.okc s f i) (hf : Mom.bt f i = 100) : Mom.isd s i := by unfold Mom.okc at h; rwa [if_pos hf] at h
theorem Mom.okc_c {s f : ByteArray} {i : Nat} {c : Int} (h : Mom.okc s f i) (hf : Mom.bt f i = c) (hc : c ≠ 100) : Mom.bt s i = c := by unfold Mom.okc at h; rw [if_neg (by omega), hf] at h; exact h

set_option maxHeartbeats 4000000 in
theorem takeOff_ok {x : ByteArray} (hs : x.size = 6) (hz : ¬ (x.toList = [90] ∨ x.toList = [122])) (h : Mom.lk x Mom.plusF ∨ Mom.lk x Mom.minusF) (w : World) :
    Calls Try.prog 46 #[.string x] w fun e w' => e = .returned (.tuple #[.int .i64 (if Mom.bt x 0 = 45 then -(Mom.nv (x.extract 1 3) 2 * 60 + Mom.nv (x.extract 4 6) 2) else Mom.nv (x.extract 1 3) 2 * 60 + Mom.nv (x.extract 4 6) 2), .bool true, .bool (decide (Mom.nv (x.extract 1 3) 2 ≤ 23 ∧ Mom.nv (x.extract 4 6) 2 ≤ 59))]) ∧ Below w.heap.size w w' := by
  obtain ⟨z1, z2⟩ := not_z hz
  have hx : x.size ≤ maxLen := by rw [hs]; decide
  have HP := Lib.hid (like_any (f := Mom.plusF) hx)
  have HM := Lib.hid (like_any (f := Mom.minusF) hx)
  have hd : Mom.isd x 1 ∧ Mom.isd x 2 ∧ Mom.isd x 4 ∧ Mom.isd x 5 := by
    rcases h with h | h
    · exact ⟨Mom.okc_d (h.2 1 (by decide)) (by decide), Mom.okc_d (h.2 2 (by decide)) (by decide), Mom.okc_d (h.2 4 (by decide)) (by decide), Mom.okc_d (h.2 5 (by decide)) (by decide)⟩
    · exact ⟨Mom.okc_d (h.2 1 (by decide)) (by decide), Mom.okc_d (h.2 2 (by decide)) (by decide), Mom.okc_d (h.2 4 (by decide)) (by decide), Mom.okc_d (h.2 5 (by decide)) (by decide)⟩
  have n1 := Mom.numOk_ext (x := x) (a := 1) (b := 3) (by omega) (by omega) (fun i a b => by
    have e : i = 1 ∨ i = 2 := by omega
    rcases e with rfl | rfl
    · exact hd.1
    · exact hd.2.1)
  have n2 := Mom.numOk_ext (x := x) (a := 4) (b := 6) (by omega) (by omega) (fun i a b => by
    have e : i = 4 ∨ i = 5 := by omega
    rcases e with rfl | rfl
    · exact hd.2.2.1
    · exact hd.2.2.2)
  have b1 := Mom.nv_bd n1.2.1
  have b2 := Mom.nv_bd n2.2.1
  have e1 : (x.extract 1 3).size = 2 := by rw [ByteArray.size_extract]; omega
  have e2 : (x.extract 4 6).size = 2 := by rw [ByteArray.size_extract]; omega
  rw [e1] at b1
  rw [e2] at b2
  change Mom.numOk (x.extract 1 3) (Mom.nv (x.extract 1 3) 2) at n1
  change Mom.numOk (x.extract 4 6) (Mom.nv (x.extract 4 6) 2) at n2
  generalize Mom.nv (x.extract 1 3) 2 = H at *
  generalize Mom.nv (x.extract 4 6) 2 = M at *
  have N1 := Lib.hid n1
  have N2 := Lib.hid n2
  have HN : Hid (∀ y v, Hid (Mom.numOk y v) → ∀ w, Calls Try.prog 45 #[.string y] w fun e w' => e = .returned (.int .i64 v) ∧ w = w') := Lib.hid (fun y v h w => num_is h.out w)
  obtain ⟨b11, b12⟩ := b1
  obtain ⟨b21, b22⟩ := b2
  have b12' : H < 100 := b12
  have b22' : M < 100 := b22
  have s0 : 0 < x.size := by omega
  have bt0 := Mom.bt_in s0
  have t1 : ((x.size : Int) != 6) = false := by simp [hs]
  have l1 : (3 : Int) ≤ x.size := by omega
  have l2 : (6 : Int) ≤ x.size := by omega
  have l3 : (0 : Int) < x.size := by omega
  obtain ⟨R, hR0⟩ : ∃ r, (if Mom.bt x 0 = 45 then -(H * 60 + M) else H * 60 + M) = r := ⟨_, rfl⟩
  obtain ⟨Q, hQ⟩ : ∃ r, decide (H ≤ 23 ∧ M ≤ 59) = r := ⟨_, rfl⟩
  rw [hR0, hQ]
  have HQ := Lib.hid hQ
  clear hz hx hd n1 n2 e1 e2 b12 b22 hQ
  have hcase : (Mom.lk x Mom.plusF ∧ Mom.bt x 0 = 43) ∨ (¬ Mom.lk x Mom.plusF ∧ Mom.lk x Mom.minusF ∧ Mom.bt x 0 = 45) := by
    by_cases g : Mom.lk x Mom.plusF
    · exact Or.inl ⟨g, Mom.okc_c (g.2 0 (by decide)) (by decide) (by decide)⟩
    · have g2 := h.resolve_left g
      exact Or.inr ⟨g, g2, Mom.okc_c (g2.2 0 (by decide)) (by decide) (by decide)⟩
  clear h
  rcases hcase with ⟨g, g0⟩ | ⟨g, g2, g0⟩
  · rw [if_neg (by omega)] at hR0
    have HR : Hid (H * 60 + M = R) := Lib.hid hR0
    rw [decide_eq_true g] at HP
    have t2 : ((x[0].toNat : Int) == 45) = false := beq_eq_false_iff_ne.2 (by rw [← bt0]; omega)
    unfold Mom.plusF at HP
    clear g g0 bt0 HM hs hR0
    go_enter Try.func46, Try.ntmps46
    go_wp2_with fail
    refine (HP.out _).mono ?_; rintro e w1 ⟨rfl, hbb⟩
    go_upto_region 5 with fail
    go_region_held3 (fun W => Below w.heap.size w W) (first | exact hbb.drew | assumption) (first | (go_at_call 45; refine (HN.out _ _ (by assumption) _).mono ?_; rintro e wx ⟨rfl, rfl⟩) | fail)
    by_cases c1 : H ≤ 23
    · by_cases c2 : M ≤ 59
      · go_wp2_with fail
        go_ret3
        exact ⟨ret_obb HR.out (by rw [← HQ.out]; exact (decide_eq_true (by omega)).symm), by assumption⟩
      · have u1 : decide (M ≤ 59) = false := decide_eq_false c2
        go_wp2_with fail
        go_ret3
        exact ⟨ret_obb HR.out (by rw [← HQ.out]; exact (decide_eq_false (by omega)).symm), by assumption⟩
    · have u1 : decide (H ≤ 23) = false := decide_eq_false c1
      go_wp2_with fail
      go_ret3
      exact ⟨ret_obb HR.out (by rw [← HQ.out]; exact (decide_eq_false (by omega)).symm), by assumption⟩
  · rw [if_pos g0] at hR0
    have HR : Hid (-(H * 60 + M) = R) := Lib.hid hR0
    rw [decide_eq_false g] at HP
    rw [decide_eq_true g2] at HM
    have t2 : ((x[0].toNat : Int) == 45) = true := by rw [← bt0, g0]; rfl
    unfold Mom.plusF at HP
    unfold Mom.minusF at HM
    clear g g0 g2 bt0 hs hR0
    go_enter Try.func46, Try.ntmps46
    go_wp2_with fail
    refine (HP.out _).mono ?_; rintro e w1 ⟨rfl, hbb⟩
    go_wp2_with fail
    refine (HM.out _).mono ?_; rintro e w2 ⟨rfl, hb2⟩
    replace hbb := below_then hbb hb2
    clear hb2
    go_upto_region 5 with fail
    go_region_held3 (fun W => Below w.heap.size w W) (first | exact hbb.drew | assumption) (first | (go_at_call 45; refine (HN.out _ _ (by assumption) _).mono ?_; rintro e wx ⟨rfl, rfl⟩) | fail)
    by_cases c1 : H ≤ 23
    · by_cases c2 : M ≤ 59
      · go_wp2_with fail
        go_ret3
        exact ⟨ret_obb HR.out (by rw [← HQ.out]; exact (decide_eq_true (by omega)).symm), by assumption⟩
      · have u1 : decide (M ≤ 59) = false := decide_eq_false c2
        go_wp2_with fail
        go_ret3
        exact ⟨ret_obb HR.out (by rw [← HQ.out]; exact (decide_eq_false (by omega)).symm), by assumption⟩
    · have u1 : decide (H ≤ 23) = false := decide_eq_false c1
      go_wp2_with fail
      go_ret3
      exact ⟨ret_obb HR.out (by rw [← HQ.out]; exact (decide_eq_false (by omega)).symm), by assumption⟩
end Go.Proofs.Ythbjkibclbgjoaa
