/- Times: the reference's clocks, whole. -/
import Derived.Test.YthbjkibclbgjoaaMomRefD
namespace Go.Proofs.Ythbjkibclbgjoaa
open Go.RowKit

namespace Mom
def base (x : ByteArray) : Int := ((nv (x.extract 0 2) 2 * 60 + nv (x.extract 3 5) 2) * 60 + nv (x.extract 6 8) 2) * 1000000000
def okClk (x : ByteArray) : Bool := decide (nv (x.extract 0 2) 2 ≤ 23 ∧ nv (x.extract 3 5) 2 ≤ 59 ∧ nv (x.extract 6 8) 2 ≤ 59)
/-- What stands behind the seconds. -/
def rest8 (x : ByteArray) : ByteArray := x.extract 8 x.size
def frc (x : ByteArray) : ByteArray := (rest8 x).extract 1 (rest8 x).size
def rClk (x : ByteArray) : Int × ByteArray × Bool × Bool :=
  if ¬ lk x clkF then (0, ⟨#[]⟩, false, false)
  else if bt x 8 ≠ 46 then (base x, rest8 x, true, okClk x)
  else if cnt (frc x) < 1 ∨ 9 < cnt (frc x) then (0, ⟨#[]⟩, false, false)
  else (base x + nv (frc x) (cnt (frc x)) * 10 ^ (9 - cnt (frc x)), (rest8 x).extract (1 + cnt (frc x)) (rest8 x).size, true, okClk x)
theorem bt_tail (x : ByteArray) (a i : Nat) (ha : a ≤ x.size) : bt (x.extract a x.size) i = bt x (a + i) := by
  have hs : (x.extract a x.size).size = x.size - a := by rw [ByteArray.size_extract]; omega
  rcases Nat.lt_or_ge (a + i) x.size with h | h
  · exact bt_ext x a x.size i h (Nat.le_refl _)
  · rw [bt_out (x := x.extract a x.size) (by rw [hs]; omega), bt_out (x := x) (by omega)]
theorem isd_tail {x : ByteArray} {a i : Nat} (ha : a ≤ x.size) : isd (x.extract a x.size) i ↔ isd x (a + i) := by unfold isd; rw [bt_tail x a i ha]
theorem bt_left {X Z : ByteArray} {i : Nat} (h : i < X.size) : bt (X ++ Z) i = bt X i := by
  have hs : (X ++ Z).size = X.size + Z.size := ByteArray.size_append
  rw [bt_in (by omega), bt_in h]
  congr 2
  exact ByteArray.getElem_append_left h
theorem bt_right {X Z : ByteArray} {i : Nat} (h : X.size ≤ i) (h2 : i < X.size + Z.size) : bt (X ++ Z) i = bt Z (i - X.size) := by
  have hs : (X ++ Z).size = X.size + Z.size := ByteArray.size_append
  rw [bt_in (by omega), bt_in (by omega)]
  congr 2
  exact ByteArray.getElem_append_right h
theorem nv_pad {P z : ByteArray} {c : Nat} (h : ∀ i, i < c → bt P i = bt z i) : ∀ d : Nat, (∀ i, c ≤ i → i < c + d → bt P i = 48) → nv P (c + d) = nv z c * 10 ^ d := by
  intro d
  induction d with
  | zero => intro _; simp [nv_congr c h]
  | succ d ih =>
    intro hz
    show 10 * nv P (c + d) + (bt P (c + d) - 48) = _
    rw [ih (fun i a b => hz i a (by omega)), hz (c + d) (by omega) (by omega), Int.pow_succ]
    generalize nv z c = A
    generalize (10 : Int) ^ d = p
    have e : A * (p * 10) = 10 * (A * p) := by rw [Int.mul_comm 10, Int.mul_assoc]
    rw [e]
    omega
theorem z9_bt {i : Nat} (h : i < 9) : bt z9 i = 48 := by
  have e : i = 0 ∨ i = 1 ∨ i = 2 ∨ i = 3 ∨ i = 4 ∨ i = 5 ∨ i = 6 ∨ i = 7 ∨ i = 8 := by omega
  rcases e with rfl | rfl | rfl | rfl | rfl | rfl | rfl | rfl | rfl <;> decide
theorem pad_ok {y : ByteArray} {c : Nat} (h9 : c ≤ 9) (hc : 1 + c ≤ y.size) (hd : ∀ i, i < c → isd y (1 + i)) :
    numOk ((y.extract 1 (1 + c) ++ z9).extract 0 9) (nv (y.extract 1 y.size) c * 10 ^ (9 - c)) := by
  have hX : (y.extract 1 (1 + c)).size = c := by rw [ByteArray.size_extract]; omega
  have hZ : z9.size = 9 := rfl
  have hA : (y.extract 1 (1 + c) ++ z9).size = c + 9 := by rw [ByteArray.size_append, hX, hZ]
  have hP : ((y.extract 1 (1 + c) ++ z9).extract 0 9).size = 9 := by rw [ByteArray.size_extract]; omega
  have b1 : ∀ i, i < c → bt ((y.extract 1 (1 + c) ++ z9).extract 0 9) i = bt y (1 + i) := fun i hi => by
    rw [bt_ext _ 0 9 i (by omega) (by omega), Nat.zero_add, bt_left (by omega), bt_ext y 1 (1 + c) i (by omega) hc]
  have b2 : ∀ i, c ≤ i → i < 9 → bt ((y.extract 1 (1 + c) ++ z9).extract 0 9) i = 48 := fun i h1 h2 => by
    rw [bt_ext _ 0 9 i (by omega) (by omega), Nat.zero_add, bt_right (by omega) (by omega), hX]
    exact z9_bt (by omega)
  refine ⟨by omega, fun j hj => ?_, ?_⟩
  · rcases Nat.lt_or_ge j c with g | g
    · have := hd j g
      unfold isd at this ⊢
      rwa [b1 j g]
    · unfold isd
      rw [b2 j g (by omega)]
      omega
  · rw [hP]
    have := nv_pad (z := y.extract 1 y.size) (c := c) (fun i hi => (b1 i hi).trans (bt_tail y 1 i (by omega)).symm) (9 - c) (fun i h1 h2 => b2 i h1 (by omega))
    rwa [show c + (9 - c) = 9 by omega] at this
end Mom

theorem takeClock_any {x : ByteArray} (hx : x.size ≤ maxLen) (w : World) :
    Calls Try.prog 43 #[.string x] w fun e w' => e = .returned (Mom.c4 (Mom.rClk x).1 (Mom.rClk x).2.1 (Mom.rClk x).2.2.1 (Mom.rClk x).2.2.2) ∧ Below w.heap.size w w' := by
  unfold Mom.rClk
  by_cases h : Mom.lk x Mom.clkF
  case neg => rw [if_pos h]; exact takeClock_no hx h w
  rw [if_neg (fun g => g h)]
  have h8 : 8 ≤ x.size := h.1
  by_cases hp : Mom.bt x 8 = 46
  case neg => rw [if_pos hp]; exact takeClock_plain hx h hp w
  rw [if_neg (fun g => g hp)]
  have hs : 8 < x.size := by
    rcases Nat.lt_or_ge 8 x.size with g | g
    · exact g
    · rw [Mom.bt_out (by omega)] at hp; omega
  have ys : (Mom.rest8 x).size = x.size - 8 := by unfold Mom.rest8; rw [ByteArray.size_extract]; omega
  have hp2 : Mom.bt (Mom.rest8 x) 0 = 46 := by unfold Mom.rest8; rw [Mom.bt_tail x 8 0 h8]; exact hp
  have hr := Mom.run_cnt (Mom.frc x)
  have hle := Mom.run_le hr
  have fs : (Mom.frc x).size = (Mom.rest8 x).size - 1 := by unfold Mom.frc; rw [ByteArray.size_extract]; omega
  have rd : ∀ i, i < Mom.cnt (Mom.frc x) → Mom.isd (Mom.rest8 x) (1 + i) := fun i hi => (Mom.isd_tail (by omega)).1 (hr.1 i hi)
  have rn : ¬ Mom.isd (Mom.rest8 x) (1 + Mom.cnt (Mom.frc x)) := fun g => hr.2 ((Mom.isd_tail (by omega)).2 g)
  have rd2 : ∀ i, 1 ≤ i → i < 1 + Mom.cnt (Mom.frc x) → Mom.isd (Mom.rest8 x) i := fun i h1 h2 => by
    have := rd (i - 1) (by omega)
    rwa [show 1 + (i - 1) = i by omega] at this
  by_cases hb : Mom.cnt (Mom.frc x) < 1 ∨ 9 < Mom.cnt (Mom.frc x)
  · rw [if_pos hb]
    exact takeClock_bad (n0 := 1 + Mom.cnt (Mom.frc x)) hx h (show x.extract 8 x.size = Mom.rest8 x from rfl) hp2 (by omega) (by omega) rd2 rn (by omega) w
  · rw [if_neg hb]
    exact takeClock_ok (n0 := 1 + Mom.cnt (Mom.frc x)) hx h (show x.extract 8 x.size = Mom.rest8 x from rfl) hp2 (by omega) (by omega) rd2 rn (by omega) (by omega) (Mom.pad_ok (by omega) (by omega) rd) (by
      have := Mom.nv_bd hr.1
      exact Int.mul_nonneg this.1 (Int.le_of_lt (Int.pow_pos (by decide)))) (by
      have := Mom.pow10_bd hr.1 (show Mom.cnt (Mom.frc x) ≤ 9 by omega) (Nat.le_refl 9)
      exact this.2) w
end Go.Proofs.Ythbjkibclbgjoaa
