/- Times: the reader's steps as functions on its state; dates, clocks, offsets. -/
import Derived.Test.YthbjkibclbgjoaaMomReadC
namespace Go.Proofs.Ythbjkibclbgjoaa
open Go.RowKit

namespace Mom
structure Rd where
  x : ByteArray
  b : Bool
instance (o : ByteArray) (c : Int) : Decidable (has o c) := inferInstanceAs (Decidable (∃ j, j < o.size ∧ bt o j = c))
def cntF (x : ByteArray) : Nat → Nat → Nat
  | 0, k => k
  | n + 1, k => if isd x k then cntF x n (k + 1) else k
def cnt (x : ByteArray) : Nat := cntF x x.size 0
theorem run_cnt (x : ByteArray) : run x (cnt x) := by
  have key : ∀ n k, alld x k → x.size ≤ n + k → run x (cntF x n k) := by
    intro n
    induction n with
    | zero => intro k hk hn; show run x k; exact ⟨hk, fun hd => by have := isd_lt hd; omega⟩
    | succ n ih =>
      intro k hk hn
      unfold cntF
      by_cases hd : isd x k
      · rw [if_pos hd]
        refine ih (k + 1) (fun j hj => ?_) (by omega)
        rcases Nat.lt_or_ge j k with h | h
        · exact hk j h
        · obtain rfl : j = k := by omega
          exact hd
      · rw [if_neg hd]; exact ⟨hk, hd⟩
  exact key _ 0 (fun j hj => by omega) (by omega)
def num (s : Rd) (w : Nat) : Int × Rd := if alld s.x w then (nv s.x w, ⟨s.x.extract w s.x.size, s.b⟩) else (0, ⟨s.x, true⟩)
def one (s : Rd) (o : ByteArray) : Int × Rd := if has o (bt s.x 0) then (bt s.x 0, ⟨s.x.extract 1 s.x.size, s.b⟩) else (0, ⟨s.x, true⟩)
def frac (s : Rd) : Int × Rd := if 1 ≤ cnt s.x ∧ cnt s.x ≤ 9 then (nv s.x (cnt s.x) * 10 ^ (9 - cnt s.x), ⟨s.x.extract (cnt s.x) s.x.size, s.b⟩) else (0, ⟨s.x, true⟩)
theorem num_size (s : Rd) (w : Nat) : (num s w).2.x.size ≤ s.x.size := by unfold num; split <;> simp [ByteArray.size_extract]
theorem one_size (s : Rd) (o : ByteArray) : (one s o).2.x.size ≤ s.x.size := by unfold one; split <;> simp [ByteArray.size_extract]
theorem frac_size (s : Rd) : (frac s).2.x.size ≤ s.x.size := by unfold frac; split <;> simp [ByteArray.size_extract]
theorem has_some {x o : ByteArray} (h : has o (bt x 0)) : 0 < x.size := by
  obtain ⟨j, hj, he⟩ := h
  rcases Nat.eq_zero_or_pos x.size with h0 | h0
  · rw [bt_out (x := x) (by omega), bt_in hj] at he; omega
  · exact h0
end Mom

def RdAt (W : World) (B : Nat) (s : Mom.Rd) : Prop := Whole W B 57 #[.string s.x, .bool s.b]
theorem grown_set (W : World) (B i : Nat) (u : Value) : W.grownBy (W.setCell ⟨B, i, none⟩ u) (some B) :=
  ⟨rfl, rfl, rfl, by simp [World.setCell], fun k _ hk => Below.heap_setCell _ _ _ _ (by simp at hk ⊢; omega)⟩
theorem grown_trans {X Y Z : World} {row : Option Nat} (h : X.grownBy Y row) (k : Y.grownBy Z row) : X.grownBy Z row :=
  ⟨k.os.trans h.os, k.tape.trans h.tape, k.output.trans h.output, Nat.le_trans h.size k.size, fun i hi hr => (k.block i (Nat.lt_of_lt_of_le hi h.size) hr).trans (h.block i hi hr)⟩
theorem grown_drewN (W : World) (m : Nat) (row : Option Nat) : W.grownBy (W.drewN m) row := ⟨rfl, rfl, rfl, Nat.le_refl _, fun _ _ _ => rfl⟩

theorem number_st {s : Mom.Rd} {wd B : Nat} (hx : s.x.size ≤ maxLen) (hw : wd ≤ 9) {W : World} (hW : RdAt W B s) :
    Calls Try.prog 69 #[.pointer (some ⟨B, 0, none⟩), .int .i64 wd] W fun e W' =>
      e = .returned (.int .i64 (Mom.num s wd).1) ∧ RdAt W' B (Mom.num s wd).2 ∧ W.grownBy W' (some B) := by
  unfold Mom.num
  by_cases h : Mom.alld s.x wd
  · rw [if_pos h]
    refine (number_ok hx hw h W hW).mono ?_
    rintro e w' ⟨rfl, rfl⟩
    exact ⟨rfl, hW.set 0 _, grown_set _ _ _ _⟩
  · rw [if_neg h]
    refine (number_bad hx hw h W hW).mono ?_
    rintro e w' ⟨rfl, rfl⟩
    exact ⟨rfl, hW.set 1 _, grown_set _ _ _ _⟩
theorem one_st {s : Mom.Rd} {o : ByteArray} {B : Nat} (hx : s.x.size ≤ maxLen) (ho : o.size ≤ 100) {W : World} (hW : RdAt W B s) :
    Calls Try.prog 61 #[.pointer (some ⟨B, 0, none⟩), .string o] W fun e W' =>
      e = .returned (.int .u8 (Mom.one s o).1) ∧ RdAt W' B (Mom.one s o).2 ∧ W.grownBy W' (some B) := by
  unfold Mom.one
  by_cases h : Mom.has o (Mom.bt s.x 0)
  · rw [if_pos h]
    refine (one_yes hx ho (Mom.has_some h) h W hW).mono ?_
    rintro e w' ⟨rfl, m, rfl⟩
    exact ⟨rfl, (Whole.drewN hW m).set 0 _, grown_trans (grown_drewN W m _) (grown_set _ _ _ _)⟩
  · rw [if_neg h]
    refine (one_no hx ho h W hW).mono ?_
    rintro e w' ⟨rfl, m, rfl⟩
    exact ⟨rfl, (Whole.drewN hW m).set 1 _, grown_trans (grown_drewN W m _) (grown_set _ _ _ _)⟩
theorem fraction_st {s : Mom.Rd} {B : Nat} (hx : s.x.size ≤ maxLen) {W : World} (hW : RdAt W B s) :
    Calls Try.prog 70 #[.pointer (some ⟨B, 0, none⟩)] W fun e W' =>
      e = .returned (.int .i64 (Mom.frac s).1) ∧ RdAt W' B (Mom.frac s).2 ∧ W.grownBy W' (some B) := by
  unfold Mom.frac
  refine (fraction_any hx (Mom.run_cnt s.x) W hW).mono ?_
  rintro e w' ⟨h1, h2⟩
  by_cases h : 1 ≤ Mom.cnt s.x ∧ Mom.cnt s.x ≤ 9
  · obtain ⟨rfl, rfl⟩ := h1 h
    rw [if_pos h]
    exact ⟨rfl, hW.set 0 _, grown_set _ _ _ _⟩
  · obtain ⟨rfl, rfl⟩ := h2 h
    rw [if_neg h]
    exact ⟨rfl, hW.set 1 _, grown_set _ _ _ _⟩
end Go.Proofs.Ythbjkibclbgjoaa
