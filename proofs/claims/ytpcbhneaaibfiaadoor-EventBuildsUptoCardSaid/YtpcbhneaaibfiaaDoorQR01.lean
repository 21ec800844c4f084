/- Laid together for a claim: EvDep, EvDepR. -/
import Derived.Test.YtpcbhneaaibfiaaDoorQB25
set_option linter.unusedVariables false
set_option linter.unusedSimpArgs false
namespace Go.Proofs.YtpcbhneaaibfiaaDoor
open Go.RowKit
def dep1 (r : Int × Int) (k : Int) : Int × Int := if k = 2 ∨ k = 4 then (r.1 + 1, if r.2 < r.1 + 1 then r.1 + 1 else r.2) else if (k = 3 ∨ k = 5) ∧ 0 < r.1 then (r.1 - 1, r.2) else r
def depN (p : Evs) : Nat → Int × Int
  | 0 => (0, 0)
  | j + 1 => dep1 (depN p j) (p.S j).k
theorem depN_le (p : Evs) : ∀ j, 0 ≤ (depN p j).1 ∧ (depN p j).1 ≤ (depN p j).2 ∧ (depN p j).2 ≤ j := by
  intro j
  induction j with
  | zero => exact ⟨Int.le_refl _, Int.le_refl _, Int.le_refl _⟩
  | succ j ih =>
    show 0 ≤ (dep1 (depN p j) (p.S j).k).1 ∧ (dep1 (depN p j) (p.S j).k).1 ≤ (dep1 (depN p j) (p.S j).k).2 ∧ (dep1 (depN p j) (p.S j).k).2 ≤ _
    unfold dep1
    split
    · dsimp only
      split <;> omega
    split
    · dsimp only; omega
    · omega
set_option maxHeartbeats 8000000 in
set_option maxRecDepth 100000 in
theorem edepth_any {p : Evs} {top : Nat} {w : World} (hp : p.In w top) (ht : top ≤ w.heap.size) : Calls Tryd.prog 32 #[.slice p.a p.n p.c] w fun e w' => e = .returned (.int .i64 (depN p p.n).2) ∧ Below w.heap.size w w' := by
  have hn1 := hp.2.1.1
  have hnj : ((p.n : Nat) : Int) ≤ 1048576 := by omega
  have hni : (0 : Int) ≤ ((p.n : Nat) : Int) := by omega
  have HP := Lib.hid hp
  have HT := Lib.hid ht
  clear hp ht
  go_enter Tryd.func32, Tryd.ntmps32
  go_wp2_with fail
  go_loopw [3, 4, 9] (fun a b c wr => ∃ j : Nat, j ≤ p.n ∧ b = .int .i64 (depN p j).1 ∧ a = .int .i64 (depN p j).2 ∧ c = .int .i64 j ∧ Below w.heap.size w wr) (fun a b c _ => p.n - (intOf c).toNat)
  case atStart => exact ⟨0, by omega, rfl, rfl, rfl, Below.refl _ _⟩
  case round =>
    obtain ⟨j, hj, rfl, rfl, rfl, hbr⟩ := hrel
    have hji : (0 : Int) ≤ j := by omega
    have hle := depN_le p j
    by_cases hjn : j < p.n
    · have hjl : (j : Int) < p.n := by omega
      obtain ⟨ea, elt⟩ := HP.out.1 (by omega)
      have hl := ((HP.out.2.2 j hjn).1.below (hbr.mono HT.out) elt).e15
      obtain ⟨l0, l1, l2, l3, l4, l5, l6, l7, l8, l9, l10, l11, l12, l13, l14⟩ := hl
      rw [ea]
      have hd : depN p (j + 1) = dep1 (depN p j) (p.S j).k := rfl
      obtain ⟨r, hr⟩ : ∃ r, depN p j = r := ⟨_, rfl⟩
      rw [hr] at hd hle ⊢
      clear hr ea elt
      obtain ⟨o, m⟩ := r
      dsimp only at hle ⊢
      obtain ⟨o1, om, m2'⟩ := hle
      have o2 : o ≤ 1048576 := by omega
      have m1 : 0 ≤ m := by omega
      have m2 : m ≤ 1048576 := by omega
      generalize p.S j = x at *
      obtain ⟨k, key, V⟩ := x
      dsimp only at l0 l1 l2 l3 l4 l5 l6 l7 l8 l9 l10 l11 l12 l13 l14 hd
      have HDp := Lib.hid hd
      have hbx := hbr.alloc hbr.size (.cells #[.int .i64 k, .string key, .int .i64 V.h.k, .bool V.h.b, .bool V.h.n, .string V.h.d, .int .i64 V.h.e, .int .i64 V.h.tk, .int .i64 V.h.td, .int .i64 V.h.tn, .int .i64 V.h.tz, .string V.h.x, .slice V.h.ba V.h.bn V.h.bc, .slice V.h.la V.h.ln V.h.lc, .slice V.h.fa V.h.fn V.h.fc] 57)
      clear hd
      by_cases e2 : k = 2
      · subst e2
        by_cases hmo : m < o + 1
        · have HQ : Hid (depN p (j + 1) = (o + 1, o + 1)) := Lib.hid (by rw [HDp.out]; exact (if_pos (.inl rfl)).trans (by rw [if_pos hmo]))
          clear HDp
          go_wp2
          go_roundw
          case rel => exact ⟨j + 1, by omega, by rw [HQ.out] <;> exact congrArg (Value.int IntKind.i64) (by dsimp only; omega), by rw [HQ.out] <;> exact congrArg (Value.int IntKind.i64) (by dsimp only; omega), by go_num, hbx⟩
          case measure => simp [intOf]; omega
        · have hmo2 : o + 1 ≤ m := by omega
          have hmx : max m (o + 1) = m := by omega
          have HQ : Hid (depN p (j + 1) = (o + 1, m)) := Lib.hid (by rw [HDp.out]; exact (if_pos (.inl rfl)).trans (by rw [if_neg hmo]))
          clear HDp
          go_wp2
          go_roundw
          case rel => exact ⟨j + 1, by omega, by rw [HQ.out] <;> exact congrArg (Value.int IntKind.i64) (by dsimp only; omega), by rw [HQ.out] <;> exact congrArg (Value.int IntKind.i64) (by dsimp only; omega), by go_num, hbx⟩
          case measure => simp [intOf]; omega
      by_cases e4 : k = 4
      · subst e4
        by_cases hmo : m < o + 1
        · have HQ : Hid (depN p (j + 1) = (o + 1, o + 1)) := Lib.hid (by rw [HDp.out]; exact (if_pos (.inr rfl)).trans (by rw [if_pos hmo]))
          clear HDp
          go_wp2
          go_roundw
          case rel => exact ⟨j + 1, by omega, by rw [HQ.out] <;> exact congrArg (Value.int IntKind.i64) (by dsimp only; omega), by rw [HQ.out] <;> exact congrArg (Value.int IntKind.i64) (by dsimp only; omega), by go_num, hbx⟩
          case measure => simp [intOf]; omega
        · have hmo2 : o + 1 ≤ m := by omega
          have hmx : max m (o + 1) = m := by omega
          have HQ : Hid (depN p (j + 1) = (o + 1, m)) := Lib.hid (by rw [HDp.out]; exact (if_pos (.inr rfl)).trans (by rw [if_neg hmo]))
          clear HDp
          go_wp2
          go_roundw
          case rel => exact ⟨j + 1, by omega, by rw [HQ.out] <;> exact congrArg (Value.int IntKind.i64) (by dsimp only; omega), by rw [HQ.out] <;> exact congrArg (Value.int IntKind.i64) (by dsimp only; omega), by go_num, hbx⟩
          case measure => simp [intOf]; omega
      have d2 : (k == 2) = false := beq_eq_false_iff_ne.2 e2
      have d4 : (k == 4) = false := beq_eq_false_iff_ne.2 e4
      by_cases e3 : k = 3
      · subst e3
        by_cases ho0 : 0 < o
        · have HQ : Hid (depN p (j + 1) = (o - 1, m)) := Lib.hid (by rw [HDp.out]; exact (if_neg (by decide)).trans (if_pos ⟨(.inl rfl), ho0⟩))
          clear HDp
          go_wp2
          go_roundw
          case rel => exact ⟨j + 1, by omega, by rw [HQ.out] <;> exact congrArg (Value.int IntKind.i64) (by dsimp only; omega), by rw [HQ.out] <;> exact congrArg (Value.int IntKind.i64) (by dsimp only; omega), by go_num, hbx⟩
          case measure => simp [intOf]; omega
        · obtain rfl : o = 0 := by omega
          have HQ : Hid (depN p (j + 1) = (0, m)) := Lib.hid (by rw [HDp.out]; exact (if_neg (by decide)).trans (if_neg (fun q => ho0 q.2)))
          clear HDp
          go_wp2
          go_roundw
          case rel => exact ⟨j + 1, by omega, by rw [HQ.out] <;> exact congrArg (Value.int IntKind.i64) (by dsimp only; omega), by rw [HQ.out] <;> exact congrArg (Value.int IntKind.i64) (by dsimp only; omega), by go_num, hbx⟩
          case measure => simp [intOf]; omega
      by_cases e5 : k = 5
      · subst e5
        by_cases ho0 : 0 < o
        · have HQ : Hid (depN p (j + 1) = (o - 1, m)) := Lib.hid (by rw [HDp.out]; exact (if_neg (by decide)).trans (if_pos ⟨(.inr rfl), ho0⟩))
          clear HDp
          go_wp2
          go_roundw
          case rel => exact ⟨j + 1, by omega, by rw [HQ.out] <;> exact congrArg (Value.int IntKind.i64) (by dsimp only; omega), by rw [HQ.out] <;> exact congrArg (Value.int IntKind.i64) (by dsimp only; omega), by go_num, hbx⟩
          case measure => simp [intOf]; omega
        · obtain rfl : o = 0 := by omega
          have HQ : Hid (depN p (j + 1) = (0, m)) := Lib.hid (by rw [HDp.out]; exact (if_neg (by decide)).trans (if_neg (fun q => ho0 q.2)))
          clear HDp
          go_wp2
          go_roundw
          case rel => exact ⟨j + 1, by omega, by rw [HQ.out] <;> exact congrArg (Value.int IntKind.i64) (by dsimp only; omega), by rw [HQ.out] <;> exact congrArg (Value.int IntKind.i64) (by dsimp only; omega), by go_num, hbx⟩
          case measure => simp [intOf]; omega
      have d3 : (k == 3) = false := beq_eq_false_iff_ne.2 e3
      have d5 : (k == 5) = false := beq_eq_false_iff_ne.2 e5
      have HQ : Hid (depN p (j + 1) = (o, m)) := Lib.hid (by rw [HDp.out]; exact (if_neg (by rintro (q | q) <;> contradiction)).trans (if_neg (by rintro ⟨q | q, -⟩ <;> contradiction)))
      clear HDp
      go_wp2
      go_roundw
      case rel => exact ⟨j + 1, by omega, by rw [HQ.out] <;> exact congrArg (Value.int IntKind.i64) (by dsimp only; omega), by rw [HQ.out] <;> exact congrArg (Value.int IntKind.i64) (by dsimp only; omega), by go_num, hbx⟩
      case measure => simp [intOf]; omega
    · obtain rfl : j = p.n := by omega
      clear hjn hle
      go_wp2
      go_ret
      exact ⟨rfl, hbr⟩
set_option maxHeartbeats 8000000 in
set_option maxRecDepth 100000 in
theorem rdepth_any {p : Evs} {top : Nat} {w : World} (hp : p.In w top) (ht : top ≤ w.heap.size) : Calls Tryd.prog 33 #[.slice p.a p.n p.c] w fun e w' => e = .returned (.int .i64 (depN p p.n).2) ∧ Below w.heap.size w w' := by
  have hn1 := hp.2.1.1
  have hnj : ((p.n : Nat) : Int) ≤ 1048576 := by omega
  have hni : (0 : Int) ≤ ((p.n : Nat) : Int) := by omega
  have HP := Lib.hid hp
  have HT := Lib.hid ht
  clear hp ht
  go_enter Tryd.func33, Tryd.ntmps33
  go_wp2_with fail
  go_loopw [3, 4, 5] (fun a b c wr => ∃ j : Nat, j ≤ p.n ∧ a = .int .i64 (depN p j).1 ∧ b = .int .i64 (depN p j).2 ∧ c = .int .i64 j ∧ Below w.heap.size w wr) (fun a b c _ => p.n - (intOf c).toNat)
  case atStart => exact ⟨0, by omega, rfl, rfl, rfl, Below.refl _ _⟩
  case round =>
    obtain ⟨j, hj, rfl, rfl, rfl, hbr⟩ := hrel
    have hji : (0 : Int) ≤ j := by omega
    have hle := depN_le p j
    by_cases hjn : j < p.n
    · have hjl : (j : Int) < p.n := by omega
      obtain ⟨ea, elt⟩ := HP.out.1 (by omega)
      have hl := ((HP.out.2.2 j hjn).1.below (hbr.mono HT.out) elt).e15
      obtain ⟨l0, l1, l2, l3, l4, l5, l6, l7, l8, l9, l10, l11, l12, l13, l14⟩ := hl
      rw [ea]
      have hd : depN p (j + 1) = dep1 (depN p j) (p.S j).k := rfl
      obtain ⟨r, hr⟩ : ∃ r, depN p j = r := ⟨_, rfl⟩
      rw [hr] at hd hle ⊢
      clear hr ea elt
      obtain ⟨o, m⟩ := r
      dsimp only at hle ⊢
      obtain ⟨o1, om, m2'⟩ := hle
      have o2 : o ≤ 1048576 := by omega
      have m1 : 0 ≤ m := by omega
      have m2 : m ≤ 1048576 := by omega
      generalize p.S j = x at *
      obtain ⟨k, key, V⟩ := x
      dsimp only at l0 l1 l2 l3 l4 l5 l6 l7 l8 l9 l10 l11 l12 l13 l14 hd
      have HDp := Lib.hid hd
      clear hd
      by_cases e2 : k = 2
      · subst e2
        by_cases hmo : m < o + 1
        · have HQ : Hid (depN p (j + 1) = (o + 1, o + 1)) := Lib.hid (by rw [HDp.out]; exact (if_pos (.inl rfl)).trans (by rw [if_pos hmo]))
          clear HDp
          go_wp2
          go_roundw
          case rel => exact ⟨j + 1, by omega, by rw [HQ.out] <;> exact congrArg (Value.int IntKind.i64) (by dsimp only; omega), by rw [HQ.out] <;> exact congrArg (Value.int IntKind.i64) (by dsimp only; omega), by go_num, hbr⟩
          case measure => simp [intOf]; omega
        · have hmo2 : o + 1 ≤ m := by omega
          have hmx : max m (o + 1) = m := by omega
          have HQ : Hid (depN p (j + 1) = (o + 1, m)) := Lib.hid (by rw [HDp.out]; exact (if_pos (.inl rfl)).trans (by rw [if_neg hmo]))
          clear HDp
          go_wp2
          go_roundw
          case rel => exact ⟨j + 1, by omega, by rw [HQ.out] <;> exact congrArg (Value.int IntKind.i64) (by dsimp only; omega), by rw [HQ.out] <;> exact congrArg (Value.int IntKind.i64) (by dsimp only; omega), by go_num, hbr⟩
          case measure => simp [intOf]; omega
      by_cases e4 : k = 4
      · subst e4
        by_cases hmo : m < o + 1
        · have HQ : Hid (depN p (j + 1) = (o + 1, o + 1)) := Lib.hid (by rw [HDp.out]; exact (if_pos (.inr rfl)).trans (by rw [if_pos hmo]))
          clear HDp
          go_wp2
          go_roundw
          case rel => exact ⟨j + 1, by omega, by rw [HQ.out] <;> exact congrArg (Value.int IntKind.i64) (by dsimp only; omega), by rw [HQ.out] <;> exact congrArg (Value.int IntKind.i64) (by dsimp only; omega), by go_num, hbr⟩
          case measure => simp [intOf]; omega
        · have hmo2 : o + 1 ≤ m := by omega
          have hmx : max m (o + 1) = m := by omega
          have HQ : Hid (depN p (j + 1) = (o + 1, m)) := Lib.hid (by rw [HDp.out]; exact (if_pos (.inr rfl)).trans (by rw [if_neg hmo]))
          clear HDp
          go_wp2
          go_roundw
          case rel => exact ⟨j + 1, by omega, by rw [HQ.out] <;> exact congrArg (Value.int IntKind.i64) (by dsimp only; omega), by rw [HQ.out] <;> exact congrArg (Value.int IntKind.i64) (by dsimp only; omega), by go_num, hbr⟩
          case measure => simp [intOf]; omega
      have d2 : (k == 2) = false := beq_eq_false_iff_ne.2 e2
      have d4 : (k == 4) = false := beq_eq_false_iff_ne.2 e4
      by_cases e3 : k = 3
      · subst e3
        by_cases ho0 : 0 < o
        · have HQ : Hid (depN p (j + 1) = (o - 1, m)) := Lib.hid (by rw [HDp.out]; exact (if_neg (by decide)).trans (if_pos ⟨(.inl rfl), ho0⟩))
          clear HDp
          go_wp2
          go_roundw
          case rel => exact ⟨j + 1, by omega, by rw [HQ.out] <;> exact congrArg (Value.int IntKind.i64) (by dsimp only; omega), by rw [HQ.out] <;> exact congrArg (Value.int IntKind.i64) (by dsimp only; omega), by go_num, hbr⟩
          case measure => simp [intOf]; omega
        · obtain rfl : o = 0 := by omega
          have HQ : Hid (depN p (j + 1) = (0, m)) := Lib.hid (by rw [HDp.out]; exact (if_neg (by decide)).trans (if_neg (fun q => ho0 q.2)))
          clear HDp
          go_wp2
          go_roundw
          case rel => exact ⟨j + 1, by omega, by rw [HQ.out] <;> exact congrArg (Value.int IntKind.i64) (by dsimp only; omega), by rw [HQ.out] <;> exact congrArg (Value.int IntKind.i64) (by dsimp only; omega), by go_num, hbr⟩
          case measure => simp [intOf]; omega
      by_cases e5 : k = 5
      · subst e5
        by_cases ho0 : 0 < o
        · have HQ : Hid (depN p (j + 1) = (o - 1, m)) := Lib.hid (by rw [HDp.out]; exact (if_neg (by decide)).trans (if_pos ⟨(.inr rfl), ho0⟩))
          clear HDp
          go_wp2
          go_roundw
          case rel => exact ⟨j + 1, by omega, by rw [HQ.out] <;> exact congrArg (Value.int IntKind.i64) (by dsimp only; omega), by rw [HQ.out] <;> exact congrArg (Value.int IntKind.i64) (by dsimp only; omega), by go_num, hbr⟩
          case measure => simp [intOf]; omega
        · obtain rfl : o = 0 := by omega
          have HQ : Hid (depN p (j + 1) = (0, m)) := Lib.hid (by rw [HDp.out]; exact (if_neg (by decide)).trans (if_neg (fun q => ho0 q.2)))
          clear HDp
          go_wp2
          go_roundw
          case rel => exact ⟨j + 1, by omega, by rw [HQ.out] <;> exact congrArg (Value.int IntKind.i64) (by dsimp only; omega), by rw [HQ.out] <;> exact congrArg (Value.int IntKind.i64) (by dsimp only; omega), by go_num, hbr⟩
          case measure => simp [intOf]; omega
      have d3 : (k == 3) = false := beq_eq_false_iff_ne.2 e3
      have d5 : (k == 5) = false := beq_eq_false_iff_ne.2 e5
      have HQ : Hid (depN p (j + 1) = (o, m)) := Lib.hid (by rw [HDp.out]; exact (if_neg (by rintro (q | q) <;> contradiction)).trans (if_neg (by rintro ⟨q | q, -⟩ <;> contradiction)))
      clear HDp
      go_wp2
      go_roundw
      case rel => exact ⟨j + 1, by omega, by rw [HQ.out] <;> exact congrArg (Value.int IntKind.i64) (by dsimp only; omega), by rw [HQ.out] <;> exact congrArg (Value.int IntKind.i64) (by dsimp only; omega), by go_num, hbr⟩
      case measure => simp [intOf]; omega
    · obtain rfl : j = p.n := by omega
      clear hjn hle
      go_wp2
      go_ret
      exact ⟨rfl, hbr⟩
end Go.Proofs.YtpcbhneaaibfiaaDoor
