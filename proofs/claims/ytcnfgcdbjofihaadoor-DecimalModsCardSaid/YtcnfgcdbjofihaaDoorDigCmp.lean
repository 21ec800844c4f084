/- Numerals: their order. -/
import Derived.Test.YtcnfgcdbjofihaaDoorDigSum
import Derived.WalkLawsBesides
namespace Go.Proofs.YtcnfgcdbjofihaaDoor
open Go.RowKit

namespace Dig
theorem cmpBytes : ∀ (a b : List UInt8), a.length = b.length → Go.Lib.compareBytes a b = if a < b then -1 else if a = b then 0 else 1 := by
  intro a
  induction a with
  | nil => intro b h; cases b with
    | nil => simp [Go.Lib.compareBytes]
    | cons c t => simp at h
  | cons x s ih =>
    intro b h
    cases b with
    | nil => simp at h
    | cons y t =>
      have hl : s.length = t.length := by simpa using h
      unfold Go.Lib.compareBytes
      rw [ih t hl]
      simp only [List.cons_lt_cons_iff, List.cons.injEq]
      by_cases h1 : x < y
      · simp [h1]
      · by_cases h2 : y < x
        · have : x ≠ y := fun e => by subst e; exact h1 h2
          simp [h1, h2, this]
        · have : x = y := UInt8.le_antisymm (UInt8.not_lt.1 h2) (UInt8.not_lt.1 h1)
          subst this
          simp [h1]
theorem cmp_num {a b : Nat} (h : (num a).length = (num b).length) : Go.Lib.compareBytes (num a) (num b) = cmp a b := by
  rw [cmpBytes _ _ h]
  unfold cmp
  by_cases h1 : a < b
  · rw [if_pos ((num_lex h).2 h1), if_pos h1]
  · rw [if_neg (fun g => h1 ((num_lex h).1 g)), if_neg h1]
    by_cases h2 : a = b
    · rw [if_pos (by rw [h2]), if_pos h2]
    · rw [if_neg (fun g => h2 (num_inj g)), if_neg h2]
theorem st_len (n : Nat) : (st n).size = (num n).length := bs_size _
theorem cmp_lt {a b : Nat} (h : (st a).size < (st b).size) : cmp a b = -1 := by
  unfold cmp
  rw [st_len, st_len] at h
  rw [if_pos (num_short h)]
theorem cmp_gt {a b : Nat} (h : (st b).size < (st a).size) : cmp a b = 1 := by
  rw [st_len, st_len] at h
  have := num_short h
  unfold cmp
  rw [if_neg (by omega), if_neg (by omega)]
theorem less_dec : ∀ a b : List UInt8, Op.bytesLess a b = decide (a < b) := by
  intro a
  induction a with
  | nil => intro b; cases b <;> simp [Op.bytesLess]
  | cons x s ih =>
    intro b
    cases b with
    | nil => simp [Op.bytesLess]
    | cons y t =>
      unfold Op.bytesLess
      rw [ih t]
      rw [Bool.eq_iff_iff]
      simp only [List.cons_lt_cons_iff, decide_eq_true_iff, Bool.or_eq_true, Bool.and_eq_true, beq_iff_eq]
end Dig

set_option maxHeartbeats 1000000 in
theorem rcmp_any {a b : Nat} (ha : Dig.Str (Dig.st a)) (hb : Dig.Str (Dig.st b)) (w : World) :
    Calls Tryd.prog 75 #[.string (Dig.st a), .string (Dig.st b)] w fun e w' => e = .returned (.int .i64 (Dig.cmp a b)) ∧ w = w' := by
  have za := ha.size
  have zb := hb.size
  clear ha hb
  by_cases h1 : (Dig.st a).size < (Dig.st b).size
  · rw [Dig.cmp_lt h1]
    generalize Dig.st a = x at *
    generalize Dig.st b = y at *
    have d2 : decide (x.size < y.size) = true := decide_eq_true (by omega)
    clear h1
    go_enter Tryd.func75, Tryd.ntmps75
    go_wp2
    go_ret
    exact ⟨rfl, rfl⟩
  have d2 : decide ((Dig.st a).size < (Dig.st b).size) = false := decide_eq_false (by omega)
  have leq : ∀ x y : ByteArray, (x.toList == y.toList) = decide (Dig.l x = Dig.l y) := fun x y => by rw [Lib.toList_data, Lib.toList_data, Bool.eq_iff_iff, beq_iff_eq, decide_eq_true_iff]; rfl
  have en : decide (Dig.l (Dig.st a) = Dig.l (Dig.st b)) = decide (a = b) := by
    rw [decide_eq_decide, Dig.l_st, Dig.l_st]; exact ⟨fun h => Dig.num_inj h, fun h => by rw [h]⟩
  have t2 := leq (Dig.st a) (Dig.st b)
  rw [en] at t2
  by_cases h2 : (Dig.st b).size < (Dig.st a).size
  · rw [Dig.cmp_gt h2]
    have hne : a ≠ b := fun k => by subst k; omega
    rw [decide_eq_false hne] at t2
    clear en leq hne
    generalize Dig.st a = x at *
    generalize Dig.st b = y at *
    have d1 : ((x.size : Int) == y.size) = false := beq_eq_false_iff_ne.2 (by omega)
    clear h1 h2
    go_enter Tryd.func75, Tryd.ntmps75
    go_wp2
    go_ret
    exact ⟨rfl, rfl⟩
  have e : (Dig.st a).size = (Dig.st b).size := by omega
  have el : (Dig.num a).length = (Dig.num b).length := by rw [← Dig.st_len, ← Dig.st_len]; exact e
  have t3 : Op.bytesLess (Dig.st a).toList (Dig.st b).toList = decide (a < b) := by
    rw [Dig.less_dec, Lib.toList_data, Lib.toList_data, decide_eq_decide]
    have := Dig.num_lex el
    rw [← Dig.l_st, ← Dig.l_st] at this
    exact this
  unfold Dig.cmp
  have d1 : (((Dig.st a).size : Int) == (Dig.st b).size) = true := beq_iff_eq.2 (by omega)
  clear en leq el h1 h2 e
  by_cases h3 : a < b
  · rw [if_pos h3]
    rw [decide_eq_true h3] at t3
    clear t2 h3
    generalize Dig.st a = x at *
    generalize Dig.st b = y at *
    go_enter Tryd.func75, Tryd.ntmps75
    go_wp2
    go_ret
    exact ⟨rfl, rfl⟩
  rw [if_neg h3]
  rw [decide_eq_false h3] at t3
  by_cases h4 : a = b
  · rw [if_pos h4]
    rw [decide_eq_true h4] at t2
    clear h3 h4
    generalize Dig.st a = x at *
    generalize Dig.st b = y at *
    go_enter Tryd.func75, Tryd.ntmps75
    go_wp2
    go_ret
    exact ⟨rfl, rfl⟩
  · rw [if_neg h4]
    rw [decide_eq_false h4] at t2
    clear h3 h4
    generalize Dig.st a = x at *
    generalize Dig.st b = y at *
    go_enter Tryd.func75, Tryd.ntmps75
    go_wp2
    go_ret
    exact ⟨rfl, rfl⟩
end Go.Proofs.YtcnfgcdbjofihaaDoor
