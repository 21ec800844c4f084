/- Laid together for a claim: VCalMath, VCalWalks, VCalWalksB, VMomCal, VMomWalks, VtOne, VtLookM. -/
import Derived.WalkKit
import Derived.Test.YtfkfboiblgoamaaDoorProg
import Derived.Outline
import Derived.Below
import Derived.LoopTactic
import Derived.Lib.Hide
import Derived.WalkLawsBesides
import Derived.WalkSpells
import Derived.Test.YtfkfboiblgoamaaDoorQB01
import Derived.Deep.QuietTactic
import Derived.BigQuiet
import Derived.Test.YtfkfboiblgoamaaDoorQB06
import Derived.Test.YtfkfboiblgoamaaDoorQB07
import Derived.Test.YtfkfboiblgoamaaDoorQB05
/- Plain mathematics of the calendar: leap years, days of months, the number of a date. No program in sight. -/
namespace Go.Proofs.YtfkfboiblgoamaaDoor.Cal

def lp (y : Int) : Int := if y % 4 = 0 ∧ (y % 100 ≠ 0 ∨ y % 400 = 0) then 1 else 0
def dim (y m : Int) : Int := if m = 2 then 28 + lp y else if m = 4 ∨ m = 6 ∨ m = 9 ∨ m = 11 then 30 else 31
def mon (y m : Int) : Int := if 1 ≤ y ∧ y ≤ 9999 ∧ 1 ≤ m ∧ m ≤ 12 then dim y m else 0
def dby (y : Int) : Int := 365 * (y - 1) + (y - 1) / 4 - (y - 1) / 100 + (y - 1) / 400
def cum (y m : Int) : Int :=
  if m ≤ 1 then 0 else if m = 2 then 31 else lp y + (if m = 3 then 59 else if m = 4 then 90 else if m = 5 then 120 else if m = 6 then 151
    else if m = 7 then 181 else if m = 8 then 212 else if m = 9 then 243 else if m = 10 then 273 else if m = 11 then 304 else if m = 12 then 334 else 365)
def num (y m d : Int) : Int := dby y + cum y m + d - 1
def yok (y : Int) : Prop := 1 ≤ y ∧ y ≤ 9999
def Vld (y m d : Int) : Prop := 1 ≤ y ∧ y ≤ 9999 ∧ 1 ≤ m ∧ m ≤ 12 ∧ 1 ≤ d ∧ d ≤ dim y m
def leap (y : Int) : Bool := decide (1 ≤ y ∧ y ≤ 9999 ∧ lp y = 1)

theorem lp_01 (y : Int) : 0 ≤ lp y ∧ lp y ≤ 1 := by unfold lp; split <;> omega
theorem dim_lo (y m : Int) : 28 ≤ dim y m ∧ dim y m ≤ 31 := by
  have := lp_01 y
  unfold dim; split <;> (try split) <;> omega
theorem mon_bd (y m : Int) : 0 ≤ mon y m ∧ mon y m ≤ 31 := by
  have := dim_lo y m
  unfold mon; split <;> omega
theorem mon_in {y m : Int} (a : 1 ≤ y) (b : y ≤ 9999) (c : 1 ≤ m) (d : m ≤ 12) : mon y m = dim y m := by unfold mon; rw [if_pos ⟨a, b, c, d⟩]
theorem mon_pos {y m d : Int} (h : 1 ≤ d) (h' : d ≤ mon y m) : Vld y m d := by
  unfold mon at h'
  split at h'
  · rename_i k; exact ⟨k.1, k.2.1, k.2.2.1, k.2.2.2, h, h'⟩
  · omega
theorem vld_mon {y m d : Int} (h : Vld y m d) : 1 ≤ d ∧ d ≤ mon y m := by
  obtain ⟨a, b, c, d, e, f⟩ := h
  rw [mon_in a b c d]; exact ⟨e, f⟩
theorem dby_one : dby 1 = 0 := by decide
theorem dby_max : dby 10000 = 3652059 := by decide
theorem dby_succ (y : Int) (_h : 1 ≤ y) : dby (y + 1) = dby y + 365 + lp y := by
  unfold dby lp; split <;> omega
theorem dby_mono (a b : Int) (h : a ≤ b) : dby a ≤ dby b := by unfold dby; omega
theorem dby_bd (y : Int) (h : 1 ≤ y) (h' : y ≤ 10000) : 0 ≤ dby y ∧ dby y ≤ 3652059 := by
  have h1 := dby_mono 1 y h
  have h2 := dby_mono y 10000 h'
  rw [dby_one] at h1; rw [dby_max] at h2; exact ⟨h1, h2⟩
theorem cum_one (y : Int) : cum y 1 = 0 := by simp [cum]
theorem cum_end (y : Int) : cum y 13 = 365 + lp y := by simp [cum]; omega
theorem cum_succ (y m : Int) (h : 1 ≤ m) (h' : m ≤ 12) : cum y (m + 1) = cum y m + dim y m := by
  have e : m = 1 ∨ m = 2 ∨ m = 3 ∨ m = 4 ∨ m = 5 ∨ m = 6 ∨ m = 7 ∨ m = 8 ∨ m = 9 ∨ m = 10 ∨ m = 11 ∨ m = 12 := by omega
  rcases e with rfl | rfl | rfl | rfl | rfl | rfl | rfl | rfl | rfl | rfl | rfl | rfl <;> simp [cum, dim] <;> omega
theorem cum_mono (y : Int) (k : Nat) : ∀ m : Int, 1 ≤ m → m + k ≤ 13 → cum y m ≤ cum y (m + k) := by
  induction k with
  | zero => intro m _ _; simp
  | succ k ih =>
    intro m h h'
    have h1 := ih m h (by omega)
    have h2 := cum_succ y (m + k) (by omega) (by omega)
    have h3 := dim_lo y (m + k)
    rw [show m + ((k + 1 : Nat) : Int) = m + k + 1 from by omega, h2]; omega
theorem cum_le (y m b : Int) (h : 1 ≤ m) (h' : m ≤ b) (h'' : b ≤ 13) : cum y m ≤ cum y b := by
  have := cum_mono y (b - m).toNat m h (by omega)
  rwa [show m + ((b - m).toNat : Int) = b from by omega] at this
theorem cum_bd (y m : Int) (h : 1 ≤ m) (h' : m ≤ 13) : 0 ≤ cum y m ∧ cum y m ≤ 366 := by
  have h1 := cum_le y 1 m (by omega) h h'
  have h2 := cum_le y m 13 h h' (by omega)
  have h3 := lp_01 y
  rw [cum_one] at h1; rw [cum_end] at h2; omega
theorem num_lt {y m d : Int} (h : Vld y m d) : dby y + cum y m ≤ num y m d ∧ num y m d < dby y + cum y (m + 1) ∧ num y m d < dby (y + 1) ∧ dby y ≤ num y m d := by
  obtain ⟨a, b, c, d, e, f⟩ := h
  have h1 := cum_succ y m c d
  have h2 := cum_le y (m + 1) 13 (by omega) (by omega) (by omega)
  have h3 := dby_succ y a
  have h4 := cum_bd y m c (by omega)
  rw [cum_end] at h2
  unfold num; omega
theorem num_bd {y m d : Int} (h : Vld y m d) : 0 ≤ num y m d ∧ num y m d ≤ 3652058 := by
  have h1 := num_lt h
  obtain ⟨a, b, _⟩ := h
  have h2 := dby_bd y a (by omega)
  have h3 := dby_bd (y + 1) (by omega) (by omega)
  omega
theorem num_inj {y m d a b c : Int} (h : Vld y m d) (k : Vld a b c) (e : num y m d = num a b c) : y = a ∧ m = b ∧ d = c := by
  have h1 := num_lt h
  have k1 := num_lt k
  have hy : y = a := by
    rcases Int.lt_trichotomy y a with l | l | l
    · have := dby_mono (y + 1) a (by omega); omega
    · exact l
    · have := dby_mono (a + 1) y (by omega); omega
  subst hy
  obtain ⟨_, _, m1, m2, _, _⟩ := h
  obtain ⟨_, _, b1, b2, _, _⟩ := k
  have hm : m = b := by
    rcases Int.lt_trichotomy m b with l | l | l
    · have := cum_le y (m + 1) b (by omega) (by omega) (by omega); omega
    · exact l
    · have := cum_le y (b + 1) m (by omega) (by omega) (by omega); omega
  subst hm
  unfold num at e
  exact ⟨rfl, rfl, by omega⟩
theorem num_of (n y k : Int) : num y k (n - dby y - cum y k + 1) = n := by unfold num; omega
theorem vld_of (n y k : Int) (a : 1 ≤ y) (b : y ≤ 9999) (m1 : 1 ≤ k) (m2 : k ≤ 12) (c : 0 ≤ n - dby y - cum y k) (d : n - dby y - cum y k < dim y k) : Vld y k (n - dby y - cum y k + 1) :=
  ⟨a, b, m1, m2, by omega, by omega⟩
theorem dby_guess (n : Int) (h : 0 ≤ n) : dby (n / 366 + 1) ≤ n := by unfold dby; omega
theorem guess_bd (n : Int) (h : 0 ≤ n) (h' : n ≤ 3652058) : 1 ≤ n / 366 + 1 ∧ n / 366 + 1 ≤ 9999 := by omega

/-! ### the date of a number -/
theorem ex_year (n : Int) (h : 0 ≤ n) (k : Nat) (hk : n < dby ((k : Int) + 1)) : ∃ y : Int, 1 ≤ y ∧ y ≤ k ∧ dby y ≤ n ∧ n < dby (y + 1) := by
  induction k with
  | zero => simp [dby] at hk; omega
  | succ k ih =>
    by_cases c : n < dby ((k : Int) + 1)
    · obtain ⟨y, a, b, e, f⟩ := ih c
      exact ⟨y, a, by omega, e, f⟩
    · exact ⟨(k : Int) + 1, by omega, by omega, by omega, by simpa using hk⟩
theorem ex_month (y r : Int) (h : 0 ≤ r) (k : Nat) (hk : r < cum y ((k : Int) + 1)) : ∃ m : Int, 1 ≤ m ∧ m ≤ k ∧ cum y m ≤ r ∧ r < cum y (m + 1) := by
  induction k with
  | zero => simp [cum] at hk; omega
  | succ k ih =>
    by_cases c : r < cum y ((k : Int) + 1)
    · obtain ⟨m, a, b, e, f⟩ := ih c
      exact ⟨m, a, by omega, e, f⟩
    · exact ⟨(k : Int) + 1, by omega, by omega, by omega, by simpa using hk⟩
theorem ex_date (n : Int) (h : 0 ≤ n) (h' : n ≤ 3652058) : ∃ p : Int × Int × Int, Vld p.1 p.2.1 p.2.2 ∧ num p.1 p.2.1 p.2.2 = n := by
  obtain ⟨y, y1, y2, y3, y4⟩ := ex_year n h 9999 (by have := dby_max; show n < dby 10000; omega)
  have hs := dby_succ y y1
  obtain ⟨m, m1, m2, m3, m4⟩ := ex_month y (n - dby y) (by omega) 12 (by have := cum_end y; show n - dby y < cum y 13; omega)
  have hm := cum_succ y m m1 (by omega)
  exact ⟨(y, m, n - dby y - cum y m + 1), vld_of n y m y1 (by omega) m1 (by omega) (by omega) (by omega), num_of n y m⟩
def kn (n : Int) : Prop := 0 ≤ n ∧ n ≤ 3652058
instance (n : Int) : Decidable (kn n) := by unfold kn; infer_instance
instance (y m d : Int) : Decidable (Vld y m d) := by unfold Vld; infer_instance
noncomputable def dt (n : Int) : Int × Int × Int := Classical.epsilon fun p : Int × Int × Int => Vld p.1 p.2.1 p.2.2 ∧ num p.1 p.2.1 p.2.2 = n
noncomputable def Yr (n : Int) : Int := (dt n).1
noncomputable def Mo (n : Int) : Int := (dt n).2.1
noncomputable def Da (n : Int) : Int := (dt n).2.2
theorem dt_vld {n : Int} (h : kn n) : Vld (Yr n) (Mo n) (Da n) := (Classical.epsilon_spec (ex_date n h.1 h.2)).1
theorem dt_num {n : Int} (h : kn n) : num (Yr n) (Mo n) (Da n) = n := (Classical.epsilon_spec (ex_date n h.1 h.2)).2
theorem kn_num {y m d : Int} (h : Vld y m d) : kn (num y m d) := num_bd h
theorem dt_of {n y m d : Int} (h : Vld y m d) (e : num y m d = n) : Yr n = y ∧ Mo n = m ∧ Da n = d := by
  have k : kn n := e ▸ num_bd h
  exact num_inj (dt_vld k) h ((dt_num k).trans e.symm)
theorem dt_bd {n : Int} (h : kn n) : 1 ≤ Yr n ∧ Yr n ≤ 9999 ∧ 1 ≤ Mo n ∧ Mo n ≤ 12 ∧ 1 ≤ Da n ∧ Da n ≤ 31 := by
  obtain ⟨a, b, c, d, e, f⟩ := dt_vld h
  have := dim_lo (Yr n) (Mo n)
  exact ⟨a, b, c, d, e, by omega⟩

/-! ### the functions of the chapter -/
def dayN (y m d : Int) : Int := if Vld y m d then num y m d else 0
def dayE (y m d : Int) : Int := if Vld y m d then 0 else 2
noncomputable def dtY (n : Int) : Int := if kn n then Yr n else 0
noncomputable def dtM (n : Int) : Int := if kn n then Mo n else 0
noncomputable def dtD (n : Int) : Int := if kn n then Da n else 0
def knE (n : Int) : Int := if kn n then 0 else 2
def wdN (n : Int) : Int := if kn n then n % 7 + 1 else 0
def thu (n : Int) : Int := n - n % 7 + 3
noncomputable def wkY (n : Int) : Int := if kn n then Yr (thu n) else 0
noncomputable def wkW (n : Int) : Int := if kn n then (thu n - dby (Yr (thu n))) / 7 + 1 else 0
theorem kn_thu {n : Int} (h : kn n) : kn (thu n) := by unfold kn thu at *; omega
def low (a b : Int) : Int := if a ≤ b then a else b
noncomputable def tot (n k : Int) : Int := 12 * Yr n + Mo n - 1 + k
noncomputable def amN (n k : Int) : Int := if kn n ∧ 12 ≤ tot n k ∧ tot n k < 120000 then num (tot n k / 12) (tot n k % 12 + 1) (low (Da n) (dim (tot n k / 12) (tot n k % 12 + 1))) else 0
noncomputable def amE (n k : Int) : Int := if kn n ∧ 12 ≤ tot n k ∧ tot n k < 120000 then 0 else 2
theorem am_vld {n k : Int} (h : kn n) (h1 : 12 ≤ tot n k) (h2 : tot n k < 120000) : Vld (tot n k / 12) (tot n k % 12 + 1) (low (Da n) (dim (tot n k / 12) (tot n k % 12 + 1))) := by
  have b := dt_bd h
  have d := dim_lo (tot n k / 12) (tot n k % 12 + 1)
  refine ⟨by omega, by omega, by omega, by omega, ?_, ?_⟩ <;> unfold low <;> split <;> omega
end Go.Proofs.YtfkfboiblgoamaaDoor.Cal
/- The leaf functions of the calendar, the program's and the reference's: what each returns. -/
namespace Go.Proofs.YtfkfboiblgoamaaDoor
open Go.RowKit

end Go.Proofs.YtfkfboiblgoamaaDoor
/- The calendar's Day and Date, the program's and the reference's: what each returns. -/
namespace Go.Proofs.YtfkfboiblgoamaaDoor
open Go.RowKit

theorem ret_two {k l : IntKind} {a b c d : Int} (h : a = c) (h' : b = d) : Ending.returned (.tuple #[.int k a, .int l b]) = .returned (.tuple #[.int k c, .int l d]) := by rw [h, h']
theorem val_int {k : IntKind} {a b : Int} (h : a = b) : Value.int k a = .int k b := by rw [h]
theorem ret_inC {k : IntKind} {a b : Int} (h : a = b) : Ending.returned (.int k a) = .returned (.int k b) := by rw [h]

/-! ### the reference -/
end Go.Proofs.YtfkfboiblgoamaaDoor
/- The calendar, as far as times need it (printed by mk_momcal.py out of CalWalksC, CalWalksD). -/
namespace Go.Proofs.YtfkfboiblgoamaaDoor
open Go.RowKit
theorem not_kn {n : Int} (h : ¬ Cal.kn n) : n < 0 ∨ 3652058 < n := by unfold Cal.kn at h; omega

theorem below_eq {w w' : World} (h : w = w') : Below w.heap.size w w' := by subst h; exact Below.refl _ _

end Go.Proofs.YtfkfboiblgoamaaDoor
/- Times: which are valid. -/
namespace Go.Proofs.YtfkfboiblgoamaaDoor
open Go.RowKit

namespace Mom
def Ok (k d n o : Int) : Prop := (1 ≤ k ∧ k ≤ 4 ∧ 0 ≤ d ∧ d ≤ 3652058 ∧ 0 ≤ n ∧ n ≤ 86399999999999 ∧ -1439 ≤ o ∧ o ≤ 1439) ∧ (k = 2 → d = 0) ∧ (k = 1 → n = 0) ∧ (k ≠ 4 → o = 0)
instance (k d n o : Int) : Decidable (Ok k d n o) := by unfold Ok; infer_instance
end Mom

def Mom.dated (k : Int) : Prop := k = 1 ∨ k = 3 ∨ k = 4
def Mom.clocked (k : Int) : Prop := k = 2 ∨ k = 3 ∨ k = 4
instance (k : Int) : Decidable (Mom.dated k) := by unfold Mom.dated; infer_instance
instance (k : Int) : Decidable (Mom.clocked k) := by unfold Mom.clocked; infer_instance
theorem dated_any (k : Int) (w : World) : Calls Tryd.prog 71 #[.int .i64 k] w fun e w' => e = .returned (.bool (decide (Mom.dated k))) ∧ w = w' := by
  go_enter Tryd.func71, Tryd.ntmps71
  go_wp2
  all_goals
    go_ret
    refine ⟨congrArg (fun b => Ending.returned (Value.bool b)) ?_, rfl⟩
    rw [Bool.eq_iff_iff]; simp [Mom.dated, *]
theorem clocked_any (k : Int) (w : World) : Calls Tryd.prog 72 #[.int .i64 k] w fun e w' => e = .returned (.bool (decide (Mom.clocked k))) ∧ w = w' := by
  go_enter Tryd.func72, Tryd.ntmps72
  go_wp2
  all_goals
    go_ret
    refine ⟨congrArg (fun b => Ending.returned (Value.bool b)) ?_, rfl⟩
    rw [Bool.eq_iff_iff]; simp [Mom.clocked, *]

set_option maxHeartbeats 2000000 in
set_option maxRecDepth 100000 in
theorem rtime_in (k d n o : Int) (hb : 1 ≤ k ∧ k ≤ 4 ∧ 0 ≤ d ∧ d ≤ 3652058 ∧ 0 ≤ n ∧ n ≤ 86399999999999 ∧ -1439 ≤ o ∧ o ≤ 1439) (w : World) : Calls Tryd.prog 61 #[.agg #[.int .i64 k, .int .i64 d, .int .i64 n, .int .i64 o]] w fun e w' => e = .returned (.bool (decide (Mom.Ok k d n o))) ∧ Below w.heap.size w w' := by
  obtain ⟨b1, b2, b3, b4, b5, b6, b7, b8⟩ := hb
  have hk : k = 1 ∨ k = 2 ∨ k = 3 ∨ k = 4 := by omega
  have q1 : decide (Mom.dated 1) = true := rfl
  have q2 : decide (Mom.dated 2) = false := rfl
  have q3 : decide (Mom.dated 3) = true := rfl
  have q4 : decide (Mom.dated 4) = true := rfl
  have r1 : decide (Mom.clocked 1) = false := rfl
  have r2 : decide (Mom.clocked 2) = true := rfl
  have r3 : decide (Mom.clocked 3) = true := rfl
  have r4 : decide (Mom.clocked 4) = true := rfl
  rcases hk with rfl | rfl | rfl | rfl
  all_goals
    clear b1 b2
    go_enter Tryd.func61, Tryd.ntmps61
    go_wp2_with (first | (go_at_call 71; refine (dated_any _ _).mono ?_; rintro e w1 ⟨rfl, rfl⟩) | (go_at_call 72; refine (clocked_any _ _).mono ?_; rintro e w1 ⟨rfl, rfl⟩))
  all_goals
    go_ret
    refine ⟨congrArg (fun b => Ending.returned (Value.bool b)) ?_, (Below.refl _ _).alloc (Nat.le_refl _) _⟩
    try simp only [beq_iff_eq, beq_eq_false_iff_ne, ne_eq] at *
    first
      | exact (decide_eq_false (by unfold Mom.Ok; omega)).symm
      | exact (decide_eq_true (by unfold Mom.Ok; omega)).symm
      | (rw [Bool.eq_iff_iff, beq_iff_eq, decide_eq_true_iff]; unfold Mom.Ok; omega)
set_option maxHeartbeats 2000000 in
set_option maxRecDepth 100000 in
theorem rtime_out (k d n o : Int) (hb : ¬ (1 ≤ k ∧ k ≤ 4 ∧ 0 ≤ d ∧ d ≤ 3652058 ∧ 0 ≤ n ∧ n ≤ 86399999999999 ∧ -1439 ≤ o ∧ o ≤ 1439)) (w : World) : Calls Tryd.prog 61 #[.agg #[.int .i64 k, .int .i64 d, .int .i64 n, .int .i64 o]] w fun e w' => e = .returned (.bool (decide (Mom.Ok k d n o))) ∧ Below w.heap.size w w' := by
  have hd : decide (Mom.Ok k d n o) = false := decide_eq_false (fun h => hb h.1)
  have hc : k < 1 ∨ 4 < k ∨ d < 0 ∨ 3652058 < d ∨ n < 0 ∨ 86399999999999 < n ∨ o < -1439 ∨ 1439 < o := by omega
  rw [hd]
  clear hd hb
  rcases hc with h | h | h | h | h | h | h | h
  all_goals
    go_enter Tryd.func61, Tryd.ntmps61
    go_wp2_with fail
  all_goals
    first
      | omega
      | (go_ret; exact ⟨rfl, (Below.refl _ _).alloc (Nat.le_refl _) _⟩)
theorem rtime_any (k d n o : Int) (w : World) : Calls Tryd.prog 61 #[.agg #[.int .i64 k, .int .i64 d, .int .i64 n, .int .i64 o]] w fun e w' => e = .returned (.bool (decide (Mom.Ok k d n o))) ∧ Below w.heap.size w w' := by
  by_cases hb : 1 ≤ k ∧ k ≤ 4 ∧ 0 ≤ d ∧ d ≤ 3652058 ∧ 0 ≤ n ∧ n ≤ 86399999999999 ∧ -1439 ≤ o ∧ o ≤ 1439
  · exact rtime_in k d n o hb w
  · exact rtime_out k d n o hb w
end Go.Proofs.YtfkfboiblgoamaaDoor
/- Values: what is wrong with one value (datakitref07.one). -/
namespace Go.Proofs.YtfkfboiblgoamaaDoor
open Go.RowKit

theorem Whole.c13 {W : World} {B : Nat} {t : TypeId} {h : Vh} (H : Whole W B t h.cells) :
    W.cell? ⟨B, 0, none⟩ = some (.int .i64 h.k) ∧ W.cell? ⟨B, 1, none⟩ = some (.bool h.b) ∧ W.cell? ⟨B, 2, none⟩ = some (.bool h.n) ∧ W.cell? ⟨B, 3, none⟩ = some (.string h.d) ∧ W.cell? ⟨B, 4, none⟩ = some (.int .i64 h.e) ∧
    W.cell? ⟨B, 5, none⟩ = some (.int .i64 h.tk) ∧ W.cell? ⟨B, 6, none⟩ = some (.int .i64 h.td) ∧ W.cell? ⟨B, 7, none⟩ = some (.int .i64 h.tn) ∧ W.cell? ⟨B, 8, none⟩ = some (.int .i64 h.tz) ∧ W.cell? ⟨B, 9, none⟩ = some (.string h.x) ∧
    W.cell? ⟨B, 10, none⟩ = some (.slice h.ba h.bn h.bc) ∧ W.cell? ⟨B, 11, none⟩ = some (.slice h.la h.ln h.lc) ∧ W.cell? ⟨B, 12, none⟩ = some (.slice h.fa h.fn h.fc) :=
  ⟨H.cell 0, H.cell 1, H.cell 2, H.cell 3, H.cell 4, H.cell 5, H.cell 6, H.cell 7, H.cell 8, H.cell 9, H.cell 10, H.cell 11, H.cell 12⟩
/-- What is wrong with one value, but for the values in it. -/
noncomputable def oneE (T : Vt) : Int :=
  if T.h.own = false then 6
  else if ¬ Dec.vd T.h.n T.h.d T.h.e ∨ (T.h.k = 3 ∧ ¬ Mom.Ok T.h.tk T.h.td T.h.tn T.h.tz) then 2
  else if utfB T.h.x = false then 5
  else if 65536 < T.h.x.size ∨ 65536 < T.h.bn then 10
  else keysE T.K T.h.fn
theorem keys_any {T : Vt} {top : Nat} {w : World} (hT : T.In w top) (ht : top ≤ w.heap.size) :
    Calls Tryd.prog 62 #[.slice T.h.fa T.h.fn T.h.fc] w fun r w' => r = .returned (.int .i64 (keysE T.K T.h.fn)) ∧ Below w.heap.size w w' := by
  cases T with
  | nil => exact hT.elim
  | mk h Y L K F =>
    obtain ⟨h0, _, _, _, _, h5, h6⟩ := hT
    have hfn := h0.fn
    simp only [Vt.h, Vt.K]
    obtain ⟨k, b, n, d, e, tk, td, tn, tz, x, ba, bn, bc, la, ln, lc, fa, fn, fc, bb, bo, lb, lo, fb, fo⟩ := h
    dsimp only at h5 h6 hfn ⊢
    by_cases hz : fn = 0
    · subst hz
      exact keys_nil fa fc w
    · obtain ⟨rfl, hb⟩ := h5 (by omega)
      exact keys_some hfn w (by omega) (fun i hi => ⟨(h6 i hi).1, (h6 i hi).2.1⟩)
set_option maxHeartbeats 4000000 in
set_option maxRecDepth 100000 in
theorem one_any {T : Vt} {top : Nat} {w : World} (hT : T.In w top) (ht : top ≤ w.heap.size) :
    Calls Tryd.prog 51 #[.agg T.h.cells] w fun r w' => r = .returned (.int .i64 (oneE T)) ∧ Below w.heap.size w w' := by
  have hok : T.h.ok := by cases T with | nil => exact hT.elim | mk h Y L K F => exact hT.1
  have P := Whole.new w 30 T.h.cells
  have hb0 := (Below.refl w.heap.size w).alloc (Nat.le_refl _) (.cells T.h.cells 30)
  have HO := Lib.hid (own_any T.h hok.k)
  have hmx : (1048576 : Nat) ≤ maxLen := by unfold maxLen; omega
  have HV := Lib.hid (rdvalid_any T.h.n (Nat.le_trans hok.d hmx) T.h.e)
  have HM := Lib.hid (rtime_any T.h.tk T.h.td T.h.tn T.h.tz)
  have HU := Lib.hid (rutf_any hok.x)
  have HK := Lib.hid (fun (w1 : World) (h : Below w.heap.size w w1) => keys_any (T := T) (Vt.In.below (h.mono ht) hT) (Nat.le_trans ht h.size))
  obtain ⟨R, hR⟩ : ∃ R, oneE T = R := ⟨_, rfl⟩
  rw [hR]
  unfold oneE at hR
  have HR := Lib.hid hR
  have hk := hok.k
  have hxs := hok.x
  have hbs := hok.bn
  clear hR hok hT hmx
  simp only [Vh.cells] at HO hb0 ⊢
  generalize T.h.own = ow at *
  cases ow
  · have hR : R = 6 := by rw [← HR.out]; simp
    subst hR
    clear HR
    go_enter Tryd.func51, Tryd.ntmps51
    go_wp2_with fail
    refine (HO.out _).mono ?_; rintro _ w1 ⟨rfl, hb1⟩
    go_wp2
    go_ret
    exact ⟨rfl, below_then hb0 hb1⟩
  have hR : R = if ¬ Dec.vd T.h.n T.h.d T.h.e ∨ (T.h.k = 3 ∧ ¬ Mom.Ok T.h.tk T.h.td T.h.tn T.h.tz) then 2 else if utfB T.h.x = false then 5 else if 65536 < T.h.x.size ∨ 65536 < T.h.bn then 10 else keysE T.K T.h.fn := by rw [← HR.out]; simp
  have HR := Lib.hid hR
  clear hR
  have hPl := P.lt
  by_cases v : Dec.vd T.h.n T.h.d T.h.e
  case neg =>
    have hR : R = 2 := by rw [HR.out, if_pos (.inl v)]
    subst hR
    rw [decide_eq_false v] at HV
    clear HR v
    go_enter Tryd.func51, Tryd.ntmps51
    go_wp2_with fail
    refine (HO.out _).mono ?_; rintro _ w1 ⟨rfl, hb1⟩
    obtain ⟨c0, c1, c2, c3, c4, c5, c6, c7, c8, c9, c10, c11, c12⟩ := (P.below hb1 hPl).c13
    go_wp2_with fail
    refine (HV.out _).mono ?_; rintro _ w2 ⟨rfl, hb2⟩
    go_wp2
    go_ret
    exact ⟨rfl, below_then (below_then hb0 hb1) hb2⟩
  rw [decide_eq_true v] at HV
  by_cases q : T.h.k = 3 ∧ ¬ Mom.Ok T.h.tk T.h.td T.h.tn T.h.tz
  · have hR : R = 2 := by rw [HR.out, if_pos (.inr q)]
    subst hR
    rw [decide_eq_false q.2] at HM
    have d1 : (T.h.k == 3) = true := beq_iff_eq.2 q.1
    clear HR v q
    go_enter Tryd.func51, Tryd.ntmps51
    go_wp2_with fail
    refine (HO.out _).mono ?_; rintro _ w1 ⟨rfl, hb1⟩
    have P1 := P.below hb1 hPl
    have g1 := below_then hb0 hb1
    obtain ⟨c0, c1, c2, c3, c4, c5, c6, c7, c8, c9, c10, c11, c12⟩ := P1.c13
    go_wp2_with fail
    refine (HV.out _).mono ?_; rintro _ w2 ⟨rfl, hb2⟩
    have P2 := P1.below hb2 P1.lt
    have g2 := below_then g1 hb2
    clear c0 c1 c2 c3 c4 c5 c6 c7 c8 c9 c10 c11 c12
    obtain ⟨c0, c1, c2, c3, c4, c5, c6, c7, c8, c9, c10, c11, c12⟩ := P2.c13
    go_wp2_with fail
    refine (HM.out _).mono ?_; rintro _ w3 ⟨rfl, hb3⟩
    go_wp2
    go_ret
    exact ⟨rfl, below_then g2 hb3⟩
  have hR : R = if utfB T.h.x = false then 5 else if 65536 < T.h.x.size ∨ 65536 < T.h.bn then 10 else keysE T.K T.h.fn := by rw [HR.out, if_neg (by rintro (h | h); exact h v; exact q h)]
  clear HR
  have HR := Lib.hid hR
  clear hR
  generalize utfB T.h.x = ub at *
  by_cases k3 : T.h.k = 3
  · have d1 : (T.h.k == 3) = true := beq_iff_eq.2 k3
    have o : Mom.Ok T.h.tk T.h.td T.h.tn T.h.tz := Classical.byContradiction fun h => q ⟨k3, h⟩
    rw [decide_eq_true o] at HM
    clear v q o k3
    go_enter Tryd.func51, Tryd.ntmps51
    go_wp2_with fail
    refine (HO.out _).mono ?_; rintro _ w1 ⟨rfl, hb1⟩
    have P1 := P.below hb1 hPl
    have g1 := below_then hb0 hb1
    obtain ⟨c0, c1, c2, c3, c4, c5, c6, c7, c8, c9, c10, c11, c12⟩ := P1.c13
    go_wp2_with fail
    refine (HV.out _).mono ?_; rintro _ w2 ⟨rfl, hb2⟩
    have P2 := P1.below hb2 P1.lt
    have g2 := below_then g1 hb2
    clear c0 c1 c2 c3 c4 c5 c6 c7 c8 c9 c10 c11 c12
    obtain ⟨c0, c1, c2, c3, c4, c5, c6, c7, c8, c9, c10, c11, c12⟩ := P2.c13
    go_wp2_with fail
    refine (HM.out _).mono ?_; rintro _ w3 ⟨rfl, hb3⟩
    have P3 := P2.below hb3 P2.lt
    have g3 := below_then g2 hb3
    clear c0 c1 c2 c3 c4 c5 c6 c7 c8 c9 c10 c11 c12
    obtain ⟨c0, c1, c2, c3, c4, c5, c6, c7, c8, c9, c10, c11, c12⟩ := P3.c13
    go_wp2_with fail
    refine (HU.out _).mono ?_; rintro _ w4 ⟨rfl, hb4⟩
    have P4 := P3.below hb4 P3.lt
    have g4 := below_then g3 hb4
    clear c0 c1 c2 c3 c4 c5 c6 c7 c8 c9 c10 c11 c12
    obtain ⟨c0, c1, c2, c3, c4, c5, c6, c7, c8, c9, c10, c11, c12⟩ := P4.c13
    cases ub
    · have hR : R = 5 := by rw [HR.out]; simp
      subst hR
      clear HR
      go_wp2
      go_ret
      exact ⟨rfl, g4⟩
    by_cases zx : 65536 < T.h.x.size
    · have hR : R = 10 := by rw [HR.out]; simp [zx]
      have z1 : decide ((65536 : Int) < T.h.x.size) = true := decide_eq_true (by omega)
      subst hR
      clear HR zx HK HU HO HV hbs hk
      go_wp2
      go_ret
      exact ⟨rfl, g4⟩
    have z1 : decide ((65536 : Int) < T.h.x.size) = false := decide_eq_false (by omega)
    by_cases zb : 65536 < T.h.bn
    · have hR : R = 10 := by rw [HR.out]; simp [zb]
      have z2 : decide ((65536 : Int) < T.h.bn) = true := decide_eq_true (by omega)
      subst hR
      clear HR zx zb HK HU HO HV hxs hk
      go_wp2
      go_ret
      exact ⟨rfl, g4⟩
    have hR : R = keysE T.K T.h.fn := by rw [HR.out]; simp [zx, zb]
    have z2 : decide ((65536 : Int) < T.h.bn) = false := decide_eq_false (by omega)
    subst hR
    clear HR zx zb HU HO HV hk
    go_wp2_with fail
    refine (HK.out _ g4).mono ?_; rintro _ w5 ⟨rfl, hb5⟩
    go_wp2
    go_ret
    exact ⟨rfl, below_then g4 hb5⟩
  · have d1 : (T.h.k == 3) = false := beq_eq_false_iff_ne.2 k3
    clear v q HM k3
    go_enter Tryd.func51, Tryd.ntmps51
    go_wp2_with fail
    refine (HO.out _).mono ?_; rintro _ w1 ⟨rfl, hb1⟩
    have P1 := P.below hb1 hPl
    have g1 := below_then hb0 hb1
    obtain ⟨c0, c1, c2, c3, c4, c5, c6, c7, c8, c9, c10, c11, c12⟩ := P1.c13
    go_wp2_with fail
    refine (HV.out _).mono ?_; rintro _ w2 ⟨rfl, hb2⟩
    have P2 := P1.below hb2 P1.lt
    have g2 := below_then g1 hb2
    clear c0 c1 c2 c3 c4 c5 c6 c7 c8 c9 c10 c11 c12
    obtain ⟨c0, c1, c2, c3, c4, c5, c6, c7, c8, c9, c10, c11, c12⟩ := P2.c13
    go_wp2_with fail
    refine (HU.out _).mono ?_; rintro _ w4 ⟨rfl, hb4⟩
    have P4 := P2.below hb4 P2.lt
    have g4 := below_then g2 hb4
    clear c0 c1 c2 c3 c4 c5 c6 c7 c8 c9 c10 c11 c12
    obtain ⟨c0, c1, c2, c3, c4, c5, c6, c7, c8, c9, c10, c11, c12⟩ := P4.c13
    cases ub
    · have hR : R = 5 := by rw [HR.out]; simp
      subst hR
      clear HR
      go_wp2
      go_ret
      exact ⟨rfl, g4⟩
    by_cases zx : 65536 < T.h.x.size
    · have hR : R = 10 := by rw [HR.out]; simp [zx]
      have z1 : decide ((65536 : Int) < T.h.x.size) = true := decide_eq_true (by omega)
      subst hR
      clear HR zx HK HU HO HV hbs hk
      go_wp2
      go_ret
      exact ⟨rfl, g4⟩
    have z1 : decide ((65536 : Int) < T.h.x.size) = false := decide_eq_false (by omega)
    by_cases zb : 65536 < T.h.bn
    · have hR : R = 10 := by rw [HR.out]; simp [zb]
      have z2 : decide ((65536 : Int) < T.h.bn) = true := decide_eq_true (by omega)
      subst hR
      clear HR zx zb HK HU HO HV hxs hk
      go_wp2
      go_ret
      exact ⟨rfl, g4⟩
    have hR : R = keysE T.K T.h.fn := by rw [HR.out]; simp [zx, zb]
    have z2 : decide ((65536 : Int) < T.h.bn) = false := decide_eq_false (by omega)
    subst hR
    clear HR zx zb HU HO HV hk
    go_wp2_with fail
    refine (HK.out _ g4).mono ?_; rintro _ w5 ⟨rfl, hb5⟩
    go_wp2
    go_ret
    exact ⟨rfl, below_then g4 hb5⟩
end Go.Proofs.YtfkfboiblgoamaaDoor
/- Values: what is wrong with a value, and how many values there are (plain). -/
namespace Go.Proofs.YtfkfboiblgoamaaDoor
open Go.RowKit

/-- One after the other, till an error. -/
def foldE (f : Nat → Int → Int × Int) : Nat → Int → Int × Int
  | 0, s => (s, 0)
  | n + 1, s => if (foldE f n s).2 ≠ 0 then foldE f n s else f n (foldE f n s).1
theorem foldE_stays {f : Nat → Int → Int × Int} {s : Int} {n : Nat} (h : (foldE f n s).2 ≠ 0) : ∀ m, n ≤ m → foldE f m s = foldE f n s := by
  intro m hm
  induction m with
  | zero => rw [Nat.le_zero.1 hm]
  | succ m ih =>
    by_cases hn : n = m + 1
    · rw [hn]
    · have e := ih (by omega)
      show (if (foldE f m s).2 ≠ 0 then foldE f m s else f m (foldE f m s).1) = _
      rw [if_pos (by rw [e]; exact h), e]
theorem foldE_succ {f : Nat → Int → Int × Int} {s : Int} {n : Nat} (h : (foldE f n s).2 = 0) : foldE f (n + 1) s = f n (foldE f n s).1 := by
  show (if (foldE f n s).2 ≠ 0 then foldE f n s else f n (foldE f n s).1) = _
  rw [if_neg (by simp [h])]
theorem foldE_all {f : Nat → Int → Int × Int} {s : Int} : ∀ {n : Nat}, (foldE f n s).2 = 0 → ∀ i, i < n → (foldE f i s).2 = 0 ∧ foldE f (i + 1) s = f i (foldE f i s).1 := by
  intro n h i hi
  have h0 : (foldE f i s).2 = 0 := Classical.byContradiction fun q => q (by rw [← foldE_stays q n (by omega)]; exact h)
  exact ⟨h0, foldE_succ h0⟩
/-- What datakitref07.look answers: how many values have been visited, and what is wrong. -/
noncomputable def Vt.look : Vt → Int → Int → Int × Int
  | .nil, _, s => (s, 0)
  | .mk h Y L K F, d, s =>
    if 48 < d then (s, 9) else if 65536 ≤ s then (s, 10) else if oneE (.mk h Y L K F) ≠ 0 then (s, oneE (.mk h Y L K F))
    else if h.k = 7 then foldE (fun i t => (F i).look (d + 1) t) h.fn (s + 1) else foldE (fun i t => (L i).look (d + 1) t) h.ln (s + 1)
theorem Vt.look_eq {T : Vt} (hT : T ≠ .nil) (d s : Int) : T.look d s =
    if 48 < d then (s, 9) else if 65536 ≤ s then (s, 10) else if oneE T ≠ 0 then (s, oneE T) else foldE (fun i t => (T.kid i).look (d + 1) t) T.kn (s + 1) := by
  cases T with
  | nil => exact absurd rfl hT
  | mk h Y L K F =>
    by_cases k7 : h.k = 7
    · have e1 : (Vt.mk h Y L K F).kn = h.fn := if_pos k7
      have e2 : ∀ i, (Vt.mk h Y L K F).kid i = F i := fun i => if_pos k7
      rw [e1]
      simp only [e2, Vt.look, if_pos k7]
    · have e1 : (Vt.mk h Y L K F).kn = h.ln := if_neg k7
      have e2 : ∀ i, (Vt.mk h Y L K F).kid i = L i := fun i => if_neg k7
      rw [e1]
      simp only [e2, Vt.look, if_neg k7]
theorem foldE_bd {f : Nat → Int → Int × Int} {s : Int} (hs : s ≤ 65536) (hf : ∀ i t, t ≤ 65536 → t ≤ (f i t).1 ∧ (f i t).1 ≤ 65536) : ∀ n, s ≤ (foldE f n s).1 ∧ (foldE f n s).1 ≤ 65536 := by
  intro n
  induction n with
  | zero => exact ⟨Int.le_refl _, hs⟩
  | succ n ih =>
    show s ≤ (if (foldE f n s).2 ≠ 0 then foldE f n s else f n (foldE f n s).1).1 ∧ (if (foldE f n s).2 ≠ 0 then foldE f n s else f n (foldE f n s).1).1 ≤ 65536
    split
    · exact ih
    · have := hf n _ ih.2
      omega
theorem Vt.look_bd : ∀ (T : Vt) (d s : Int), s ≤ 65536 → s ≤ (T.look d s).1 ∧ (T.look d s).1 ≤ 65536 := by
  intro T
  induction T with
  | nil => intro d s hs; exact ⟨Int.le_refl _, hs⟩
  | mk h Y L K F ihL ihF =>
    intro d s hs
    unfold Vt.look
    split
    · exact ⟨Int.le_refl _, hs⟩
    split
    · exact ⟨Int.le_refl _, hs⟩
    split
    · exact ⟨Int.le_refl _, hs⟩
    split
    · have := foldE_bd (s := s + 1) (f := fun i t => (F i).look (d + 1) t) (by omega) (fun i t ht => ihF i (d + 1) t ht) h.fn
      omega
    · have := foldE_bd (s := s + 1) (f := fun i t => (L i).look (d + 1) t) (by omega) (fun i t ht => ihL i (d + 1) t ht) h.ln
      omega
/-- A value that is no deeper than so much. -/
def Vt.upto : Vt → Nat → Prop
  | .nil, _ => True
  | .mk h _ L _ F, d => 0 < d ∧ (∀ i, i < h.ln → (L i).upto (d - 1)) ∧ (∀ i, i < h.fn → (F i).upto (d - 1))
theorem Vt.upto_le : ∀ {T : Vt} {d e : Nat}, T.upto d → d ≤ e → T.upto e := by
  intro T
  induction T with
  | nil => intro d e _ _; trivial
  | mk h Y L K F ihL ihF =>
    intro d e hd he
    exact ⟨by have := hd.1; omega, fun i hi => ihL i (hd.2.1 i hi) (by omega), fun i hi => ihF i (hd.2.2 i hi) (by omega)⟩
/-- Every value in it is right by itself. -/
def Vt.good : Vt → Prop
  | .nil => True
  | .mk h Y L K F => oneE (.mk h Y L K F) = 0 ∧ (∀ i, i < h.ln → (L i).good) ∧ (∀ i, i < h.fn → (F i).good)
theorem Vh.own_parts {h : Vh} (ho : h.own = true) : 0 ≤ h.k ∧ h.k ≤ 7 ∧ (h.k ≠ 1 → h.b = false) ∧ (h.k ≠ 2 → h.n = false ∧ h.d.toList = [] ∧ h.e = 0) ∧ (h.k ≠ 3 → h.tk = 0 ∧ h.td = 0 ∧ h.tn = 0 ∧ h.tz = 0) ∧
    (h.k ≠ 4 → h.x.toList = []) ∧ (h.k ≠ 5 → h.bn = 0) ∧ (h.k ≠ 6 → h.ln = 0) ∧ (h.k ≠ 7 → h.fn = 0) := by
  unfold Vh.own ownB Vh.nz Vh.tz0 at ho
  simp only [Bool.and_eq_true, Bool.or_eq_true, decide_eq_true_eq, Bool.not_eq_true', List.isEmpty_iff] at ho
  obtain ⟨⟨⟨⟨⟨⟨⟨⟨h0, h1⟩, h2⟩, h3⟩, h4⟩, h5⟩, h6⟩, h7⟩, h8⟩ := ho
  refine ⟨h0, h1, fun q => h2.resolve_left q, fun q => ?_, fun q => ?_, fun q => h5.resolve_left q, fun q => h6.resolve_left q, fun q => h7.resolve_left q, fun q => h8.resolve_left q⟩
  · obtain ⟨⟨a, b⟩, c⟩ := h3.resolve_left q
    exact ⟨a, b, c⟩
  · obtain ⟨⟨⟨a, b⟩, c⟩, d⟩ := h4.resolve_left q
    exact ⟨a, b, c, d⟩
theorem oneE_own {T : Vt} (h : oneE T = 0) : T.h.own = true := by
  unfold oneE at h
  split at h
  · omega
  · rename_i q
    simpa using q
theorem look_ok_fold {f : Nat → Int → Int × Int} {g : Nat → Nat} {n : Nat} {s : Int} (h : (foldE f n s).2 = 0) (hf : ∀ i t, i < n → (f i t).2 = 0 → (f i t).1 = t + (g i : Nat)) : (foldE f n s).1 = s + (sumN g n : Nat) := by
  have hall := foldE_all h
  have key : ∀ k, k ≤ n → (foldE f k s).1 = s + (sumN g k : Nat) := by
    intro k
    induction k with
    | zero => intro _; simp [foldE, sumN]
    | succ k ih =>
      intro hk
      have e := (hall k (by omega)).2
      have e2 : (f k (foldE f k s).1).2 = 0 := by
        rw [← e]
        by_cases q : k + 1 < n
        · exact (hall (k + 1) q).1
        · obtain rfl : k + 1 = n := by omega
          exact h
      rw [e, hf k _ (by omega) e2, ih (by omega)]
      show _ = s + ((sumN g k + g k : Nat) : Int)
      omega
  exact key n (Nat.le_refl _)
theorem look_ok_each {f : Nat → Int → Int × Int} {n : Nat} {s : Int} (h : (foldE f n s).2 = 0) {i : Nat} (hi : i < n) : ∃ t, (f i t).2 = 0 := by
  have hall := foldE_all h
  refine ⟨(foldE f i s).1, ?_⟩
  rw [← (hall i hi).2]
  by_cases q : i + 1 < n
  · exact (hall (i + 1) q).1
  · obtain rfl : i + 1 = n := by omega
    exact h
/-- A value in which nothing is wrong. -/
theorem Vt.look_ok : ∀ {T : Vt} {d : Nat} {s : Int}, T.whole → (T.look d s).2 = 0 → T.good ∧ T.upto (49 - d) ∧ (T.look d s).1 = s + (T.size : Nat) := by
  intro T
  induction T with
  | nil => intro d s hw; exact hw.elim
  | mk h Y L K F ihL ihF =>
    intro d s hw hl
    obtain ⟨wL, wF⟩ := hw
    rw [Vt.look_eq (by intro e; cases e)] at hl ⊢
    have c1 : ¬ (48 : Int) < d := fun q => by rw [if_pos q] at hl; simp at hl
    rw [if_neg c1] at hl ⊢
    have c2 : ¬ (65536 : Int) ≤ s := fun q => by rw [if_pos q] at hl; simp at hl
    rw [if_neg c2] at hl ⊢
    have c3 : oneE (.mk h Y L K F) = 0 := Classical.byContradiction fun q => by rw [if_pos q] at hl; exact q hl
    rw [if_neg (by simp [c3])] at hl ⊢
    have ow := Vh.own_parts (oneE_own c3)
    rw [Vt.size_eq (by intro e; cases e)]
    have cast : ((d : Int) + 1) = ((d + 1 : Nat) : Int) := by omega
    have hsz := look_ok_fold (g := fun i => ((Vt.mk h Y L K F).kid i).size) hl (fun i t hi h0 => by
      rw [cast] at h0 ⊢
      by_cases k7 : h.k = 7
      · have e1 : (Vt.mk h Y L K F).kid i = F i := by unfold Vt.kid; rw [if_pos (show (Vt.mk h Y L K F).h.k = 7 from k7)]; rfl
        have e2 : (Vt.mk h Y L K F).kn = h.fn := by unfold Vt.kn; rw [if_pos (show (Vt.mk h Y L K F).h.k = 7 from k7)]; rfl
        rw [e1] at h0 ⊢
        exact (ihF i (wF i (by omega)) h0).2.2
      · have e1 : (Vt.mk h Y L K F).kid i = L i := by unfold Vt.kid; rw [if_neg (show ¬ (Vt.mk h Y L K F).h.k = 7 from k7)]; rfl
        have e2 : (Vt.mk h Y L K F).kn = h.ln := by unfold Vt.kn; rw [if_neg (show ¬ (Vt.mk h Y L K F).h.k = 7 from k7)]; rfl
        rw [e1] at h0 ⊢
        exact (ihL i (wL i (by omega)) h0).2.2)
    have hkid : ∀ i, i < (Vt.mk h Y L K F).kn → ((Vt.mk h Y L K F).kid i).good ∧ ((Vt.mk h Y L K F).kid i).upto (49 - d - 1) := by
      intro i hi
      obtain ⟨t, h0⟩ := look_ok_each hl hi
      rw [cast] at h0
      have e0 : 49 - d - 1 = 49 - (d + 1) := by omega
      rw [e0]
      by_cases k7 : h.k = 7
      · have e1 : (Vt.mk h Y L K F).kid i = F i := by unfold Vt.kid; rw [if_pos (show (Vt.mk h Y L K F).h.k = 7 from k7)]; rfl
        have e2 : (Vt.mk h Y L K F).kn = h.fn := by unfold Vt.kn; rw [if_pos (show (Vt.mk h Y L K F).h.k = 7 from k7)]; rfl
        rw [e1] at h0 ⊢
        have := ihF i (wF i (by omega)) h0
        exact ⟨this.1, this.2.1⟩
      · have e1 : (Vt.mk h Y L K F).kid i = L i := by unfold Vt.kid; rw [if_neg (show ¬ (Vt.mk h Y L K F).h.k = 7 from k7)]; rfl
        have e2 : (Vt.mk h Y L K F).kn = h.ln := by unfold Vt.kn; rw [if_neg (show ¬ (Vt.mk h Y L K F).h.k = 7 from k7)]; rfl
        rw [e1] at h0 ⊢
        have := ihL i (wL i (by omega)) h0
        exact ⟨this.1, this.2.1⟩
    have hLn : ∀ i, i < h.ln → (L i).good ∧ (L i).upto (49 - d - 1) := by
      intro i hi
      have k6 : h.k = 6 := Classical.byContradiction fun q => by have e : h.ln = 0 := ow.2.2.2.2.2.2.2.1 q; omega
      have k7 : ¬ h.k = 7 := by omega
      have e1 : (Vt.mk h Y L K F).kid i = L i := by unfold Vt.kid; rw [if_neg (show ¬ (Vt.mk h Y L K F).h.k = 7 from k7)]; rfl
      have e2 : (Vt.mk h Y L K F).kn = h.ln := by unfold Vt.kn; rw [if_neg (show ¬ (Vt.mk h Y L K F).h.k = 7 from k7)]; rfl
      rw [← e1]
      exact hkid i (by omega)
    have hFn : ∀ i, i < h.fn → (F i).good ∧ (F i).upto (49 - d - 1) := by
      intro i hi
      have k7 : h.k = 7 := Classical.byContradiction fun q => by have e : h.fn = 0 := ow.2.2.2.2.2.2.2.2 q; omega
      have e1 : (Vt.mk h Y L K F).kid i = F i := by unfold Vt.kid; rw [if_pos (show (Vt.mk h Y L K F).h.k = 7 from k7)]; rfl
      have e2 : (Vt.mk h Y L K F).kn = h.fn := by unfold Vt.kn; rw [if_pos (show (Vt.mk h Y L K F).h.k = 7 from k7)]; rfl
      rw [← e1]
      exact hkid i (by omega)
    refine ⟨⟨c3, fun i hi => (hLn i hi).1, fun i hi => (hFn i hi).1⟩, ⟨by omega, fun i hi => (hLn i hi).2, fun i hi => (hFn i hi).2⟩, ?_⟩
    rw [hsz]
    omega
end Go.Proofs.YtfkfboiblgoamaaDoor
