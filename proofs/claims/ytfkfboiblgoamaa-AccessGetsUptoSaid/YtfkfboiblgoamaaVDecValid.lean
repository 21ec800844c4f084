/- Decimals: Valid; the comparison of two decimals. -/
import Derived.Test.YtfkfboiblgoamaaVDigShift
namespace Go.Proofs.Ytfkfboiblgoamaa
open Go.RowKit

theorem dec_eql (a b : Bool) (s t : ByteArray) (e f : Int) (W : World) : (binOp .eql 23 (.agg #[.bool a, .string s, .int .i64 e]) (.agg #[.bool b, .string t, .int .i64 f])).run Try.prog W = .ok (.bool (decide ((a, s, e) = (b, t, f)))) W := by
  by_cases h1 : a = b
  · by_cases h2 : s = t
    · by_cases h3 : e = f
      · subst h1 h2 h3
        rw [decide_eq_true rfl]
        simp [go_sem]
      · rw [decide_eq_false (fun k => h3 (by simpa using congrArg (·.2.2) k))]
        simp [go_sem, h1, h2, h3]
    · have h2' : (s.toList == t.toList) = false := by
        rw [beq_eq_false_iff_ne]
        intro k
        apply h2
        rw [Lib.toList_data, Lib.toList_data] at k
        exact ByteArray.ext (Array.ext' k)
      rw [decide_eq_false (fun k => h2 (by simpa using congrArg (·.2.1) k))]
      simp [go_sem, h1, h2']
  · rw [decide_eq_false (fun k => h1 (by simpa using congrArg (·.1) k))]
    simp [go_sem, h1]
namespace Dec
/-- A valid decimal. -/
def vd (n : Bool) (s : ByteArray) (e : Int) : Prop := if s.size = 0 then n = false ∧ e = 0 else Dig.vld s ∧ s.size ≤ 120 ∧ Dig.zc s = 0 ∧ -400 ≤ e ∧ e ≤ 400
instance (n : Bool) (s : ByteArray) (e : Int) : Decidable (vd n s e) := by unfold vd; infer_instance
theorem size_zero {s : ByteArray} (h : s.size = 0) : s = ⟨#[]⟩ := by
  apply ByteArray.ext
  exact Array.eq_empty_of_size_eq_zero h
end Dec

set_option maxHeartbeats 4000000 in
theorem rdvalid_any (n : Bool) {s : ByteArray} (hs : s.size ≤ maxLen) (e : Int) (w : World) :
    Calls Try.prog 63 #[.agg #[.bool n, .string s, .int .i64 e]] w fun r w' => r = .returned (.bool (decide (Dec.vd n s e))) ∧ Below w.heap.size w w' := by
  have hb := (Below.refl w.heap.size w).alloc (Nat.le_refl _) (.cells #[.bool n, .string s, .int .i64 e] 23)
  by_cases h0 : s.size = 0
  · obtain rfl := Dec.size_zero h0
    have hvd : Dec.vd n ⟨#[]⟩ e ↔ (n = false ∧ e = 0) := by unfold Dec.vd; rw [if_pos h0]
    cases n
    · obtain ⟨R, hR⟩ : ∃ R, decide (e = 0) = R := ⟨_, rfl⟩
      have e1 : decide (Dec.vd false ⟨#[]⟩ e) = R := by
        rw [← hR]
        exact decide_eq_decide.2 ⟨fun k => (hvd.1 k).2, fun k => hvd.2 ⟨rfl, k⟩⟩
      have e2 : (e == 0) = R := by rw [← hR]; rfl
      rw [e1]
      clear hvd e1 h0 hs hR
      go_enter Try.func63, Try.ntmps63
      go_wp2
      go_ret
      exact ⟨rfl, hb⟩
    · rw [decide_eq_false (fun k => by have := (hvd.1 k).1; cases this)]
      clear hvd h0 hs
      go_enter Try.func63, Try.ntmps63
      go_wp2
      go_ret
      exact ⟨rfl, hb⟩
  have ne := Dig.some_of (x := s) (by omega)
  have HV := Lib.hid (rdigs_any hs)
  have hvd : Dec.vd n s e ↔ (Dig.vld s ∧ s.size ≤ 120 ∧ Dig.zc s = 0 ∧ -400 ≤ e ∧ e ≤ 400) := by unfold Dec.vd; rw [if_neg h0]
  by_cases h2 : s.size ≤ 120
  case neg =>
    rw [decide_eq_false (fun k => h2 (hvd.1 k).2.1)]
    have d2 : decide ((s.size : Int) ≤ 120) = false := decide_eq_false (by omega)
    clear hvd h0 hs h2
    go_enter Try.func63, Try.ntmps63
    go_wp2
    go_ret
    exact ⟨rfl, hb⟩
  have d2 : decide ((s.size : Int) ≤ 120) = true := decide_eq_true (by omega)
  by_cases h1 : Dig.vld s
  case neg =>
    rw [decide_eq_false h1] at HV
    rw [decide_eq_false (fun k => h1 (hvd.1 k).1)]
    clear hvd h1 h0 hs h2
    go_enter Try.func63, Try.ntmps63
    go_wp2_with fail
    refine (HV.out _).mono ?_; rintro _ w1 ⟨rfl, rfl⟩
    go_wp2
    go_ret
    exact ⟨rfl, hb⟩
  rw [decide_eq_true h1] at HV
  have HZ := Lib.hid (rzeros_any (x := s) (by omega))
  have hz0 : (0 : Int) ≤ Dig.zc s := by omega
  have hzl : Dig.zc s ≤ 1000000 := by unfold Dig.zc; omega
  by_cases h3 : Dig.zc s = 0
  case neg =>
    rw [decide_eq_false (fun k => h3 (hvd.1 k).2.2.1)]
    generalize Dig.zc s = z at *
    have d3 : ((z : Int) == 0) = false := by rw [beq_eq_false_iff_ne]; omega
    clear hvd h1 h0 hs h2 h3
    go_enter Try.func63, Try.ntmps63
    go_wp2_with fail
    refine (HV.out _).mono ?_; rintro _ w1 ⟨rfl, rfl⟩
    go_wp2_with fail
    refine (HZ.out _).mono ?_; rintro _ w1 ⟨rfl, rfl⟩
    go_wp2
    go_ret
    exact ⟨rfl, hb⟩
  rw [h3] at HZ
  by_cases h4 : -400 ≤ e
  case neg =>
    rw [decide_eq_false (fun k => h4 (hvd.1 k).2.2.2.1)]
    have d4 : decide (-400 ≤ e) = false := decide_eq_false h4
    clear hvd h1 h0 hs h2 h3 h4 hz0 hzl
    go_enter Try.func63, Try.ntmps63
    go_wp2_with fail
    refine (HV.out _).mono ?_; rintro _ w1 ⟨rfl, rfl⟩
    go_wp2_with fail
    refine (HZ.out _).mono ?_; rintro _ w1 ⟨rfl, rfl⟩
    go_wp2
    go_ret
    exact ⟨rfl, hb⟩
  have d4 : decide (-400 ≤ e) = true := decide_eq_true h4
  obtain ⟨R, hR⟩ : ∃ R, decide (e ≤ 400) = R := ⟨_, rfl⟩
  have e5 : decide (Dec.vd n s e) = R := by
    rw [← hR]
    exact decide_eq_decide.2 ⟨fun k => (hvd.1 k).2.2.2.2, fun k => hvd.2 ⟨h1, h2, h3, h4, k⟩⟩
  rw [e5]
  clear hvd h1 h0 hs h2 h3 h4 hz0 hzl e5
  go_enter Try.func63, Try.ntmps63
  go_wp2_with fail
  refine (HV.out _).mono ?_; rintro _ w1 ⟨rfl, rfl⟩
  go_wp2_with fail
  refine (HZ.out _).mono ?_; rintro _ w1 ⟨rfl, rfl⟩
  go_wp2
  go_ret
  exact ⟨rfl, hb⟩
end Go.Proofs.Ytfkfboiblgoamaa
