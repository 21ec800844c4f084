/- Times: the law of texts that are read back. -/
import Derived.Test.YthbjkibclbgjoaaMomBackN
import Derived.Deep.DeepCutAuto
namespace Go.Proofs.Ythbjkibclbgjoaa
open Go.RowKit

theorem Mom.len_txt (k d n o : Int) : (Mom.str (Mom.txt k d n o)).size ≤ maxLen := by
  have h1 := Mom.len_dtx d
  have h2 := Mom.len_ctx n
  have h3 := Mom.len_otx o
  rw [Mom.str_size] at h1 h2 h3 ⊢
  have hm : 1000 ≤ maxLen := by decide
  unfold Mom.txt
  split
  · split
    · omega
    split
    · omega
    split
    · simp only [List.length_append, List.length_cons, List.length_nil]; omega
    · simp only [List.length_append, List.length_cons, List.length_nil]; omega
  · simp

set_option maxRecDepth 100000 in
set_option maxHeartbeats 4000000 in
theorem walk_MomentBack (k d n o : Int) (s : ByteArray) (_ : (Lit.int .i64 k).wf = true) (_ : (Lit.int .i64 d).wf = true) (_ : (Lit.int .i64 n).wf = true) (_ : (Lit.int .i64 o).wf = true) (hs : s.size ≤ maxLen) (w : World) :
    Calls Try.prog 5 #[.agg #[.int .i64 k, .int .i64 d, .int .i64 n, .int .i64 o], .string s] w fun e w' => e = .returned (.bool true) ∧ Below w.heap.size w w' := by
  have HV := Lib.hid (valid_any k d n o)
  have HT := Lib.hid (text_any k d n o)
  have HA := Lib.hid mom_awake
  have HP := Lib.hid (parse_any (x := Mom.str (Mom.txt k d n o)) (Mom.len_txt k d n o))
  have HS := Lib.hid (parse_any hs)
  have hr := Mom.parse_err s
  have hv := Lib.hid (fun h => Mom.parse_valid (x := s) h)
  generalize Mom.parse s = Z at *
  obtain ⟨⟨a, b, c, g⟩, e⟩ := Z
  unfold Mom.ag at HS HP
  dsimp only at HS hr
  have q0 : ∀ W, (binOp .neq 23 (.agg #[.int .i64 k, .int .i64 d, .int .i64 n, .int .i64 o]) (.agg #[.int .i64 k, .int .i64 d, .int .i64 n, .int .i64 o])).run Try.prog W = .ok (.bool false) W := fun W => by simp [go_sem]
  have K : Whole (w.alloc (.cells #[.int .i64 k, .int .i64 d, .int .i64 n, .int .i64 o] 23)) w.heap.size 23 #[.int .i64 k, .int .i64 d, .int .i64 n, .int .i64 o] := Whole.new w _ _
  have hbb := (Below.refl w.heap.size w).alloc (Nat.le_refl _) (.cells #[.int .i64 k, .int .i64 d, .int .i64 n, .int .i64 o] 23)
  go_enter Try.func5, Try.ntmps5
  go_wp2_with fail
  refine (HV.out _).mono ?_; rintro e w1 ⟨rfl, hb1⟩
  replace K := K.below hb1 K.lt
  replace hbb := below_then hbb hb1
  clear hb1
  obtain ⟨x0, x1, x2, x3⟩ := K.c4
  go_upto_if 12 with fail
  go_cut [] (fun wx => Below w.heap.size w wx)
  case first =>
    clear HS hr hv
    by_cases h : Mom.Ok k d n o
    · have hz := Mom.parse_txt h
      rw [hz] at HP
      dsimp only at HP
      rw [decide_eq_true h]
      clear h hz
      generalize Mom.str (Mom.txt k d n o) = X at *
      go_wp2_with fail
      refine (HT.out _).mono ?_; rintro e w2 ⟨rfl, hb2⟩
      replace K := K.below hb2 K.lt
      replace hbb := below_then hbb hb2
      clear hb2 x0 x1 x2 x3
      go_wp2_with fail
      refine (HP.out _).mono ?_; rintro e w3 ⟨rfl, hb3⟩
      replace K := (K.below hb3 K.lt).alloc (.cells #[.int .i64 k, .int .i64 d, .int .i64 n, .int .i64 o] 23)
      replace hbb := (below_then hbb hb3).alloc (below_then hbb hb3).size (.cells #[.int .i64 k, .int .i64 d, .int .i64 n, .int .i64 o] 23)
      clear hb3
      obtain ⟨x0, x1, x2, x3⟩ := K.c4
      go_wp2_with fail
      go_meet
      exact hbb
    · have ht : Mom.str (Mom.txt k d n o) = ⟨#[]⟩ := by unfold Mom.txt; rw [if_neg h]; rfl
      rw [ht] at HT
      rw [decide_eq_false h]
      clear h ht HP
      go_wp2_with fail
      refine (HT.out _).mono ?_; rintro e w2 ⟨rfl, hb2⟩
      replace hbb := below_then hbb hb2
      clear hb2
      go_wp2_with fail
      go_meet
      exact hbb
  case rest =>
  have hbc : Below w.heap.size w wc := hcut
  clear hcut K hbb x0 x1 x2 x3 HP HT HV q0
  by_cases he : e = 0
  · subst he
    have hok : Mom.Ok a b c g := hv.out rfl
    have HT := Lib.hid (text_any a b c g)
    have HP := Lib.hid (parse_any (x := Mom.str (Mom.txt a b c g)) (Mom.len_txt a b c g))
    have HV := Lib.hid (valid_any a b c g)
    rw [Mom.parse_txt hok] at HP
    unfold Mom.ag at HP
    dsimp only at HP
    rw [decide_eq_true hok] at HV
    have q1 : ∀ W, (binOp .eql 23 (.agg #[.int .i64 a, .int .i64 b, .int .i64 c, .int .i64 g]) (.agg #[.int .i64 a, .int .i64 b, .int .i64 c, .int .i64 g])).run Try.prog W = .ok (.bool true) W := fun W => by rw [time_eql, decide_eq_true rfl]
    clear hok hr hv
    generalize Mom.str (Mom.txt a b c g) = X at *
    go_wp2_with fail
    refine (HS.out _).mono ?_; rintro e w2 ⟨rfl, hb2⟩
    have K := Whole.new w2 23 #[.int .i64 a, .int .i64 b, .int .i64 c, .int .i64 g]
    replace hbc := (below_then hbc hb2).alloc (below_then hbc hb2).size (.cells #[.int .i64 a, .int .i64 b, .int .i64 c, .int .i64 g] 23)
    clear hb2
    go_wp2_with fail
    refine (HT.out _).mono ?_; rintro e w3 ⟨rfl, hb3⟩
    replace K := K.below hb3 K.lt
    replace hbc := below_then hbc hb3
    clear hb3
    go_wp2_with fail
    refine (HP.out _).mono ?_; rintro e w4 ⟨rfl, hb4⟩
    replace K := (K.below hb4 K.lt).alloc (.cells #[.int .i64 a, .int .i64 b, .int .i64 c, .int .i64 g] 23)
    have L := Whole.new w4 23 #[.int .i64 a, .int .i64 b, .int .i64 c, .int .i64 g]
    replace hbc := (below_then hbc hb4).alloc (below_then hbc hb4).size (.cells #[.int .i64 a, .int .i64 b, .int .i64 c, .int .i64 g] 23)
    clear hb4
    obtain ⟨x0, x1, x2, x3⟩ := K.c4
    go_wp2_with fail
    refine (HV.out _).mono ?_; rintro e w5 ⟨rfl, hb5⟩
    replace K := K.below hb5 K.lt
    replace L := L.below hb5 L.lt
    replace hbc := below_then hbc hb5
    clear hb5 x0 x1 x2 x3
    obtain ⟨x0, x1, x2, x3⟩ := K.c4
    obtain ⟨y0, y1, y2, y3⟩ := L.c4
    go_wp2_with fail
    refine (HA.out _).mono ?_; rintro e w6 ⟨rfl, hb6⟩
    go_wp2_with fail
    go_ret
    exact ⟨rfl, below_then hbc hb6⟩
  · rcases hr with h | ⟨h1, h2⟩
    · exact absurd h he
    injection h1 with h3 h4 h5 h6
    subst h3 h4 h5 h6
    have q1 : ∀ W, (binOp .eql 23 (.agg #[.int .i64 0, .int .i64 0, .int .i64 0, .int .i64 0]) (.agg #[.int .i64 0, .int .i64 0, .int .i64 0, .int .i64 0])).run Try.prog W = .ok (.bool true) W := fun W => by rw [time_eql, decide_eq_true rfl]
    clear he hv
    rcases h2 with rfl | rfl
    all_goals
      go_wp2_with fail
      refine (HS.out _).mono ?_; rintro e w2 ⟨rfl, hb2⟩
      have K := Whole.new w2 23 #[.int .i64 0, .int .i64 0, .int .i64 0, .int .i64 0]
      replace hbc := (below_then hbc hb2).alloc (below_then hbc hb2).size (.cells #[.int .i64 0, .int .i64 0, .int .i64 0, .int .i64 0] 23)
      clear hb2
      obtain ⟨x0, x1, x2, x3⟩ := K.c4
      go_wp2_with fail
      refine (HA.out _).mono ?_; rintro e w6 ⟨rfl, hb6⟩
      go_wp2_with fail
      go_ret
      exact ⟨rfl, below_then hbc hb6⟩
end Go.Proofs.Ythbjkibclbgjoaa
