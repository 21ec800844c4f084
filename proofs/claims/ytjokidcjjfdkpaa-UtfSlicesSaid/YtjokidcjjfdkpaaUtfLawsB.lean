/- The walks of the laws on decoding, counting and cutting. -/
import Derived.Test.YtjokidcjjfdkpaaUtfWalksE
namespace Go.Proofs.Ytjokidcjjfdkpaa
open Go.RowKit

theorem walk_UtfDecodes (s : ByteArray) (a : Int) (hs : s.size ≤ maxLen) (_ : (Lit.int .i64 a).wf = true) (w : World) :
    Calls Try.prog 6 #[.string s, .int .i64 a] w fun e w' => e = .returned (.bool true) ∧ Below w.heap.size w w' := by
  by_cases h1 : 4096 < s.size
  · unfold maxLen at hs
    go_enter Try.func6, Try.ntmps6
    go_wp2_with fail
    refine (utf_awake _).mono ?_; rintro e w2 ⟨rfl, hb2⟩
    go_wp2_with fail
    go_ret
    exact ⟨rfl, hb2⟩
  · obtain ⟨rs, rest, h⟩ := Utf.split_ex s.data.toList
    have H1 := Lib.hid (decode_any s a · hs)
    have H2 := Lib.hid (rdecode_any s a · hs)
    have H3 := Lib.hid (valid_any h hs)
    have H4 := Lib.hid (rvalid_any h (by omega))
    unfold maxLen at hs
    clear h
    go_enter Try.func6, Try.ntmps6
    go_wp2_with fail
    refine (H1.out _).mono ?_; rintro e w' ⟨rfl, rfl⟩
    go_wp2_with fail
    refine (H2.out _).mono ?_; rintro e w1 ⟨rfl, hb1⟩
    go_wp2_with fail
    refine (H3.out _).mono ?_; rintro e w' ⟨rfl, rfl⟩
    go_wp2_with fail
    refine (H4.out _).mono ?_; rintro e w2 ⟨rfl, hb2⟩; replace hb1 := below_then hb1 hb2; clear hb2
    go_wp2_with fail
    refine (utf_awake _).mono ?_; rintro e w2 ⟨rfl, hb2⟩
    go_wp2_with fail
    go_ret
    exact ⟨rfl, below_then hb1 hb2⟩

/-- Both cut alike. -/
theorem slice_both {s : ByteArray} {rs : List Int} {rest : List UInt8} (h : Utf.Split s.data.toList rs rest) (hs : s.size ≤ 4096) (a b : Int) : ∃ (t : ByteArray) (k : Int),
    (∀ w, Calls Try.prog 27 #[.string s, .int .i64 a, .int .i64 b] w fun e w' => e = .returned (.tuple #[.string t, .int .i64 k]) ∧ w = w') ∧
    (∀ w, Calls Try.prog 28 #[.string s, .int .i64 a, .int .i64 b] w fun e w' => e = .returned (.tuple #[.string t, .int .i64 k]) ∧ Below w.heap.size w w') := by
  have hs' : s.size ≤ maxLen := by unfold maxLen; omega
  by_cases hr : rest.length = 0
  · by_cases hab : a < 0 ∨ b < a ∨ rs.length < b
    · exact ⟨_, _, slice_range h hs' hr a b hab, rslice_range h hs hr a b hab⟩
    · obtain ⟨n, rfl⟩ := Int.eq_ofNat_of_zero_le (show 0 ≤ a by omega)
      obtain ⟨m, rfl⟩ := Int.eq_ofNat_of_zero_le (show 0 ≤ b by omega)
      exact ⟨_, _, slice_ok h hs' hr n m (by omega) (by omega), rslice_ok h hs hr n m (by omega) (by omega)⟩
  · exact ⟨_, _, slice_bad h hs' hr a b, rslice_bad h hs hr a b⟩

theorem walk_UtfCounts (s : ByteArray) (a b : Int) (hs : s.size ≤ maxLen) (_ : (Lit.int .i64 a).wf = true) (_ : (Lit.int .i64 b).wf = true) (w : World) :
    Calls Try.prog 8 #[.string s, .int .i64 a, .int .i64 b] w fun e w' => e = .returned (.bool true) ∧ Below w.heap.size w w' := by
  by_cases h1 : 4096 < s.size
  · unfold maxLen at hs
    go_enter Try.func8, Try.ntmps8
    go_wp2_with fail
    refine (utf_awake _).mono ?_; rintro e w2 ⟨rfl, hb2⟩
    go_wp2_with fail
    go_ret
    exact ⟨rfl, hb2⟩
  · obtain ⟨rs, rest, h⟩ := Utf.split_ex s.data.toList
    have H1 := Lib.hid (len_any h hs)
    have H2 := Lib.hid (rlen_any h (by omega))
    obtain ⟨t, k, h3, h4⟩ := slice_both h (by omega) a b
    have H3 := Lib.hid h3
    have H4 := Lib.hid h4
    unfold maxLen at hs
    clear h h3 h4
    go_enter Try.func8, Try.ntmps8
    go_wp2_with fail
    refine (H1.out _).mono ?_; rintro e w' ⟨rfl, rfl⟩
    go_wp2_with fail
    refine (H2.out _).mono ?_; rintro e w1 ⟨rfl, hb1⟩
    go_wp2_with fail
    refine (H3.out _).mono ?_; rintro e w' ⟨rfl, rfl⟩
    go_wp2_with fail
    refine (H4.out _).mono ?_; rintro e w2 ⟨rfl, hb2⟩; replace hb1 := below_then hb1 hb2; clear hb2
    go_wp2_with fail
    refine (utf_awake _).mono ?_; rintro e w2 ⟨rfl, hb2⟩
    go_wp2_with fail
    go_ret
    exact ⟨rfl, below_then hb1 hb2⟩

/-! ### slices that follow one another -/
theorem split_cut {s : ByteArray} {rs : List Int} {rest : List UInt8} (h : Utf.Split s.data.toList rs rest) (a b : Nat) (hab : a ≤ b) : Utf.Split (s.extract (Utf.off rs a) (Utf.off rs b)).data.toList ((rs.drop a).take (b - a)) [] := by
  refine ⟨?_, fun r hr => h.all r (List.mem_of_mem_drop (List.mem_of_mem_take hr)), rfl⟩
  rw [Lib.extract_data, Utf.drop_off h, List.append_nil]
  have e : Utf.encs (rs.drop a) = Utf.encs ((rs.drop a).take (b - a)) ++ Utf.encs ((rs.drop a).drop (b - a)) := by rw [← Utf.encs_append, List.take_append_drop]
  have e2 : Utf.encs (rs.take b) = Utf.encs (rs.take a) ++ Utf.encs ((rs.drop a).take (b - a)) := by
    rw [← Utf.encs_append]
    congr 1
    conv => lhs; rw [show b = a + (b - a) by omega]
    rw [List.take_add]
  have hl : Utf.off rs b - Utf.off rs a = (Utf.encs ((rs.drop a).take (b - a))).length := by
    unfold Utf.off
    rw [e2, List.length_append]; omega
  rw [hl, e, List.append_assoc, List.take_left']
  rfl
theorem cut_three {s : ByteArray} {rs : List Int} (h : Utf.Split s.data.toList rs []) (a b : Nat) (hab : a ≤ b) :
    (s.extract 0 (Utf.off rs a)).data.toList ++ (s.extract (Utf.off rs a) (Utf.off rs b)).data.toList ++ (s.extract (Utf.off rs b) (Utf.off rs rs.length)).data.toList = s.data.toList := by
  have hl := Utf.len_split h
  have h1 := off_le_of (rs := rs) hab
  rw [Lib.extract_data, Lib.extract_data, Lib.extract_data, List.drop_zero, Nat.sub_zero]
  have e1 : (s.data.toList.drop (Utf.off rs b)).take (Utf.off rs rs.length - Utf.off rs b) = s.data.toList.drop (Utf.off rs b) := by
    apply List.take_of_length_le
    rw [List.length_drop]; simp at hl; simp; omega
  rw [e1]
  have e2 : s.data.toList.take (Utf.off rs a) ++ (s.data.toList.drop (Utf.off rs a)).take (Utf.off rs b - Utf.off rs a) = s.data.toList.take (Utf.off rs b) := by
    rw [← List.take_add]; congr 1; omega
  rw [e2, List.take_append_drop]

/-- The law's case in which it asks nothing. -/
inductive Idle (s : ByteArray) (n e a b : Int) : Prop
  | long (h : 4096 < s.size)
  | text (h0 : decide (4096 < (s.size : Int)) = false) (h : (e != 0) = true)
  | low (h0 : decide (4096 < (s.size : Int)) = false) (h1 : (e != 0) = false) (h : a < 0)
  | back (h0 : decide (4096 < (s.size : Int)) = false) (h1 : (e != 0) = false) (h2 : decide (a < 0) = false) (h : b < a)
  | high (h0 : decide (4096 < (s.size : Int)) = false) (h1 : (e != 0) = false) (h2 : decide (a < 0) = false) (h3 : decide (b < a) = false) (h : n < b)

theorem slices_idle (s : ByteArray) (n e a b : Int) (hs : s.size ≤ maxLen) (hl : ∀ w, Calls Try.prog 25 #[.string s] w fun x w' => x = .returned (.tuple #[.int .i64 n, .int .i64 e]) ∧ w = w') (hi : Idle s n e a b) (w : World) :
    Calls Try.prog 9 #[.string s, .int .i64 a, .int .i64 b] w fun e w' => e = .returned (.bool true) ∧ Below w.heap.size w w' := by
  have HL := Lib.hid hl; clear hl
  unfold maxLen at hs
  cases hi
  all_goals
    go_enter Try.func9, Try.ntmps9
    go_wp2_with fail
    refine (HL.out _).mono ?_; rintro e w' ⟨rfl, rfl⟩
    go_wp2_with fail
    refine (utf_awake _).mono ?_; rintro e w2 ⟨rfl, hb2⟩
    go_wp2_with fail
    go_ret
    exact ⟨rfl, hb2⟩

set_option maxRecDepth 100000 in
theorem slices_full (s : ByteArray) (n a b : Nat) (x y z : ByteArray) (hs : s.size ≤ 4096) (hab : a ≤ b) (hbn : b ≤ n) (hn : n ≤ 4096) (hx : x.size ≤ 4096) (hy : y.size ≤ 4096) (hz : z.size ≤ 4096)
    (hxyz : x.data.toList ++ y.data.toList ++ z.data.toList = s.data.toList)
    (hl : ∀ w, Calls Try.prog 25 #[.string s] w fun x w' => x = .returned (.tuple #[.int .i64 n, .int .i64 0]) ∧ w = w')
    (h1 : ∀ w, Calls Try.prog 27 #[.string s, .int .i64 0, .int .i64 a] w fun e w' => e = .returned (.tuple #[.string x, .int .i64 0]) ∧ w = w')
    (h2 : ∀ w, Calls Try.prog 27 #[.string s, .int .i64 a, .int .i64 b] w fun e w' => e = .returned (.tuple #[.string y, .int .i64 0]) ∧ w = w')
    (h3 : ∀ w, Calls Try.prog 27 #[.string s, .int .i64 b, .int .i64 n] w fun e w' => e = .returned (.tuple #[.string z, .int .i64 0]) ∧ w = w')
    (h4 : ∀ w, Calls Try.prog 25 #[.string y] w fun x w' => x = .returned (.tuple #[.int .i64 ((b : Int) - a), .int .i64 0]) ∧ w = w') (w : World) :
    Calls Try.prog 9 #[.string s, .int .i64 a, .int .i64 b] w fun e w' => e = .returned (.bool true) ∧ Below w.heap.size w w' := by
  have HL := Lib.hid hl; clear hl
  have H1 := Lib.hid h1; clear h1
  have H2 := Lib.hid h2; clear h2
  have H3 := Lib.hid h3; clear h3
  have H4 := Lib.hid h4; clear h4
  have hT : (x ++ y ++ z).toList = s.toList := by rw [Lib.toList_data, Lib.toList_data, ByteArray.data_append, ByteArray.data_append, Array.toList_append, Array.toList_append]; exact hxyz
  clear hxyz
  go_enter Try.func9, Try.ntmps9
  go_wp2_with fail
  refine (HL.out _).mono ?_; rintro e w' ⟨rfl, rfl⟩
  go_wp2_with fail
  refine (H1.out _).mono ?_; rintro e w' ⟨rfl, rfl⟩
  go_wp2_with fail
  refine (H2.out _).mono ?_; rintro e w' ⟨rfl, rfl⟩
  go_wp2_with fail
  refine (H3.out _).mono ?_; rintro e w' ⟨rfl, rfl⟩
  go_wp2_with fail
  refine (H4.out _).mono ?_; rintro e w' ⟨rfl, rfl⟩
  go_wp2_with fail
  refine (utf_awake _).mono ?_; rintro e w2 ⟨rfl, hb2⟩
  go_wp2_with fail
  go_ret
  exact ⟨rfl, hb2⟩

theorem walk_UtfSlices (s : ByteArray) (a b : Int) (hs : s.size ≤ maxLen) (_ : (Lit.int .i64 a).wf = true) (_ : (Lit.int .i64 b).wf = true) (w : World) :
    Calls Try.prog 9 #[.string s, .int .i64 a, .int .i64 b] w fun e w' => e = .returned (.bool true) ∧ Below w.heap.size w w' := by
  obtain ⟨rs, rest, h⟩ := Utf.split_ex s.data.toList
  have hL := fun w => len_any h hs w
  by_cases h1 : 4096 < s.size
  · exact slices_idle s _ _ a b hs hL (.long h1) w
  have d1 : decide (4096 < (s.size : Int)) = false := decide_eq_false (by omega)
  by_cases hr : rest.length = 0
  · have e0 : (lenE rest != 0) = false := by unfold lenE; rw [if_pos hr]; rfl
    by_cases h2 : a < 0
    · exact slices_idle s _ _ a b hs hL (.low d1 e0 h2) w
    have d2 : decide (a < 0) = false := decide_eq_false h2
    by_cases h3 : b < a
    · exact slices_idle s _ _ a b hs hL (.back d1 e0 d2 h3) w
    have d3 : decide (b < a) = false := decide_eq_false h3
    by_cases h4 : lenN rs rest < b
    · exact slices_idle s _ _ a b hs hL (.high d1 e0 d2 d3 h4) w
    obtain ⟨n, rfl⟩ := Int.eq_ofNat_of_zero_le (show 0 ≤ a by omega)
    obtain ⟨m, rfl⟩ := Int.eq_ofNat_of_zero_le (show 0 ≤ b by omega)
    obtain rfl : rest = [] := List.eq_nil_of_length_eq_zero hr
    have en : lenN rs [] = rs.length := by simp [lenN]
    have ee : lenE [] = 0 := by simp [lenE]
    rw [en] at h4
    rw [en, ee] at hL
    have hcl : rs.length ≤ s.size := by simpa using Utf.count_le h
    have k1 := fun w => slice_ok h hs rfl 0 n (by omega) (by omega) w
    have k2 := fun w => slice_ok h hs rfl n m (by omega) (by omega) w
    have k3 := fun w => slice_ok h hs rfl m rs.length (by omega) (by omega) w
    have hsy := split_cut h n m (by omega)
    have hle : ∀ i j : Nat, (s.extract i j).size ≤ s.size := fun i j => by rw [ByteArray.size_extract]; omega
    have k4 := fun w => len_any hsy (by have := hle (Utf.off rs n) (Utf.off rs m); unfold maxLen; omega) w
    have ec : lenN ((rs.drop n).take (m - n)) [] = (m : Int) - n := by
      simp only [lenN, List.length_nil, if_true]
      rw [List.length_take, List.length_drop, Nat.min_eq_left (by omega)]
      omega
    rw [ec, ee] at k4
    rw [Utf.off_zero] at k1
    have hc := cut_three h n m (by omega)
    exact slices_full s rs.length n m _ _ _ (by omega) (by omega) (by omega) (by omega) (Nat.le_trans (hle _ _) (by omega)) (Nat.le_trans (hle _ _) (by omega)) (Nat.le_trans (hle _ _) (by omega)) hc hL k1 k2 k3 k4 w
  · exact slices_idle s _ _ a b hs hL (.text d1 (by unfold lenE; rw [if_neg hr]; rfl)) w
end Go.Proofs.Ytjokidcjjfdkpaa
