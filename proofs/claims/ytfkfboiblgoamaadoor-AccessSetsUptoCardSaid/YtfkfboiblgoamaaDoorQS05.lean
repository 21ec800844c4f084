/- Laid together for one claim: VUtfWalksC. -/
import Derived.Test.YtfkfboiblgoamaaDoorQS04
import Derived.Lib.Strings
/- UTF-8: the reference's decoding. -/
namespace Go.Proofs.YtfkfboiblgoamaaDoor
open Go.RowKit

theorem and31 (x : Int) (h : 0 ≤ x) (h' : x < 256) : bits .and .i64 x 31 = x % 32 := bits_mask .i64 62 (by decide) wraps_i64 5 (by decide) x h (by omega)
theorem and15 (x : Int) (h : 0 ≤ x) (h' : x < 256) : bits .and .i64 x 15 = x % 16 := bits_mask .i64 62 (by decide) wraps_i64 4 (by decide) x h (by omega)
theorem and7 (x : Int) (h : 0 ≤ x) (h' : x < 256) : bits .and .i64 x 7 = x % 8 := bits_mask .i64 62 (by decide) wraps_i64 3 (by decide) x h (by omega)

theorem rdecode_none (s : ByteArray) (a : Int) (w : World) (hs : s.size ≤ maxLen) (h : a < 0 ∨ s.size ≤ a) : Calls Tryd.prog 68 #[.string s, .int .i64 a] w fun e w' => e = .returned (.tuple #[.int .i64 0, .int .i64 0]) ∧ w = w' := by
  unfold maxLen at hs
  rcases h with h | h
  · go_enter Tryd.func68, Tryd.ntmps68
    go_wp2
    go_ret2
    exact ⟨rfl, rfl⟩
  · have d : decide (a < 0) = false := by simp; omega
    go_enter Tryd.func68, Tryd.ntmps68
    go_wp2
    go_ret2
    exact ⟨rfl, rfl⟩

/-- The four ways in which the reference takes a first byte. -/
inductive RHead (b : Nat) (n : Nat) (m : Int) : Prop
  | four (h : 240 ≤ (b : Int)) (hn : n = 4) (hm : m = (b : Int) % 8)
  | three (h0 : decide (240 ≤ (b : Int)) = false) (h : 224 ≤ (b : Int)) (hn : n = 3) (hm : m = (b : Int) % 16)
  | two (h0 : decide (240 ≤ (b : Int)) = false) (h1 : decide (224 ≤ (b : Int)) = false) (h : 192 ≤ (b : Int)) (hn : n = 2) (hm : m = (b : Int) % 32)
  | one (h0 : decide (240 ≤ (b : Int)) = false) (h1 : decide (224 ≤ (b : Int)) = false) (h2 : decide (192 ≤ (b : Int)) = false) (hn : n = 1) (hm : m = (b : Int))
theorem rhead_of (b : Nat) : RHead b (Utf.rhd b).1 (Utf.rhd b).2 := by
  unfold Utf.rhd
  by_cases h1 : 240 ≤ b
  · rw [if_pos h1]; exact .four (by omega) rfl (by simp)
  by_cases h2 : 224 ≤ b
  · rw [if_neg h1, if_pos h2]; exact .three (by simp; omega) (by omega) rfl (by simp)
  by_cases h3 : 192 ≤ b
  · rw [if_neg h1, if_neg h2, if_pos h3]; exact .two (by simp; omega) (by simp; omega) (by omega) rfl (by simp)
  · rw [if_neg h1, if_neg h2, if_neg h3]; exact .one (by simp; omega) (by simp; omega) (by simp; omega) rfl rfl
theorem rhd_small (b : Nat) (hb : b < 256) (l : List UInt8) (h : l.length ≤ (Utf.rhd b).1 - 1) : 0 ≤ Utf.fold (Utf.rhd b).2 l ∧ Utf.fold (Utf.rhd b).2 l < 33554432 := by
  have h1 := fold_bd ((Utf.rhd b).2 : Int) (by omega) l.length l rfl
  refine ⟨h1.1, Int.lt_of_lt_of_le h1.2 ?_⟩
  unfold Utf.rhd at h h1 ⊢
  by_cases c1 : 240 ≤ b
  · rw [if_pos c1] at h ⊢
    rcases (show l.length = 0 ∨ l.length = 1 ∨ l.length = 2 ∨ l.length = 3 by omega) with e | e | e | e <;> rw [e] <;> show (((b % 8 : Nat) : Int) + 1) * _ ≤ _ <;> omega
  by_cases c2 : 224 ≤ b
  · rw [if_neg c1, if_pos c2] at h ⊢
    rcases (show l.length = 0 ∨ l.length = 1 ∨ l.length = 2 by omega) with e | e | e <;> rw [e] <;> show (((b % 16 : Nat) : Int) + 1) * _ ≤ _ <;> omega
  by_cases c3 : 192 ≤ b
  · rw [if_neg c1, if_neg c2, if_pos c3] at h ⊢
    rcases (show l.length = 0 ∨ l.length = 1 by omega) with e | e <;> rw [e] <;> show (((b % 32 : Nat) : Int) + 1) * _ ≤ _ <;> omega
  · rw [if_neg c1, if_neg c2, if_neg c3] at h ⊢
    rw [show l.length = 0 by omega]
    show ((b : Int) + 1) * _ ≤ _
    omega

theorem rdecode_short (s : ByteArray) (a : Nat) (w : World) (hs : s.size ≤ maxLen) (h : a < s.size) (hz : s.size - a < (Utf.rhd s[a].toNat).1) : Calls Tryd.prog 68 #[.string s, .int .i64 a] w fun e w' => e = .returned (.tuple #[.int .i64 (Utf.dec (from_ s a)).1, .int .i64 (Utf.dec (from_ s a)).2]) ∧ Below w.heap.size w w' := by
  unfold maxLen at hs
  have hb : s[a].toNat < 256 := s[a].toNat_lt
  have b1 := and31 s[a].toNat (by omega) (by omega)
  have b2 := and15 s[a].toNat (by omega) (by omega)
  have b3 := and7 s[a].toNat (by omega) (by omega)
  have hh := rhead_of s[a].toNat
  have hno := Utf.rdec_no s[a] (from_ s (a + 1))
  rw [← from_cons s a h, from_len] at hno
  have HD := Lib.hid (hno (fun k => by omega)); clear hno
  generalize (Utf.rhd s[a].toNat).1 = n at *
  generalize ((Utf.rhd s[a].toNat).2 : Int) = m at *
  have d2 : (s.size : Int) - a < n := by omega
  clear hz
  cases hh
  all_goals
    rename_i hn hm
    subst hn
    go_enter Tryd.func68, Tryd.ntmps68
    go_wp2
    try (go_ret2; rw [HD.out]; exact ⟨rfl, Below.refl _ _⟩)

theorem extract_from (s : ByteArray) (a n : Nat) : (s.extract a (a + n)).data.toList = (from_ s a).take n := by
  rw [Lib.extract_data]; unfold from_; congr 1; omega

set_option maxHeartbeats 1000000 in
theorem rdecode_four (s : ByteArray) (a : Nat) (w : World) (hs : s.size ≤ maxLen) (h : a < s.size) (hz : 4 ≤ s.size - a) (m : Int) (hm : m = (s[a].toNat : Int) % 8) (h1 : 240 ≤ (s[a].toNat : Int))
    (hf : ∀ l : List UInt8, l.length ≤ 3 → 0 ≤ Utf.fold m l ∧ Utf.fold m l < 33554432)
    (hyes : 4 ≤ s.size - (a + 1) + 1 → Utf.scal (Utf.fold m ((from_ s (a + 1)).take 3)) → Utf.enc (Utf.fold m ((from_ s (a + 1)).take 3)) = (from_ s a).take 4 → Utf.dec (from_ s a) = (Utf.fold m ((from_ s (a + 1)).take 3), 4))
    (hno : ¬ (4 ≤ s.size - (a + 1) + 1 ∧ Utf.scal (Utf.fold m ((from_ s (a + 1)).take 3)) ∧ Utf.enc (Utf.fold m ((from_ s (a + 1)).take 3)) = (from_ s a).take 4) → Utf.dec (from_ s a) = (0, 0)) :
    Calls Tryd.prog 68 #[.string s, .int .i64 a] w fun e w' => e = .returned (.tuple #[.int .i64 (Utf.dec (from_ s a)).1, .int .i64 (Utf.dec (from_ s a)).2]) ∧ Below w.heap.size w w' := by
  unfold maxLen at hs
  have hb : s[a].toNat < 256 := s[a].toNat_lt
  have b1 := and31 s[a].toNat (by omega) (by omega)
  have b2 := and15 s[a].toNat (by omega) (by omega)
  have b3 := and7 s[a].toNat (by omega) (by omega)
  have HY := Lib.hid (hyes (by omega)); clear hyes
  have HN := Lib.hid (fun (x : ¬ (Utf.scal (Utf.fold m ((from_ s (a + 1)).take 3)) ∧ Utf.enc (Utf.fold m ((from_ s (a + 1)).take 3)) = (from_ s a).take 4)) => hno (fun k => x ⟨k.2.1, k.2.2⟩)); clear hno
  have HF := Lib.hid hf; clear hf
  have HM := Lib.hid hm; clear hm
  have d2 : (4 : Int) ≤ (s.size : Int) - a := by omega
  have e1 : decide (s.size ≤ a) = false := decide_eq_false (by omega)
  have e2 : decide ((a : Int) < 0) = false := decide_eq_false (by omega)
  have e3 : decide ((s.size : Int) - a < 4) = false := decide_eq_false (by omega)
  have hx := extract_from s a 4
  rw [← Lib.toList_data] at hx
  have HX := Lib.hid hx; clear hx
  go_enter Tryd.func68, Tryd.ntmps68
  go_wp2
  go_loop [8, 9] (fun r i => ∃ j : Nat, j + 1 ≤ 4 ∧ i = .int .i64 (j + 1) ∧ r = .int .i64 (Utf.fold m ((from_ s (a + 1)).take j))) (fun _ i => 4 - (intOf i).toNat)
  case atStart => exact ⟨0, by omega, rfl, by rw [List.take_zero]; show _ = Value.int .i64 m; rw [HM.out]⟩
  case round =>
    obtain ⟨j, hj, rfl, rfl⟩ := hrel
    have hf := HF.out ((from_ s (a + 1)).take j) (by rw [List.length_take]; omega)
    obtain ⟨hf1, hf2⟩ := hf
    by_cases hlt : j + 1 < 4
    · have hidx : a + (j + 1) < s.size := by omega
      have g0 : s[a + (j + 1)].toNat < 256 := s[a + (j + 1)].toNat_lt
      have g1 := and63 s[a + (j + 1)].toNat (by omega) (by have := s[a + (j + 1)].toNat_lt; omega)
      have g2 := or6 (Utf.fold m ((from_ s (a + 1)).take j)) ((s[a + (j + 1)].toNat : Int) % 64) hf1 hf2 (by omega) (by omega)
      have HT := Lib.hid (from_take' s a j hidx)
      go_wp2
      go_round
      case rel => exact ⟨j + 1, by omega, by go_num, by rw [HT.out, fold_snoc]; go_num⟩
      case measure => simp [intOf]; omega
    · obtain rfl : j = 3 := by omega
      by_cases hsc : Utf.scal (Utf.fold m ((from_ s (a + 1)).take 3))
      · by_cases hen : Utf.enc (Utf.fold m ((from_ s (a + 1)).take 3)) = (from_ s a).take 4
        · have HD := Lib.hid (HY.out hsc hen)
          have HS := Lib.hid hsc
          have hne : (Utf.enc (Utf.fold m ((from_ s (a + 1)).take 3)) == (s.extract a (a + 4)).toList) = true := by rw [HX.out, hen]; simp
          clear hsc hen
          go_wp2_with (first | (go_at_call 79; refine (rencode_yes _ _ HS.out).mono ?_; rintro e w1 ⟨rfl, hb1⟩))
          go_ret2
          rw [HD.out]
          exact ⟨rfl, hb1⟩
        · have HD := Lib.hid (HN.out (fun k => hen k.2))
          have HS := Lib.hid hsc
          have hne : (Utf.enc (Utf.fold m ((from_ s (a + 1)).take 3)) == (s.extract a (a + 4)).toList) = false := by rw [HX.out]; simpa using hen
          clear hsc hen
          go_wp2_with (first | (go_at_call 79; refine (rencode_yes _ _ HS.out).mono ?_; rintro e w1 ⟨rfl, hb1⟩))
          go_ret2
          rw [HD.out]
          exact ⟨rfl, hb1⟩
      · have HD := Lib.hid (HN.out (fun k => hsc k.1))
        have HS := Lib.hid hsc
        clear hsc
        go_wp2_with (first | (go_at_call 79; refine (rencode_no _ _ HS.out).mono ?_; rintro e w' ⟨rfl, rfl⟩))
        go_ret2
        rw [HD.out]
        exact ⟨rfl, Below.refl _ _⟩

set_option maxHeartbeats 1000000 in
theorem rdecode_three (s : ByteArray) (a : Nat) (w : World) (hs : s.size ≤ maxLen) (h : a < s.size) (hz : 3 ≤ s.size - a) (m : Int) (hm : m = (s[a].toNat : Int) % 16) (h0 : decide (240 ≤ (s[a].toNat : Int)) = false) (h1 : 224 ≤ (s[a].toNat : Int))
    (hf : ∀ l : List UInt8, l.length ≤ 2 → 0 ≤ Utf.fold m l ∧ Utf.fold m l < 33554432)
    (hyes : 3 ≤ s.size - (a + 1) + 1 → Utf.scal (Utf.fold m ((from_ s (a + 1)).take 2)) → Utf.enc (Utf.fold m ((from_ s (a + 1)).take 2)) = (from_ s a).take 3 → Utf.dec (from_ s a) = (Utf.fold m ((from_ s (a + 1)).take 2), 3))
    (hno : ¬ (3 ≤ s.size - (a + 1) + 1 ∧ Utf.scal (Utf.fold m ((from_ s (a + 1)).take 2)) ∧ Utf.enc (Utf.fold m ((from_ s (a + 1)).take 2)) = (from_ s a).take 3) → Utf.dec (from_ s a) = (0, 0)) :
    Calls Tryd.prog 68 #[.string s, .int .i64 a] w fun e w' => e = .returned (.tuple #[.int .i64 (Utf.dec (from_ s a)).1, .int .i64 (Utf.dec (from_ s a)).2]) ∧ Below w.heap.size w w' := by
  unfold maxLen at hs
  have hb : s[a].toNat < 256 := s[a].toNat_lt
  have b1 := and31 s[a].toNat (by omega) (by omega)
  have b2 := and15 s[a].toNat (by omega) (by omega)
  have b3 := and7 s[a].toNat (by omega) (by omega)
  have HY := Lib.hid (hyes (by omega)); clear hyes
  have HN := Lib.hid (fun (x : ¬ (Utf.scal (Utf.fold m ((from_ s (a + 1)).take 2)) ∧ Utf.enc (Utf.fold m ((from_ s (a + 1)).take 2)) = (from_ s a).take 3)) => hno (fun k => x ⟨k.2.1, k.2.2⟩)); clear hno
  have HF := Lib.hid hf; clear hf
  have HM := Lib.hid hm; clear hm
  have d2 : (3 : Int) ≤ (s.size : Int) - a := by omega
  have e1 : decide (s.size ≤ a) = false := decide_eq_false (by omega)
  have e2 : decide ((a : Int) < 0) = false := decide_eq_false (by omega)
  have e3 : decide ((s.size : Int) - a < 3) = false := decide_eq_false (by omega)
  have hx := extract_from s a 3
  rw [← Lib.toList_data] at hx
  have HX := Lib.hid hx; clear hx
  go_enter Tryd.func68, Tryd.ntmps68
  go_wp2
  go_loop [8, 9] (fun r i => ∃ j : Nat, j + 1 ≤ 3 ∧ i = .int .i64 (j + 1) ∧ r = .int .i64 (Utf.fold m ((from_ s (a + 1)).take j))) (fun _ i => 3 - (intOf i).toNat)
  case atStart => exact ⟨0, by omega, rfl, by rw [List.take_zero]; show _ = Value.int .i64 m; rw [HM.out]⟩
  case round =>
    obtain ⟨j, hj, rfl, rfl⟩ := hrel
    have hf := HF.out ((from_ s (a + 1)).take j) (by rw [List.length_take]; omega)
    obtain ⟨hf1, hf2⟩ := hf
    by_cases hlt : j + 1 < 3
    · have hidx : a + (j + 1) < s.size := by omega
      have g0 : s[a + (j + 1)].toNat < 256 := s[a + (j + 1)].toNat_lt
      have g1 := and63 s[a + (j + 1)].toNat (by omega) (by have := s[a + (j + 1)].toNat_lt; omega)
      have g2 := or6 (Utf.fold m ((from_ s (a + 1)).take j)) ((s[a + (j + 1)].toNat : Int) % 64) hf1 hf2 (by omega) (by omega)
      have HT := Lib.hid (from_take' s a j hidx)
      go_wp2
      go_round
      case rel => exact ⟨j + 1, by omega, by go_num, by rw [HT.out, fold_snoc]; go_num⟩
      case measure => simp [intOf]; omega
    · obtain rfl : j = 2 := by omega
      by_cases hsc : Utf.scal (Utf.fold m ((from_ s (a + 1)).take 2))
      · by_cases hen : Utf.enc (Utf.fold m ((from_ s (a + 1)).take 2)) = (from_ s a).take 3
        · have HD := Lib.hid (HY.out hsc hen)
          have HS := Lib.hid hsc
          have hne : (Utf.enc (Utf.fold m ((from_ s (a + 1)).take 2)) == (s.extract a (a + 3)).toList) = true := by rw [HX.out, hen]; simp
          clear hsc hen
          go_wp2_with (first | (go_at_call 79; refine (rencode_yes _ _ HS.out).mono ?_; rintro e w1 ⟨rfl, hb1⟩))
          go_ret2
          rw [HD.out]
          exact ⟨rfl, hb1⟩
        · have HD := Lib.hid (HN.out (fun k => hen k.2))
          have HS := Lib.hid hsc
          have hne : (Utf.enc (Utf.fold m ((from_ s (a + 1)).take 2)) == (s.extract a (a + 3)).toList) = false := by rw [HX.out]; simpa using hen
          clear hsc hen
          go_wp2_with (first | (go_at_call 79; refine (rencode_yes _ _ HS.out).mono ?_; rintro e w1 ⟨rfl, hb1⟩))
          go_ret2
          rw [HD.out]
          exact ⟨rfl, hb1⟩
      · have HD := Lib.hid (HN.out (fun k => hsc k.1))
        have HS := Lib.hid hsc
        clear hsc
        go_wp2_with (first | (go_at_call 79; refine (rencode_no _ _ HS.out).mono ?_; rintro e w' ⟨rfl, rfl⟩))
        go_ret2
        rw [HD.out]
        exact ⟨rfl, Below.refl _ _⟩

set_option maxHeartbeats 1000000 in
theorem rdecode_two (s : ByteArray) (a : Nat) (w : World) (hs : s.size ≤ maxLen) (h : a < s.size) (hz : 2 ≤ s.size - a) (m : Int) (hm : m = (s[a].toNat : Int) % 32) (h0 : decide (240 ≤ (s[a].toNat : Int)) = false) (h1 : decide (224 ≤ (s[a].toNat : Int)) = false) (h2 : 192 ≤ (s[a].toNat : Int))
    (hf : ∀ l : List UInt8, l.length ≤ 1 → 0 ≤ Utf.fold m l ∧ Utf.fold m l < 33554432)
    (hyes : 2 ≤ s.size - (a + 1) + 1 → Utf.scal (Utf.fold m ((from_ s (a + 1)).take 1)) → Utf.enc (Utf.fold m ((from_ s (a + 1)).take 1)) = (from_ s a).take 2 → Utf.dec (from_ s a) = (Utf.fold m ((from_ s (a + 1)).take 1), 2))
    (hno : ¬ (2 ≤ s.size - (a + 1) + 1 ∧ Utf.scal (Utf.fold m ((from_ s (a + 1)).take 1)) ∧ Utf.enc (Utf.fold m ((from_ s (a + 1)).take 1)) = (from_ s a).take 2) → Utf.dec (from_ s a) = (0, 0)) :
    Calls Tryd.prog 68 #[.string s, .int .i64 a] w fun e w' => e = .returned (.tuple #[.int .i64 (Utf.dec (from_ s a)).1, .int .i64 (Utf.dec (from_ s a)).2]) ∧ Below w.heap.size w w' := by
  unfold maxLen at hs
  have hb : s[a].toNat < 256 := s[a].toNat_lt
  have b1 := and31 s[a].toNat (by omega) (by omega)
  have b2 := and15 s[a].toNat (by omega) (by omega)
  have b3 := and7 s[a].toNat (by omega) (by omega)
  have HY := Lib.hid (hyes (by omega)); clear hyes
  have HN := Lib.hid (fun (x : ¬ (Utf.scal (Utf.fold m ((from_ s (a + 1)).take 1)) ∧ Utf.enc (Utf.fold m ((from_ s (a + 1)).take 1)) = (from_ s a).take 2)) => hno (fun k => x ⟨k.2.1, k.2.2⟩)); clear hno
  have HF := Lib.hid hf; clear hf
  have HM := Lib.hid hm; clear hm
  have d2 : (2 : Int) ≤ (s.size : Int) - a := by omega
  have e1 : decide (s.size ≤ a) = false := decide_eq_false (by omega)
  have e2 : decide ((a : Int) < 0) = false := decide_eq_false (by omega)
  have e3 : decide ((s.size : Int) - a < 2) = false := decide_eq_false (by omega)
  have hx := extract_from s a 2
  rw [← Lib.toList_data] at hx
  have HX := Lib.hid hx; clear hx
  go_enter Tryd.func68, Tryd.ntmps68
  go_wp2
  go_loop [8, 9] (fun r i => ∃ j : Nat, j + 1 ≤ 2 ∧ i = .int .i64 (j + 1) ∧ r = .int .i64 (Utf.fold m ((from_ s (a + 1)).take j))) (fun _ i => 2 - (intOf i).toNat)
  case atStart => exact ⟨0, by omega, rfl, by rw [List.take_zero]; show _ = Value.int .i64 m; rw [HM.out]⟩
  case round =>
    obtain ⟨j, hj, rfl, rfl⟩ := hrel
    have hf := HF.out ((from_ s (a + 1)).take j) (by rw [List.length_take]; omega)
    obtain ⟨hf1, hf2⟩ := hf
    by_cases hlt : j + 1 < 2
    · have hidx : a + (j + 1) < s.size := by omega
      have g0 : s[a + (j + 1)].toNat < 256 := s[a + (j + 1)].toNat_lt
      have g1 := and63 s[a + (j + 1)].toNat (by omega) (by have := s[a + (j + 1)].toNat_lt; omega)
      have g2 := or6 (Utf.fold m ((from_ s (a + 1)).take j)) ((s[a + (j + 1)].toNat : Int) % 64) hf1 hf2 (by omega) (by omega)
      have HT := Lib.hid (from_take' s a j hidx)
      go_wp2
      go_round
      case rel => exact ⟨j + 1, by omega, by go_num, by rw [HT.out, fold_snoc]; go_num⟩
      case measure => simp [intOf]; omega
    · obtain rfl : j = 1 := by omega
      by_cases hsc : Utf.scal (Utf.fold m ((from_ s (a + 1)).take 1))
      · by_cases hen : Utf.enc (Utf.fold m ((from_ s (a + 1)).take 1)) = (from_ s a).take 2
        · have HD := Lib.hid (HY.out hsc hen)
          have HS := Lib.hid hsc
          have hne : (Utf.enc (Utf.fold m ((from_ s (a + 1)).take 1)) == (s.extract a (a + 2)).toList) = true := by rw [HX.out, hen]; simp
          clear hsc hen
          go_wp2_with (first | (go_at_call 79; refine (rencode_yes _ _ HS.out).mono ?_; rintro e w1 ⟨rfl, hb1⟩))
          go_ret2
          rw [HD.out]
          exact ⟨rfl, hb1⟩
        · have HD := Lib.hid (HN.out (fun k => hen k.2))
          have HS := Lib.hid hsc
          have hne : (Utf.enc (Utf.fold m ((from_ s (a + 1)).take 1)) == (s.extract a (a + 2)).toList) = false := by rw [HX.out]; simpa using hen
          clear hsc hen
          go_wp2_with (first | (go_at_call 79; refine (rencode_yes _ _ HS.out).mono ?_; rintro e w1 ⟨rfl, hb1⟩))
          go_ret2
          rw [HD.out]
          exact ⟨rfl, hb1⟩
      · have HD := Lib.hid (HN.out (fun k => hsc k.1))
        have HS := Lib.hid hsc
        clear hsc
        go_wp2_with (first | (go_at_call 79; refine (rencode_no _ _ HS.out).mono ?_; rintro e w' ⟨rfl, rfl⟩))
        go_ret2
        rw [HD.out]
        exact ⟨rfl, Below.refl _ _⟩

set_option maxHeartbeats 1000000 in
theorem rdecode_one (s : ByteArray) (a : Nat) (w : World) (hs : s.size ≤ maxLen) (h : a < s.size) (_hz : 1 ≤ s.size - a) (m : Int) (hm : m = (s[a].toNat : Int)) (h0 : decide (240 ≤ (s[a].toNat : Int)) = false) (h1 : decide (224 ≤ (s[a].toNat : Int)) = false) (h2 : decide (192 ≤ (s[a].toNat : Int)) = false)
    (hf : ∀ l : List UInt8, l.length ≤ 0 → 0 ≤ Utf.fold m l ∧ Utf.fold m l < 33554432)
    (hyes : 1 ≤ s.size - (a + 1) + 1 → Utf.scal (Utf.fold m ([] : List UInt8)) → Utf.enc (Utf.fold m ([] : List UInt8)) = (from_ s a).take 1 → Utf.dec (from_ s a) = (Utf.fold m ([] : List UInt8), 1))
    (hno : ¬ (1 ≤ s.size - (a + 1) + 1 ∧ Utf.scal (Utf.fold m ([] : List UInt8)) ∧ Utf.enc (Utf.fold m ([] : List UInt8)) = (from_ s a).take 1) → Utf.dec (from_ s a) = (0, 0)) :
    Calls Tryd.prog 68 #[.string s, .int .i64 a] w fun e w' => e = .returned (.tuple #[.int .i64 (Utf.dec (from_ s a)).1, .int .i64 (Utf.dec (from_ s a)).2]) ∧ Below w.heap.size w w' := by
  unfold maxLen at hs
  have hb : s[a].toNat < 256 := s[a].toNat_lt
  have b1 := and31 s[a].toNat (by omega) (by omega)
  have b2 := and15 s[a].toNat (by omega) (by omega)
  have b3 := and7 s[a].toNat (by omega) (by omega)
  have HY := Lib.hid (hyes (by omega)); clear hyes
  have HN := Lib.hid (fun (x : ¬ (Utf.scal (Utf.fold m ([] : List UInt8)) ∧ Utf.enc (Utf.fold m ([] : List UInt8)) = (from_ s a).take 1)) => hno (fun k => x ⟨k.2.1, k.2.2⟩)); clear hno
  have HF := Lib.hid hf; clear hf
  have HM := Lib.hid hm; clear hm
  have d2 : (1 : Int) ≤ (s.size : Int) - a := by omega
  have e1 : decide (s.size ≤ a) = false := decide_eq_false (by omega)
  have e2 : decide ((a : Int) < 0) = false := decide_eq_false (by omega)
  have e3 : decide ((s.size : Int) - a < 1) = false := decide_eq_false (by omega)
  have hx := extract_from s a 1
  rw [← Lib.toList_data] at hx
  have HX := Lib.hid hx; clear hx
  go_enter Tryd.func68, Tryd.ntmps68
  go_wp2
  go_loop [8, 9] (fun r i => ∃ j : Nat, j + 1 ≤ 1 ∧ i = .int .i64 (j + 1) ∧ r = .int .i64 (Utf.fold m ((from_ s (a + 1)).take j))) (fun _ i => 1 - (intOf i).toNat)
  case atStart => exact ⟨0, by omega, rfl, by rw [List.take_zero]; show _ = Value.int .i64 m; rw [HM.out]⟩
  case round =>
    obtain ⟨j, hj, rfl, rfl⟩ := hrel
    have hf := HF.out ((from_ s (a + 1)).take j) (by rw [List.length_take]; omega)
    obtain ⟨hf1, hf2⟩ := hf
    by_cases hlt : j + 1 < 1
    · exact absurd hlt (by omega)
    · obtain rfl : j = 0 := by omega
      by_cases hsc : Utf.scal (Utf.fold m ([] : List UInt8))
      · by_cases hen : Utf.enc (Utf.fold m ([] : List UInt8)) = (from_ s a).take 1
        · have HD := Lib.hid (HY.out hsc hen)
          have HS := Lib.hid hsc
          have hne : (Utf.enc (Utf.fold m ([] : List UInt8)) == (s.extract a (a + 1)).toList) = true := by rw [HX.out, hen]; simp
          clear hsc hen
          go_wp2_with (first | (go_at_call 79; refine (rencode_yes _ _ HS.out).mono ?_; rintro e w1 ⟨rfl, hb1⟩))
          go_ret2
          rw [HD.out]
          exact ⟨rfl, hb1⟩
        · have HD := Lib.hid (HN.out (fun k => hen k.2))
          have HS := Lib.hid hsc
          have hne : (Utf.enc (Utf.fold m ([] : List UInt8)) == (s.extract a (a + 1)).toList) = false := by rw [HX.out]; simpa using hen
          clear hsc hen
          go_wp2_with (first | (go_at_call 79; refine (rencode_yes _ _ HS.out).mono ?_; rintro e w1 ⟨rfl, hb1⟩))
          go_ret2
          rw [HD.out]
          exact ⟨rfl, hb1⟩
      · have HD := Lib.hid (HN.out (fun k => hsc k.1))
        have HS := Lib.hid hsc
        clear hsc
        go_wp2_with (first | (go_at_call 79; refine (rencode_no _ _ HS.out).mono ?_; rintro e w' ⟨rfl, rfl⟩))
        go_ret2
        rw [HD.out]
        exact ⟨rfl, Below.refl _ _⟩


theorem rdecode_at (s : ByteArray) (a : Nat) (w : World) (hs : s.size ≤ maxLen) (h : a < s.size) : Calls Tryd.prog 68 #[.string s, .int .i64 a] w fun e w' => e = .returned (.tuple #[.int .i64 (Utf.dec (from_ s a)).1, .int .i64 (Utf.dec (from_ s a)).2]) ∧ Below w.heap.size w w' := by
  by_cases hz : s.size - a < (Utf.rhd s[a].toNat).1
  · exact rdecode_short s a w hs h hz
  · have hb : s[a].toNat < 256 := s[a].toNat_lt
    have hh := rhead_of s[a].toNat
    have hfs := rhd_small s[a].toNat hb
    have hyes := Utf.rdec_yes s[a] (from_ s (a + 1))
    have hno := Utf.rdec_no s[a] (from_ s (a + 1))
    rw [← from_cons s a h, from_len] at hyes hno
    generalize (Utf.rhd s[a].toNat).1 = n at *
    generalize ((Utf.rhd s[a].toNat).2 : Int) = m at *
    cases hh with
    | four h1 hn hm => subst hn; exact rdecode_four s a w hs h (by omega) m hm h1 hfs hyes hno
    | three h0 h1 hn hm => subst hn; exact rdecode_three s a w hs h (by omega) m hm h0 h1 hfs hyes hno
    | two h0 h1 h2 hn hm => subst hn; exact rdecode_two s a w hs h (by omega) m hm h0 h1 h2 hfs hyes hno
    | one h0 h1 h2 hn hm => subst hn; exact rdecode_one s a w hs h (by omega) m hm h0 h1 h2 hfs hyes hno
end Go.Proofs.YtfkfboiblgoamaaDoor
