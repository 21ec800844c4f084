/- Laid together for one claim: VUtfWalks, VUtfWalksB. -/
import Derived.Test.YtfkfboiblgoamaaDoorProg
import Derived.Test.YtfkfboiblgoamaaDoorQS03
import Derived.WalkKit
import Derived.Outline
import Derived.Below
import Derived.LoopTactic
import Derived.Lib.Hide
import Derived.WalkLawsBesides
import Derived.WalkSpells
import Derived.LoopN
import Derived.Laws.IdiomStrings
import Derived.Laws.BitsLemmas
/- UTF-8: what the program's and the reference's functions return: characters, widths, encodings. -/
namespace Go.Proofs.YtfkfboiblgoamaaDoor
open Go.RowKit

theorem scalar_yes (r : Int) (w : World) (h : Utf.scal r) : Calls Tryd.prog 74 #[.int .i64 r] w fun e w' => e = .returned (.bool true) ∧ w = w' := by
  obtain ⟨h0, h1, h2⟩ := h
  rcases h2 with h2 | h2
  · go_enter Tryd.func74, Tryd.ntmps74
    go_wp2
    go_ret
    exact ⟨rfl, rfl⟩
  · have hd : decide (r < 55296) = false := by simp; omega
    go_enter Tryd.func74, Tryd.ntmps74
    go_wp2
    go_ret
    exact ⟨rfl, rfl⟩
theorem not_scal {r : Int} (h : ¬ Utf.scal r) : r < 0 ∨ 1114111 < r ∨ (55296 ≤ r ∧ r ≤ 57343) := by unfold Utf.scal at h; omega
theorem scalar_no (r : Int) (w : World) (h : ¬ Utf.scal r) : Calls Tryd.prog 74 #[.int .i64 r] w fun e w' => e = .returned (.bool false) ∧ w = w' := by
  rcases not_scal h with k | k | ⟨k1, k2⟩
  · clear h
    have hd : decide (0 ≤ r) = false := by simp; omega
    go_enter Tryd.func74, Tryd.ntmps74
    go_wp2
    go_ret
    exact ⟨rfl, rfl⟩
  · clear h
    have hd : decide (r ≤ 1114111) = false := by simp; omega
    go_enter Tryd.func74, Tryd.ntmps74
    go_wp2
    go_ret
    exact ⟨rfl, rfl⟩
  · clear h
    have hd : decide (r < 55296) = false := by simp; omega
    have hd2 : decide (57343 < r) = false := by simp; omega
    go_enter Tryd.func74, Tryd.ntmps74
    go_wp2
    go_ret
    exact ⟨rfl, rfl⟩
theorem rchar_yes (r : Int) (w : World) (h : Utf.scal r) : Calls Tryd.prog 83 #[.int .i64 r] w fun e w' => e = .returned (.bool true) ∧ w = w' := by
  obtain ⟨h0, h1, h2⟩ := h
  rcases h2 with h2 | h2
  · go_enter Tryd.func83, Tryd.ntmps83
    go_wp2
    go_ret
    exact ⟨rfl, rfl⟩
  · have hd : decide (r < 55296) = false := by simp; omega
    go_enter Tryd.func83, Tryd.ntmps83
    go_wp2
    go_ret
    exact ⟨rfl, rfl⟩
theorem rchar_no (r : Int) (w : World) (h : ¬ Utf.scal r) : Calls Tryd.prog 83 #[.int .i64 r] w fun e w' => e = .returned (.bool false) ∧ w = w' := by
  rcases not_scal h with k | k | ⟨k1, k2⟩
  · clear h
    have hd : decide (0 ≤ r) = false := by simp; omega
    go_enter Tryd.func83, Tryd.ntmps83
    go_wp2
    go_ret
    exact ⟨rfl, rfl⟩
  · clear h
    have hd : decide (r ≤ 1114111) = false := by simp; omega
    go_enter Tryd.func83, Tryd.ntmps83
    go_wp2
    go_ret
    exact ⟨rfl, rfl⟩
  · clear h
    have hd : decide (r < 55296) = false := by simp; omega
    have hd2 : decide (57343 < r) = false := by simp; omega
    go_enter Tryd.func83, Tryd.ntmps83
    go_wp2
    go_ret
    exact ⟨rfl, rfl⟩

theorem width_any (r : Int) (w : World) : Calls Tryd.prog 75 #[.int .i64 r] w fun e w' => e = .returned (.int .i64 (Utf.wid r)) ∧ w = w' := by
  unfold Utf.wid
  by_cases h1 : r < 128
  · rw [if_pos h1]
    go_enter Tryd.func75, Tryd.ntmps75
    go_wp2
    go_ret
    exact ⟨rfl, rfl⟩
  by_cases h2 : r < 2048
  · rw [if_neg h1, if_pos h2]
    go_enter Tryd.func75, Tryd.ntmps75
    go_wp2
    go_ret
    exact ⟨rfl, rfl⟩
  by_cases h3 : r < 65536
  · rw [if_neg h1, if_neg h2, if_pos h3]
    go_enter Tryd.func75, Tryd.ntmps75
    go_wp2
    go_ret
    exact ⟨rfl, rfl⟩
  · rw [if_neg h1, if_neg h2, if_neg h3]
    go_enter Tryd.func75, Tryd.ntmps75
    go_wp2
    go_ret
    exact ⟨rfl, rfl⟩

theorem rencode_no (r : Int) (w : World) (h : ¬ Utf.scal r) : Calls Tryd.prog 79 #[.int .i64 r] w fun e w' => e = .returned (.tuple #[.string ⟨#[]⟩, .int .i64 2]) ∧ w = w' := by
  have H := Lib.hid h; clear h
  go_enter Tryd.func79, Tryd.ntmps79
  go_wp2_with (go_at_call 83; refine (rchar_no _ _ H.out).mono ?_; rintro e w' ⟨rfl, rfl⟩)
  go_ret2
  exact ⟨rfl, rfl⟩

/-! ### bits and bytes -/
theorem wraps_i64 (n : Int) (h₀ : 0 ≤ n) (h₁ : n < 2 ^ 62) : IntKind.i64.wrap n = n := by rw [IntKind.wrap_i64]; omega
theorem and63 (x : Int) (h : 0 ≤ x) (h' : x < 1114112) : bits .and .i64 x 63 = x % 64 := bits_mask .i64 62 (by decide) wraps_i64 6 (by decide) x h (by omega)
theorem or128 (y : Int) (h : 0 ≤ y) (h' : y < 64) : bits .or .i64 128 y = 128 + y := bits_join .i64 62 (by decide) wraps_i64 6 128 y (by decide) (by decide) (by decide) h h' (by omega)
theorem or192 (y : Int) (h : 0 ≤ y) (h' : y < 32) : bits .or .i64 192 y = 192 + y := bits_join .i64 62 (by decide) wraps_i64 5 192 y (by decide) (by decide) (by decide) h h' (by omega)
theorem or224 (y : Int) (h : 0 ≤ y) (h' : y < 16) : bits .or .i64 224 y = 224 + y := bits_join .i64 62 (by decide) wraps_i64 4 224 y (by decide) (by decide) (by decide) h h' (by omega)
theorem or240 (y : Int) (h : 0 ≤ y) (h' : y < 8) : bits .or .i64 240 y = 240 + y := bits_join .i64 62 (by decide) wraps_i64 3 240 y (by decide) (by decide) (by decide) h h' (by omega)

/-- 'string(b)' of a new slice of bytes. -/
theorem conv_new (w : World) (xs : List Int) (hx : ∀ x ∈ xs, 0 ≤ x ∧ x < 256) :
    (convert 26 9 (.slice (some ⟨w.heap.size, 0, none⟩) xs.length xs.length)).run Tryd.prog (w.alloc (.cells (xs.map (Value.int .u8)).toArray 5)) =
      .ok (.string ⟨(xs.map Utf.byte).toArray⟩) (w.alloc (.cells (xs.map (Value.int .u8)).toArray 5)) := by
  have h := run_convert_bytes_back (P := Tryd.prog) (w.alloc (.cells (xs.map (Value.int .u8)).toArray 5)) 26 9 5 ⟨w.heap.size, 0, none⟩ xs.length (xs.map Utf.byte) Tryd.underlying26 Tryd.underlying5 Tryd.underlying9 (by
    intro j hj
    have hj' : j < xs.length := by simpa using hj
    have hb := hx _ (List.getElem_mem hj')
    rw [show (Addr.add ⟨w.heap.size, 0, none⟩ j) = ⟨w.heap.size, j, none⟩ by cases j <;> simp [Addr.add]]
    have := World.cell?_alloc_mark w (xs.map (Value.int .u8)).toArray 5 (0, 0) j
    refine this.trans ?_
    simp only [List.getElem?_toArray, List.getElem?_map, List.getElem?_eq_getElem hj', Option.map_some, List.getElem_map]
    rw [Utf.byte_toNat hb.1 hb.2])
  simpa using h

/-! ### Encode -/
theorem rencode_two (r : Int) (w : World) (h : Utf.scal r) (h1 : 128 ≤ r) (h2 : r < 2048) : Calls Tryd.prog 79 #[.int .i64 r] w fun e w' => e = .returned (.tuple #[.string ⟨(Utf.enc r).toArray⟩, .int .i64 0]) ∧ Below w.heap.size w w' := by
  have he : Utf.enc r = [Utf.byte (192 + r / 64), Utf.byte (128 + r % 64)] := by unfold Utf.enc; rw [if_neg (by omega), if_pos h2]
  rw [he]
  clear he
  have H := Lib.hid h; clear h
  have hc := fun w => conv_new w [192 + r / 64, 128 + r % 64] (by simp; omega)
  simp only [List.map_cons, List.map_nil, List.length_cons, List.length_nil] at hc
  have b1 := or192 (r / 64) (by omega) (by omega)
  have b2 := and63 r (by omega) (by omega)
  have b3 := or128 (r % 64) (by omega) (by omega)
  have d1 : decide (r < 128) = false := by simp; omega
  go_enter Tryd.func79, Tryd.ntmps79
  go_wp2_with (first | (go_at_call 83; refine (rchar_yes _ _ H.out).mono ?_; rintro e w' ⟨rfl, rfl⟩) )
  go_ret2
  exact ⟨rfl, (Below.refl _ _).alloc (Nat.le_refl _) _⟩
theorem rencode_one (r : Int) (w : World) (h : Utf.scal r) (h1 : r < 128) : Calls Tryd.prog 79 #[.int .i64 r] w fun e w' => e = .returned (.tuple #[.string ⟨(Utf.enc r).toArray⟩, .int .i64 0]) ∧ Below w.heap.size w w' := by
  have he : Utf.enc r = [Utf.byte r] := by unfold Utf.enc; rw [if_pos h1]
  rw [he]
  clear he
  have h0 := h.1
  have H := Lib.hid h; clear h
  have hc := fun w => conv_new w [r] (by simp; omega)
  simp only [List.map_cons, List.map_nil, List.length_cons, List.length_nil] at hc
  go_enter Tryd.func79, Tryd.ntmps79
  go_wp2_with (first | (go_at_call 83; refine (rchar_yes _ _ H.out).mono ?_; rintro e w' ⟨rfl, rfl⟩) )
  go_ret2
  exact ⟨rfl, (Below.refl _ _).alloc (Nat.le_refl _) _⟩
theorem rencode_three (r : Int) (w : World) (h : Utf.scal r) (h1 : 2048 ≤ r) (h2 : r < 65536) : Calls Tryd.prog 79 #[.int .i64 r] w fun e w' => e = .returned (.tuple #[.string ⟨(Utf.enc r).toArray⟩, .int .i64 0]) ∧ Below w.heap.size w w' := by
  have he : Utf.enc r = [Utf.byte (224 + r / 4096), Utf.byte (128 + r / 64 % 64), Utf.byte (128 + r % 64)] := by unfold Utf.enc; rw [if_neg (by omega), if_neg (by omega), if_pos h2]
  rw [he]
  clear he
  have H := Lib.hid h; clear h
  have hc := fun w => conv_new w [224 + r / 4096, 128 + r / 64 % 64, 128 + r % 64] (by simp; omega)
  simp only [List.map_cons, List.map_nil, List.length_cons, List.length_nil] at hc
  have b1 := or224 (r / 4096) (by omega) (by omega)
  have b2 := and63 r (by omega) (by omega)
  have b3 := or128 (r % 64) (by omega) (by omega)
  have b4 := and63 (r / 64) (by omega) (by omega)
  have b5 := or128 (r / 64 % 64) (by omega) (by omega)
  have d1 : decide (r < 128) = false := by simp; omega
  have d2 : decide (r < 2048) = false := by simp; omega
  go_enter Tryd.func79, Tryd.ntmps79
  go_wp2_with (first | (go_at_call 83; refine (rchar_yes _ _ H.out).mono ?_; rintro e w' ⟨rfl, rfl⟩) )
  go_ret2
  exact ⟨rfl, (Below.refl _ _).alloc (Nat.le_refl _) _⟩
theorem rencode_four (r : Int) (w : World) (h : Utf.scal r) (h1 : 65536 ≤ r) : Calls Tryd.prog 79 #[.int .i64 r] w fun e w' => e = .returned (.tuple #[.string ⟨(Utf.enc r).toArray⟩, .int .i64 0]) ∧ Below w.heap.size w w' := by
  have he : Utf.enc r = [Utf.byte (240 + r / 262144), Utf.byte (128 + r / 4096 % 64), Utf.byte (128 + r / 64 % 64), Utf.byte (128 + r % 64)] := by unfold Utf.enc; rw [if_neg (by omega), if_neg (by omega), if_neg (by omega)]
  rw [he]
  clear he
  have h2 := h.2.1
  have H := Lib.hid h; clear h
  have hc := fun w => conv_new w [240 + r / 262144, 128 + r / 4096 % 64, 128 + r / 64 % 64, 128 + r % 64] (by simp; omega)
  simp only [List.map_cons, List.map_nil, List.length_cons, List.length_nil] at hc
  have b1 := or240 (r / 262144) (by omega) (by omega)
  have b2 := and63 r (by omega) (by omega)
  have b3 := or128 (r % 64) (by omega) (by omega)
  have b4 := and63 (r / 64) (by omega) (by omega)
  have b5 := or128 (r / 64 % 64) (by omega) (by omega)
  have b6 := and63 (r / 4096) (by omega) (by omega)
  have b7 := or128 (r / 4096 % 64) (by omega) (by omega)
  have d1 : decide (r < 128) = false := by simp; omega
  have d2 : decide (r < 2048) = false := by simp; omega
  have d3 : decide (r < 65536) = false := by simp; omega
  go_enter Tryd.func79, Tryd.ntmps79
  go_wp2_with (first | (go_at_call 83; refine (rchar_yes _ _ H.out).mono ?_; rintro e w' ⟨rfl, rfl⟩) )
  go_ret2
  exact ⟨rfl, (Below.refl _ _).alloc (Nat.le_refl _) _⟩
theorem rencode_yes (r : Int) (w : World) (h : Utf.scal r) : Calls Tryd.prog 79 #[.int .i64 r] w fun e w' => e = .returned (.tuple #[.string ⟨(Utf.enc r).toArray⟩, .int .i64 0]) ∧ Below w.heap.size w w' := by
  by_cases h1 : r < 128
  · exact rencode_one r w h h1
  by_cases h2 : r < 2048
  · exact rencode_two r w h (by omega) h2
  by_cases h3 : r < 65536
  · exact rencode_three r w h (by omega) h3
  · exact rencode_four r w h (by omega)

/-! ### control characters -/
def ctl (r : Int) : Bool := decide (0 ≤ r ∧ r ≤ 31 ∨ 127 ≤ r ∧ r ≤ 159)
end Go.Proofs.YtfkfboiblgoamaaDoor
/- UTF-8: decoding at an offset, the program's and the reference's. -/
namespace Go.Proofs.YtfkfboiblgoamaaDoor
open Go.RowKit

theorem ret_two' {k l : IntKind} {a b c d : Int} (h : a = c) (h' : b = d) : Ending.returned (.tuple #[.int k a, .int l b]) = .returned (.tuple #[.int k c, .int l d]) := by rw [h, h']

/-- What the first byte announces, over whole numbers. -/
def hdI (b : Int) : Int × Int :=
  if b < 128 then (1, b) else if 192 ≤ b ∧ b < 224 then (2, b % 32) else if 224 ≤ b ∧ b < 240 then (3, b % 16) else if 240 ≤ b ∧ b < 248 then (4, b % 8) else (0, 0)
theorem head_int (b : Int) (w : World) (h0 : 0 ≤ b) (hb : b < 256) : Calls Tryd.prog 73 #[.int .u8 b] w fun e w' => e = .returned (.tuple #[.int .i64 (hdI b).1, .int .i64 (hdI b).2]) ∧ w = w' := by
  have b1 := u8_and31 b h0 hb
  have b2 := u8_and15 b h0 hb
  have b3 := u8_and7 b h0 hb
  unfold hdI
  by_cases h1 : b < 128
  · rw [if_pos h1]
    clear b1 b2 b3
    go_enter Tryd.func73, Tryd.ntmps73
    go_wp2
    go_ret2
    exact ⟨rfl, rfl⟩
  by_cases h2 : 192 ≤ b ∧ b < 224
  · rw [if_neg h1, if_pos h2]
    obtain ⟨h2, h3⟩ := h2
    go_enter Tryd.func73, Tryd.ntmps73
    go_wp2
    go_ret2
    exact ⟨rfl, rfl⟩
  by_cases h3 : 224 ≤ b ∧ b < 240
  · rw [if_neg h1, if_neg h2, if_pos h3]
    obtain ⟨h3, h4⟩ := h3
    have d : decide (b < 224) = false := by simp; omega
    clear h2
    go_enter Tryd.func73, Tryd.ntmps73
    go_wp2
    go_ret2
    exact ⟨rfl, rfl⟩
  by_cases h4 : 240 ≤ b ∧ b < 248
  · rw [if_neg h1, if_neg h2, if_neg h3, if_pos h4]
    obtain ⟨h4, h5⟩ := h4
    have d : decide (b < 224) = false := by simp; omega
    have d2 : decide (b < 240) = false := by simp; omega
    clear h2 h3
    go_enter Tryd.func73, Tryd.ntmps73
    go_wp2
    go_ret2
    exact ⟨rfl, rfl⟩
  · rw [if_neg h1, if_neg h2, if_neg h3, if_neg h4]
    clear b1 b2 b3
    rcases (show b < 192 ∨ 248 ≤ b by omega) with k | k
    · have d : decide (192 ≤ b) = false := by simp; omega
      have d2 : decide (224 ≤ b) = false := by simp; omega
      have d3 : decide (240 ≤ b) = false := by simp; omega
      clear h2 h3 h4
      go_enter Tryd.func73, Tryd.ntmps73
      go_wp2
      go_ret2
      exact ⟨rfl, rfl⟩
    · have d : decide (b < 224) = false := by simp; omega
      have d2 : decide (b < 240) = false := by simp; omega
      have d3 : decide (b < 248) = false := by simp; omega
      clear h2 h3 h4
      go_enter Tryd.func73, Tryd.ntmps73
      go_wp2
      go_ret2
      exact ⟨rfl, rfl⟩
theorem hdI_nat (b : Nat) : hdI b = (((Utf.hd b).1 : Int), ((Utf.hd b).2 : Int)) := by
  unfold hdI Utf.hd
  by_cases h1 : b < 128
  · rw [if_pos (by omega), if_pos h1]; rfl
  by_cases h2 : 192 ≤ b ∧ b < 224
  · rw [if_neg (by omega), if_pos (by omega), if_neg h1, if_pos h2]; rfl
  by_cases h3 : 224 ≤ b ∧ b < 240
  · rw [if_neg (by omega), if_neg (by omega), if_pos (by omega), if_neg h1, if_neg h2, if_pos h3]; rfl
  by_cases h4 : 240 ≤ b ∧ b < 248
  · rw [if_neg (by omega), if_neg (by omega), if_neg (by omega), if_pos (by omega), if_neg h1, if_neg h2, if_neg h3, if_pos h4]; rfl
  · rw [if_neg (by omega), if_neg (by omega), if_neg (by omega), if_neg (by omega), if_neg h1, if_neg h2, if_neg h3, if_neg h4]; rfl
theorem head_any (b : UInt8) (w : World) : Calls Tryd.prog 73 #[.int .u8 b.toNat] w fun e w' => e = .returned (.tuple #[.int .i64 (Utf.hd b.toNat).1, .int .i64 (Utf.hd b.toNat).2]) ∧ w = w' := by
  have h := head_int b.toNat w (by omega) (by have := b.toNat_lt; omega)
  rw [hdI_nat] at h
  exact h

/-- The bytes of a string from an offset on. -/
def from_ (s : ByteArray) (a : Nat) : List UInt8 := s.data.toList.drop a
theorem from_cons (s : ByteArray) (a : Nat) (h : a < s.size) : from_ s a = s[a] :: from_ s (a + 1) := by
  unfold from_
  rw [List.drop_eq_getElem_cons (by simpa using h)]
  rfl
theorem from_len (s : ByteArray) (a : Nat) : (from_ s a).length = s.size - a := by unfold from_; simp
theorem from_nil (s : ByteArray) (a : Nat) (h : s.size ≤ a) : from_ s a = [] := by unfold from_; exact List.drop_eq_nil_of_le (by simpa using h)
theorem from_take (s : ByteArray) (a j : Nat) (h : a + j < s.size) : (from_ s a).take (j + 1) = (from_ s a).take j ++ [s[a + j]] := by
  unfold from_
  rw [List.take_succ_eq_append_getElem (by simp; omega), List.getElem_drop]
  rfl
theorem fold_snoc (r : Int) (l : List UInt8) (b : UInt8) : Utf.fold r (l ++ [b]) = Utf.fold r l * 64 + ((b.toNat % 64 : Nat) : Int) := by unfold Utf.fold; rw [List.foldl_append]; rfl
theorem fold_bd (r : Int) (h : 0 ≤ r) : ∀ (n : Nat) (l : List UInt8), l.length = n → 0 ≤ Utf.fold r l ∧ Utf.fold r l < (r + 1) * 64 ^ n := by
  intro n
  induction n generalizing r with
  | zero => intro l hl; obtain rfl : l = [] := List.eq_nil_of_length_eq_zero hl; simp [Utf.fold]; omega
  | succ n ih =>
    intro l hl
    match l, hl with
    | b :: t, hl =>
      have h1 := ih (r * 64 + ((b.toNat % 64 : Nat) : Int)) (by omega) t (by simpa using hl)
      refine ⟨h1.1, Int.lt_of_lt_of_le h1.2 ?_⟩
      have : (64 : Int) ^ (n + 1) = 64 * 64 ^ n := by rw [Int.pow_succ]; omega
      rw [this, ← Int.mul_assoc]
      exact Int.mul_le_mul_of_nonneg_right (by omega) (Int.le_of_lt (Int.pow_pos (by decide)))
theorem hd_bd (b : Nat) : (Utf.hd b).1 ≤ 4 ∧ (Utf.hd b).2 < 128 := by
  unfold Utf.hd
  split
  · exact ⟨by omega, by omega⟩
  split
  · exact ⟨by omega, by show b % 32 < 128; omega⟩
  split
  · exact ⟨by omega, by show b % 16 < 128; omega⟩
  split
  · exact ⟨by omega, by show b % 8 < 128; omega⟩
  · exact ⟨by omega, by omega⟩
theorem fold_small (b : Nat) (l : List UInt8) (h : l.length ≤ 3) : 0 ≤ Utf.fold (Utf.hd b).2 l ∧ Utf.fold (Utf.hd b).2 l < 33554432 := by
  have h1 := fold_bd ((Utf.hd b).2 : Int) (by omega) l.length l rfl
  have h2 := hd_bd b
  refine ⟨h1.1, Int.lt_of_lt_of_le h1.2 ?_⟩
  rcases (show l.length = 0 ∨ l.length = 1 ∨ l.length = 2 ∨ l.length = 3 by omega) with e | e | e | e <;> rw [e] <;> omega
theorem dec_bad (s : ByteArray) (a j : Nat) (h : a < s.size) (hn : ¬ ((Utf.hd s[a].toNat).1 = 0 ∨ s.size - a < (Utf.hd s[a].toNat).1)) (hj : j + 1 < (Utf.hd s[a].toNat).1) (hlt : a + 1 + j < s.size) (hc : Utf.cont s[a + 1 + j] = false) : Utf.dec (from_ s a) = (0, 0) := by
  rw [from_cons s a h, Utf.dec_cons, if_neg (by rw [from_len]; omega), if_neg]
  intro hall
  rw [List.all_eq_true] at hall
  have hm : s[a + 1 + j] ∈ (from_ s (a + 1)).take ((Utf.hd s[a].toNat).1 - 1) := by
    have e := from_take s (a + 1) j hlt
    have : (from_ s (a + 1)).take ((Utf.hd s[a].toNat).1 - 1) = (from_ s (a + 1)).take (j + 1) ++ ((from_ s (a + 1)).take ((Utf.hd s[a].toNat).1 - 1)).drop (j + 1) := by
      conv => lhs; rw [← List.take_append_drop (j + 1) ((from_ s (a + 1)).take ((Utf.hd s[a].toNat).1 - 1)), List.take_take, Nat.min_eq_left (by omega)]
    rw [this, e]
    simp
  rw [hall _ hm] at hc
  cases hc
theorem dec_chk (s : ByteArray) (a : Nat) (h : a < s.size) (hn : ¬ ((Utf.hd s[a].toNat).1 = 0 ∨ s.size - a < (Utf.hd s[a].toNat).1)) (hall : ((from_ s (a + 1)).take ((Utf.hd s[a].toNat).1 - 1)).all Utf.cont = true) :
    Utf.dec (from_ s a) = Utf.chk (Utf.hd s[a].toNat).1 (Utf.fold (Utf.hd s[a].toNat).2 ((from_ s (a + 1)).take ((Utf.hd s[a].toNat).1 - 1))) := by
  rw [from_cons s a h, Utf.dec_cons, if_neg (by rw [from_len]; omega), if_pos hall]
theorem dec_short (s : ByteArray) (a : Nat) (h : a < s.size) (hn : (Utf.hd s[a].toNat).1 = 0 ∨ s.size - a < (Utf.hd s[a].toNat).1) : Utf.dec (from_ s a) = (0, 0) := by
  rw [from_cons s a h, Utf.dec_cons, if_pos (by rw [from_len]; omega)]
theorem and192 (b : UInt8) : (bits .and .u8 (b.toNat : Int) 192 != 128) = !Utf.cont b := by
  have key : ∀ n : Fin 256, ((n.val &&& 192) != 128) = !decide (128 ≤ n.val ∧ n.val < 192) := by decide +kernel
  have hb : b.toNat < 256 := b.toNat_lt
  have h := u8_and_nat b.toNat 192 hb (by decide)
  have e : bits .and .u8 (b.toNat : Int) 192 = ((b.toNat &&& 192 : Nat) : Int) := h
  rw [e]
  have k := key ⟨b.toNat, hb⟩
  simp only at k
  unfold Utf.cont
  rw [← k, Bool.eq_iff_iff]
  simp only [bne_iff_ne]
  omega

theorem from_take' (s : ByteArray) (a j : Nat) (h : a + (j + 1) < s.size) : (from_ s (a + 1)).take (j + 1) = (from_ s (a + 1)).take j ++ [s[a + (j + 1)]] := by
  have e : a + 1 + j = a + (j + 1) := by omega
  have k := from_take s (a + 1) j (by omega)
  simp only [e] at k
  exact k
theorem dec_bad' (s : ByteArray) (a j : Nat) (h : a < s.size) (hn : ¬ ((Utf.hd s[a].toNat).1 = 0 ∨ s.size - a < (Utf.hd s[a].toNat).1)) (hj : j + 1 < (Utf.hd s[a].toNat).1) (hlt : a + (j + 1) < s.size) (hc : Utf.cont s[a + (j + 1)] = false) : Utf.dec (from_ s a) = (0, 0) := by
  have e : a + 1 + j = a + (j + 1) := by omega
  refine dec_bad s a j h hn hj (by omega) ?_
  simp only [e]
  exact hc
theorem or6 (x y : Int) (h : 0 ≤ x) (h' : x < 33554432) (k : 0 ≤ y) (k' : y < 64) : bits .or .i64 (x * 64) y = x * 64 + y :=
  bits_join .i64 62 (by decide) wraps_i64 6 (x * 64) y (by omega) (by omega) (by omega) k k' (by omega)

theorem decode_none (s : ByteArray) (a : Int) (w : World) (hs : s.size ≤ maxLen) (h : a < 0 ∨ s.size ≤ a) : Calls Tryd.prog 63 #[.string s, .int .i64 a] w fun e w' => e = .returned (.tuple #[.int .i64 0, .int .i64 0]) ∧ w = w' := by
  unfold maxLen at hs
  rcases h with h | h
  · go_enter Tryd.func63, Tryd.ntmps63
    go_wp2
    go_ret2
    exact ⟨rfl, rfl⟩
  · have d : decide (a < 0) = false := by simp; omega
    go_enter Tryd.func63, Tryd.ntmps63
    go_wp2
    go_ret2
    exact ⟨rfl, rfl⟩

set_option maxHeartbeats 1000000 in
theorem decode_at (s : ByteArray) (a : Nat) (w : World) (hs : s.size ≤ maxLen) (h : a < s.size) : Calls Tryd.prog 63 #[.string s, .int .i64 a] w fun e w' => e = .returned (.tuple #[.int .i64 (Utf.dec (from_ s a)).1, .int .i64 (Utf.dec (from_ s a)).2]) ∧ w = w' := by
  unfold maxLen at hs
  have hn4 := hd_bd s[a].toNat
  by_cases hz : (Utf.hd s[a].toNat).1 = 0 ∨ s.size - a < (Utf.hd s[a].toNat).1
  · rw [dec_short s a h hz]
    have HA := Lib.hid (head_any s[a])
    rcases hz with hz | hz
    · rw [hz] at HA
      clear hz hn4
      go_enter Tryd.func63, Tryd.ntmps63
      go_wp2_with (first | (go_at_call 73; refine (HA.out _).mono ?_; rintro e w' ⟨rfl, rfl⟩))
      go_ret2
      exact ⟨rfl, rfl⟩
    · generalize (Utf.hd s[a].toNat).1 = n at *
      generalize (Utf.hd s[a].toNat).2 = m at *
      have d1 : ((n : Int) == 0) = false := by simp; omega
      have d2 : (s.size : Int) - a < n := by omega
      clear hz
      go_enter Tryd.func63, Tryd.ntmps63
      go_wp2_with (first | (go_at_call 73; refine (HA.out _).mono ?_; rintro e w' ⟨rfl, rfl⟩))
      go_ret2
      exact ⟨rfl, rfl⟩
  · have HA := Lib.hid (head_any s[a])
    have hfs := fold_small s[a].toNat
    have hbad := fun j => dec_bad' s a j h hz
    have hchk := dec_chk s a h hz
    generalize (Utf.hd s[a].toNat).1 = n at *
    generalize (Utf.hd s[a].toNat).2 = m at *
    have d1 : ((n : Int) == 0) = false := by simp; omega
    have d2 : (n : Int) ≤ (s.size : Int) - a := by omega
    have HB := Lib.hid hbad; clear hbad
    have HC := Lib.hid hchk; clear hchk
    have HF := Lib.hid hfs; clear hfs
    have HZ := Lib.hid hz
    have n1 : 1 ≤ n := by omega
    clear hz
    go_enter Tryd.func63, Tryd.ntmps63
    go_wp2_with (first | (go_at_call 73; refine (HA.out _).mono ?_; rintro e w' ⟨rfl, rfl⟩))
    go_loop [4, 7] (fun r i => ∃ j : Nat, j + 1 ≤ n ∧ i = .int .i64 (j + 1) ∧ r = .int .i64 (Utf.fold m ((from_ s (a + 1)).take j)) ∧ ((from_ s (a + 1)).take j).all Utf.cont = true) (fun _ i => n - (intOf i).toNat)
    case atStart => exact ⟨0, by omega, rfl, rfl, rfl⟩
    case round =>
      obtain ⟨j, hj, rfl, rfl, hall⟩ := hrel
      have hf := HF.out ((from_ s (a + 1)).take j) (by rw [List.length_take]; omega)
      by_cases hlt : j + 1 < n
      · have hidx : a + (j + 1) < s.size := by omega
        have g1 := u8_and63 s[a + (j + 1)].toNat (by omega) (by have := s[a + (j + 1)].toNat_lt; omega)
        have g2 := or6 (Utf.fold m ((from_ s (a + 1)).take j)) ((s[a + (j + 1)].toNat : Int) % 64) hf.1 hf.2 (by omega) (by omega)
        have g3 := and192 s[a + (j + 1)]
        obtain ⟨hf1, hf2⟩ := hf
        by_cases hc : Utf.cont s[a + (j + 1)] = true
        · rw [hc] at g3
          have HT := Lib.hid (from_take' s a j hidx)
          have HCt := Lib.hid hc; clear hc
          go_wp2
          go_round
          case rel => exact ⟨j + 1, by omega, by go_num, by rw [HT.out, fold_snoc]; go_num, by rw [HT.out]; simp [hall, HCt.out]⟩
          case measure => simp [intOf]; omega
        · have hc' : Utf.cont s[a + (j + 1)] = false := by simpa using hc
          rw [hc'] at g3
          have HD := Lib.hid (HB.out j hlt hidx hc')
          clear hc hc'
          go_wp2
          go_ret2
          rw [HD.out]
          exact ⟨rfl, rfl⟩
      · have e : n - 1 = j := by omega
        have hd := HC.out (by rw [e]; exact hall)
        rw [e] at hd
        clear e hj
        by_cases hsc : Utf.scal (Utf.fold m ((from_ s (a + 1)).take j))
        · by_cases hwn : Utf.wid (Utf.fold m ((from_ s (a + 1)).take j)) = n
          · unfold Utf.chk at hd
            rw [if_pos ⟨hsc, hwn⟩] at hd
            have HD := Lib.hid hd
            have HS := Lib.hid hsc
            have t1 : ((Utf.wid (Utf.fold m ((from_ s (a + 1)).take j)) : Int) != n) = false := by rw [hwn]; simp
            clear hd hsc hwn
            go_wp2_with (first | (go_at_call 74; refine (scalar_yes _ _ HS.out).mono ?_; rintro e w' ⟨rfl, rfl⟩) | (go_at_call 75; refine (width_any _ _).mono ?_; rintro e w' ⟨rfl, rfl⟩))
            go_ret2
            rw [HD.out]
            exact ⟨rfl, rfl⟩
          · unfold Utf.chk at hd
            rw [if_neg (fun k => hwn k.2)] at hd
            have HD := Lib.hid hd
            have HS := Lib.hid hsc
            have t1 : ((Utf.wid (Utf.fold m ((from_ s (a + 1)).take j)) : Int) != n) = true := by simp; omega
            clear hd hsc hwn
            go_wp2_with (first | (go_at_call 74; refine (scalar_yes _ _ HS.out).mono ?_; rintro e w' ⟨rfl, rfl⟩) | (go_at_call 75; refine (width_any _ _).mono ?_; rintro e w' ⟨rfl, rfl⟩))
            go_ret2
            rw [HD.out]
            exact ⟨rfl, rfl⟩
        · unfold Utf.chk at hd
          rw [if_neg (fun k => hsc k.1)] at hd
          have HD := Lib.hid hd
          have HS := Lib.hid hsc
          clear hd hsc
          go_wp2_with (first | (go_at_call 74; refine (scalar_no _ _ HS.out).mono ?_; rintro e w' ⟨rfl, rfl⟩))
          go_ret2
          rw [HD.out]
          exact ⟨rfl, rfl⟩
end Go.Proofs.YtfkfboiblgoamaaDoor
