/- UTF-8: what the program's and the reference's functions return: characters, widths, encodings. -/
import Derived.Test.YtfkfboiblgoamaaProg
import Derived.Test.YtfkfboiblgoamaaUtfMath
import Derived.WalkKit
import Derived.Outline
import Derived.Below
import Derived.LoopTactic
import Derived.Lib.Hide
import Derived.WalkLawsBesides
import Derived.WalkSpells
import Derived.LoopN
import Derived.Laws.IdiomStrings
import Derived.Laws.BitsLemmas
namespace Go.Proofs.Ytfkfboiblgoamaa
open Go.RowKit

theorem scalar_yes (r : Int) (w : World) (h : Utf.scal r) : Calls Try.prog 74 #[.int .i64 r] w fun e w' => e = .returned (.bool true) ∧ w = w' := by
  obtain ⟨h0, h1, h2⟩ := h
  rcases h2 with h2 | h2
  · go_enter Try.func74, Try.ntmps74
    go_wp2
    go_ret
    exact ⟨rfl, rfl⟩
  · have hd : decide (r < 55296) = false := by simp; omega
    go_enter Try.func74, Try.ntmps74
    go_wp2
    go_ret
    exact ⟨rfl, rfl⟩
theorem not_scal {r : Int} (h : ¬ Utf.scal r) : r < 0 ∨ 1114111 < r ∨ (55296 ≤ r ∧ r ≤ 57343) := by unfold Utf.scal at h; omega
theorem scalar_no (r : Int) (w : World) (h : ¬ Utf.scal r) : Calls Try.prog 74 #[.int .i64 r] w fun e w' => e = .returned (.bool false) ∧ w = w' := by
  rcases not_scal h with k | k | ⟨k1, k2⟩
  · clear h
    have hd : decide (0 ≤ r) = false := by simp; omega
    go_enter Try.func74, Try.ntmps74
    go_wp2
    go_ret
    exact ⟨rfl, rfl⟩
  · clear h
    have hd : decide (r ≤ 1114111) = false := by simp; omega
    go_enter Try.func74, Try.ntmps74
    go_wp2
    go_ret
    exact ⟨rfl, rfl⟩
  · clear h
    have hd : decide (r < 55296) = false := by simp; omega
    have hd2 : decide (57343 < r) = false := by simp; omega
    go_enter Try.func74, Try.ntmps74
    go_wp2
    go_ret
    exact ⟨rfl, rfl⟩
theorem rchar_yes (r : Int) (w : World) (h : Utf.scal r) : Calls Try.prog 77 #[.int .i64 r] w fun e w' => e = .returned (.bool true) ∧ w = w' := by
  obtain ⟨h0, h1, h2⟩ := h
  rcases h2 with h2 | h2
  · go_enter Try.func77, Try.ntmps77
    go_wp2
    go_ret
    exact ⟨rfl, rfl⟩
  · have hd : decide (r < 55296) = false := by simp; omega
    go_enter Try.func77, Try.ntmps77
    go_wp2
    go_ret
    exact ⟨rfl, rfl⟩
theorem rchar_no (r : Int) (w : World) (h : ¬ Utf.scal r) : Calls Try.prog 77 #[.int .i64 r] w fun e w' => e = .returned (.bool false) ∧ w = w' := by
  rcases not_scal h with k | k | ⟨k1, k2⟩
  · clear h
    have hd : decide (0 ≤ r) = false := by simp; omega
    go_enter Try.func77, Try.ntmps77
    go_wp2
    go_ret
    exact ⟨rfl, rfl⟩
  · clear h
    have hd : decide (r ≤ 1114111) = false := by simp; omega
    go_enter Try.func77, Try.ntmps77
    go_wp2
    go_ret
    exact ⟨rfl, rfl⟩
  · clear h
    have hd : decide (r < 55296) = false := by simp; omega
    have hd2 : decide (57343 < r) = false := by simp; omega
    go_enter Try.func77, Try.ntmps77
    go_wp2
    go_ret
    exact ⟨rfl, rfl⟩

theorem width_any (r : Int) (w : World) : Calls Try.prog 75 #[.int .i64 r] w fun e w' => e = .returned (.int .i64 (Utf.wid r)) ∧ w = w' := by
  unfold Utf.wid
  by_cases h1 : r < 128
  · rw [if_pos h1]
    go_enter Try.func75, Try.ntmps75
    go_wp2
    go_ret
    exact ⟨rfl, rfl⟩
  by_cases h2 : r < 2048
  · rw [if_neg h1, if_pos h2]
    go_enter Try.func75, Try.ntmps75
    go_wp2
    go_ret
    exact ⟨rfl, rfl⟩
  by_cases h3 : r < 65536
  · rw [if_neg h1, if_neg h2, if_pos h3]
    go_enter Try.func75, Try.ntmps75
    go_wp2
    go_ret
    exact ⟨rfl, rfl⟩
  · rw [if_neg h1, if_neg h2, if_neg h3]
    go_enter Try.func75, Try.ntmps75
    go_wp2
    go_ret
    exact ⟨rfl, rfl⟩

theorem rencode_no (r : Int) (w : World) (h : ¬ Utf.scal r) : Calls Try.prog 72 #[.int .i64 r] w fun e w' => e = .returned (.tuple #[.string ⟨#[]⟩, .int .i64 2]) ∧ w = w' := by
  have H := Lib.hid h; clear h
  go_enter Try.func72, Try.ntmps72
  go_wp2_with (go_at_call 77; refine (rchar_no _ _ H.out).mono ?_; rintro e w' ⟨rfl, rfl⟩)
  go_ret2
  exact ⟨rfl, rfl⟩

/-! ### bits and bytes -/
theorem wraps_i64 (n : Int) (h₀ : 0 ≤ n) (h₁ : n < 2 ^ 62) : IntKind.i64.wrap n = n := by rw [IntKind.wrap_i64]; omega
theorem and63 (x : Int) (h : 0 ≤ x) (h' : x < 1114112) : bits .and .i64 x 63 = x % 64 := bits_mask .i64 62 (by decide) wraps_i64 6 (by decide) x h (by omega)
theorem or128 (y : Int) (h : 0 ≤ y) (h' : y < 64) : bits .or .i64 128 y = 128 + y := bits_join .i64 62 (by decide) wraps_i64 6 128 y (by decide) (by decide) (by decide) h h' (by omega)
theorem or192 (y : Int) (h : 0 ≤ y) (h' : y < 32) : bits .or .i64 192 y = 192 + y := bits_join .i64 62 (by decide) wraps_i64 5 192 y (by decide) (by decide) (by decide) h h' (by omega)
theorem or224 (y : Int) (h : 0 ≤ y) (h' : y < 16) : bits .or .i64 224 y = 224 + y := bits_join .i64 62 (by decide) wraps_i64 4 224 y (by decide) (by decide) (by decide) h h' (by omega)
theorem or240 (y : Int) (h : 0 ≤ y) (h' : y < 8) : bits .or .i64 240 y = 240 + y := bits_join .i64 62 (by decide) wraps_i64 3 240 y (by decide) (by decide) (by decide) h h' (by omega)

/-- 'string(b)' of a new slice of bytes. -/
theorem conv_new (w : World) (xs : List Int) (hx : ∀ x ∈ xs, 0 ≤ x ∧ x < 256) :
    (convert 26 9 (.slice (some ⟨w.heap.size, 0, none⟩) xs.length xs.length)).run Try.prog (w.alloc (.cells (xs.map (Value.int .u8)).toArray 5)) =
      .ok (.string ⟨(xs.map Utf.byte).toArray⟩) (w.alloc (.cells (xs.map (Value.int .u8)).toArray 5)) := by
  have h := run_convert_bytes_back (P := Try.prog) (w.alloc (.cells (xs.map (Value.int .u8)).toArray 5)) 26 9 5 ⟨w.heap.size, 0, none⟩ xs.length (xs.map Utf.byte) Try.underlying26 Try.underlying5 Try.underlying9 (by
    intro j hj
    have hj' : j < xs.length := by simpa using hj
    have hb := hx _ (List.getElem_mem hj')
    rw [show (Addr.add ⟨w.heap.size, 0, none⟩ j) = ⟨w.heap.size, j, none⟩ by cases j <;> simp [Addr.add]]
    have := World.cell?_alloc_mark w (xs.map (Value.int .u8)).toArray 5 (0, 0) j
    refine this.trans ?_
    simp only [List.getElem?_toArray, List.getElem?_map, List.getElem?_eq_getElem hj', Option.map_some, List.getElem_map]
    rw [Utf.byte_toNat hb.1 hb.2])
  simpa using h

/-! ### Encode -/
theorem rencode_two (r : Int) (w : World) (h : Utf.scal r) (h1 : 128 ≤ r) (h2 : r < 2048) : Calls Try.prog 72 #[.int .i64 r] w fun e w' => e = .returned (.tuple #[.string ⟨(Utf.enc r).toArray⟩, .int .i64 0]) ∧ Below w.heap.size w w' := by
  have he : Utf.enc r = [Utf.byte (192 + r / 64), Utf.byte (128 + r % 64)] := by unfold Utf.enc; rw [if_neg (by omega), if_pos h2]
  rw [he]
  clear he
  have H := Lib.hid h; clear h
  have hc := fun w => conv_new w [192 + r / 64, 128 + r % 64] (by simp; omega)
  simp only [List.map_cons, List.map_nil, List.length_cons, List.length_nil] at hc
  have b1 := or192 (r / 64) (by omega) (by omega)
  have b2 := and63 r (by omega) (by omega)
  have b3 := or128 (r % 64) (by omega) (by omega)
  have d1 : decide (r < 128) = false := by simp; omega
  go_enter Try.func72, Try.ntmps72
  go_wp2_with (first | (go_at_call 77; refine (rchar_yes _ _ H.out).mono ?_; rintro e w' ⟨rfl, rfl⟩) )
  go_ret2
  exact ⟨rfl, (Below.refl _ _).alloc (Nat.le_refl _) _⟩
theorem rencode_one (r : Int) (w : World) (h : Utf.scal r) (h1 : r < 128) : Calls Try.prog 72 #[.int .i64 r] w fun e w' => e = .returned (.tuple #[.string ⟨(Utf.enc r).toArray⟩, .int .i64 0]) ∧ Below w.heap.size w w' := by
  have he : Utf.enc r = [Utf.byte r] := by unfold Utf.enc; rw [if_pos h1]
  rw [he]
  clear he
  have h0 := h.1
  have H := Lib.hid h; clear h
  have hc := fun w => conv_new w [r] (by simp; omega)
  simp only [List.map_cons, List.map_nil, List.length_cons, List.length_nil] at hc
  go_enter Try.func72, Try.ntmps72
  go_wp2_with (first | (go_at_call 77; refine (rchar_yes _ _ H.out).mono ?_; rintro e w' ⟨rfl, rfl⟩) )
  go_ret2
  exact ⟨rfl, (Below.refl _ _).alloc (Nat.le_refl _) _⟩
theorem rencode_three (r : Int) (w : World) (h : Utf.scal r) (h1 : 2048 ≤ r) (h2 : r < 65536) : Calls Try.prog 72 #[.int .i64 r] w fun e w' => e = .returned (.tuple #[.string ⟨(Utf.enc r).toArray⟩, .int .i64 0]) ∧ Below w.heap.size w w' := by
  have he : Utf.enc r = [Utf.byte (224 + r / 4096), Utf.byte (128 + r / 64 % 64), Utf.byte (128 + r % 64)] := by unfold Utf.enc; rw [if_neg (by omega), if_neg (by omega), if_pos h2]
  rw [he]
  clear he
  have H := Lib.hid h; clear h
  have hc := fun w => conv_new w [224 + r / 4096, 128 + r / 64 % 64, 128 + r % 64] (by simp; omega)
  simp only [List.map_cons, List.map_nil, List.length_cons, List.length_nil] at hc
  have b1 := or224 (r / 4096) (by omega) (by omega)
  have b2 := and63 r (by omega) (by omega)
  have b3 := or128 (r % 64) (by omega) (by omega)
  have b4 := and63 (r / 64) (by omega) (by omega)
  have b5 := or128 (r / 64 % 64) (by omega) (by omega)
  have d1 : decide (r < 128) = false := by simp; omega
  have d2 : decide (r < 2048) = false := by simp; omega
  go_enter Try.func72, Try.ntmps72
  go_wp2_with (first | (go_at_call 77; refine (rchar_yes _ _ H.out).mono ?_; rintro e w' ⟨rfl, rfl⟩) )
  go_ret2
  exact ⟨rfl, (Below.refl _ _).alloc (Nat.le_refl _) _⟩
theorem rencode_four (r : Int) (w : World) (h : Utf.scal r) (h1 : 65536 ≤ r) : Calls Try.prog 72 #[.int .i64 r] w fun e w' => e = .returned (.tuple #[.string ⟨(Utf.enc r).toArray⟩, .int .i64 0]) ∧ Below w.heap.size w w' := by
  have he : Utf.enc r = [Utf.byte (240 + r / 262144), Utf.byte (128 + r / 4096 % 64), Utf.byte (128 + r / 64 % 64), Utf.byte (128 + r % 64)] := by unfold Utf.enc; rw [if_neg (by omega), if_neg (by omega), if_neg (by omega)]
  rw [he]
  clear he
  have h2 := h.2.1
  have H := Lib.hid h; clear h
  have hc := fun w => conv_new w [240 + r / 262144, 128 + r / 4096 % 64, 128 + r / 64 % 64, 128 + r % 64] (by simp; omega)
  simp only [List.map_cons, List.map_nil, List.length_cons, List.length_nil] at hc
  have b1 := or240 (r / 262144) (by omega) (by omega)
  have b2 := and63 r (by omega) (by omega)
  have b3 := or128 (r % 64) (by omega) (by omega)
  have b4 := and63 (r / 64) (by omega) (by omega)
  have b5 := or128 (r / 64 % 64) (by omega) (by omega)
  have b6 := and63 (r / 4096) (by omega) (by omega)
  have b7 := or128 (r / 4096 % 64) (by omega) (by omega)
  have d1 : decide (r < 128) = false := by simp; omega
  have d2 : decide (r < 2048) = false := by simp; omega
  have d3 : decide (r < 65536) = false := by simp; omega
  go_enter Try.func72, Try.ntmps72
  go_wp2_with (first | (go_at_call 77; refine (rchar_yes _ _ H.out).mono ?_; rintro e w' ⟨rfl, rfl⟩) )
  go_ret2
  exact ⟨rfl, (Below.refl _ _).alloc (Nat.le_refl _) _⟩
theorem rencode_yes (r : Int) (w : World) (h : Utf.scal r) : Calls Try.prog 72 #[.int .i64 r] w fun e w' => e = .returned (.tuple #[.string ⟨(Utf.enc r).toArray⟩, .int .i64 0]) ∧ Below w.heap.size w w' := by
  by_cases h1 : r < 128
  · exact rencode_one r w h h1
  by_cases h2 : r < 2048
  · exact rencode_two r w h (by omega) h2
  by_cases h3 : r < 65536
  · exact rencode_three r w h (by omega) h3
  · exact rencode_four r w h (by omega)

/-! ### control characters -/
def ctl (r : Int) : Bool := decide (0 ≤ r ∧ r ≤ 31 ∨ 127 ≤ r ∧ r ≤ 159)
end Go.Proofs.Ytfkfboiblgoamaa
