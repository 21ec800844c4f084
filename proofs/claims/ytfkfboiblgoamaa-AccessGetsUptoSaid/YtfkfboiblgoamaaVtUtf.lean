/- Values: which texts are valid, as one word for the program's function and the reference's. -/
import Derived.Test.YtfkfboiblgoamaaVUtfWalksE
namespace Go.Proofs.Ytfkfboiblgoamaa
open Go.RowKit

/-- What is left of a text behind its last character. -/
noncomputable def Utf.left (s : ByteArray) : List UInt8 := Classical.choose (Classical.choose_spec (Utf.split_ex s.data.toList))
theorem Utf.left_split (s : ByteArray) : ∃ rs, Utf.Split s.data.toList rs (Utf.left s) := ⟨_, Classical.choose_spec (Classical.choose_spec (Utf.split_ex s.data.toList))⟩
noncomputable def utfB (s : ByteArray) : Bool := decide ((Utf.left s).length = 0)
theorem rutf_any {s : ByteArray} (hs : s.size ≤ 1048576) (w : World) : Calls Try.prog 50 #[.string s] w fun e w' => e = .returned (.bool (utfB s)) ∧ Below w.heap.size w w' := by
  obtain ⟨rs, h⟩ := Utf.left_split s
  exact rvalid_any h hs w
theorem putf_any {s : ByteArray} (hs : s.size ≤ 1048576) (w : World) : Calls Try.prog 51 #[.string s] w fun e w' => e = .returned (.bool (utfB s)) ∧ w = w' := by
  obtain ⟨rs, h⟩ := Utf.left_split s
  exact valid_any h (by unfold maxLen; omega) w
/-- What is wrong with a key among those ahead of it. -/
noncomputable def keyE (K : Nat → ByteArray) (i : Nat) : Int := if utfB (K i) = false then 5 else if 1024 < (K i).size then 10 else if ∃ k, k < i ∧ K k = K i then 8 else 0
noncomputable def keysE (K : Nat → ByteArray) : Nat → Int
  | 0 => 0
  | n + 1 => if keysE K n ≠ 0 then keysE K n else keyE K n
theorem keysE_stays {K : Nat → ByteArray} {n : Nat} (h : keysE K n ≠ 0) : ∀ m, n ≤ m → keysE K m = keysE K n := by
  intro m hm
  induction m with
  | zero =>
    obtain rfl : n = 0 := by omega
    rfl
  | succ m ih =>
    by_cases hn : n = m + 1
    · rw [hn]
    · have e := ih (by omega)
      show (if keysE K m ≠ 0 then keysE K m else keyE K m) = _
      rw [if_pos (by rw [e]; exact h), e]
theorem keysE_bad {K : Nat → ByteArray} {k n : Nat} (h : keysE K k = 0) (hk : k < n) (hb : keyE K k ≠ 0) : keysE K n = keyE K k := by
  have e : keysE K (k + 1) = keyE K k := by
    show (if keysE K k ≠ 0 then keysE K k else keyE K k) = _
    rw [if_neg (by simp [h])]
  rw [keysE_stays (by rw [e]; exact hb) n (by omega), e]
theorem keysE_next {K : Nat → ByteArray} {k : Nat} (h : keysE K k = 0) (hb : keyE K k = 0) : keysE K (k + 1) = 0 := by
  show (if keysE K k ≠ 0 then keysE K k else keyE K k) = _
  rw [if_neg (by simp [h]), hb]
end Go.Proofs.Ytfkfboiblgoamaa
