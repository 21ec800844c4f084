/- UTF-8: counting characters, boundaries, validity; the law's own first example. -/
import Derived.Test.YtfkfboiblgoamaaVUtfWalksC
import Derived.Test.YtfkfboiblgoamaaMem
namespace Go.Proofs.Ytfkfboiblgoamaa
open Go.RowKit

/-- What Decode returns at any offset. -/
def decN (s : ByteArray) (a : Int) : Int × Nat := if 0 ≤ a ∧ a < s.size then Utf.dec (from_ s a.toNat) else (0, 0)
theorem decode_any (s : ByteArray) (a : Int) (w : World) (hs : s.size ≤ maxLen) : Calls Try.prog 67 #[.string s, .int .i64 a] w fun e w' => e = .returned (.tuple #[.int .i64 (decN s a).1, .int .i64 (decN s a).2]) ∧ w = w' := by
  unfold decN
  by_cases h : 0 ≤ a ∧ a < s.size
  · rw [if_pos h]
    obtain ⟨n, rfl⟩ := Int.eq_ofNat_of_zero_le h.1
    rw [Int.toNat_natCast]
    exact decode_at s n w hs (by omega)
  · rw [if_neg h]
    exact decode_none s a w hs (by omega)
theorem rdecode_any (s : ByteArray) (a : Int) (w : World) (hs : s.size ≤ maxLen) : Calls Try.prog 66 #[.string s, .int .i64 a] w fun e w' => e = .returned (.tuple #[.int .i64 (decN s a).1, .int .i64 (decN s a).2]) ∧ Below w.heap.size w w' := by
  unfold decN
  by_cases h : 0 ≤ a ∧ a < s.size
  · rw [if_pos h]
    obtain ⟨n, rfl⟩ := Int.eq_ofNat_of_zero_le h.1
    rw [Int.toNat_natCast]
    exact rdecode_at s n w hs (by omega)
  · rw [if_neg h]
    exact (rdecode_none s a w hs (by omega)).mono fun _ _ ⟨x, y⟩ => ⟨x, below_refl_eq y⟩

/-! ### characters and a rest -/
theorem at_char {s : ByteArray} {rs : List Int} {rest : List UInt8} (h : Utf.Split s.data.toList rs rest) (k : Nat) (hk : k < rs.length) : Utf.off rs k < s.size ∧ Utf.dec (from_ s (Utf.off rs k)) = (rs[k], Utf.wid rs[k]) :=
  ⟨by simpa using Utf.off_lt h k hk, Utf.dec_off h k hk⟩
theorem at_end {s : ByteArray} {rs : List Int} {rest : List UInt8} (h : Utf.Split s.data.toList rs rest) : s.size = Utf.off rs rs.length + rest.length ∧ Utf.dec (from_ s (Utf.off rs rs.length)) = (0, 0) :=
  ⟨by have := Utf.len_split h; simpa using this, Utf.dec_end h⟩

theorem decode_char {s : ByteArray} {rs : List Int} {rest : List UInt8} (h : Utf.Split s.data.toList rs rest) (hs : s.size ≤ maxLen) (k : Nat) (hk : k < rs.length) (w : World) :
    Calls Try.prog 67 #[.string s, .int .i64 (Utf.off rs k)] w fun e w' => e = .returned (.tuple #[.int .i64 rs[k], .int .i64 (Utf.wid rs[k])]) ∧ w = w' := by
  obtain ⟨h1, h2⟩ := at_char h k hk
  have := decode_at s (Utf.off rs k) w hs h1
  rw [h2] at this
  exact this
theorem rdecode_char {s : ByteArray} {rs : List Int} {rest : List UInt8} (h : Utf.Split s.data.toList rs rest) (hs : s.size ≤ maxLen) (k : Nat) (hk : k < rs.length) (w : World) :
    Calls Try.prog 66 #[.string s, .int .i64 (Utf.off rs k)] w fun e w' => e = .returned (.tuple #[.int .i64 rs[k], .int .i64 (Utf.wid rs[k])]) ∧ Below w.heap.size w w' := by
  obtain ⟨h1, h2⟩ := at_char h k hk
  have := rdecode_at s (Utf.off rs k) w hs h1
  rw [h2] at this
  exact this
theorem decode_rest {s : ByteArray} {rs : List Int} {rest : List UInt8} (h : Utf.Split s.data.toList rs rest) (hs : s.size ≤ maxLen) (hr : 0 < rest.length) (w : World) :
    Calls Try.prog 67 #[.string s, .int .i64 (Utf.off rs rs.length)] w fun e w' => e = .returned (.tuple #[.int .i64 0, .int .i64 0]) ∧ w = w' := by
  obtain ⟨h1, h2⟩ := at_end h
  have := decode_at s (Utf.off rs rs.length) w hs (by omega)
  rw [h2] at this
  exact this
theorem rdecode_rest {s : ByteArray} {rs : List Int} {rest : List UInt8} (h : Utf.Split s.data.toList rs rest) (hs : s.size ≤ maxLen) (hr : 0 < rest.length) (w : World) :
    Calls Try.prog 66 #[.string s, .int .i64 (Utf.off rs rs.length)] w fun e w' => e = .returned (.tuple #[.int .i64 0, .int .i64 0]) ∧ Below w.heap.size w w' := by
  obtain ⟨h1, h2⟩ := at_end h
  have := rdecode_at s (Utf.off rs rs.length) w hs (by omega)
  rw [h2] at this
  exact this

/-- Len: the number of characters, or ErrText. -/
def lenN (rs : List Int) (rest : List UInt8) : Int := if rest.length = 0 then rs.length else 0
def lenE (rest : List UInt8) : Int := if rest.length = 0 then 0 else 5
theorem len_any {s : ByteArray} {rs : List Int} {rest : List UInt8} (h : Utf.Split s.data.toList rs rest) (hs : s.size ≤ maxLen) (w : World) :
    Calls Try.prog 58 #[.string s] w fun e w' => e = .returned (.tuple #[.int .i64 (lenN rs rest), .int .i64 (lenE rest)]) ∧ w = w' := by
  have hend := at_end h
  have hcnt := Utf.count_le h
  have HE := hend.1
  have hcl : rs.length ≤ s.size := by simpa using hcnt
  have HN : Hid (lenN rs rest = if rest.length = 0 then (rs.length : Int) else 0) := Lib.hid rfl
  have HM : Hid (lenE rest = if rest.length = 0 then 0 else 5) := Lib.hid rfl
  have hs' := hs
  unfold maxLen at hs'
  have HS := Lib.hid hs; clear hs
  have HSP := Lib.hid h; clear h hend hcnt
  have HE' := Lib.hid HE; clear HE
  go_enter Try.func58, Try.ntmps58
  go_wp2
  go_loop [4, 5] (fun n i => ∃ k : Nat, k ≤ rs.length ∧ n = .int .i64 k ∧ i = .int .i64 (Utf.off rs k)) (fun n _ => rs.length - (intOf n).toNat)
  case atStart => exact ⟨0, by omega, rfl, rfl⟩
  case round =>
    obtain ⟨k, hk, rfl, rfl⟩ := hrel
    by_cases hlt : k < rs.length
    · have hlt' : Utf.off rs k < s.size := (at_char HSP.out k hlt).1
      have hw := Utf.wid_bd rs[k]
      have hle : Utf.off rs k + Utf.wid rs[k] ≤ s.size := by rw [← Utf.off_succ rs k hlt]; simpa using Utf.off_le HSP.out (k + 1)
      have t1 : ((Utf.wid rs[k] : Int) == 0) = false := by simp; omega
      have HO := Lib.hid (Utf.off_succ rs k hlt)
      go_wp2_with (go_at_call 67; refine (decode_char HSP.out HS.out k hlt _).mono ?_; rintro e w' ⟨rfl, rfl⟩)
      go_round
      case rel => exact ⟨k + 1, by omega, by go_num, by rw [HO.out]; go_num⟩
      case measure => simp [intOf]; omega
    · obtain rfl : k = rs.length := by omega
      by_cases hr : rest.length = 0
      · have hlt' : ¬ Utf.off rs rs.length < s.size := by have := HE'.out; omega
        have HR := Lib.hid hr; clear hr
        go_wp2
        go_ret2
        rw [HN.out, HM.out, if_pos HR.out, if_pos HR.out]
        exact ⟨rfl, rfl⟩
      · have hlt' : Utf.off rs rs.length < s.size := by have := HE'.out; omega
        have HR := Lib.hid hr; clear hr
        go_wp2_with (go_at_call 67; refine (decode_rest HSP.out HS.out (by have := HR.out; omega) _).mono ?_; rintro e w' ⟨rfl, rfl⟩)
        go_ret2
        rw [HN.out, HM.out, if_neg HR.out, if_neg HR.out]
        exact ⟨rfl, rfl⟩
theorem valid_any {s : ByteArray} {rs : List Int} {rest : List UInt8} (h : Utf.Split s.data.toList rs rest) (hs : s.size ≤ maxLen) (w : World) :
    Calls Try.prog 51 #[.string s] w fun e w' => e = .returned (.bool (decide (rest.length = 0))) ∧ w = w' := by
  have HL := Lib.hid (len_any h hs)
  clear h
  by_cases hr : rest.length = 0
  · have e1 : lenE rest = 0 := by unfold lenE; rw [if_pos hr]
    rw [e1] at HL
    rw [decide_eq_true hr]
    clear e1 hr
    go_enter Try.func51, Try.ntmps51
    go_wp2_with (go_at_call 58; refine (HL.out _).mono ?_; rintro e w' ⟨rfl, rfl⟩)
    go_ret
    exact ⟨rfl, rfl⟩
  · have e1 : lenE rest = 5 := by unfold lenE; rw [if_neg hr]
    rw [e1] at HL
    rw [decide_eq_false hr]
    clear e1 hr
    go_enter Try.func51, Try.ntmps51
    go_wp2_with (go_at_call 58; refine (HL.out _).mono ?_; rintro e w' ⟨rfl, rfl⟩)
    go_ret
    exact ⟨rfl, rfl⟩
end Go.Proofs.Ytfkfboiblgoamaa
