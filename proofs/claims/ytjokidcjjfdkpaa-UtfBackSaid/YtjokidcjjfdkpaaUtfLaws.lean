/- The walks of the laws on encodings. -/
import Derived.Test.YtjokidcjjfdkpaaUtfWalksD
namespace Go.Proofs.Ytjokidcjjfdkpaa
open Go.RowKit

theorem walk_UtfEncodes (r : Int) (_ : (Lit.int .i64 r).wf = true) (w : World) :
    Calls Try.prog 3 #[.int .i64 r] w fun e w' => e = .returned (.bool true) ∧ Below w.heap.size w w' := by
  by_cases h : Utf.scal r
  · have H := Lib.hid h; clear h
    go_enter Try.func3, Try.ntmps3
    go_wp2_with fail
    refine (encode_yes _ _ H.out).mono ?_; rintro e w1 ⟨rfl, hb1⟩
    go_wp2_with fail
    refine (rencode_yes _ _ H.out).mono ?_; rintro e w2 ⟨rfl, hb2⟩; replace hb1 := below_then hb1 hb2; clear hb2
    go_wp2_with fail
    refine (control_any _ _).mono ?_; rintro e w' ⟨rfl, rfl⟩
    go_wp2_with fail
    refine (rcontrol_any _ _).mono ?_; rintro e w' ⟨rfl, rfl⟩
    go_wp2_with fail
    refine (utf_awake _).mono ?_; rintro e w2 ⟨rfl, hb2⟩
    go_wp2_with fail
    go_ret
    exact ⟨rfl, below_then hb1 hb2⟩
  · have H := Lib.hid h; clear h
    go_enter Try.func3, Try.ntmps3
    go_wp2_with fail
    refine (encode_no _ _ H.out).mono ?_; rintro e w' ⟨rfl, rfl⟩
    go_wp2_with fail
    refine (rencode_no _ _ H.out).mono ?_; rintro e w' ⟨rfl, rfl⟩
    go_wp2_with fail
    refine (control_any _ _).mono ?_; rintro e w' ⟨rfl, rfl⟩
    go_wp2_with fail
    refine (rcontrol_any _ _).mono ?_; rintro e w' ⟨rfl, rfl⟩
    go_wp2_with fail
    refine (utf_awake _).mono ?_; rintro e w2 ⟨rfl, hb2⟩
    go_wp2_with fail
    go_ret
    exact ⟨rfl, hb2⟩

theorem back_dec (x t y : ByteArray) (r : Int) (h : Utf.scal r) (ht : t.data.toList = Utf.enc r) (hs : (x ++ t ++ y).size ≤ maxLen) (w : World) :
    Calls Try.prog 21 #[.string (x ++ t ++ y), .int .i64 x.size] w fun e w' => e = .returned (.tuple #[.int .i64 r, .int .i64 t.size]) ∧ w = w' := by
  have hsz : t.size = Utf.wid r := by rw [← Utf.enc_length, ← ht]; simp
  have hb := Utf.wid_bd r
  have hlt : x.size < (x ++ t ++ y).size := by simp only [ByteArray.size_append]; omega
  have hd := decode_at (x ++ t ++ y) x.size w hs hlt
  have e : from_ (x ++ t ++ y) x.size = Utf.enc r ++ y.data.toList := by
    unfold from_
    simp only [ByteArray.data_append, Array.toList_append, List.append_assoc]
    rw [ht, List.drop_left']
    simp
  rw [e, Utf.dec_enc h] at hd
  rw [hsz]
  exact hd
theorem split_one (t : ByteArray) (r : Int) (h : Utf.scal r) (ht : t.data.toList = Utf.enc r) : Utf.Split t.data.toList [r] [] :=
  ⟨by rw [ht]; simp [Utf.encs], by simpa using h, rfl⟩

theorem walk_UtfBack (x : ByteArray) (r : Int) (y : ByteArray) (hx : x.size ≤ maxLen) (_ : (Lit.int .i64 r).wf = true) (hy : y.size ≤ maxLen) (w : World) :
    Calls Try.prog 7 #[.string x, .int .i64 r, .string y] w fun e w' => e = .returned (.bool true) ∧ Below w.heap.size w w' := by
  unfold maxLen at hx hy
  by_cases h1 : 4096 < x.size
  · go_enter Try.func7, Try.ntmps7
    go_wp2_with fail
    refine (utf_awake _).mono ?_; rintro e w2 ⟨rfl, hb2⟩
    go_wp2_with fail
    go_ret
    exact ⟨rfl, hb2⟩
  by_cases h2 : 4096 < y.size
  · have d : decide (4096 < (x.size : Int)) = false := decide_eq_false (by omega)
    go_enter Try.func7, Try.ntmps7
    go_wp2_with fail
    refine (utf_awake _).mono ?_; rintro e w2 ⟨rfl, hb2⟩
    go_wp2_with fail
    go_ret
    exact ⟨rfl, hb2⟩
  by_cases h : Utf.scal r
  · have henc := fun w => encode_yes r w h
    obtain ⟨t, hte⟩ : ∃ t : ByteArray, t = ⟨(Utf.enc r).toArray⟩ := ⟨_, rfl⟩
    rw [← hte] at henc
    have ht : t.data.toList = Utf.enc r := by rw [hte]
    clear hte
    have hsz : t.size = Utf.wid r := by rw [← Utf.enc_length, ← ht]; simp
    have hwb := Utf.wid_bd r
    have t1 : 1 ≤ t.size := by omega
    have t4 : t.size ≤ 4 := by omega
    clear hsz hwb
    have HB := Lib.hid (back_dec x t y r h ht (by simp only [ByteArray.size_append]; unfold maxLen; omega))
    have HL := len_any (split_one t r h ht) (by unfold maxLen; omega)
    have HV := valid_any (split_one t r h ht) (by unfold maxLen; omega)
    have e1 : lenN [r] [] = 1 := by simp [lenN]
    have e2 : lenE [] = 0 := by simp [lenE]
    rw [e1, e2] at HL
    rw [decide_eq_true (by rfl : ([] : List UInt8).length = 0)] at HV
    have HL := Lib.hid HL
    have HV := Lib.hid HV
    have HE := Lib.hid henc
    clear henc e1 e2 ht h
    go_enter Try.func7, Try.ntmps7
    go_wp2_with fail
    refine (HE.out _).mono ?_; rintro e w1 ⟨rfl, hb1⟩
    go_wp2_with fail
    refine (HB.out _).mono ?_; rintro e w' ⟨rfl, rfl⟩
    go_wp2_with fail
    refine (HL.out _).mono ?_; rintro e w' ⟨rfl, rfl⟩
    go_wp2_with fail
    refine (HV.out _).mono ?_; rintro e w' ⟨rfl, rfl⟩
    go_wp2_with fail
    refine (utf_awake _).mono ?_; rintro e w2 ⟨rfl, hb2⟩
    go_wp2_with fail
    go_ret
    exact ⟨rfl, below_then hb1 hb2⟩
  · rcases not_scal h with k | k | ⟨k1, k2⟩
    · have H := Lib.hid h; clear h
      go_enter Try.func7, Try.ntmps7
      go_wp2_with fail
      refine (encode_no _ _ H.out).mono ?_; rintro e w' ⟨rfl, rfl⟩
      go_wp2_with fail
      refine (utf_awake _).mono ?_; rintro e w2 ⟨rfl, hb2⟩
      go_wp2_with fail
      go_ret
      exact ⟨rfl, hb2⟩
    · have H := Lib.hid h; clear h
      have d : decide (r < 0) = false := decide_eq_false (by omega)
      go_enter Try.func7, Try.ntmps7
      go_wp2_with fail
      refine (encode_no _ _ H.out).mono ?_; rintro e w' ⟨rfl, rfl⟩
      go_wp2_with fail
      refine (utf_awake _).mono ?_; rintro e w2 ⟨rfl, hb2⟩
      go_wp2_with fail
      go_ret
      exact ⟨rfl, hb2⟩
    · have H := Lib.hid h; clear h
      have d : decide (r < 0) = false := decide_eq_false (by omega)
      have d2 : decide (1114111 < r) = false := decide_eq_false (by omega)
      go_enter Try.func7, Try.ntmps7
      go_wp2_with fail
      refine (encode_no _ _ H.out).mono ?_; rintro e w' ⟨rfl, rfl⟩
      go_wp2_with fail
      refine (utf_awake _).mono ?_; rintro e w2 ⟨rfl, hb2⟩
      go_wp2_with fail
      go_ret
      exact ⟨rfl, hb2⟩
end Go.Proofs.Ytjokidcjjfdkpaa
