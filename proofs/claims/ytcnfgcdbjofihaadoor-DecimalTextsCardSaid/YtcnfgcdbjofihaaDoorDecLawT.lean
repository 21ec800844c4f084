/- Decimals: the law of texts. -/
import Derived.Test.YtcnfgcdbjofihaaDoorDecTextQ
import Derived.Test.YtcnfgcdbjofihaaDoorDecTextS
import Derived.Test.YtcnfgcdbjofihaaDoorDecLawS
namespace Go.Proofs.YtcnfgcdbjofihaaDoor
open Go.RowKit

namespace Dec
theorem exp_size {p : Int} (h1 : -1000 ≤ p) (h2 : p ≤ 1000) : (expR p).size ≤ 9 := by
  unfold expR
  split
  · have := whole_size (k := (1 - p).toNat) (by omega)
    rw [ByteArray.size_append, ByteArray.size_append]
    show 1 + (1 + _) ≤ 9
    omega
  · have := whole_size (k := (p - 1).toNat) (by omega)
    rw [ByteArray.size_append]
    show 1 + _ ≤ 9
    omega
theorem body_size {d : Dc} (h : ok d) : (bodyR d.m d.e).size ≤ 900 := by
  obtain ⟨a1, a2, a3, _⟩ := ok_all h
  have hx := exp_size (p := ((Dig.st d.m).size : Int) + d.e) (by omega) (by omega)
  have d1 : dot.size = 1 := rfl
  have d2 : zr.size = 1 := rfl
  unfold bodyR
  split
  · rw [ByteArray.size_append, Dig.noughts_size]; omega
  · split
    · rw [ByteArray.size_append, ByteArray.size_append, ByteArray.size_extract, ByteArray.size_extract]; omega
    · split
      · rw [ByteArray.size_append, ByteArray.size_append, ByteArray.size_append, Dig.noughts_size]; omega
      · split
        · rw [ByteArray.size_append, ByteArray.size_append, ByteArray.size_append, ByteArray.size_extract, ByteArray.size_extract]; omega
        · rw [ByteArray.size_append]; omega
theorem text_size {d : Dc} (h : ok d) : (textR d).size ≤ 1000 := by
  have := body_size h
  have d1 : mn.size = 1 := rfl
  have d2 : zr.size = 1 := rfl
  unfold textR
  split
  · omega
  · split
    · rw [ByteArray.size_append]; omega
    · omega
end Dec

set_option maxHeartbeats 8000000 in
set_option maxRecDepth 100000 in
theorem walk_DecimalTexts (an : Bool) (sa : ByteArray) (ae : Int) (hsa : sa.size ≤ maxLen) (_ : (Lit.int .i64 ae).wf = true) (w : World) :
    Calls Tryd.prog 4 #[.agg #[.bool an, .string sa, .int .i64 ae]] w fun e w' => e = .returned (.bool true) ∧ Below w.heap.size w w' := by
  have HL := Lib.hid dec_lives
  have K := B1.new w an sa ae
  have P0 := K.one
  have hbb := K.below
  clear K
  obtain ⟨c00, c01, c02⟩ := P0.c3
  by_cases va : Dec.vd an sa ae
  case neg =>
    have VA := Lib.hid (fun w => rdvalid_no hsa va w)
    clear va hsa
    go_enter Tryd.func4, Tryd.ntmps4
    go_wp2_with fail
    refine (VA.out _).mono ?_; rintro _ w1 ⟨rfl, hb1⟩
    clear c00 c01 c02
    replace P0 := (P0.below hb1 P0.lt)
    replace hbb := below_then hbb hb1
    clear hb1
    obtain ⟨c00, c01, c02⟩ := P0.c3
    go_wp2_with fail
    refine (HL.out _).mono ?_; rintro _ w2 ⟨rfl, hb2⟩
    clear c00 c01 c02
    replace P0 := (P0.below hb2 P0.lt)
    replace hbb := below_then hbb hb2
    clear hb2
    obtain ⟨c00, c01, c02⟩ := P0.c3
    go_wp2
    go_ret
    exact ⟨rfl, hbb⟩
  have VA := Lib.hid (fun w => rdvalid_yes hsa va w)
  obtain ⟨am, ham, oa⟩ := Dec.of_vd va
  have HT := Lib.hid (fun w => dtext_any oa w)
  have HR := Lib.hid (fun w => rtxt_any oa w)
  have HP := Lib.hid (fun w => parse_any (Dec.text_size oa) w)
  rw [Dec.text_parse oa] at HP
  generalize Dec.textR ⟨an, am, ae⟩ = T at *
  unfold Dec.ag at HT HR HP
  dsimp only at HT HR HP
  rw [ham] at HT HR HP
  have E1 := dec_same an sa ae
  clear va hsa ham oa
  go_enter Tryd.func4, Tryd.ntmps4
  go_wp2_with fail
  refine (VA.out _).mono ?_; rintro _ w1 ⟨rfl, hb1⟩
  clear c00 c01 c02
  replace P0 := (P0.below hb1 P0.lt)
  replace hbb := below_then hbb hb1
  clear hb1
  obtain ⟨c00, c01, c02⟩ := P0.c3
  go_wp2_with fail
  refine (HT.out _).mono ?_; rintro _ w2 ⟨rfl, hb2⟩
  clear c00 c01 c02
  replace P0 := (P0.below hb2 P0.lt)
  replace hbb := below_then hbb hb2
  clear hb2
  obtain ⟨c00, c01, c02⟩ := P0.c3
  go_wp2_with fail
  refine (HP.out _).mono ?_; rintro _ w3 ⟨rfl, hb3⟩
  clear c00 c01 c02
  replace P0 := (P0.below hb3 P0.lt).alloc (.cells #[.bool an, .string sa, .int .i64 ae] 23)
  have P1 := Whole.new w3 23 #[.bool an, .string sa, .int .i64 ae]
  replace hbb := (below_then hbb hb3).alloc (below_then hbb hb3).size (.cells #[.bool an, .string sa, .int .i64 ae] 23)
  clear hb3
  obtain ⟨c00, c01, c02⟩ := P0.c3
  obtain ⟨c10, c11, c12⟩ := P1.c3
  go_wp2_with fail
  refine (HR.out _).mono ?_; rintro _ w4 ⟨rfl, hb4⟩
  clear c00 c01 c02 c10 c11 c12
  replace P0 := (P0.below hb4 P0.lt)
  replace P1 := (P1.below hb4 P1.lt)
  replace hbb := below_then hbb hb4
  clear hb4
  obtain ⟨c00, c01, c02⟩ := P0.c3
  obtain ⟨c10, c11, c12⟩ := P1.c3
  go_wp2_with fail
  refine (HL.out _).mono ?_; rintro _ w5 ⟨rfl, hb5⟩
  clear c00 c01 c02 c10 c11 c12
  replace P0 := (P0.below hb5 P0.lt)
  replace P1 := (P1.below hb5 P1.lt)
  replace hbb := below_then hbb hb5
  clear hb5
  obtain ⟨c00, c01, c02⟩ := P0.c3
  obtain ⟨c10, c11, c12⟩ := P1.c3
  go_wp2
  go_ret
  exact ⟨rfl, hbb⟩
end Go.Proofs.YtcnfgcdbjofihaaDoor
