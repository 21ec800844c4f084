/- Decimals: the examples hold. -/
import Derived.Test.YtcnfgcdbjofihaaDoorDecText
import Derived.Test.YtcnfgcdbjofihaaDoorDecParse
namespace Go.Proofs.YtcnfgcdbjofihaaDoor
open Go.RowKit

namespace Dec
theorem normR_lit {neg : Bool} {m : Nat} {e : Int} {x : ByteArray} (hx : Dig.vld x) (hm : Dig.V x = m) (h0 : m ≠ 0) (hz : Dig.zc x = 0) (hs : x.size ≤ 120) (he : -400 ≤ e) (he2 : e ≤ 400) : normR neg m e = (⟨neg, m, e⟩, 0) := by
  have es : Dig.st m = x := by rw [← hm]; exact (Dig.vld_st hx).1.symm
  have ez : tz m = 0 := by unfold tz; rw [es, hz]
  have ec : cut m = m := by unfold cut; rw [ez, Nat.pow_zero, Nat.div_one]
  unfold normR
  rw [if_neg h0, ez, ec, if_neg]
  · simp
  · have := (Dig.st_size m 120).1 (by rw [es]; exact hs)
    omega
theorem parse01 : parse movR ⟨#[48, 46, 49]⟩ = normR false 1 (-1) := by kernel_rfl
theorem parse02 : parse movR ⟨#[48, 46, 50]⟩ = normR false 2 (-1) := by kernel_rfl
theorem st_lit {m : Nat} {x : ByteArray} (hx : Dig.vld x) (hm : Dig.V x = m) : Dig.st m = x := by rw [← hm]; exact (Dig.vld_st hx).1.symm
end Dec

set_option maxRecDepth 100000 in
theorem dec_lives (w : World) : Calls Tryd.prog 13 #[] w fun e w' => e = .returned (.bool true) ∧ Below w.heap.size w w' := by
  have l1 := Dec.st_lit (m := 1) (x := ⟨#[49]⟩) (by decide) (by decide)
  have l2 := Dec.st_lit (m := 2) (x := ⟨#[50]⟩) (by decide) (by decide)
  have l3 := Dec.st_lit (m := 3) (x := ⟨#[51]⟩) (by decide) (by decide)
  have H1 := Lib.hid (fun w => parse_any (x := ⟨#[48, 46, 49]⟩) (by decide) w)
  rw [Dec.parse01, Dec.normR_lit (x := ⟨#[49]⟩) (by decide) (by decide) (by decide) (by decide) (by decide) (by decide) (by decide)] at H1
  have H2 := Lib.hid (fun w => parse_any (x := ⟨#[48, 46, 50]⟩) (by decide) w)
  rw [Dec.parse02, Dec.normR_lit (x := ⟨#[50]⟩) (by decide) (by decide) (by decide) (by decide) (by decide) (by decide) (by decide)] at H2
  have o1 : Dec.ok ⟨false, 1, -1⟩ := by unfold Dec.ok; dsimp only; rw [l1]; decide
  have o2 : Dec.ok ⟨false, 2, -1⟩ := by unfold Dec.ok; dsimp only; rw [l2]; decide
  have H3 := Lib.hid (fun w => dadd_any o1 o2 w)
  have ea : Dec.addR ⟨false, 1, -1⟩ ⟨false, 2, -1⟩ = (⟨false, 3, -1⟩, 0) := by
    rw [← Dec.normR_lit (neg := false) (m := 3) (e := -1) (x := ⟨#[51]⟩) (by decide) (by decide) (by decide) (by decide) (by decide) (by decide) (by decide)]
    kernel_rfl
  rw [ea] at H3
  have H4 := Lib.hid (fun w => text_c false (s := ⟨#[51]⟩) (e := -1) (k := 0) (by decide) (by decide) (by decide) (by decide) (by decide) (by decide) (by decide) w)
  rw [show Dec.sg false ++ (⟨#[48, 46]⟩ : ByteArray) ++ Dig.noughts 0 ++ ⟨#[51]⟩ = ⟨#[48, 46, 51]⟩ by decide] at H4
  unfold Dec.ag at H1 H2 H3
  dsimp only at H1 H2 H3
  rw [l1] at H1
  rw [l2] at H2
  rw [l1, l2, l3] at H3
  clear l1 l2 l3 o1 o2 ea
  have q1 : ∀ W, (binOp .eql 23 (.agg #[.bool false, .string ⟨#[51]⟩, .int .i64 (-1)]) (.agg #[.bool false, .string ⟨#[51]⟩, .int .i64 (-1)])).run Tryd.prog W = .ok (.bool true) W := fun W => by rw [dec_eql, decide_eq_true rfl]
  go_enter Tryd.func13, Tryd.ntmps13
  go_wp2_with fail
  refine (H1.out _).mono ?_; rintro _ w1 ⟨rfl, hb1⟩
  have pa := Whole.new w1 23 #[.bool false, .string ⟨#[49]⟩, .int .i64 (-1)]
  have hbb := hb1.alloc hb1.size (.cells #[.bool false, .string ⟨#[49]⟩, .int .i64 (-1)] 23)
  clear hb1
  go_wp2_with fail
  refine (H2.out _).mono ?_; rintro _ w2 ⟨rfl, hb2⟩
  replace pa := (pa.below hb2 pa.lt).alloc (.cells #[.bool false, .string ⟨#[50]⟩, .int .i64 (-1)] 23)
  replace hbb := (below_then hbb hb2).alloc (below_then hbb hb2).size (.cells #[.bool false, .string ⟨#[50]⟩, .int .i64 (-1)] 23)
  have pb := Whole.new w2 23 #[.bool false, .string ⟨#[50]⟩, .int .i64 (-1)]
  clear hb2
  obtain ⟨x0, x1, x2⟩ := pa.c3
  obtain ⟨y0, y1, y2⟩ := pb.c3
  go_wp2_with fail
  refine (H3.out _).mono ?_; rintro _ w3 ⟨rfl, hb3⟩
  replace hbb := (below_then hbb hb3).alloc (below_then hbb hb3).size (.cells #[.bool false, .string ⟨#[51]⟩, .int .i64 (-1)] 23)
  have pc := Whole.new w3 23 #[.bool false, .string ⟨#[51]⟩, .int .i64 (-1)]
  clear hb3 x0 x1 x2 y0 y1 y2 pa pb
  obtain ⟨x0, x1, x2⟩ := pc.c3
  go_wp2_with fail
  refine (H4.out _).mono ?_; rintro _ w4 ⟨rfl, hb4⟩
  replace pc := pc.below hb4 pc.lt
  replace hbb := below_then hbb hb4
  clear hb4 x0 x1 x2
  obtain ⟨x0, x1, x2⟩ := pc.c3
  go_wp2
  go_ret
  exact ⟨rfl, hbb⟩
end Go.Proofs.YtcnfgcdbjofihaaDoor
