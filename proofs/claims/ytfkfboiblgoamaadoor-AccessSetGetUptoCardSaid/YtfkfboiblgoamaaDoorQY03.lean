/- Laid together for a claim: VkSet2. -/
import Derived.Test.YtfkfboiblgoamaaDoorQB27
import Derived.Test.YtfkfboiblgoamaaDoorQB14
/- Values set: access.Set$2. -/
namespace Go.Proofs.YtfkfboiblgoamaaDoor
open Go.RowKit
set_option linter.unusedSimpArgs false
set_option linter.unusedVariables false

set_option maxHeartbeats 1000000 in
set_option maxRecDepth 100000 in
theorem set2_ok {s : Stp} {X : Vt} {cb xb : Nat} {W0 : World} {n0 : Nat} (hcb : cb < n0) (hS : LiesAt W0 cb 0 s.cells) (hxb : xb < n0) (hX : Whole W0 xb 30 X.h.cells) (hXT : X.In W0 n0) (hkey : s.key.size ≤ 1048576) (hn0 : n0 ≤ W0.heap.size) :
    FnOk 28 #[.pointer (some ⟨cb, 0, none⟩), .pointer (some ⟨xb, 0, none⟩)] (fun U => U.moreF s.key X) (fun U => U.h.fn + 1 ≤ 1048576) W0 n0 := by
  intro w U hw hU hfn
  have hsw := hw.size
  have hn0w := Nat.le_trans hn0 hsw
  have hb0 := ((Below.refl w.heap.size w).alloc (Nat.le_refl _) (.cells U.h.cells 30)).alloc (by simp) (.cells Vh.zero.cells 30)
  have P := (Whole.new w 30 U.h.cells).alloc (.cells Vh.zero.cells 30)
  have Q := Whole.new (w.alloc (.cells U.h.cells 30)) 30 Vh.zero.cells
  rw [World.size_alloc] at Q
  have PX := ((hX.below hw hxb).alloc (.cells U.h.cells 30)).alloc (.cells Vh.zero.cells 30)
  obtain ⟨l0, l1, l2⟩ := ((hS.below hw hcb).below (hb0.mono hn0w) hcb).s3
  simp only [Nat.zero_add] at l0 l1 l2
  have HA := Lib.hid (added_any (Vt.In.below (hb0.mono hn0w) hU) (Vt.In.below (hw.trans (hb0.mono hn0w)) hXT) (Nat.le_trans hn0w hb0.size) hkey hfn)
  obtain ⟨c0, c1, c2, c3, c4, c5, c6, c7, c8, c9, c10, c11, c12⟩ := Whole.c13 (h := U.h) P
  obtain ⟨d0, d1, d2, d3, d4, d5, d6, d7, d8, d9, d10, d11, d12⟩ := Whole.c13 (h := X.h) PX
  clear hX hXT hU P PX hw hS
  simp only [Vh.cells, Vh.zero] at hb0 Q c0 c1 c2 c3 c4 c5 c6 c7 c8 c9 c10 c11 c12 d0 d1 d2 d3 d4 d5 d6 d7 d8 d9 d10 d11 d12 l1 HA ⊢
  go_enter Tryd.func28, Tryd.ntmps28
  go_wp2_with fail
  refine HA.out.mono ?_; rintro _ w1 ⟨Z, rfl, hZ, hZo, hZs, hb1⟩
  have Q1 := Q.below hb1 Q.lt
  have g1 := below_then hb0 hb1
  have hone := Lib.hid (vh_all Z.h)
  have Hs := Lib.hid hZs
  clear HA Q hb0 hZs
  go_wp2_with (refine wpList_store_row rfl 30 _ _ rfl (w.heap.size + 1) Z.h.cells rfl rfl 30 _ Q1 vh_row rfl hone.out ?_)
  have Q2 := Q1.setRow Z.h.cells
  have hsz := Q1.lt
  simp at hZo
  exact bodyPost_ret (v := .agg Z.h.cells) (ret_val (p := 4) rfl rfl Q2) rfl ⟨Z, rfl, hZ.stays hZo (fun b hb => setRow_other _ _ _ _ (by omega)) (by rw [size_setRow]; omega), hZo.mono fun b hb => by omega, Hs.out, below_setRow g1 (by omega) _⟩
end Go.Proofs.YtfkfboiblgoamaaDoor
