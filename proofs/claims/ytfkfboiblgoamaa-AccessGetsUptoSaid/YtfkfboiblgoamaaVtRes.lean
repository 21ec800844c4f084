/- Values: a value as a result. value.Copy. -/
import Derived.Test.YtfkfboiblgoamaaVtCopy
namespace Go.Proofs.Ytfkfboiblgoamaa
open Go.RowKit

theorem vh_all (h : Vh) : h.cells.all (·.oneCell') = true := by simp [Vh.cells, Value.oneCell']
/-- A value as the result. -/
theorem ret_val {fn : Func} {p : Tmp} (h : fn.results = #[.cell p 30]) {tmps : Array Value} {W : World} {B : Nat} {g : Vh} (hp : tmps.getD p undef = .pointer (some ⟨B, 0, none⟩)) (H : Whole W B 30 g.cells) :
    (results fn tmps).run Try.prog W = .ok (.agg g.cells) W :=
  results_cell_row h tmps W B 30 g.cells (0, 0) _ hp H Try.underlying30 rfl vh_row
/-- A value and something else as the results. -/
theorem ret_val2 {fn : Func} {p q : Tmp} (h : fn.results = #[.cell p 30, .tmp q]) {tmps : Array Value} {W : World} {B : Nat} {g : Vh} (hp : tmps.getD p undef = .pointer (some ⟨B, 0, none⟩)) (H : Whole W B 30 g.cells) :
    (results fn tmps).run Try.prog W = .ok (.tuple #[.agg g.cells, tmps.getD q undef]) W := by
  have hp' : tmps[p]?.getD undef = .pointer (some ⟨B, 0, none⟩) := by simpa using hp
  simp [results, h, hp', asAddr, run_loadVar_row W B 30 30 g.cells (0, 0) _ H Try.underlying30 rfl vh_row]
/-- Two boxes, of which the second turns: what lies behind them is as it was. -/
theorem Vt.In.stays {W W' : World} {T : Vt} {S : Nat → Prop} (h : T.In W W.heap.size) (ho : T.Off S) (hs : ∀ b, S b → W'.heap[b]? = W.heap[b]?) (hz : W.heap.size ≤ W'.heap.size) : T.In W' W'.heap.size :=
  Vt.In.turn (S := S) (fun b hb hlt => ⟨hs b hb, by omega⟩) h ho
set_option maxHeartbeats 2000000 in
set_option maxRecDepth 100000 in
theorem copy_any {T : Vt} {top : Nat} {w : World} (hT : T.In w top) (ht : top ≤ w.heap.size) (hu : T.upto 65536) :
    Calls Try.prog 32 #[.agg T.h.cells] w (CopyOut T w) := by
  have hb0 := ((Below.refl w.heap.size w).alloc (Nat.le_refl _) (.cells T.h.cells 30)).alloc (by simp) (.cells Vh.zero.cells 30)
  have Q := Whole.new (w.alloc (.cells T.h.cells 30)) 30 Vh.zero.cells
  rw [World.size_alloc] at Q
  have HC := Lib.hid (copied_any T 65536 65536 top ((w.alloc (.cells T.h.cells 30)).alloc (.cells Vh.zero.cells 30)) rfl (Vt.In.below (hb0.mono ht) hT) (Nat.le_trans ht hb0.size) hu (Nat.le_refl _))
  clear hT hu
  simp only [Vh.cells, Vh.zero] at HC Q hb0 ⊢
  go_enter Try.func32, Try.ntmps32
  go_wp2_with fail
  refine HC.out.mono ?_; rintro _ w1 ⟨X, rfl, hX, hXo, hXs, hb1⟩
  have Q1 := Q.below hb1 Q.lt
  have g1 := below_then hb0 hb1
  have hone := Lib.hid (vh_all X.h)
  have Hs := Lib.hid hXs
  clear HC Q hb0 hXs
  go_wp2_with (refine wpList_store_row rfl 30 _ _ rfl (w.heap.size + 1) X.h.cells rfl rfl 30 _ Q1 vh_row rfl hone.out ?_)
  have Q2 := Q1.setRow X.h.cells
  have hsz := Q1.lt
  simp at hXo
  refine bodyPost_ret (v := .agg X.h.cells) (ret_val (p := 2) rfl rfl Q2) rfl ⟨X, rfl, hX.stays hXo (fun b hb => setRow_other _ _ _ _ (by omega)) (by rw [size_setRow]; omega), hXo.mono fun b hb => by omega, Hs.out, below_setRow g1 (by omega) _⟩
end Go.Proofs.Ytfkfboiblgoamaa
