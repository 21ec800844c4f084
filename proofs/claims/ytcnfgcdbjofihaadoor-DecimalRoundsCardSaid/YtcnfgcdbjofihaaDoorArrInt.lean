/- Arrays of two ints, by value: taken apart, and put together. -/
import Derived.Test.YtcnfgcdbjofihaaDoorArrDec
namespace Go.Proofs.YtcnfgcdbjofihaaDoor
open Go.ChangeShapes Go.WideShapes Go.Joins Go.Deep

section
variable {H : Type} {enc : TypeId × Value → H} {w : World} {base : Nat} {spare : Nat → Bool} {held : Bool}
theorem arr2 {cs : Array Value} (h : cs.size = 2) : ∃ a b, cs = #[a, b] := by
  obtain ⟨l⟩ := cs
  match l, h with
  | [a, b], _ => exact ⟨a, b, rfl⟩
theorem trod_arr2 {P : Program} {t e : TypeId} {fuel : Nat} {a b : Value} {x : DataW H × List MemPlace} (ht : P.underlying t = some (.array 2 e)) (hce : P.cellsOf e = 1)
    (h : DataW.trod enc P w base spare held fuel t [a, b] = some x) :
    ∃ y0 y1 n, x = (.agg [y0.1, y1.1], y0.2 ++ y1.2) ∧ DataW.trod enc P w base spare held n e [a] = some y0 ∧ DataW.trod enc P w base spare held n e [b] = some y1 := by
  cases fuel with
  | zero => simp [DataW.trod] at h
  | succ n =>
    unfold DataW.trod at h
    rw [ht] at h
    have r2 : List.range 2 = [0, 1] := rfl
    simp [r2, hce] at h
    obtain ⟨_, h⟩ := h
    cases h0 : DataW.trod enc P w base spare held n e [a] with
    | none => simp [h0] at h
    | some y0 =>
      cases h1 : DataW.trod enc P w base spare held n e [b] with
      | none => simp [h0, h1] at h
      | some y1 =>
        simp [h0, h1] at h
        exact ⟨y0, y1, n, h.symm, h0, h1⟩
set_option maxRecDepth 100000 in
theorem open_arr2i {r : Reach} {b0 : Nat} {t e : TypeId} {v : Value} {d : DataW H} {p : List MemPlace} (ht : Tryd.prog.underlying t = some (.array 2 e)) (he : Tryd.prog.underlying e = some (.int .i64)) (hce : Tryd.prog.cellsOf e = 1) (hC : Tryd.prog.cellsOf t = 2)
    (hv : Value.okWide Tryd.prog w r b0 t v) (h : DataW.Trod enc Tryd.prog w base spare held t v d p) :
    ∃ a b : Int, v = .agg #[.int .i64 a, .int .i64 b] ∧ d = .agg [.lit (.int .i64 a), .lit (.int .i64 b)] ∧ p = [] ∧ (Lit.int .i64 a).wf = true ∧ (Lit.int .i64 b).wf = true := by
  obtain ⟨cs, rfl, hsz⟩ := okWide_arr ht hv
  obtain ⟨a, b, rfl⟩ := arr2 (hsz.trans hC)
  obtain ⟨fuel, hf⟩ := h
  have hcs : (Value.agg #[a, b]).cells.toList = [a, b] := by simp [Value.cells]
  rw [hcs] at hf
  obtain ⟨y0, y1, n, hx, h0, h1⟩ := trod_arr2 ht hce hf
  obtain ⟨i, ei, rfl, wi⟩ := DataW.trod_int he h0
  obtain ⟨j, ej, rfl, wj⟩ := DataW.trod_int he h1
  simp only [List.cons.injEq, and_true] at ei ej
  subst ei ej
  simp only [Prod.mk.injEq] at hx
  exact ⟨i, j, rfl, hx.1, by simpa using hx.2, wi, wj⟩
set_option maxRecDepth 100000 in
theorem shut_arr2i {t e : TypeId} {a b : Int} (ht : Tryd.prog.underlying t = some (.array 2 e)) (he : Tryd.prog.underlying e = some (.int .i64)) (hce : Tryd.prog.cellsOf e = 1) (hC : Tryd.prog.cellsOf t = 2) (wa : (Lit.int .i64 a).wf = true) (wb : (Lit.int .i64 b).wf = true) :
    DataW.Trod enc Tryd.prog w base spare held t (.agg #[.int .i64 a, .int .i64 b]) (.agg [.lit (.int .i64 a), .lit (.int .i64 b)]) [] := by
  refine ⟨2, ?_⟩
  have hcs : (Value.agg #[.int .i64 a, .int .i64 b]).cells.toList = [.int .i64 a, .int .i64 b] := by simp [Value.cells]
  rw [hcs]
  have s : ∀ x : Int, (Lit.int .i64 x).wf = true → DataW.trod enc Tryd.prog w base spare held 1 e [.int .i64 x] = some (.lit (.int .i64 x), []) := fun x hx => by simp [DataW.trod, he, hx]
  unfold DataW.trod
  rw [ht]
  have r2 : List.range 2 = [0, 1] := rfl
  simp [r2, hce, hC, s a wa, s b wb]
end
end Go.Proofs.YtcnfgcdbjofihaaDoor
