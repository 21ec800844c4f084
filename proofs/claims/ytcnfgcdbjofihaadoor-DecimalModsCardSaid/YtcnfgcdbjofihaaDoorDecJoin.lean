/- Decimals, by value: taken apart, and put together. -/
import Derived.OpenShut
import Derived.Lib.SmallJoins
import Derived.ProofKit
import Derived.Test.YtcnfgcdbjofihaaDoorProg
namespace Go.Proofs.YtcnfgcdbjofihaaDoor
open Go.ChangeShapes Go.WideShapes Go.Joins

theorem cellsDec : Tryd.prog.cellsOf 23 = 3 := by kernel_rfl
section
variable {H : Type} {enc : TypeId × Value → H} {w : World} {base : Nat} {spare : Nat → Bool} {held : Bool}
set_option maxRecDepth 100000 in
theorem open_dec {r : Reach} {b0 : Nat} {v : Value} {d : DataW H} {p : List MemPlace} (hv : Value.okWide Tryd.prog w r b0 23 v) (h : DataW.Trod enc Tryd.prog w base spare held 23 v d p) :
    ∃ (n : Bool) (s : ByteArray) (e : Int), v = .agg #[.bool n, .string s, .int .i64 e] ∧ d = .agg [.lit (.bool n), .lit (.string s.data.toList), .lit (.int .i64 e)] ∧ p = [] ∧ s.size ≤ maxLen ∧ (Lit.int .i64 e).wf = true := by
  obtain ⟨c0, c1, c2, y0, y1, y2, m, rfl, rfl, rfl, h0, h1, h2⟩ := open_agg3 Tryd.underlying23 (by kernel_rfl) cellsDec hv h
  obtain ⟨n, e0, rfl⟩ := DataW.trod_bool Tryd.underlying4 h0
  obtain ⟨s, e1, rfl, ws⟩ := DataW.trod_string Tryd.underlying9 h1
  obtain ⟨e, e2, rfl, we⟩ := DataW.trod_int Tryd.underlying3 h2
  simp only [List.cons.injEq, and_true] at e0 e1 e2
  subst e0 e1 e2
  exact ⟨n, s, e, rfl, rfl, rfl, ws, we⟩
set_option maxRecDepth 100000 in
theorem shut_dec {n : Bool} {s : ByteArray} {e : Int} (ws : s.size ≤ maxLen) (we : (Lit.int .i64 e).wf = true) :
    DataW.Trod enc Tryd.prog w base spare held 23 (.agg #[.bool n, .string s, .int .i64 e]) (.agg [.lit (.bool n), .lit (.string s.data.toList), .lit (.int .i64 e)]) [] :=
  shut_agg3 (y0 := (.lit (.bool n), [])) (y1 := (.lit (.string s.data.toList), [])) (y2 := (.lit (.int .i64 e), [])) Tryd.underlying23 (by kernel_rfl) cellsDec
    ⟨1, by simp [DataW.trod, Tryd.underlying4]⟩ ⟨1, by simp [DataW.trod, Tryd.underlying9, ws]⟩ ⟨1, by simp [DataW.trod, Tryd.underlying3, we]⟩
end
end Go.Proofs.YtcnfgcdbjofihaaDoor
