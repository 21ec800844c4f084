/- Arrays of strings, by value: taken apart, and put together. -/
import Derived.OpenShut
import Derived.Lib.SmallJoins
import Derived.Laws.IdiomArrays
namespace Go.Proofs.YtgmhhfljhjlplaaDoor
open Go.ChangeShapes Go.WideShapes

section
variable {H : Type} {enc : TypeId × Value → H} {P : Program} {w : World} {base : Nat} {spare : Nat → Bool} {held : Bool}
theorem okWide_array {r : Reach} {b0 : Nat} {t e : TypeId} {n : Nat} {v : Value} (ht : P.underlying t = some (.array n e)) (h : Value.okWide P w r b0 t v) : ∃ cs, v = .agg cs ∧ cs.size = P.cellsOf t := by
  simp only [Value.okWide, ht] at h
  obtain ⟨cs, h1, h2, _⟩ := h
  exact ⟨cs, h1, h2⟩
theorem arr3 {cs : Array Value} (h : cs.size = 3) : ∃ a b c, cs = #[a, b, c] := by
  obtain ⟨l⟩ := cs
  match l, h with
  | [a, b, c], _ => exact ⟨a, b, c, rfl⟩
theorem open_arr3s {r : Reach} {b0 : Nat} {t e : TypeId} {v : Value} {d : DataW H} {p : List MemPlace} (ht : P.underlying t = some (.array 3 e)) (he : P.underlying e = some .string) (hce : P.cellsOf e = 1) (hC : P.cellsOf t = 3)
    (hv : Value.okWide P w r b0 t v) (h : DataW.Trod enc P w base spare held t v d p) :
    ∃ a b c : ByteArray, v = .agg #[.string a, .string b, .string c] ∧ d = .agg [.lit (.string a.data.toList), .lit (.string b.data.toList), .lit (.string c.data.toList)] ∧ p = [] ∧ a.size ≤ maxLen ∧ b.size ≤ maxLen ∧ c.size ≤ maxLen := by
  obtain ⟨cs, rfl, hsz⟩ := okWide_array ht hv
  obtain ⟨c0, c1, c2, rfl⟩ := arr3 (hsz.trans hC)
  obtain ⟨fuel, hf⟩ := h
  have hcs : (Value.agg #[c0, c1, c2]).cells.toList = [c0, c1, c2] := by simp [Value.cells]
  rw [hcs] at hf
  obtain ⟨y0, y1, y2, n, hx, h0, h1, h2⟩ := trod_array3 ht hce hf
  obtain ⟨a, ea, rfl, wa⟩ := DataW.trod_string he h0
  obtain ⟨b, eb, rfl, wb⟩ := DataW.trod_string he h1
  obtain ⟨c, ec, rfl, wc⟩ := DataW.trod_string he h2
  simp only [List.cons.injEq, and_true] at ea eb ec
  subst ea eb ec
  simp only [Prod.mk.injEq] at hx
  exact ⟨a, b, c, rfl, hx.1, by simpa using hx.2, wa, wb, wc⟩
theorem shut_arr3s {t e : TypeId} {a b c : ByteArray} (ht : P.underlying t = some (.array 3 e)) (he : P.underlying e = some .string) (hce : P.cellsOf e = 1) (hC : P.cellsOf t = 3) (wa : a.size ≤ maxLen) (wb : b.size ≤ maxLen) (wc : c.size ≤ maxLen) :
    DataW.Trod enc P w base spare held t (.agg #[.string a, .string b, .string c]) (.agg [.lit (.string a.data.toList), .lit (.string b.data.toList), .lit (.string c.data.toList)]) [] := by
  refine ⟨2, ?_⟩
  have hcs : (Value.agg #[Value.string a, .string b, .string c]).cells.toList = [.string a, .string b, .string c] := by simp [Value.cells]
  rw [hcs]
  have s : ∀ x : ByteArray, x.size ≤ maxLen → DataW.trod enc P w base spare held 1 e [.string x] = some (.lit (.string x.data.toList), []) := fun x hx => by simp [DataW.trod, he, hx]
  unfold DataW.trod
  rw [ht]
  have r3 : List.range 3 = [0, 1, 2] := rfl
  simp [r3, hce, hC, s a wa, s b wb, s c wc]
end
end Go.Proofs.YtgmhhfljhjlplaaDoor
