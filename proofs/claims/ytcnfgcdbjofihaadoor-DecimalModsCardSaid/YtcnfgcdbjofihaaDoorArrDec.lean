/- Arrays of three decimals, by value: taken apart, and put together. -/
import Derived.Test.YtcnfgcdbjofihaaDoorDecJoin
namespace Go.Proofs.YtcnfgcdbjofihaaDoor
open Go.ChangeShapes Go.WideShapes Go.Joins Go.Deep

section
variable {H : Type} {enc : TypeId × Value → H} {w : World} {base : Nat} {spare : Nat → Bool} {held : Bool}
theorem okWide_arr {P : Program} {r : Reach} {b0 : Nat} {t e : TypeId} {n : Nat} {v : Value} (ht : P.underlying t = some (.array n e)) (h : Value.okWide P w r b0 t v) : ∃ cs, v = .agg cs ∧ cs.size = P.cellsOf t := by
  simp only [Value.okWide, ht] at h
  obtain ⟨cs, h1, h2, _⟩ := h
  exact ⟨cs, h1, h2⟩
theorem arr9 {cs : Array Value} (h : cs.size = 9) : ∃ a b c d e f g i j, cs = #[a, b, c, d, e, f, g, i, j] := by
  obtain ⟨l⟩ := cs
  match l, h with
  | [a, b, c, d, e, f, g, i, j], _ => exact ⟨a, b, c, d, e, f, g, i, j, rfl⟩
theorem trod_arr3w {P : Program} {t e : TypeId} {fuel : Nat} {a b c d k f g i j : Value} {x : DataW H × List MemPlace} (ht : P.underlying t = some (.array 3 e)) (hce : P.cellsOf e = 3)
    (h : DataW.trod enc P w base spare held fuel t [a, b, c, d, k, f, g, i, j] = some x) :
    ∃ y0 y1 y2 n, x = (.agg [y0.1, y1.1, y2.1], y0.2 ++ (y1.2 ++ y2.2)) ∧ DataW.trod enc P w base spare held n e [a, b, c] = some y0 ∧ DataW.trod enc P w base spare held n e [d, k, f] = some y1 ∧ DataW.trod enc P w base spare held n e [g, i, j] = some y2 := by
  cases fuel with
  | zero => simp [DataW.trod] at h
  | succ n =>
    unfold DataW.trod at h
    rw [ht] at h
    have r3 : List.range 3 = [0, 1, 2] := rfl
    simp [r3, hce] at h
    obtain ⟨_, h⟩ := h
    cases h0 : DataW.trod enc P w base spare held n e [a, b, c] with
    | none => simp [h0] at h
    | some y0 =>
      cases h1 : DataW.trod enc P w base spare held n e [d, k, f] with
      | none => simp [h0, h1] at h
      | some y1 =>
        cases h2 : DataW.trod enc P w base spare held n e [g, i, j] with
        | none => simp [h0, h1, h2] at h
        | some y2 =>
          simp [h0, h1, h2] at h
          exact ⟨y0, y1, y2, n, h.symm, h0, h1, h2⟩
theorem trod_agg3c {P : Program} {t : TypeId} {f0 f1 f2 : Field} {fuel : Nat} {a b c : Value} {x : DataW H × List MemPlace} (hs : P.underlying t = some (.struct #[f0, f1, f2])) (hone : oneCellFields P #[f0, f1, f2] = true)
    (h : DataW.trod enc P w base spare held fuel t [a, b, c] = some x) :
    ∃ y0 y1 y2 n, x = (.agg [y0.1, y1.1, y2.1], y0.2 ++ (y1.2 ++ y2.2)) ∧ DataW.trod enc P w base spare held n f0.type [a] = some y0 ∧ DataW.trod enc P w base spare held n f1.type [b] = some y1 ∧ DataW.trod enc P w base spare held n f2.type [c] = some y2 := by
  obtain ⟨y0, y1, y2, n, hx, _, h0, h1, h2⟩ := trod_struct3 hs h
  obtain ⟨o0, k0⟩ := hone_of hone 0 f0 rfl
  obtain ⟨o1, k1⟩ := hone_of hone 1 f1 rfl
  obtain ⟨o2, k2⟩ := hone_of hone 2 f2 rfl
  exact ⟨y0, y1, y2, n, hx, by simpa [o0, k0] using h0, by simpa [o1, k1] using h1, by simpa [o2, k2] using h2⟩
theorem trod_agg3m {P : Program} {t : TypeId} {f0 f1 f2 : Field} {n : Nat} {a b c : Value} {y0 y1 y2 : DataW H × List MemPlace} (hs : P.underlying t = some (.struct #[f0, f1, f2])) (hone : oneCellFields P #[f0, f1, f2] = true) (hC : P.cellsOf t = 3)
    (h0 : DataW.trod enc P w base spare held n f0.type [a] = some y0) (h1 : DataW.trod enc P w base spare held n f1.type [b] = some y1) (h2 : DataW.trod enc P w base spare held n f2.type [c] = some y2) :
    DataW.trod enc P w base spare held (n + 1) t [a, b, c] = some (.agg [y0.1, y1.1, y2.1], y0.2 ++ (y1.2 ++ y2.2)) := by
  obtain ⟨o0, k0⟩ := hone_of hone 0 f0 rfl
  obtain ⟨o1, k1⟩ := hone_of hone 1 f1 rfl
  obtain ⟨o2, k2⟩ := hone_of hone 2 f2 rfl
  exact trod_struct3_mk hs (by simp [hC]) (by simpa [o0, k0] using h0) (by simpa [o1, k1] using h1) (by simpa [o2, k2] using h2)
set_option maxRecDepth 100000 in
theorem dec_cells {fuel : Nat} {a b c : Value} {x : DataW H × List MemPlace} (h : DataW.trod enc Tryd.prog w base spare held fuel 23 [a, b, c] = some x) :
    ∃ (n : Bool) (s : ByteArray) (e : Int), a = .bool n ∧ b = .string s ∧ c = .int .i64 e ∧ x = (.agg [.lit (.bool n), .lit (.string s.data.toList), .lit (.int .i64 e)], []) ∧ s.size ≤ maxLen ∧ (Lit.int .i64 e).wf = true := by
  obtain ⟨y0, y1, y2, m, hx, h0, h1, h2⟩ := trod_agg3c Tryd.underlying23 (by kernel_rfl) h
  obtain ⟨n, e0, rfl⟩ := DataW.trod_bool Tryd.underlying4 h0
  obtain ⟨s, e1, rfl, ws⟩ := DataW.trod_string Tryd.underlying9 h1
  obtain ⟨e, e2, rfl, we⟩ := DataW.trod_int Tryd.underlying3 h2
  simp only [List.cons.injEq, and_true] at e0 e1 e2
  exact ⟨n, s, e, e0, e1, e2, by rw [hx]; rfl, ws, we⟩
set_option maxRecDepth 100000 in
theorem cells_dec {n : Bool} {s : ByteArray} {e : Int} (ws : s.size ≤ maxLen) (we : (Lit.int .i64 e).wf = true) :
    DataW.trod enc Tryd.prog w base spare held 2 23 [.bool n, .string s, .int .i64 e] = some (.agg [.lit (.bool n), .lit (.string s.data.toList), .lit (.int .i64 e)], []) := by
  have := trod_agg3m (enc := enc) (w := w) (base := base) (spare := spare) (held := held) (n := 1) (a := .bool n) (b := .string s) (c := .int .i64 e) (y0 := (.lit (.bool n), [])) (y1 := (.lit (.string s.data.toList), [])) (y2 := (.lit (.int .i64 e), []))
    Tryd.underlying23 (by kernel_rfl) cellsDec (by simp [DataW.trod, Tryd.underlying4]) (by simp [DataW.trod, Tryd.underlying9, ws]) (by simp [DataW.trod, Tryd.underlying3, we])
  exact this
def declit (H : Type) (n : Bool) (s : ByteArray) (e : Int) : DataW H := .agg [.lit (.bool n), .lit (.string s.data.toList), .lit (.int .i64 e)]
set_option maxRecDepth 100000 in
theorem open_arr3d {r : Reach} {b0 : Nat} {t : TypeId} {v : Value} {d : DataW H} {p : List MemPlace} (ht : Tryd.prog.underlying t = some (.array 3 23)) (hC : Tryd.prog.cellsOf t = 9)
    (hv : Value.okWide Tryd.prog w r b0 t v) (h : DataW.Trod enc Tryd.prog w base spare held t v d p) :
    ∃ (n0 : Bool) (s0 : ByteArray) (e0 : Int) (n1 : Bool) (s1 : ByteArray) (e1 : Int) (n2 : Bool) (s2 : ByteArray) (e2 : Int), v = .agg #[.bool n0, .string s0, .int .i64 e0, .bool n1, .string s1, .int .i64 e1, .bool n2, .string s2, .int .i64 e2] ∧
      d = .agg [declit H n0 s0 e0, declit H n1 s1 e1, declit H n2 s2 e2] ∧ p = [] ∧ s0.size ≤ maxLen ∧ (Lit.int .i64 e0).wf = true ∧ s1.size ≤ maxLen ∧ (Lit.int .i64 e1).wf = true ∧ s2.size ≤ maxLen ∧ (Lit.int .i64 e2).wf = true := by
  obtain ⟨cs, rfl, hsz⟩ := okWide_arr ht hv
  obtain ⟨a, b, c, d', k, f, g, i, j, rfl⟩ := arr9 (hsz.trans hC)
  obtain ⟨fuel, hf⟩ := h
  have hcs : (Value.agg #[a, b, c, d', k, f, g, i, j]).cells.toList = [a, b, c, d', k, f, g, i, j] := by simp [Value.cells]
  rw [hcs] at hf
  obtain ⟨y0, y1, y2, n, hx, h0, h1, h2⟩ := trod_arr3w ht cellsDec hf
  obtain ⟨n0, s0, e0, rfl, rfl, rfl, rfl, ws0, we0⟩ := dec_cells h0
  obtain ⟨n1, s1, e1, rfl, rfl, rfl, rfl, ws1, we1⟩ := dec_cells h1
  obtain ⟨n2, s2, e2, rfl, rfl, rfl, rfl, ws2, we2⟩ := dec_cells h2
  simp only [Prod.mk.injEq] at hx
  exact ⟨n0, s0, e0, n1, s1, e1, n2, s2, e2, rfl, hx.1, by simpa using hx.2, ws0, we0, ws1, we1, ws2, we2⟩
set_option maxRecDepth 100000 in
theorem shut_arr3d {t : TypeId} {n0 : Bool} {s0 : ByteArray} {e0 : Int} {n1 : Bool} {s1 : ByteArray} {e1 : Int} {n2 : Bool} {s2 : ByteArray} {e2 : Int} (ht : Tryd.prog.underlying t = some (.array 3 23)) (hC : Tryd.prog.cellsOf t = 9)
    (ws0 : s0.size ≤ maxLen) (we0 : (Lit.int .i64 e0).wf = true) (ws1 : s1.size ≤ maxLen) (we1 : (Lit.int .i64 e1).wf = true) (ws2 : s2.size ≤ maxLen) (we2 : (Lit.int .i64 e2).wf = true) :
    DataW.Trod enc Tryd.prog w base spare held t (.agg #[.bool n0, .string s0, .int .i64 e0, .bool n1, .string s1, .int .i64 e1, .bool n2, .string s2, .int .i64 e2]) (.agg [declit H n0 s0 e0, declit H n1 s1 e1, declit H n2 s2 e2]) [] := by
  refine ⟨3, ?_⟩
  have hcs : (Value.agg #[.bool n0, .string s0, .int .i64 e0, .bool n1, .string s1, .int .i64 e1, .bool n2, .string s2, .int .i64 e2]).cells.toList = [.bool n0, .string s0, .int .i64 e0, .bool n1, .string s1, .int .i64 e1, .bool n2, .string s2, .int .i64 e2] := by simp [Value.cells]
  rw [hcs]
  unfold DataW.trod
  rw [ht]
  have r3 : List.range 3 = [0, 1, 2] := rfl
  simp [r3, cellsDec, hC, cells_dec ws0 we0, cells_dec ws1 we1, cells_dec ws2 we2, declit]
end
end Go.Proofs.YtcnfgcdbjofihaaDoor
