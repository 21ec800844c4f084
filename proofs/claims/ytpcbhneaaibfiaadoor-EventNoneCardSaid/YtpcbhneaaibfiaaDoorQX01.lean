/- Laid together for a claim: EvNil, EvLawN. -/
import Derived.Test.YtpcbhneaaibfiaaDoorQB27
import Derived.Test.YtpcbhneaaibfiaaDoorQB05
import Derived.Test.YtpcbhneaaibfiaaDoorQB33
import Derived.Test.YtpcbhneaaibfiaaDoorQB32
/- A builder that does not exist; an event as an argument, whatever its size. -/
namespace Go.Proofs.YtpcbhneaaibfiaaDoor
open Go.ChangeShapes Go.WideShapes Go.Joins Go.Deep Go.RowKit
set_option linter.unusedSimpArgs false
set_option linter.unusedVariables false

section
variable {H : Type} {enc : TypeId × Value → H} {w : World} {base : Nat} {spare : Nat → Bool} {held : Bool}
theorem slice_shape {P : Program} {t e : TypeId} {fuel : Nat} {cs : List Value} {x : DataW H × List MemPlace} (ht : P.underlying t = some (.slice e)) (h : DataW.trod enc P w base spare held fuel t cs = some x) : ∃ (a : Option Addr) (n c : Nat), cs = [.slice a n c] := by
  rcases DataW.trod_slice ht h with ⟨rfl, rfl⟩ | ⟨a, len, cap, elems, rest, n, hf, rfl, -⟩
  · exact ⟨none, 0, 0, rfl⟩
  · exact ⟨some a, len, cap, rfl⟩
set_option maxRecDepth 100000 in
theorem val_shape {fuel : Nat} {cs : List Value} {x : DataW H × List MemPlace} (h : DataW.trod enc Tryd.prog w base spare held fuel 30 cs = some x) : ∃ g : Vh, cs = g.cells.toList := by
  obtain ⟨xs, n, rfl, hx, hl, hlen, hf⟩ := DataW.trod_struct Tryd.underlying30 h
  rw [cVal] at hl
  match cs, hl with
  | [c0, c1, c2, c3, c4, c5, c6, c7, c8, c9, c10, c11, c12], _ =>
  match xs, hlen with
  | [x0, x1, x2, x3, x4, x5, x6, x7], _ =>
  obtain ⟨k, rfl, hk⟩ := int1 (n := n) (c := c0) (x := x0) (by simpa [cInt] using hf 0 _ rfl)
  obtain ⟨b, rfl⟩ := bool1 (n := n) (c := c1) (x := x1) (by simpa [cBool] using hf 1 _ rfl)
  obtain ⟨dn, dd, de, rfl, rfl, rfl, hdd, hde⟩ := dec3 (n := n) (c0 := c2) (c1 := c3) (c2 := c4) (x := x2) (by simpa [cDec] using hf 2 _ rfl)
  obtain ⟨tk, td, tn, tz, rfl, rfl, rfl, rfl, htk, htd, htn, htz⟩ := tim4 (n := n) (c0 := c5) (c1 := c6) (c2 := c7) (c3 := c8) (x := x3) (by simpa [cTim] using hf 3 _ rfl)
  obtain ⟨s, rfl, hs⟩ := str1 (n := n) (c := c9) (x := x4) (by simpa [cStr] using hf 4 _ rfl)
  have g5 : DataW.trod enc Tryd.prog w base spare held n 26 [c10] = some x5 := by simpa [cBytes] using hf 5 _ rfl
  have g6 : DataW.trod enc Tryd.prog w base spare held n 27 [c11] = some x6 := by simpa [cVals] using hf 6 _ rfl
  have g7 : DataW.trod enc Tryd.prog w base spare held n 28 [c12] = some x7 := by simpa [cFlds] using hf 7 _ rfl
  obtain ⟨ba, bn, bc, e10⟩ := slice_shape Tryd.underlying26 g5
  obtain ⟨la, ln, lc, e11⟩ := slice_shape Tryd.underlying27 g6
  obtain ⟨fa, fn, fc, e12⟩ := slice_shape Tryd.underlying28 g7
  simp only [List.cons.injEq, and_true] at e10 e11 e12
  subst e10 e11 e12
  exact ⟨⟨k, b, dn, dd, de, tk, td, tn, tz, s, ba, bn, bc, la, ln, lc, fa, fn, fc, 0, 0, 0, 0, 0, 0⟩, rfl⟩
set_option maxRecDepth 100000 in
theorem open_evt_any {r : Reach} {b0 : Nat} {v : Value} {d : DataW H} {p : List MemPlace} (hv : Value.okWide Tryd.prog w r b0 57 v) (h : DataW.Trod enc Tryd.prog w base spare held 57 v d p) :
    ∃ (k : Int) (key : ByteArray) (g : Vh), v = .agg (evc k key g) := by
  obtain ⟨cs, rfl, hl⟩ := okWide_struct Tryd.underlying57 hv
  obtain ⟨fuel, hf⟩ := h
  have hcs : (Value.agg cs).cells.toList = cs.toList := by simp [Value.cells]
  rw [hcs] at hf
  obtain ⟨xs, m, _, hx, hl2, hlen, hff⟩ := DataW.trod_struct Tryd.underlying57 hf
  rw [cEvt] at hl2
  obtain ⟨l, hll⟩ : ∃ l, cs.toList = l := ⟨_, rfl⟩
  rw [hll] at hl2 hff
  match l, hl2, xs, hlen with
  | c0 :: c1 :: rest, hl', [x0, x1, x2], _ =>
  obtain ⟨k, rfl, hk⟩ := int1 (n := m) (c := c0) (x := x0) (by simpa [cInt] using hff 0 _ rfl)
  obtain ⟨key, rfl, hkey⟩ := str1 (n := m) (c := c1) (x := x1) (by simpa [cStr] using hff 1 _ rfl)
  have hr : rest.length = 13 := by simpa using hl'
  obtain ⟨g, rfl⟩ := val_shape (cs := rest) (x := x2) (by simpa [cVal, List.take_of_length_le (Nat.le_of_eq hr)] using hff 2 _ rfl)
  refine ⟨k, key, g, ?_⟩
  rw [show cs = evc k key g from Array.toList_inj.1 (hll.trans rfl)]
end
set_option maxHeartbeats 8000000 in
set_option maxRecDepth 100000 in
theorem done_nil (W : World) : Calls Tryd.prog 24 #[.pointer none] W fun e W' => e = .returned (.tuple #[.agg #[.int .i64 0, .bool false, .bool false, .string ⟨#[]⟩, .int .i64 0, .int .i64 0, .int .i64 0, .int .i64 0, .int .i64 0, .string ⟨#[]⟩, .slice none 0 0, .slice none 0 0, .slice none 0 0], .bool false]) ∧ Below W.heap.size W W' := by
  have hb0 := (Below.refl W.heap.size W).alloc (Nat.le_refl _) (.cells Vh.zero.cells 30)
  have Q := Whole.new W 30 Vh.zero.cells
  have hone0 := Lib.hid (vh_all Vh.zero)
  simp only [Vh.cells, Vh.zero] at hb0 Q
  go_enter Tryd.func24, Tryd.ntmps24
  go_wp2_with (refine wpList_store_row rfl 30 _ _ rfl W.heap.size Vh.zero.cells rfl rfl 30 _ Q vh_row rfl hone0.out ?_)
  have Q2 := Whole.setRow Q Vh.zero.cells
  exact bodyPost_ret (v := .tuple #[.agg Vh.zero.cells, .bool false]) (ret_val2 (p := 2) (q := 3) rfl rfl Q2) rfl ⟨rfl, below_setRow hb0 (by omega) _⟩
set_option maxHeartbeats 8000000 in
set_option maxRecDepth 100000 in
theorem add_nil (k : Int) (key : ByteArray) (g : Vh) (W : World) : Calls Tryd.prog 23 #[.pointer none, .agg #[.int .i64 k, .string key, .int .i64 g.k, .bool g.b, .bool g.n, .string g.d, .int .i64 g.e, .int .i64 g.tk, .int .i64 g.td, .int .i64 g.tn, .int .i64 g.tz, .string g.x, .slice g.ba g.bn g.bc, .slice g.la g.ln g.lc, .slice g.fa g.fn g.fc]] W fun e W' => e = .returned (.int .i64 29) ∧ Below W.heap.size W W' := by
  have hb0 := (Below.refl W.heap.size W).alloc (Nat.le_refl _) (.cells #[.int .i64 k, .string key, .int .i64 g.k, .bool g.b, .bool g.n, .string g.d, .int .i64 g.e, .int .i64 g.tk, .int .i64 g.td, .int .i64 g.tn, .int .i64 g.tz, .string g.x, .slice g.ba g.bn g.bc, .slice g.la g.ln g.lc, .slice g.fa g.fn g.fc] 57)
  go_enter Tryd.func23, Tryd.ntmps23
  go_wp2
  go_ret
  exact ⟨rfl, hb0⟩
set_option maxHeartbeats 8000000 in
set_option maxRecDepth 100000 in
theorem depth_nil (W : World) : Calls Tryd.prog 26 #[.pointer none] W fun e W' => e = .returned (.int .i64 0) ∧ Below W.heap.size W W' := by
  go_enter Tryd.func26, Tryd.ntmps26
  go_wp2
  go_ret
  exact ⟨rfl, Below.refl _ _⟩
set_option maxHeartbeats 8000000 in
set_option maxRecDepth 100000 in
theorem path_nil (W : World) : Calls Tryd.prog 27 #[.pointer none] W fun e W' => e = .returned (.slice none 0 0) ∧ Below W.heap.size W W' := by
  go_enter Tryd.func27, Tryd.ntmps27
  go_wp2
  go_ret
  exact ⟨rfl, Below.refl _ _⟩
end Go.Proofs.YtpcbhneaaibfiaaDoor
/- EventNone: the walk. -/
namespace Go.Proofs.YtpcbhneaaibfiaaDoor
open Go.RowKit
set_option linter.unusedSimpArgs false
set_option linter.unusedVariables false

set_option maxHeartbeats 8000000 in
set_option maxRecDepth 100000 in
theorem walk_EventNone (k : Int) (key : ByteArray) (g : Vh) (W : World) : Calls Tryd.prog 7 #[.agg (evc k key g)] W fun e W' => e = .returned (.bool true) ∧ Below W.heap.size W W' := by
  have hb0 := (Below.refl W.heap.size W).alloc (Nat.le_refl _) (.cells (evc k key g) 57)
  have P := Whole.new W 57 (evc k key g)
  have HD := Lib.hid (fun (w : World) => done_nil w)
  have HA := Lib.hid (fun (w : World) => add_nil k key g w)
  have HDe := Lib.hid (fun (w : World) => depth_nil w)
  have HPa := Lib.hid (fun (w : World) => path_nil w)
  have HLiv := Lib.hid (fun (w : World) => lives_any w)
  have HS := Lib.hid (fun (w : World) => (show Calls Tryd.prog 17 #[.agg #[.int .i64 0, .bool false, .bool false, .string ⟨#[]⟩, .int .i64 0, .int .i64 0, .int .i64 0, .int .i64 0, .int .i64 0, .string ⟨#[]⟩, .slice none 0 0, .slice none 0 0, .slice none 0 0], .agg #[.int .i64 0, .bool false, .bool false, .string ⟨#[]⟩, .int .i64 0, .int .i64 0, .int .i64 0, .int .i64 0, .int .i64 0, .string ⟨#[]⟩, .slice none 0 0, .slice none 0 0, .slice none 0 0]] w (fun r w' => r = .returned (.bool true) ∧ Below w.heap.size w w') from by
    have h := same_any Vt.z Vt.z w.heap.size w (Vt.z_in _ _) (Vt.z_in _ _) (Nat.le_refl _)
    rw [sameB_iff.2 Vt.z_same] at h
    exact h))
  simp only [evc] at hb0 P ⊢
  go_enter Tryd.func7, Tryd.ntmps7
  go_wp2_with fail
  refine (HD.out _).mono ?_; rintro _ w1 ⟨rfl, hb1⟩
  have P1 := P.below hb1 P.lt
  have g1 := (below_then hb0 hb1).alloc (Nat.le_trans hb0.size hb1.size) (.cells #[.int .i64 0, .bool false, .bool false, .string ⟨#[]⟩, .int .i64 0, .int .i64 0, .int .i64 0, .int .i64 0, .int .i64 0, .string ⟨#[]⟩, .slice none 0 0, .slice none 0 0, .slice none 0 0] 30)
  have P2 := P1.alloc (.cells #[.int .i64 0, .bool false, .bool false, .string ⟨#[]⟩, .int .i64 0, .int .i64 0, .int .i64 0, .int .i64 0, .int .i64 0, .string ⟨#[]⟩, .slice none 0 0, .slice none 0 0, .slice none 0 0] 30)
  have N2 := Whole.new w1 30 #[.int .i64 0, .bool false, .bool false, .string ⟨#[]⟩, .int .i64 0, .int .i64 0, .int .i64 0, .int .i64 0, .int .i64 0, .string ⟨#[]⟩, .slice none 0 0, .slice none 0 0, .slice none 0 0]
  have hl2 : Hid (w1.heap.size < (w1.alloc (.cells #[.int .i64 0, .bool false, .bool false, .string ⟨#[]⟩, .int .i64 0, .int .i64 0, .int .i64 0, .int .i64 0, .int .i64 0, .string ⟨#[]⟩, .slice none 0 0, .slice none 0 0, .slice none 0 0] 30)).heap.size) := Lib.hid (by rw [World.size_alloc]; omega)
  obtain ⟨e0, e1, e2, e3, e4, e5, e6, e7, e8, e9, e10, e11, e12, e13, e14⟩ := Whole.e15 (g := g) P2
  clear HD hb0 hb1 P P1 P2
  go_wp2_with fail
  refine (HA.out _).mono ?_; rintro _ w3 ⟨rfl, hb3⟩
  have g3 := below_then g1 hb3
  have N3 := N2.below hb3 hl2.out
  obtain ⟨c0, c1, c2, c3, c4, c5, c6, c7, c8, c9, c10, c11, c12⟩ := Whole.c13 (h := Vh.zero) N3
  simp only [Vh.zero] at c0 c1 c2 c3 c4 c5 c6 c7 c8 c9 c10 c11 c12
  clear HA hb3 g1 N2 N3 hl2 e0 e1 e2 e3 e4 e5 e6 e7 e8 e9 e10 e11 e12 e13 e14
  go_wp2_with fail
  refine (HS.out _).mono ?_; rintro _ w4 ⟨rfl, hb4⟩
  have g4 := below_then g3 hb4
  clear HS hb4 g3 c0 c1 c2 c3 c4 c5 c6 c7 c8 c9 c10 c11 c12
  go_wp2_with fail
  refine (HDe.out _).mono ?_; rintro _ w5 ⟨rfl, hb5⟩
  have g5 := below_then g4 hb5
  clear HDe hb5 g4
  go_wp2_with fail
  refine (HPa.out _).mono ?_; rintro _ w6 ⟨rfl, hb6⟩
  have g6 := below_then g5 hb6
  clear HPa hb6 g5
  go_wp2_with fail
  refine (HLiv.out _).mono ?_; rintro _ w7 ⟨rfl, hb7⟩
  have g7 := below_then g6 hb7
  clear HLiv hb7 g6
  go_wp2
  (first | exact ⟨rfl, g7⟩ | (go_ret; exact ⟨rfl, g7⟩))
end Go.Proofs.YtpcbhneaaibfiaaDoor
