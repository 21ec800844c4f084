/- Laid together for a claim: EvM, VtOwn, VtBytes, EvPlain, VtKeys, DigMath, DigMathB. -/
import Derived.Test.YtpcbhneaaibfiaaDoorQB04
import Derived.Test.YtpcbhneaaibfiaaDoorQB01
import Derived.Lib.Hide
import Derived.Laws.BytesArg
import Derived.BigRegion
import Derived.Deep.Cut
import Derived.Deep.DeepCutAuto
import Derived.WalkKit
set_option linter.unusedVariables false
set_option linter.unusedSimpArgs false
namespace Go.Proofs.YtpcbhneaaibfiaaDoor
open Go.ChangeShapes Go.WideShapes Go.Joins Go.Deep Go.RowKit
structure Ev where
  k : Int
  key : ByteArray
  V : Vt
instance : Inhabited Ev := ⟨⟨0, ByteArray.empty, .nil⟩⟩
def evc (k : Int) (key : ByteArray) (g : Vh) : Array Value := #[.int .i64 k, .string key, .int .i64 g.k, .bool g.b, .bool g.n, .string g.d, .int .i64 g.e, .int .i64 g.tk, .int .i64 g.td, .int .i64 g.tn, .int .i64 g.tz, .string g.x, .slice g.ba g.bn g.bc, .slice g.la g.ln g.lc, .slice g.fa g.fn g.fc]
def Ev.cells (x : Ev) : Array Value := evc x.k x.key x.V.h
structure Ev.ok (x : Ev) : Prop where
  k : w64 x.k
  key : x.key.size ≤ 1048576
theorem evc_size (k : Int) (key : ByteArray) (g : Vh) : (evc k key g).size = 15 := rfl
theorem evc_one (x : Ev) : ∀ u ∈ x.cells.toList, u.oneCell' = true := by
  intro u hu
  simp only [Ev.cells, evc] at hu
  simp only [List.mem_cons, List.mem_nil_iff, or_false] at hu
  rcases hu with rfl | rfl | rfl | rfl | rfl | rfl | rfl | rfl | rfl | rfl | rfl | rfl | rfl | rfl | rfl <;> rfl
structure Evs where
  a : Option Addr
  n : Nat
  c : Nat
  b : Nat
  o : Nat
  S : Nat → Ev
def Evs.In (W : World) (top : Nat) (p : Evs) : Prop := (0 < p.n → p.a = some ⟨p.b, p.o, none⟩ ∧ p.b < top) ∧ (p.n ≤ 1048576 ∧ p.n ≤ p.c ∧ p.c ≤ maxLen) ∧ ∀ i, i < p.n → LiesAt W p.b (p.o + i * 15) (p.S i).cells ∧ (p.S i).ok ∧ (p.S i).V.In W top
theorem Evs.In.below {W W' : World} {top : Nat} {p : Evs} (h : p.In W top) (hb : Below top W W') : p.In W' top :=
  ⟨h.1, h.2.1, fun i hi => ⟨(h.2.2 i hi).1.below hb (h.1 (by omega)).2, (h.2.2 i hi).2.1, Vt.In.below hb (h.2.2 i hi).2.2⟩⟩
theorem Evs.In.up {W : World} {top top' : Nat} {p : Evs} (h : p.In W top) (hle : top ≤ top') : p.In W top' :=
  ⟨fun q => ⟨(h.1 q).1, Nat.lt_of_lt_of_le (h.1 q).2 hle⟩, h.2.1, fun i hi => ⟨(h.2.2 i hi).1, (h.2.2 i hi).2.1, (h.2.2 i hi).2.2.up hle⟩⟩
theorem LiesAt.e15 {W : World} {b o : Nat} {k : Int} {key : ByteArray} {g : Vh} (H : LiesAt W b o (evc k key g)) :
    W.cell? ⟨b, o, none⟩ = some (.int .i64 k) ∧ W.cell? ⟨b, o + 1, none⟩ = some (.string key) ∧ W.cell? ⟨b, o + 2, none⟩ = some (.int .i64 g.k) ∧ W.cell? ⟨b, o + 3, none⟩ = some (.bool g.b) ∧ W.cell? ⟨b, o + 4, none⟩ = some (.bool g.n) ∧ W.cell? ⟨b, o + 5, none⟩ = some (.string g.d) ∧ W.cell? ⟨b, o + 6, none⟩ = some (.int .i64 g.e) ∧ W.cell? ⟨b, o + 7, none⟩ = some (.int .i64 g.tk) ∧ W.cell? ⟨b, o + 8, none⟩ = some (.int .i64 g.td) ∧ W.cell? ⟨b, o + 9, none⟩ = some (.int .i64 g.tn) ∧ W.cell? ⟨b, o + 10, none⟩ = some (.int .i64 g.tz) ∧ W.cell? ⟨b, o + 11, none⟩ = some (.string g.x) ∧ W.cell? ⟨b, o + 12, none⟩ = some (.slice g.ba g.bn g.bc) ∧ W.cell? ⟨b, o + 13, none⟩ = some (.slice g.la g.ln g.lc) ∧ W.cell? ⟨b, o + 14, none⟩ = some (.slice g.fa g.fn g.fc) :=
  have z : (evc k key g).size = 15 := rfl
  ⟨H 0 (by omega), H 1 (by omega), H 2 (by omega), H 3 (by omega), H 4 (by omega), H 5 (by omega), H 6 (by omega), H 7 (by omega), H 8 (by omega), H 9 (by omega), H 10 (by omega), H 11 (by omega), H 12 (by omega), H 13 (by omega), H 14 (by omega)⟩
theorem Whole.e15 {W : World} {B : Nat} {t : TypeId} {k : Int} {key : ByteArray} {g : Vh} (H : Whole W B t (evc k key g)) :
    W.cell? ⟨B, 0, none⟩ = some (.int .i64 k) ∧ W.cell? ⟨B, 1, none⟩ = some (.string key) ∧ W.cell? ⟨B, 2, none⟩ = some (.int .i64 g.k) ∧ W.cell? ⟨B, 3, none⟩ = some (.bool g.b) ∧ W.cell? ⟨B, 4, none⟩ = some (.bool g.n) ∧ W.cell? ⟨B, 5, none⟩ = some (.string g.d) ∧ W.cell? ⟨B, 6, none⟩ = some (.int .i64 g.e) ∧ W.cell? ⟨B, 7, none⟩ = some (.int .i64 g.tk) ∧ W.cell? ⟨B, 8, none⟩ = some (.int .i64 g.td) ∧ W.cell? ⟨B, 9, none⟩ = some (.int .i64 g.tn) ∧ W.cell? ⟨B, 10, none⟩ = some (.int .i64 g.tz) ∧ W.cell? ⟨B, 11, none⟩ = some (.string g.x) ∧ W.cell? ⟨B, 12, none⟩ = some (.slice g.ba g.bn g.bc) ∧ W.cell? ⟨B, 13, none⟩ = some (.slice g.la g.ln g.lc) ∧ W.cell? ⟨B, 14, none⟩ = some (.slice g.fa g.fn g.fc) :=
  ⟨H.cell 0, H.cell 1, H.cell 2, H.cell 3, H.cell 4, H.cell 5, H.cell 6, H.cell 7, H.cell 8, H.cell 9, H.cell 10, H.cell 11, H.cell 12, H.cell 13, H.cell 14⟩
theorem cEvt : Tryd.prog.cellsOf 57 = 15 := by kernel_rfl
section
variable {H : Type} {enc : TypeId × Value → H} {w : World} {base : Nat} {spare : Nat → Bool} {held : Bool}
set_option maxRecDepth 100000 in
theorem evt15 {n : Nat} {cs : List Value} {x : DataW H × List MemPlace} (hl : cs.length = 15) (h : DataW.trod enc Tryd.prog w base spare held n 57 cs = some x) (hM : Rows.uptoBulk x.1 ≤ 1048576) : ∃ s : Ev, cs = s.cells.toList ∧ s.ok ∧ s.V.In w w.heap.size := by
  match cs, hl with
  | c0 :: c1 :: rest, hl' =>
  obtain ⟨xs, m, _, hx, _, hlen, hf⟩ := DataW.trod_struct Tryd.underlying57 h
  match xs, hlen with
  | [x0, x1, x2], _ =>
  rw [hx] at hM
  simp only [List.map_cons, List.map_nil, Rows.uptoBulk, Rows.uptoBulkAll] at hM
  obtain ⟨k, rfl, hk⟩ := int1 (n := m) (c := c0) (x := x0) (by simpa [cInt] using hf 0 _ rfl)
  obtain ⟨key, rfl, hkey⟩ := str1 (n := m) (c := c1) (x := x1) (by simpa [cStr] using hf 1 _ rfl)
  have hr : rest.length = 13 := by simpa using hl'
  obtain ⟨T, rfl, hT⟩ := val13 m (cs := rest) (x := x2) (by simpa [cVal, List.take_of_length_le (Nat.le_of_eq hr)] using hf 2 _ rfl) (by omega)
  exact ⟨⟨k, key, T⟩, rfl, ⟨hk, by dsimp only; omega⟩, hT⟩
set_option maxRecDepth 100000 in
theorem open_events {r : Reach} {b0 : Nat} {v : Value} {d : DataW H} {p : List MemPlace} (hv : Value.okWide Tryd.prog w r b0 34 v) (h : DataW.Trod enc Tryd.prog w base spare held 34 v d p) (hM : Rows.uptoBulk d ≤ 1048576) :
    ∃ q : Evs, v = .slice q.a q.n q.c ∧ q.In w w.heap.size := by
  obtain ⟨a', len', cap', rfl⟩ := okWide_slice Tryd.underlying34 hv
  obtain ⟨fuel, hf⟩ := h
  obtain ⟨a, len, cap, b, o, S, hcs, hcc, hn, ha, hS⟩ := row_down (α := Ev) (fun B O z => LiesAt w B O z.cells ∧ z.ok ∧ z.V.In w w.heap.size) Tryd.underlying34 cEvt (by omega) hf (fun B O m cs' y _ hl' hc hy hyM => by
    obtain ⟨s, rfl, hs1, hs2⟩ := evt15 hl' hy hyM
    exact ⟨s, fun j hj => by rw [hc j hj, Array.getElem?_toList], hs1, hs2⟩) hM
  have e : Value.slice a' len' cap' = .slice a len cap := by
    simp only [Value.cells, List.cons.injEq, and_true] at hcs
    exact hcs
  exact ⟨⟨a, len, cap, b, o, S⟩, e, ha, ⟨hn, hcc⟩, hS⟩
end
end Go.Proofs.YtpcbhneaaibfiaaDoor
namespace Go.Proofs.YtpcbhneaaibfiaaDoor
open Go.RowKit
def ownB (k : Int) (b nz tz xz yz lz fz : Bool) : Bool :=
  decide (0 ≤ k) && decide (k ≤ 7) && (decide (k = 1) || !b) && (decide (k = 2) || nz) && (decide (k = 3) || tz) && (decide (k = 4) || xz) && (decide (k = 5) || yz) && (decide (k = 6) || lz) && (decide (k = 7) || fz)
def Vh.nz (h : Vh) : Bool := !h.n && h.d.toList.isEmpty && decide (h.e = 0)
def Vh.tz0 (h : Vh) : Bool := decide (h.tk = 0) && decide (h.td = 0) && decide (h.tn = 0) && decide (h.tz = 0)
def Vh.own (h : Vh) : Bool := ownB h.k h.b h.nz h.tz0 h.x.toList.isEmpty (decide (h.bn = 0)) (decide (h.ln = 0)) (decide (h.fn = 0))
theorem num_neq (a : Bool) (s : ByteArray) (e : Int) (W : World) : (binOp .neq 23 (.agg #[.bool a, .string s, .int .i64 e]) (.agg #[.bool false, .string ⟨#[]⟩, .int .i64 0])).run Tryd.prog W = .ok (.bool (!(!a && s.toList.isEmpty && decide (e = 0)))) W := by
  cases a
  · cases h2 : s.toList with
    | nil =>
      by_cases h3 : e = 0
      · subst h3
        simp [go_sem, h2]
      · simp [go_sem, h2, h3]
    | cons x l => simp [go_sem, h2]
  · simp [go_sem]
theorem tim_neq (a b c d : Int) (W : World) : (binOp .neq 25 (.agg #[.int .i64 a, .int .i64 b, .int .i64 c, .int .i64 d]) (.agg #[.int .i64 0, .int .i64 0, .int .i64 0, .int .i64 0])).run Tryd.prog W = .ok (.bool (!(decide (a = 0) && decide (b = 0) && decide (c = 0) && decide (d = 0)))) W := by
  by_cases h1 : a = 0
  · by_cases h2 : b = 0
    · by_cases h3 : c = 0
      · by_cases h4 : d = 0
        · subst h1 h2 h3 h4
          simp [go_sem]
        · simp [go_sem, h1, h2, h3, h4]
      · simp [go_sem, h1, h2, h3]
    · simp [go_sem, h1, h2]
  · simp [go_sem, h1]
set_option maxHeartbeats 4000000 in
set_option maxRecDepth 100000 in
theorem own_any (h : Vh) (hk : w64 h.k) (w : World) :
    Calls Tryd.prog 71 #[.agg h.cells] w fun r w' => r = .returned (.bool h.own) ∧ Below w.heap.size w w' := by
  obtain ⟨k, b, n, d, e, tk, td, tn, tz, x, ba, bn, bc, la, ln, lc, fa, fn, fc, bb, bo, lb, lo, fb, fo⟩ := h
  have qn := num_neq n d e
  have qt := tim_neq tk td tn tz
  have hs : Vh.own ⟨k, b, n, d, e, tk, td, tn, tz, x, ba, bn, bc, la, ln, lc, fa, fn, fc, bb, bo, lb, lo, fb, fo⟩ = ownB k b (!n && d.toList.isEmpty && decide (e = 0)) (decide (tk = 0) && decide (td = 0) && decide (tn = 0) && decide (tz = 0)) x.toList.isEmpty (decide (bn = 0)) (decide (ln = 0)) (decide (fn = 0)) := rfl
  rw [hs]
  clear hs
  generalize (!n && d.toList.isEmpty && decide (e = 0)) = nz at *
  generalize (decide (tk = 0) && decide (td = 0) && decide (tn = 0) && decide (tz = 0)) = tz0 at *
  obtain ⟨xz, hx⟩ : ∃ c, x.toList.isEmpty = c := ⟨_, rfl⟩
  obtain ⟨yz, hy⟩ : ∃ c, decide (bn = 0) = c := ⟨_, rfl⟩
  obtain ⟨lz, hl⟩ : ∃ c, decide (ln = 0) = c := ⟨_, rfl⟩
  obtain ⟨fz, hf⟩ : ∃ c, decide (fn = 0) = c := ⟨_, rfl⟩
  rw [hx, hy, hl, hf]
  simp only [Vh.cells]
  dsimp only at hk
  have hk1 := hk.1
  have hk2 := hk.2
  clear hk
  obtain ⟨R, hR⟩ : ∃ R, ownB k b nz tz0 xz yz lz fz = R := ⟨_, rfl⟩
  rw [hR]
  have HR := Lib.hid hR
  clear hR
  have far : (k < 0 ∨ 7 < k) ∨ k = 0 ∨ k = 1 ∨ k = 2 ∨ k = 3 ∨ k = 4 ∨ k = 5 ∨ k = 6 ∨ k = 7 := by omega
  rcases far with (c | c) | rfl | rfl | rfl | rfl | rfl | rfl | rfl | rfl
  · go_enter Tryd.func71, Tryd.ntmps71
    go_wp2
    all_goals (go_ret; refine ⟨?_, (Below.refl w.heap.size w).alloc (Nat.le_refl _) _⟩; rw [← HR.out]; simp [ownB]; try omega)
  · go_enter Tryd.func71, Tryd.ntmps71
    go_wp2
    all_goals (go_ret; refine ⟨?_, (Below.refl w.heap.size w).alloc (Nat.le_refl _) _⟩; rw [← HR.out]; simp [ownB]; try omega)
  · go_enter Tryd.func71, Tryd.ntmps71
    go_wp2
    all_goals first
      | done
      | (go_ret
         refine ⟨?_, (Below.refl w.heap.size w).alloc (Nat.le_refl _) _⟩
         rw [← HR.out]
         simp_all [ownB]
         try (rw [← hf]; simp [Bool.beq_eq_decide_eq]))
  · go_enter Tryd.func71, Tryd.ntmps71
    go_wp2
    all_goals first
      | done
      | (go_ret
         refine ⟨?_, (Below.refl w.heap.size w).alloc (Nat.le_refl _) _⟩
         rw [← HR.out]
         simp_all [ownB]
         try (rw [← hf]; simp [Bool.beq_eq_decide_eq]))
  · go_enter Tryd.func71, Tryd.ntmps71
    go_wp2
    all_goals first
      | done
      | (go_ret
         refine ⟨?_, (Below.refl w.heap.size w).alloc (Nat.le_refl _) _⟩
         rw [← HR.out]
         simp_all [ownB]
         try (rw [← hf]; simp [Bool.beq_eq_decide_eq]))
  · go_enter Tryd.func71, Tryd.ntmps71
    go_wp2
    all_goals first
      | done
      | (go_ret
         refine ⟨?_, (Below.refl w.heap.size w).alloc (Nat.le_refl _) _⟩
         rw [← HR.out]
         simp_all [ownB]
         try (rw [← hf]; simp [Bool.beq_eq_decide_eq]))
  · go_enter Tryd.func71, Tryd.ntmps71
    go_wp2
    all_goals first
      | done
      | (go_ret
         refine ⟨?_, (Below.refl w.heap.size w).alloc (Nat.le_refl _) _⟩
         rw [← HR.out]
         simp_all [ownB]
         try (rw [← hf]; simp [Bool.beq_eq_decide_eq]))
  · go_enter Tryd.func71, Tryd.ntmps71
    go_wp2
    all_goals first
      | done
      | (go_ret
         refine ⟨?_, (Below.refl w.heap.size w).alloc (Nat.le_refl _) _⟩
         rw [← HR.out]
         simp_all [ownB]
         try (rw [← hf]; simp [Bool.beq_eq_decide_eq]))
  · go_enter Tryd.func71, Tryd.ntmps71
    go_wp2
    all_goals first
      | done
      | (go_ret
         refine ⟨?_, (Below.refl w.heap.size w).alloc (Nat.le_refl _) _⟩
         rw [← HR.out]
         simp_all [ownB]
         try (rw [← hf]; simp [Bool.beq_eq_decide_eq]))
  · go_enter Tryd.func71, Tryd.ntmps71
    go_wp2
    all_goals first
      | done
      | (go_ret
         refine ⟨?_, (Below.refl w.heap.size w).alloc (Nat.le_refl _) _⟩
         rw [← HR.out]
         simp_all [ownB]
         try (rw [← hf]; simp [Bool.beq_eq_decide_eq]))
def Vt.bs (T : Vt) : ByteArray := strOfNums ((List.range T.h.bn).map T.Y)
theorem conv_bs {W : World} {top : Nat} {T : Vt} (hT : T.In W top) : (convert 26 9 (.slice T.h.ba T.h.bn T.h.bc)).run Tryd.prog W = .ok (.string T.bs) W := by
  cases T with
  | nil => exact hT.elim
  | mk h Y L K F =>
    obtain ⟨_, h1, h2, _⟩ := hT
    unfold Vt.bs
    simp only [Vt.h, Vt.Y]
    by_cases hz : h.bn = 0
    · rw [hz]
      have e0 : strOfNums ((List.range 0).map Y) = ByteArray.empty := rfl
      rw [e0]
      cases hb : h.ba with
      | none => exact run_convert_bytes_nil W 26 5 Tryd.underlying26 Tryd.underlying5 0 h.bc _ Tryd.underlying9
      | some a =>
        rw [run_convert_bytes_string W 26 9 5 _ 0 h.bc Tryd.underlying26 Tryd.underlying5 Tryd.underlying9,
          run_bytesToString W a 0 h.bc [] (by simp [loadCells, loadCellsFrom])]
        rfl
    · obtain ⟨hba, _⟩ := h1 (by omega)
      rw [hba]
      exact run_convert_bytes_arg W 26 5 Tryd.underlying26 Tryd.underlying5 h.bb h.bo h.bn h.bc _ (by simp) (fun i hi => by
        rw [(h2 i hi).1]
        simp [List.getD, hi]) _ Tryd.underlying9
theorem byte_inj {a b : Int} (a0 : 0 ≤ a) (a1 : a < 256) (b0 : 0 ≤ b) (b1 : b < 256) (h : UInt8.ofNat a.toNat = UInt8.ofNat b.toNat) : a = b := by
  have := congrArg UInt8.toNat h
  simp only [UInt8.toNat_ofNat'] at this
  omega
theorem bs_eq {W V : World} {t u : Nat} {T U : Vt} (hT : T.In W t) (hU : U.In V u) : T.bs = U.bs ↔ T.h.bn = U.h.bn ∧ ∀ i, i < T.h.bn → T.Y i = U.Y i := by
  have bT : ∀ i, i < T.h.bn → 0 ≤ T.Y i ∧ T.Y i < 256 := by
    cases T with
    | nil => exact hT.elim
    | mk h Y L K F => exact fun i hi => (hT.2.2.1 i hi).2
  have bU : ∀ i, i < U.h.bn → 0 ≤ U.Y i ∧ U.Y i < 256 := by
    cases U with
    | nil => exact hU.elim
    | mk h Y L K F => exact fun i hi => (hU.2.2.1 i hi).2
  constructor
  · intro h
    have h2 : T.bs.data.toList = U.bs.data.toList := by rw [h]
    unfold Vt.bs at h2
    rw [strOfNums_data, strOfNums_data] at h2
    have hl := congrArg List.length h2
    simp only [List.length_map, List.length_range] at hl
    refine ⟨hl, fun i hi => ?_⟩
    have h3 := congrArg (fun l => l[i]?) h2
    simp only [List.map_map, List.getElem?_map, List.getElem?_range hi, List.getElem?_range (show i < U.h.bn by omega), Option.map_some, Option.some.injEq, Function.comp] at h3
    have a := bT i hi
    have b := bU i (by omega)
    exact byte_inj a.1 a.2 b.1 b.2 h3
  · rintro ⟨h1, h2⟩
    unfold Vt.bs
    rw [← h1]
    congr 1
    exact List.map_congr_left fun i hi => h2 i (List.mem_range.1 hi)
theorem num_neq2 (a : Bool) (s : ByteArray) (e : Int) (a' : Bool) (s' : ByteArray) (e' : Int) (W : World) : (binOp .neq 23 (.agg #[.bool a, .string s, .int .i64 e]) (.agg #[.bool a', .string s', .int .i64 e'])).run Tryd.prog W = .ok (.bool (!(decide (a = a' ∧ s.toList = s'.toList ∧ e = e')))) W := by
  by_cases h1 : a = a'
  · subst h1
    by_cases h2 : s.toList = s'.toList
    · by_cases h3 : e = e'
      · subst h3
        simp [go_sem, h2]
      · simp [go_sem, h2, h3]
    · simp [go_sem, h2]
  · simp [go_sem, h1]
theorem tim_neq2 (a b c d a' b' c' d' : Int) (W : World) : (binOp .neq 25 (.agg #[.int .i64 a, .int .i64 b, .int .i64 c, .int .i64 d]) (.agg #[.int .i64 a', .int .i64 b', .int .i64 c', .int .i64 d'])).run Tryd.prog W = .ok (.bool (!(decide (a = a' ∧ b = b' ∧ c = c' ∧ d = d')))) W := by
  by_cases h1 : a = a'
  · by_cases h2 : b = b'
    · by_cases h3 : c = c'
      · by_cases h4 : d = d'
        · subst h1 h2 h3 h4
          simp [go_sem]
        · simp [go_sem, h1, h2, h3, h4]
      · simp [go_sem, h1, h2, h3]
    · simp [go_sem, h1, h2]
  · simp [go_sem, h1]
theorem ba_eq {s t : ByteArray} (h : s.toList = t.toList) : s = t := by
  rw [Lib.toList_data, Lib.toList_data] at h
  exact ByteArray.ext (Array.ext' h)
def Vt.z : Vt := .mk Vh.zero (fun _ => 0) (fun _ => .nil) (fun _ => ByteArray.empty) (fun _ => .nil)
theorem Vt.z_in (W : World) (top : Nat) : Vt.z.In W top := by
  refine ⟨⟨?_, ?_, ?_, ?_, ?_, ?_, ?_, ?_, ?_, ?_, ?_, ?_, ?_⟩, fun h => absurd h (Nat.lt_irrefl _), fun i h => absurd h (Nat.not_lt_zero _), fun h => absurd h (Nat.lt_irrefl _), fun i h => absurd h (Nat.not_lt_zero _), fun h => absurd h (Nat.lt_irrefl _), fun i h => absurd h (Nat.not_lt_zero _)⟩ <;> simp [Vh.zero, w64, ByteArray.size]
theorem Vt.z_same : Vt.z.Same Vt.z := Vt.Same.rfl' (Vt.In.whole (Vt.z_in default 0))
def Vh.plain (h : Vh) : Bool := decide (h.k = 0) && !h.b && h.nz && h.tz0 && h.x.toList.isEmpty && decide (h.bn = 0) && decide (h.ln = 0) && decide (h.fn = 0)
theorem ba_emp {s : ByteArray} : s.toList.isEmpty = true ↔ s = ⟨#[]⟩ := by
  constructor
  · intro h
    have h' : s.toList = [] := by simpa using h
    rw [Lib.toList_data] at h'
    exact ByteArray.ext (Array.toList_inj.1 h')
  · rintro rfl
    rw [Lib.toList_data]
    rfl
theorem plain_same {T : Vt} (hT : T ≠ .nil) : T.h.plain = true ↔ T.Same Vt.z := by
  cases T with
  | nil => exact absurd rfl hT
  | mk h Y L K F =>
    show h.plain = true ↔ _
    constructor
    · intro q
      unfold Vh.plain Vh.nz Vh.tz0 at q
      simp only [Bool.and_eq_true, decide_eq_true_eq, Bool.not_eq_true'] at q
      obtain ⟨⟨⟨⟨⟨⟨⟨q1, q2⟩, ⟨q3, q4⟩, q5⟩, ⟨⟨q6, q7⟩, q8⟩, q9⟩, q10⟩, q11⟩, q12⟩, q13⟩ := q
      exact ⟨(fun e => by cases e), ⟨q1, q2, q3, ba_emp.1 q4, q5, q6, q7, q8, q9, ba_emp.1 q10, q11, q12, q13⟩, fun i hi => by rw [q11] at hi; exact absurd hi (Nat.not_lt_zero _), fun i hi => by rw [q12] at hi; exact absurd hi (Nat.not_lt_zero _), fun i hi => by rw [q13] at hi; exact absurd hi (Nat.not_lt_zero _)⟩
    · intro q
      obtain ⟨q1, q2, q3, q4, q5, q6, q7, q8, q9, q10, q11, q12, q13⟩ := q.flat
      unfold Vh.plain Vh.nz Vh.tz0
      simp only [Bool.and_eq_true, decide_eq_true_eq, Bool.not_eq_true']
      exact ⟨⟨⟨⟨⟨⟨⟨q1, q2⟩, ⟨q3, ba_emp.2 q4⟩, q5⟩, ⟨⟨q6, q7⟩, q8⟩, q9⟩, ba_emp.2 q10⟩, q11⟩, q12⟩, q13⟩
theorem num_eql (a : Bool) (s : ByteArray) (e : Int) (W : World) : (binOp .eql 23 (.agg #[.bool a, .string s, .int .i64 e]) (.agg #[.bool false, .string ⟨#[]⟩, .int .i64 0])).run Tryd.prog W = .ok (.bool (!a && s.toList.isEmpty && decide (e = 0))) W := by
  cases a
  · cases h2 : s.toList with
    | nil =>
      by_cases h3 : e = 0
      · subst h3
        simp [go_sem, h2]
      · simp [go_sem, h2, h3]
    | cons x l => simp [go_sem, h2]
  · simp [go_sem]
theorem tim_eql (a b c d : Int) (W : World) : (binOp .eql 25 (.agg #[.int .i64 a, .int .i64 b, .int .i64 c, .int .i64 d]) (.agg #[.int .i64 0, .int .i64 0, .int .i64 0, .int .i64 0])).run Tryd.prog W = .ok (.bool (decide (a = 0) && decide (b = 0) && decide (c = 0) && decide (d = 0))) W := by
  by_cases h1 : a = 0
  · by_cases h2 : b = 0
    · by_cases h3 : c = 0
      · by_cases h4 : d = 0
        · subst h1 h2 h3 h4
          simp [go_sem]
        · simp [go_sem, h1, h2, h3, h4]
      · simp [go_sem, h1, h2, h3]
    · simp [go_sem, h1, h2]
  · simp [go_sem, h1]
set_option maxHeartbeats 4000000 in
set_option maxRecDepth 100000 in
theorem plain_any (h : Vh) (hk : w64 h.k) (w : World) :
    Calls Tryd.prog 60 #[.agg h.cells] w fun r w' => r = .returned (.bool h.plain) ∧ Below w.heap.size w w' := by
  obtain ⟨k, b, n, d, e, tk, td, tn, tz, x, ba, bn, bc, la, ln, lc, fa, fn, fc, bb, bo, lb, lo, fb, fo⟩ := h
  have qn := num_eql n d e
  have qt := tim_eql tk td tn tz
  have hs : Vh.plain ⟨k, b, n, d, e, tk, td, tn, tz, x, ba, bn, bc, la, ln, lc, fa, fn, fc, bb, bo, lb, lo, fb, fo⟩ = (decide (k = 0) && !b && (!n && d.toList.isEmpty && decide (e = 0)) && (decide (tk = 0) && decide (td = 0) && decide (tn = 0) && decide (tz = 0)) && x.toList.isEmpty && decide (bn = 0) && decide (ln = 0) && decide (fn = 0)) := rfl
  rw [hs]
  clear hs
  generalize (!n && d.toList.isEmpty && decide (e = 0)) = nz at *
  generalize (decide (tk = 0) && decide (td = 0) && decide (tn = 0) && decide (tz = 0)) = tz0 at *
  obtain ⟨kz, hkz⟩ : ∃ c, decide (k = 0) = c := ⟨_, rfl⟩
  obtain ⟨xz, hx⟩ : ∃ c, x.toList.isEmpty = c := ⟨_, rfl⟩
  obtain ⟨yz, hy⟩ : ∃ c, decide (bn = 0) = c := ⟨_, rfl⟩
  obtain ⟨lz, hl⟩ : ∃ c, decide (ln = 0) = c := ⟨_, rfl⟩
  obtain ⟨fz, hf⟩ : ∃ c, decide (fn = 0) = c := ⟨_, rfl⟩
  rw [hkz, hx, hy, hl, hf]
  have hk2 : (k == 0) = kz := by rw [← hkz]; by_cases q : k = 0 <;> simp [q]
  have hx2 : (x.toList == ([] : List UInt8)) = xz := by rw [← hx]; cases x.toList <;> rfl
  have hy2 : ((bn : Int) == 0) = yz := by rw [← hy]; by_cases q : bn = 0 <;> simp [q]
  have hl2 : ((ln : Int) == 0) = lz := by rw [← hl]; by_cases q : ln = 0 <;> simp [q]
  have hf2 : ((fn : Int) == 0) = fz := by rw [← hf]; by_cases q : fn = 0 <;> simp [q]
  have hy3 : (bn == 0) = yz := by rw [← hy]; by_cases q : bn = 0 <;> simp [q]
  have hl3 : (ln == 0) = lz := by rw [← hl]; by_cases q : ln = 0 <;> simp [q]
  have hf3 : (fn == 0) = fz := by rw [← hf]; by_cases q : fn = 0 <;> simp [q]
  clear hkz hx hy hl hf hk
  simp only [Vh.cells]
  cases kz
  · go_enter Tryd.func60, Tryd.ntmps60
    go_upto_region 2 with (fail)
    try simp only [List.append]
    go_wp2
    go_ret
    exact ⟨rfl, (Below.refl w.heap.size w).alloc (Nat.le_refl _) _⟩
  · cases b
    · cases nz
      · go_enter Tryd.func60, Tryd.ntmps60
        go_upto_region 2 with (fail)
        try simp only [List.append]
        go_wp2
        go_ret
        exact ⟨rfl, (Below.refl w.heap.size w).alloc (Nat.le_refl _) _⟩
      · cases tz0
        · go_enter Tryd.func60, Tryd.ntmps60
          go_upto_region 2 with (fail)
          try simp only [List.append]
          go_wp2
          go_ret
          exact ⟨rfl, (Below.refl w.heap.size w).alloc (Nat.le_refl _) _⟩
        · cases xz
          · go_enter Tryd.func60, Tryd.ntmps60
            go_upto_region 2 with (fail)
            try simp only [List.append]
            go_wp2
            go_ret
            exact ⟨rfl, (Below.refl w.heap.size w).alloc (Nat.le_refl _) _⟩
          · cases yz
            · go_enter Tryd.func60, Tryd.ntmps60
              go_upto_region 2 with (fail)
              try simp only [List.append]
              go_wp2
              go_ret
              exact ⟨rfl, (Below.refl w.heap.size w).alloc (Nat.le_refl _) _⟩
            · cases lz
              · go_enter Tryd.func60, Tryd.ntmps60
                go_upto_region 2 with (fail)
                try simp only [List.append]
                go_wp2
                go_ret
                exact ⟨rfl, (Below.refl w.heap.size w).alloc (Nat.le_refl _) _⟩
              · cases fz
                · go_enter Tryd.func60, Tryd.ntmps60
                  go_upto_region 2 with (fail)
                  try simp only [List.append]
                  go_wp2
                  go_ret
                  exact ⟨rfl, (Below.refl w.heap.size w).alloc (Nat.le_refl _) _⟩
                · go_enter Tryd.func60, Tryd.ntmps60
                  go_upto_region 2 with (fail)
                  try simp only [List.append]
                  go_wp2
                  go_ret
                  exact ⟨rfl, (Below.refl w.heap.size w).alloc (Nat.le_refl _) _⟩
    · go_enter Tryd.func60, Tryd.ntmps60
      go_upto_region 2 with (fail)
      try simp only [List.append]
      go_wp2
      go_ret
      exact ⟨rfl, (Below.refl w.heap.size w).alloc (Nat.le_refl _) _⟩
set_option maxHeartbeats 4000000 in
set_option maxRecDepth 100000 in
theorem keys_some {b o n c : Nat} {K : Nat → ByteArray} (hn : n ≤ 1048576) (w : World) (hb : b < w.heap.size) (hK : ∀ i, i < n → w.cell? ⟨b, o + i * 14, none⟩ = some (.string (K i)) ∧ (K i).size ≤ 1048576) :
    Calls Tryd.prog 74 #[.slice (some ⟨b, o, none⟩) n c] w fun r w' => r = .returned (.int .i64 (keysE K n)) ∧ Below w.heap.size w w' := by
  have HK := Lib.hid hK
  have HB := Lib.hid hb
  clear hK hb
  obtain ⟨R, hR⟩ : ∃ R, keysE K n = R := ⟨_, rfl⟩
  rw [hR]
  have HR := Lib.hid hR
  clear hR
  have hn0 : (0 : Int) ≤ n := by omega
  have hn2 : (n : Int) ≤ 1048576 := by omega
  go_enter Tryd.func74, Tryd.ntmps74
  go_wp2_with fail
  go_loopw [3] (fun i wr => ∃ k : Nat, k ≤ n ∧ i = .int .i64 k ∧ keysE K k = 0 ∧ Below w.heap.size w wr) (fun i _ => n - (intOf i).toNat)
  case atStart => exact ⟨0, by omega, rfl, rfl, Below.refl _ _⟩
  case round =>
    obtain ⟨k, hk, rfl, hk0, hbr⟩ := hrel
    have hki : (0 : Int) ≤ k := by omega
    by_cases hkn : k < n
    · obtain ⟨l0, l1⟩ := HK.out k hkn
      have l2 := (hbr.cell (p := ⟨b, o + k * 14, none⟩) HB.out).trans l0
      have hki2 : (k : Int) < n := by omega
      have HU := Lib.hid (rutf_any l1)
      have hlt := Nat.lt_of_lt_of_le HB.out hbr.size
      by_cases u : utfB (K k) = true
      case neg =>
        have u2 : utfB (K k) = false := by simpa using u
        have hR : R = 5 := by rw [← HR.out, keysE_bad hk0 hkn (by unfold keyE; simp [u2])]; unfold keyE; simp [u2]
        subst hR
        rw [u2] at HU
        generalize K k = x at *
        clear u u2 hk0 l0 HR
        go_wp2_with fail
        refine (HU.out _).mono ?_; rintro _ w1 ⟨rfl, hb1⟩
        go_wp2
        go_ret
        exact ⟨rfl, below_then hbr hb1⟩
      rw [u] at HU
      have kE : keyE K k = if 1024 < (K k).size then 10 else if ∃ j, j < k ∧ K j = K k then 8 else 0 := by unfold keyE; simp [u]
      by_cases z : 1024 < (K k).size
      · have hR : R = 10 := by rw [← HR.out, keysE_bad hk0 hkn (by rw [kE, if_pos z]; decide), kE, if_pos z]
        subst hR
        clear kE hk0 l0 u HR
        generalize K k = x at *
        have z2 : decide ((1024 : Int) < x.size) = true := decide_eq_true (by omega)
        go_wp2_with fail
        refine (HU.out _).mono ?_; rintro _ w1 ⟨rfl, hb1⟩
        replace l2 := (hb1.cell (p := ⟨b, o + k * 14, none⟩) hlt).trans l2
        go_wp2
        go_ret
        exact ⟨rfl, below_then hbr hb1⟩
      rw [if_neg z] at kE
      have HE := Lib.hid kE
      have H0 := Lib.hid hk0
      clear kE hk0 u
      obtain ⟨x, hx⟩ : ∃ x, K k = x := ⟨_, rfl⟩
      rw [hx] at l0 l1 l2 HU z HE
      have HX := Lib.hid hx
      clear hx
      have z2 : decide ((1024 : Int) < x.size) = false := decide_eq_false (by omega)
      go_wp2_with fail
      refine (HU.out _).mono ?_; rintro _ w1 ⟨rfl, hb1⟩
      replace l2 := (hb1.cell (p := ⟨b, o + k * 14, none⟩) hlt).trans l2
      replace hbr := below_then hbr hb1
      clear hb1 HU z hlt
      go_wp2_with fail
      go_loopw [4] (fun i wr => ∃ j : Nat, j ≤ k ∧ i = .int .i64 j ∧ Hid (∀ t, t < j → K t ≠ x) ∧ Below w.heap.size w wr) (fun i _ => k - (intOf i).toNat)
      case atStart => exact ⟨0, by omega, rfl, Lib.hid (fun t h => absurd h (Nat.not_lt_zero _)), hbr⟩
      case round =>
        clear hbr l2
        obtain ⟨j, hj, rfl, HJ, hbr⟩ := hrel
        have l2 := (hbr.cell (p := ⟨b, o + k * 14, none⟩) HB.out).trans l0
        have hji : (0 : Int) ≤ j := by omega
        by_cases hjk : j < k
        · obtain ⟨m0, m1⟩ := HK.out j (by omega)
          have m2 := (hbr.cell (p := ⟨b, o + j * 14, none⟩) HB.out).trans m0
          have hji2 : (j : Int) < k := by omega
          have hji3 : (j : Int) < n := by omega
          by_cases e : K j = x
          · have d1 : ((K j).toList == x.toList) = true := by rw [e]; exact beq_self_eq_true _
            have hR : R = 8 := by
              have k8 : keyE K k = 8 := by rw [HE.out, if_pos ⟨j, hjk, e⟩]
              rw [← HR.out, keysE_bad H0.out hkn (by rw [k8]; decide), k8]
            subst hR
            clear HR HE H0 e m0 l0 hjk hkn
            generalize K j = y at *
            go_wp2_with fail
            go_region
            go_wp2
            go_ret
            exact ⟨rfl, hbr.drew⟩
          · have d1 : ((K j).toList == x.toList) = false := by
              rw [beq_eq_false_iff_ne]
              intro q
              apply e
              rw [Lib.toList_data, Lib.toList_data] at q
              exact ByteArray.ext (Array.ext' q)
            have HJ2 : Hid (∀ t, t < j + 1 → K t ≠ x) := Lib.hid (fun t ht => by
              by_cases q : t = j
              · rw [q]; exact e
              · exact HJ.out t (by omega))
            clear e m0 HJ hkn
            generalize K j = y at *
            go_wp2_with fail
            go_region
            go_wp2
            go_roundw
            case rel => exact ⟨j + 1, by omega, by go_num, HJ2, hbr.drew⟩
            case measure => simp [intOf]; omega
        · obtain rfl : j = k := by omega
          have hN : keysE K (j + 1) = 0 := keysE_next H0.out (by rw [HE.out, if_neg (fun ⟨t, ht, q⟩ => HJ.out t ht q)])
          clear HE H0 HJ
          go_wp2_with fail
          go_wp2
          go_roundw
          case rel => exact ⟨j + 1, by omega, by go_num, hN, hbr⟩
          case measure => simp [intOf]; omega
    · obtain rfl : k = n := by omega
      have hR : R = 0 := by rw [← HR.out, hk0]
      subst hR
      clear hkn hk0 HR
      go_wp2
      go_ret
      exact ⟨rfl, hbr⟩
theorem keys_nil {K : Nat → ByteArray} (a : Option Addr) (c : Nat) (w : World) :
    Calls Tryd.prog 74 #[.slice a 0 c] w fun r w' => r = .returned (.int .i64 (keysE K 0)) ∧ Below w.heap.size w w' := by
  show Calls Tryd.prog 74 #[.slice a 0 c] w fun r w' => r = .returned (.int .i64 0) ∧ Below w.heap.size w w'
  go_enter Tryd.func74, Tryd.ntmps74
  go_wp2_with fail
  go_loopw [3] (fun i wr => i = .int .i64 0 ∧ Below w.heap.size w wr) (fun i _ => 0)
  case atStart => exact ⟨rfl, Below.refl _ _⟩
  case round =>
    obtain ⟨rfl, hbr⟩ := hrel
    go_wp2
    go_ret
    exact ⟨rfl, hbr⟩
namespace Dig
def isd (b : UInt8) : Prop := 48 ≤ b.toNat ∧ b.toNat ≤ 57
instance (b : UInt8) : Decidable (isd b) := by unfold isd; infer_instance
def alld (l : List UInt8) : Prop := ∀ b ∈ l, isd b
def val (l : List UInt8) : Nat := l.foldl (fun a b => 10 * a + (b.toNat - 48)) 0
def ch (d : Nat) : UInt8 := UInt8.ofNat (48 + d)
def strip (l : List UInt8) : List UInt8 := l.dropWhile (fun b => b == 48)
def num (n : Nat) : List UInt8 := if n = 0 then [] else num (n / 10) ++ [ch (n % 10)]
termination_by n
decreasing_by omega
end Dig
namespace Dig
theorem p10 (i : Nat) : 0 < 10 ^ i := Nat.pow_pos (by omega)
def up (P d b i k : Nat) : Nat := (P % 10 ^ (i + k) + d * (b % 10 ^ k) * 10 ^ i) / 10 ^ (i + k)
end Dig
end Go.Proofs.YtpcbhneaaibfiaaDoor
