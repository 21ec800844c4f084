/- Laid together for one claim: VtOwn, VkExtra. -/
import Derived.Test.YtfkfboiblgoamaaDoorQS01
import Derived.Lib.Hide
import Derived.BigRegion
import Derived.Deep.Cut
import Derived.Deep.DeepCutAuto
/- Values: the fields that a kind does not have (datakitref07.own). -/
namespace Go.Proofs.YtfkfboiblgoamaaDoor
open Go.RowKit

/-- The fields that the kind does not have are zero: over letters. -/
def ownB (k : Int) (b nz tz xz yz lz fz : Bool) : Bool :=
  decide (0 ≤ k) && decide (k ≤ 7) && (decide (k = 1) || !b) && (decide (k = 2) || nz) && (decide (k = 3) || tz) && (decide (k = 4) || xz) && (decide (k = 5) || yz) && (decide (k = 6) || lz) && (decide (k = 7) || fz)
def Vh.nz (h : Vh) : Bool := !h.n && h.d.toList.isEmpty && decide (h.e = 0)
def Vh.tz0 (h : Vh) : Bool := decide (h.tk = 0) && decide (h.td = 0) && decide (h.tn = 0) && decide (h.tz = 0)
def Vh.own (h : Vh) : Bool := ownB h.k h.b h.nz h.tz0 h.x.toList.isEmpty (decide (h.bn = 0)) (decide (h.ln = 0)) (decide (h.fn = 0))
theorem num_neq (a : Bool) (s : ByteArray) (e : Int) (W : World) : (binOp .neq 23 (.agg #[.bool a, .string s, .int .i64 e]) (.agg #[.bool false, .string ⟨#[]⟩, .int .i64 0])).run Tryd.prog W = .ok (.bool (!(!a && s.toList.isEmpty && decide (e = 0)))) W := by
  cases a
  · cases h2 : s.toList with
    | nil =>
      by_cases h3 : e = 0
      · subst h3
        simp [go_sem, h2]
      · simp [go_sem, h2, h3]
    | cons x l => simp [go_sem, h2]
  · simp [go_sem]
theorem tim_neq (a b c d : Int) (W : World) : (binOp .neq 25 (.agg #[.int .i64 a, .int .i64 b, .int .i64 c, .int .i64 d]) (.agg #[.int .i64 0, .int .i64 0, .int .i64 0, .int .i64 0])).run Tryd.prog W = .ok (.bool (!(decide (a = 0) && decide (b = 0) && decide (c = 0) && decide (d = 0)))) W := by
  by_cases h1 : a = 0
  · by_cases h2 : b = 0
    · by_cases h3 : c = 0
      · by_cases h4 : d = 0
        · subst h1 h2 h3 h4
          simp [go_sem]
        · simp [go_sem, h1, h2, h3, h4]
      · simp [go_sem, h1, h2, h3]
    · simp [go_sem, h1, h2]
  · simp [go_sem, h1]

set_option maxHeartbeats 4000000 in
set_option maxRecDepth 100000 in
theorem own_any (h : Vh) (hk : w64 h.k) (w : World) :
    Calls Tryd.prog 59 #[.agg h.cells] w fun r w' => r = .returned (.bool h.own) ∧ Below w.heap.size w w' := by
  obtain ⟨k, b, n, d, e, tk, td, tn, tz, x, ba, bn, bc, la, ln, lc, fa, fn, fc, bb, bo, lb, lo, fb, fo⟩ := h
  have qn := num_neq n d e
  have qt := tim_neq tk td tn tz
  have hs : Vh.own ⟨k, b, n, d, e, tk, td, tn, tz, x, ba, bn, bc, la, ln, lc, fa, fn, fc, bb, bo, lb, lo, fb, fo⟩ = ownB k b (!n && d.toList.isEmpty && decide (e = 0)) (decide (tk = 0) && decide (td = 0) && decide (tn = 0) && decide (tz = 0)) x.toList.isEmpty (decide (bn = 0)) (decide (ln = 0)) (decide (fn = 0)) := rfl
  rw [hs]
  clear hs
  generalize (!n && d.toList.isEmpty && decide (e = 0)) = nz at *
  generalize (decide (tk = 0) && decide (td = 0) && decide (tn = 0) && decide (tz = 0)) = tz0 at *
  obtain ⟨xz, hx⟩ : ∃ c, x.toList.isEmpty = c := ⟨_, rfl⟩
  obtain ⟨yz, hy⟩ : ∃ c, decide (bn = 0) = c := ⟨_, rfl⟩
  obtain ⟨lz, hl⟩ : ∃ c, decide (ln = 0) = c := ⟨_, rfl⟩
  obtain ⟨fz, hf⟩ : ∃ c, decide (fn = 0) = c := ⟨_, rfl⟩
  rw [hx, hy, hl, hf]
  simp only [Vh.cells]
  dsimp only at hk
  have hk1 := hk.1
  have hk2 := hk.2
  clear hk
  obtain ⟨R, hR⟩ : ∃ R, ownB k b nz tz0 xz yz lz fz = R := ⟨_, rfl⟩
  rw [hR]
  have HR := Lib.hid hR
  clear hR
  have far : (k < 0 ∨ 7 < k) ∨ k = 0 ∨ k = 1 ∨ k = 2 ∨ k = 3 ∨ k = 4 ∨ k = 5 ∨ k = 6 ∨ k = 7 := by omega
  rcases far with (c | c) | rfl | rfl | rfl | rfl | rfl | rfl | rfl | rfl
  · go_enter Tryd.func59, Tryd.ntmps59
    go_wp2
    all_goals (go_ret; refine ⟨?_, (Below.refl w.heap.size w).alloc (Nat.le_refl _) _⟩; rw [← HR.out]; simp [ownB]; try omega)
  · go_enter Tryd.func59, Tryd.ntmps59
    go_wp2
    all_goals (go_ret; refine ⟨?_, (Below.refl w.heap.size w).alloc (Nat.le_refl _) _⟩; rw [← HR.out]; simp [ownB]; try omega)
  · go_enter Tryd.func59, Tryd.ntmps59
    go_wp2
    all_goals first
      | done
      | (go_ret
         refine ⟨?_, (Below.refl w.heap.size w).alloc (Nat.le_refl _) _⟩
         rw [← HR.out]
         simp_all [ownB]
         try (rw [← hf]; simp [Bool.beq_eq_decide_eq]))
  · go_enter Tryd.func59, Tryd.ntmps59
    go_wp2
    all_goals first
      | done
      | (go_ret
         refine ⟨?_, (Below.refl w.heap.size w).alloc (Nat.le_refl _) _⟩
         rw [← HR.out]
         simp_all [ownB]
         try (rw [← hf]; simp [Bool.beq_eq_decide_eq]))
  · go_enter Tryd.func59, Tryd.ntmps59
    go_wp2
    all_goals first
      | done
      | (go_ret
         refine ⟨?_, (Below.refl w.heap.size w).alloc (Nat.le_refl _) _⟩
         rw [← HR.out]
         simp_all [ownB]
         try (rw [← hf]; simp [Bool.beq_eq_decide_eq]))
  · go_enter Tryd.func59, Tryd.ntmps59
    go_wp2
    all_goals first
      | done
      | (go_ret
         refine ⟨?_, (Below.refl w.heap.size w).alloc (Nat.le_refl _) _⟩
         rw [← HR.out]
         simp_all [ownB]
         try (rw [← hf]; simp [Bool.beq_eq_decide_eq]))
  · go_enter Tryd.func59, Tryd.ntmps59
    go_wp2
    all_goals first
      | done
      | (go_ret
         refine ⟨?_, (Below.refl w.heap.size w).alloc (Nat.le_refl _) _⟩
         rw [← HR.out]
         simp_all [ownB]
         try (rw [← hf]; simp [Bool.beq_eq_decide_eq]))
  · go_enter Tryd.func59, Tryd.ntmps59
    go_wp2
    all_goals first
      | done
      | (go_ret
         refine ⟨?_, (Below.refl w.heap.size w).alloc (Nat.le_refl _) _⟩
         rw [← HR.out]
         simp_all [ownB]
         try (rw [← hf]; simp [Bool.beq_eq_decide_eq]))
  · go_enter Tryd.func59, Tryd.ntmps59
    go_wp2
    all_goals first
      | done
      | (go_ret
         refine ⟨?_, (Below.refl w.heap.size w).alloc (Nat.le_refl _) _⟩
         rw [← HR.out]
         simp_all [ownB]
         try (rw [← hf]; simp [Bool.beq_eq_decide_eq]))
  · go_enter Tryd.func59, Tryd.ntmps59
    go_wp2
    all_goals first
      | done
      | (go_ret
         refine ⟨?_, (Below.refl w.heap.size w).alloc (Nat.le_refl _) _⟩
         rw [← HR.out]
         simp_all [ownB]
         try (rw [← hf]; simp [Bool.beq_eq_decide_eq]))
end Go.Proofs.YtfkfboiblgoamaaDoor
/- The program's value.extra: a field that the kind does not have is not zero. -/
namespace Go.Proofs.YtfkfboiblgoamaaDoor
open Go.RowKit
set_option linter.unusedSimpArgs false
set_option linter.unusedVariables false

/-- A field that the kind does not have is not zero: over letters. -/
def extB (k : Int) (b nz tz xz yz lz fz : Bool) : Bool :=
  (!decide (k = 1) && b) || (!decide (k = 2) && !nz) || (!decide (k = 3) && !tz) || (!decide (k = 4) && !xz) || (!decide (k = 5) && !yz) || (!decide (k = 6) && !lz) || (!decide (k = 7) && !fz)
def Vh.ext (h : Vh) : Bool := extB h.k h.b h.nz h.tz0 h.x.toList.isEmpty (decide (h.bn = 0)) (decide (h.ln = 0)) (decide (h.fn = 0))
theorem own_ext (h : Vh) : h.own = (decide (0 ≤ h.k) && decide (h.k ≤ 7) && !h.ext) := by
  unfold Vh.own Vh.ext ownB extB
  generalize h.nz = a
  generalize h.tz0 = c
  generalize h.x.toList.isEmpty = d
  generalize decide (h.bn = 0) = e
  generalize decide (h.ln = 0) = f
  generalize decide (h.fn = 0) = g
  generalize h.b = b
  generalize decide (0 ≤ h.k) = p
  generalize decide (h.k ≤ 7) = q
  generalize decide (h.k = 1) = k1
  generalize decide (h.k = 2) = k2
  generalize decide (h.k = 3) = k3
  generalize decide (h.k = 4) = k4
  generalize decide (h.k = 5) = k5
  generalize decide (h.k = 6) = k6
  generalize decide (h.k = 7) = k7
  simp only [Bool.not_or, Bool.not_and, Bool.not_not, Bool.and_assoc]
set_option maxHeartbeats 4000000 in
set_option maxRecDepth 100000 in
theorem ext_any (h : Vh) (hk : 0 ≤ h.k ∧ h.k ≤ 7) (w : World) :
    Calls Tryd.prog 64 #[.agg h.cells] w fun r w' => r = .returned (.bool h.ext) ∧ Below w.heap.size w w' := by
  obtain ⟨k, b, n, d, e, tk, td, tn, tz, x, ba, bn, bc, la, ln, lc, fa, fn, fc, bb, bo, lb, lo, fb, fo⟩ := h
  have qn := num_neq n d e
  have qt := tim_neq tk td tn tz
  have hs : Vh.ext ⟨k, b, n, d, e, tk, td, tn, tz, x, ba, bn, bc, la, ln, lc, fa, fn, fc, bb, bo, lb, lo, fb, fo⟩ = extB k b (!n && d.toList.isEmpty && decide (e = 0)) (decide (tk = 0) && decide (td = 0) && decide (tn = 0) && decide (tz = 0)) x.toList.isEmpty (decide (bn = 0)) (decide (ln = 0)) (decide (fn = 0)) := rfl
  rw [hs]
  clear hs
  generalize (!n && d.toList.isEmpty && decide (e = 0)) = nz at *
  generalize (decide (tk = 0) && decide (td = 0) && decide (tn = 0) && decide (tz = 0)) = tz0 at *
  obtain ⟨xz, hx⟩ : ∃ c, x.toList.isEmpty = c := ⟨_, rfl⟩
  obtain ⟨yz, hy⟩ : ∃ c, decide (bn = 0) = c := ⟨_, rfl⟩
  obtain ⟨lz, hl⟩ : ∃ c, decide (ln = 0) = c := ⟨_, rfl⟩
  obtain ⟨fz, hf⟩ : ∃ c, decide (fn = 0) = c := ⟨_, rfl⟩
  rw [hx, hy, hl, hf]
  have hx2 : (x.toList == ([] : List UInt8)) = xz := by rw [← hx]; cases x.toList <;> rfl
  have hy2 : decide ((0 : Int) < bn) = !yz := by rw [← hy]; by_cases q : bn = 0 <;> simp [q] <;> omega
  have hl2 : decide ((0 : Int) < ln) = !lz := by rw [← hl]; by_cases q : ln = 0 <;> simp [q] <;> omega
  have hf2 : decide ((0 : Int) < fn) = !fz := by rw [← hf]; by_cases q : fn = 0 <;> simp [q] <;> omega
  have hy3 : decide (0 < bn) = !yz := by rw [← hy]; by_cases q : bn = 0 <;> simp [q] <;> omega
  have hl3 : decide (0 < ln) = !lz := by rw [← hl]; by_cases q : ln = 0 <;> simp [q] <;> omega
  have hf3 : decide (0 < fn) = !fz := by rw [← hf]; by_cases q : fn = 0 <;> simp [q] <;> omega
  clear hx hy hl hf
  simp only [Vh.cells]
  dsimp only at hk
  have hk1 := hk.1
  have hk2 := hk.2
  clear hk
  obtain ⟨R, hR⟩ : ∃ R, extB k b nz tz0 xz yz lz fz = R := ⟨_, rfl⟩
  rw [hR]
  have HR := Lib.hid hR
  clear hR
  have far : k = 0 ∨ k = 1 ∨ k = 2 ∨ k = 3 ∨ k = 4 ∨ k = 5 ∨ k = 6 ∨ k = 7 := by omega
  rcases far with rfl | rfl | rfl | rfl | rfl | rfl | rfl | rfl
  · cases b
    · cases nz
      · go_enter Tryd.func64, Tryd.ntmps64
        go_upto_region 2 with (fail)
        simp only [List.append]
        go_wp2
        go_ret
        exact ⟨by rw [← HR.out]; rfl, (Below.refl w.heap.size w).alloc (Nat.le_refl _) _⟩
      · cases tz0
        · go_enter Tryd.func64, Tryd.ntmps64
          go_upto_region 2 with (fail)
          simp only [List.append]
          go_wp2
          go_ret
          exact ⟨by rw [← HR.out]; rfl, (Below.refl w.heap.size w).alloc (Nat.le_refl _) _⟩
        · cases xz
          · go_enter Tryd.func64, Tryd.ntmps64
            go_upto_region 2 with (fail)
            simp only [List.append]
            go_wp2
            go_ret
            exact ⟨by rw [← HR.out]; rfl, (Below.refl w.heap.size w).alloc (Nat.le_refl _) _⟩
          · cases yz
            · go_enter Tryd.func64, Tryd.ntmps64
              go_upto_region 2 with (fail)
              simp only [List.append]
              go_wp2
              go_ret
              exact ⟨by rw [← HR.out]; rfl, (Below.refl w.heap.size w).alloc (Nat.le_refl _) _⟩
            · cases lz
              · go_enter Tryd.func64, Tryd.ntmps64
                go_upto_region 2 with (fail)
                simp only [List.append]
                go_wp2
                go_ret
                exact ⟨by rw [← HR.out]; rfl, (Below.refl w.heap.size w).alloc (Nat.le_refl _) _⟩
              · cases fz
                · go_enter Tryd.func64, Tryd.ntmps64
                  go_upto_region 2 with (fail)
                  simp only [List.append]
                  go_wp2
                  go_ret
                  exact ⟨by rw [← HR.out]; rfl, (Below.refl w.heap.size w).alloc (Nat.le_refl _) _⟩
                · go_enter Tryd.func64, Tryd.ntmps64
                  go_upto_region 2 with (fail)
                  simp only [List.append]
                  go_wp2
                  go_ret
                  exact ⟨by rw [← HR.out]; rfl, (Below.refl w.heap.size w).alloc (Nat.le_refl _) _⟩
    · go_enter Tryd.func64, Tryd.ntmps64
      go_upto_region 2 with (fail)
      simp only [List.append]
      go_wp2
      go_ret
      exact ⟨by rw [← HR.out]; rfl, (Below.refl w.heap.size w).alloc (Nat.le_refl _) _⟩
  · cases nz
    · go_enter Tryd.func64, Tryd.ntmps64
      go_upto_region 2 with (fail)
      simp only [List.append]
      go_wp2
      go_ret
      exact ⟨by rw [← HR.out]; rfl, (Below.refl w.heap.size w).alloc (Nat.le_refl _) _⟩
    · cases tz0
      · go_enter Tryd.func64, Tryd.ntmps64
        go_upto_region 2 with (fail)
        simp only [List.append]
        go_wp2
        go_ret
        exact ⟨by rw [← HR.out]; rfl, (Below.refl w.heap.size w).alloc (Nat.le_refl _) _⟩
      · cases xz
        · go_enter Tryd.func64, Tryd.ntmps64
          go_upto_region 2 with (fail)
          simp only [List.append]
          go_wp2
          go_ret
          exact ⟨by rw [← HR.out]; rfl, (Below.refl w.heap.size w).alloc (Nat.le_refl _) _⟩
        · cases yz
          · go_enter Tryd.func64, Tryd.ntmps64
            go_upto_region 2 with (fail)
            simp only [List.append]
            go_wp2
            go_ret
            exact ⟨by rw [← HR.out]; rfl, (Below.refl w.heap.size w).alloc (Nat.le_refl _) _⟩
          · cases lz
            · go_enter Tryd.func64, Tryd.ntmps64
              go_upto_region 2 with (fail)
              simp only [List.append]
              go_wp2
              go_ret
              exact ⟨by rw [← HR.out]; rfl, (Below.refl w.heap.size w).alloc (Nat.le_refl _) _⟩
            · cases fz
              · go_enter Tryd.func64, Tryd.ntmps64
                go_upto_region 2 with (fail)
                simp only [List.append]
                go_wp2
                go_ret
                exact ⟨by rw [← HR.out]; rfl, (Below.refl w.heap.size w).alloc (Nat.le_refl _) _⟩
              · go_enter Tryd.func64, Tryd.ntmps64
                go_upto_region 2 with (fail)
                simp only [List.append]
                go_wp2
                go_ret
                exact ⟨by rw [← HR.out]; rfl, (Below.refl w.heap.size w).alloc (Nat.le_refl _) _⟩
  · cases b
    · cases tz0
      · go_enter Tryd.func64, Tryd.ntmps64
        go_upto_region 2 with (fail)
        simp only [List.append]
        go_wp2
        go_ret
        exact ⟨by rw [← HR.out]; rfl, (Below.refl w.heap.size w).alloc (Nat.le_refl _) _⟩
      · cases xz
        · go_enter Tryd.func64, Tryd.ntmps64
          go_upto_region 2 with (fail)
          simp only [List.append]
          go_wp2
          go_ret
          exact ⟨by rw [← HR.out]; rfl, (Below.refl w.heap.size w).alloc (Nat.le_refl _) _⟩
        · cases yz
          · go_enter Tryd.func64, Tryd.ntmps64
            go_upto_region 2 with (fail)
            simp only [List.append]
            go_wp2
            go_ret
            exact ⟨by rw [← HR.out]; rfl, (Below.refl w.heap.size w).alloc (Nat.le_refl _) _⟩
          · cases lz
            · go_enter Tryd.func64, Tryd.ntmps64
              go_upto_region 2 with (fail)
              simp only [List.append]
              go_wp2
              go_ret
              exact ⟨by rw [← HR.out]; rfl, (Below.refl w.heap.size w).alloc (Nat.le_refl _) _⟩
            · cases fz
              · go_enter Tryd.func64, Tryd.ntmps64
                go_upto_region 2 with (fail)
                simp only [List.append]
                go_wp2
                go_ret
                exact ⟨by rw [← HR.out]; rfl, (Below.refl w.heap.size w).alloc (Nat.le_refl _) _⟩
              · go_enter Tryd.func64, Tryd.ntmps64
                go_upto_region 2 with (fail)
                simp only [List.append]
                go_wp2
                go_ret
                exact ⟨by rw [← HR.out]; rfl, (Below.refl w.heap.size w).alloc (Nat.le_refl _) _⟩
    · go_enter Tryd.func64, Tryd.ntmps64
      go_upto_region 2 with (fail)
      simp only [List.append]
      go_wp2
      go_ret
      exact ⟨by rw [← HR.out]; rfl, (Below.refl w.heap.size w).alloc (Nat.le_refl _) _⟩
  · cases b
    · cases nz
      · go_enter Tryd.func64, Tryd.ntmps64
        go_upto_region 2 with (fail)
        simp only [List.append]
        go_wp2
        go_ret
        exact ⟨by rw [← HR.out]; rfl, (Below.refl w.heap.size w).alloc (Nat.le_refl _) _⟩
      · cases xz
        · go_enter Tryd.func64, Tryd.ntmps64
          go_upto_region 2 with (fail)
          simp only [List.append]
          go_wp2
          go_ret
          exact ⟨by rw [← HR.out]; rfl, (Below.refl w.heap.size w).alloc (Nat.le_refl _) _⟩
        · cases yz
          · go_enter Tryd.func64, Tryd.ntmps64
            go_upto_region 2 with (fail)
            simp only [List.append]
            go_wp2
            go_ret
            exact ⟨by rw [← HR.out]; rfl, (Below.refl w.heap.size w).alloc (Nat.le_refl _) _⟩
          · cases lz
            · go_enter Tryd.func64, Tryd.ntmps64
              go_upto_region 2 with (fail)
              simp only [List.append]
              go_wp2
              go_ret
              exact ⟨by rw [← HR.out]; rfl, (Below.refl w.heap.size w).alloc (Nat.le_refl _) _⟩
            · cases fz
              · go_enter Tryd.func64, Tryd.ntmps64
                go_upto_region 2 with (fail)
                simp only [List.append]
                go_wp2
                go_ret
                exact ⟨by rw [← HR.out]; rfl, (Below.refl w.heap.size w).alloc (Nat.le_refl _) _⟩
              · go_enter Tryd.func64, Tryd.ntmps64
                go_upto_region 2 with (fail)
                simp only [List.append]
                go_wp2
                go_ret
                exact ⟨by rw [← HR.out]; rfl, (Below.refl w.heap.size w).alloc (Nat.le_refl _) _⟩
    · go_enter Tryd.func64, Tryd.ntmps64
      go_upto_region 2 with (fail)
      simp only [List.append]
      go_wp2
      go_ret
      exact ⟨by rw [← HR.out]; rfl, (Below.refl w.heap.size w).alloc (Nat.le_refl _) _⟩
  · cases b
    · cases nz
      · go_enter Tryd.func64, Tryd.ntmps64
        go_upto_region 2 with (fail)
        simp only [List.append]
        go_wp2
        go_ret
        exact ⟨by rw [← HR.out]; rfl, (Below.refl w.heap.size w).alloc (Nat.le_refl _) _⟩
      · cases tz0
        · go_enter Tryd.func64, Tryd.ntmps64
          go_upto_region 2 with (fail)
          simp only [List.append]
          go_wp2
          go_ret
          exact ⟨by rw [← HR.out]; rfl, (Below.refl w.heap.size w).alloc (Nat.le_refl _) _⟩
        · cases yz
          · go_enter Tryd.func64, Tryd.ntmps64
            go_upto_region 2 with (fail)
            simp only [List.append]
            go_wp2
            go_ret
            exact ⟨by rw [← HR.out]; rfl, (Below.refl w.heap.size w).alloc (Nat.le_refl _) _⟩
          · cases lz
            · go_enter Tryd.func64, Tryd.ntmps64
              go_upto_region 2 with (fail)
              simp only [List.append]
              go_wp2
              go_ret
              exact ⟨by rw [← HR.out]; rfl, (Below.refl w.heap.size w).alloc (Nat.le_refl _) _⟩
            · cases fz
              · go_enter Tryd.func64, Tryd.ntmps64
                go_upto_region 2 with (fail)
                simp only [List.append]
                go_wp2
                go_ret
                exact ⟨by rw [← HR.out]; rfl, (Below.refl w.heap.size w).alloc (Nat.le_refl _) _⟩
              · go_enter Tryd.func64, Tryd.ntmps64
                go_upto_region 2 with (fail)
                simp only [List.append]
                go_wp2
                go_ret
                exact ⟨by rw [← HR.out]; rfl, (Below.refl w.heap.size w).alloc (Nat.le_refl _) _⟩
    · go_enter Tryd.func64, Tryd.ntmps64
      go_upto_region 2 with (fail)
      simp only [List.append]
      go_wp2
      go_ret
      exact ⟨by rw [← HR.out]; rfl, (Below.refl w.heap.size w).alloc (Nat.le_refl _) _⟩
  · cases b
    · cases nz
      · go_enter Tryd.func64, Tryd.ntmps64
        go_upto_region 2 with (fail)
        simp only [List.append]
        go_wp2
        go_ret
        exact ⟨by rw [← HR.out]; rfl, (Below.refl w.heap.size w).alloc (Nat.le_refl _) _⟩
      · cases tz0
        · go_enter Tryd.func64, Tryd.ntmps64
          go_upto_region 2 with (fail)
          simp only [List.append]
          go_wp2
          go_ret
          exact ⟨by rw [← HR.out]; rfl, (Below.refl w.heap.size w).alloc (Nat.le_refl _) _⟩
        · cases xz
          · go_enter Tryd.func64, Tryd.ntmps64
            go_upto_region 2 with (fail)
            simp only [List.append]
            go_wp2
            go_ret
            exact ⟨by rw [← HR.out]; rfl, (Below.refl w.heap.size w).alloc (Nat.le_refl _) _⟩
          · cases lz
            · go_enter Tryd.func64, Tryd.ntmps64
              go_upto_region 2 with (fail)
              simp only [List.append]
              go_wp2
              go_ret
              exact ⟨by rw [← HR.out]; rfl, (Below.refl w.heap.size w).alloc (Nat.le_refl _) _⟩
            · cases fz
              · go_enter Tryd.func64, Tryd.ntmps64
                go_upto_region 2 with (fail)
                simp only [List.append]
                go_wp2
                go_ret
                exact ⟨by rw [← HR.out]; rfl, (Below.refl w.heap.size w).alloc (Nat.le_refl _) _⟩
              · go_enter Tryd.func64, Tryd.ntmps64
                go_upto_region 2 with (fail)
                simp only [List.append]
                go_wp2
                go_ret
                exact ⟨by rw [← HR.out]; rfl, (Below.refl w.heap.size w).alloc (Nat.le_refl _) _⟩
    · go_enter Tryd.func64, Tryd.ntmps64
      go_upto_region 2 with (fail)
      simp only [List.append]
      go_wp2
      go_ret
      exact ⟨by rw [← HR.out]; rfl, (Below.refl w.heap.size w).alloc (Nat.le_refl _) _⟩
  · cases b
    · cases nz
      · go_enter Tryd.func64, Tryd.ntmps64
        go_upto_region 2 with (fail)
        simp only [List.append]
        go_wp2
        go_ret
        exact ⟨by rw [← HR.out]; rfl, (Below.refl w.heap.size w).alloc (Nat.le_refl _) _⟩
      · cases tz0
        · go_enter Tryd.func64, Tryd.ntmps64
          go_upto_region 2 with (fail)
          simp only [List.append]
          go_wp2
          go_ret
          exact ⟨by rw [← HR.out]; rfl, (Below.refl w.heap.size w).alloc (Nat.le_refl _) _⟩
        · cases xz
          · go_enter Tryd.func64, Tryd.ntmps64
            go_upto_region 2 with (fail)
            simp only [List.append]
            go_wp2
            go_ret
            exact ⟨by rw [← HR.out]; rfl, (Below.refl w.heap.size w).alloc (Nat.le_refl _) _⟩
          · cases yz
            · go_enter Tryd.func64, Tryd.ntmps64
              go_upto_region 2 with (fail)
              simp only [List.append]
              go_wp2
              go_ret
              exact ⟨by rw [← HR.out]; rfl, (Below.refl w.heap.size w).alloc (Nat.le_refl _) _⟩
            · cases fz
              · go_enter Tryd.func64, Tryd.ntmps64
                go_upto_region 2 with (fail)
                simp only [List.append]
                go_wp2
                go_ret
                exact ⟨by rw [← HR.out]; rfl, (Below.refl w.heap.size w).alloc (Nat.le_refl _) _⟩
              · go_enter Tryd.func64, Tryd.ntmps64
                go_upto_region 2 with (fail)
                simp only [List.append]
                go_wp2
                go_ret
                exact ⟨by rw [← HR.out]; rfl, (Below.refl w.heap.size w).alloc (Nat.le_refl _) _⟩
    · go_enter Tryd.func64, Tryd.ntmps64
      go_upto_region 2 with (fail)
      simp only [List.append]
      go_wp2
      go_ret
      exact ⟨by rw [← HR.out]; rfl, (Below.refl w.heap.size w).alloc (Nat.le_refl _) _⟩
  · cases b
    · cases nz
      · go_enter Tryd.func64, Tryd.ntmps64
        go_upto_region 2 with (fail)
        simp only [List.append]
        go_wp2
        go_ret
        exact ⟨by rw [← HR.out]; rfl, (Below.refl w.heap.size w).alloc (Nat.le_refl _) _⟩
      · cases tz0
        · go_enter Tryd.func64, Tryd.ntmps64
          go_upto_region 2 with (fail)
          simp only [List.append]
          go_wp2
          go_ret
          exact ⟨by rw [← HR.out]; rfl, (Below.refl w.heap.size w).alloc (Nat.le_refl _) _⟩
        · cases xz
          · go_enter Tryd.func64, Tryd.ntmps64
            go_upto_region 2 with (fail)
            simp only [List.append]
            go_wp2
            go_ret
            exact ⟨by rw [← HR.out]; rfl, (Below.refl w.heap.size w).alloc (Nat.le_refl _) _⟩
          · cases yz
            · go_enter Tryd.func64, Tryd.ntmps64
              go_upto_region 2 with (fail)
              simp only [List.append]
              go_wp2
              go_ret
              exact ⟨by rw [← HR.out]; rfl, (Below.refl w.heap.size w).alloc (Nat.le_refl _) _⟩
            · cases lz
              · go_enter Tryd.func64, Tryd.ntmps64
                go_upto_region 2 with (fail)
                simp only [List.append]
                go_wp2
                go_ret
                exact ⟨by rw [← HR.out]; rfl, (Below.refl w.heap.size w).alloc (Nat.le_refl _) _⟩
              · go_enter Tryd.func64, Tryd.ntmps64
                go_upto_region 2 with (fail)
                simp only [List.append]
                go_wp2
                go_ret
                exact ⟨by rw [← HR.out]; rfl, (Below.refl w.heap.size w).alloc (Nat.le_refl _) _⟩
    · go_enter Tryd.func64, Tryd.ntmps64
      go_upto_region 2 with (fail)
      simp only [List.append]
      go_wp2
      go_ret
      exact ⟨by rw [← HR.out]; rfl, (Below.refl w.heap.size w).alloc (Nat.le_refl _) _⟩
end Go.Proofs.YtfkfboiblgoamaaDoor
