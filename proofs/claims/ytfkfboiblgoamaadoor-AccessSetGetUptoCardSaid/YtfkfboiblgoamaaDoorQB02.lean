/- Laid together for a claim: VkExtra. -/
import Derived.Test.YtfkfboiblgoamaaDoorQB01
import Derived.BigRegion
import Derived.Deep.Cut
import Derived.Deep.DeepCutAuto
/- The program's value.extra: a field that the kind does not have is not zero. -/
namespace Go.Proofs.YtfkfboiblgoamaaDoor
open Go.RowKit
set_option linter.unusedSimpArgs false
set_option linter.unusedVariables false

/-- A field that the kind does not have is not zero: over letters. -/
def extB (k : Int) (b nz tz xz yz lz fz : Bool) : Bool :=
  (!decide (k = 1) && b) || (!decide (k = 2) && !nz) || (!decide (k = 3) && !tz) || (!decide (k = 4) && !xz) || (!decide (k = 5) && !yz) || (!decide (k = 6) && !lz) || (!decide (k = 7) && !fz)
def Vh.ext (h : Vh) : Bool := extB h.k h.b h.nz h.tz0 h.x.toList.isEmpty (decide (h.bn = 0)) (decide (h.ln = 0)) (decide (h.fn = 0))
theorem own_ext (h : Vh) : h.own = (decide (0 ≤ h.k) && decide (h.k ≤ 7) && !h.ext) := by
  unfold Vh.own Vh.ext ownB extB
  generalize h.nz = a
  generalize h.tz0 = c
  generalize h.x.toList.isEmpty = d
  generalize decide (h.bn = 0) = e
  generalize decide (h.ln = 0) = f
  generalize decide (h.fn = 0) = g
  generalize h.b = b
  generalize decide (0 ≤ h.k) = p
  generalize decide (h.k ≤ 7) = q
  generalize decide (h.k = 1) = k1
  generalize decide (h.k = 2) = k2
  generalize decide (h.k = 3) = k3
  generalize decide (h.k = 4) = k4
  generalize decide (h.k = 5) = k5
  generalize decide (h.k = 6) = k6
  generalize decide (h.k = 7) = k7
  simp only [Bool.not_or, Bool.not_and, Bool.not_not, Bool.and_assoc]
set_option maxHeartbeats 4000000 in
set_option maxRecDepth 100000 in
theorem ext_any (h : Vh) (hk : 0 ≤ h.k ∧ h.k ≤ 7) (w : World) :
    Calls Tryd.prog 64 #[.agg h.cells] w fun r w' => r = .returned (.bool h.ext) ∧ Below w.heap.size w w' := by
  obtain ⟨k, b, n, d, e, tk, td, tn, tz, x, ba, bn, bc, la, ln, lc, fa, fn, fc, bb, bo, lb, lo, fb, fo⟩ := h
  have qn := num_neq n d e
  have qt := tim_neq tk td tn tz
  have hs : Vh.ext ⟨k, b, n, d, e, tk, td, tn, tz, x, ba, bn, bc, la, ln, lc, fa, fn, fc, bb, bo, lb, lo, fb, fo⟩ = extB k b (!n && d.toList.isEmpty && decide (e = 0)) (decide (tk = 0) && decide (td = 0) && decide (tn = 0) && decide (tz = 0)) x.toList.isEmpty (decide (bn = 0)) (decide (ln = 0)) (decide (fn = 0)) := rfl
  rw [hs]
  clear hs
  generalize (!n && d.toList.isEmpty && decide (e = 0)) = nz at *
  generalize (decide (tk = 0) && decide (td = 0) && decide (tn = 0) && decide (tz = 0)) = tz0 at *
  obtain ⟨xz, hx⟩ : ∃ c, x.toList.isEmpty = c := ⟨_, rfl⟩
  obtain ⟨yz, hy⟩ : ∃ c, decide (bn = 0) = c := ⟨_, rfl⟩
  obtain ⟨lz, hl⟩ : ∃ c, decide (ln = 0) = c := ⟨_, rfl⟩
  obtain ⟨fz, hf⟩ : ∃ c, decide (fn = 0) = c := ⟨_, rfl⟩
  rw [hx, hy, hl, hf]
  have hx2 : (x.toList == ([] : List UInt8)) = xz := by rw [← hx]; cases x.toList <;> rfl
  have hy2 : decide ((0 : Int) < bn) = !yz := by rw [← hy]; by_cases q : bn = 0 <;> simp [q] <;> omega
  have hl2 : decide ((0 : Int) < ln) = !lz := by rw [← hl]; by_cases q : ln = 0 <;> simp [q] <;> omega
  have hf2 : decide ((0 : Int) < fn) = !fz := by rw [← hf]; by_cases q : fn = 0 <;> simp [q] <;> omega
  have hy3 : decide (0 < bn) = !yz := by rw [← hy]; by_cases q : bn = 0 <;> simp [q] <;> omega
  have hl3 : decide (0 < ln) = !lz := by rw [← hl]; by_cases q : ln = 0 <;> simp [q] <;> omega
  have hf3 : decide (0 < fn) = !fz := by rw [← hf]; by_cases q : fn = 0 <;> simp [q] <;> omega
  clear hx hy hl hf
  simp only [Vh.cells]
  dsimp only at hk
  have hk1 := hk.1
  have hk2 := hk.2
  clear hk
  obtain ⟨R, hR⟩ : ∃ R, extB k b nz tz0 xz yz lz fz = R := ⟨_, rfl⟩
  rw [hR]
  have HR := Lib.hid hR
  clear hR
  have far : k = 0 ∨ k = 1 ∨ k = 2 ∨ k = 3 ∨ k = 4 ∨ k = 5 ∨ k = 6 ∨ k = 7 := by omega
  rcases far with rfl | rfl | rfl | rfl | rfl | rfl | rfl | rfl
  · cases b
    · cases nz
      · go_enter Tryd.func64, Tryd.ntmps64
        go_upto_region 2 with (fail)
        simp only [List.append]
        go_wp2
        go_ret
        exact ⟨by rw [← HR.out]; rfl, (Below.refl w.heap.size w).alloc (Nat.le_refl _) _⟩
      · cases tz0
        · go_enter Tryd.func64, Tryd.ntmps64
          go_upto_region 2 with (fail)
          simp only [List.append]
          go_wp2
          go_ret
          exact ⟨by rw [← HR.out]; rfl, (Below.refl w.heap.size w).alloc (Nat.le_refl _) _⟩
        · cases xz
          · go_enter Tryd.func64, Tryd.ntmps64
            go_upto_region 2 with (fail)
            simp only [List.append]
            go_wp2
            go_ret
            exact ⟨by rw [← HR.out]; rfl, (Below.refl w.heap.size w).alloc (Nat.le_refl _) _⟩
          · cases yz
            · go_enter Tryd.func64, Tryd.ntmps64
              go_upto_region 2 with (fail)
              simp only [List.append]
              go_wp2
              go_ret
              exact ⟨by rw [← HR.out]; rfl, (Below.refl w.heap.size w).alloc (Nat.le_refl _) _⟩
            · cases lz
              · go_enter Tryd.func64, Tryd.ntmps64
                go_upto_region 2 with (fail)
                simp only [List.append]
                go_wp2
                go_ret
                exact ⟨by rw [← HR.out]; rfl, (Below.refl w.heap.size w).alloc (Nat.le_refl _) _⟩
              · cases fz
                · go_enter Tryd.func64, Tryd.ntmps64
                  go_upto_region 2 with (fail)
                  simp only [List.append]
                  go_wp2
                  go_ret
                  exact ⟨by rw [← HR.out]; rfl, (Below.refl w.heap.size w).alloc (Nat.le_refl _) _⟩
                · go_enter Tryd.func64, Tryd.ntmps64
                  go_upto_region 2 with (fail)
                  simp only [List.append]
                  go_wp2
                  go_ret
                  exact ⟨by rw [← HR.out]; rfl, (Below.refl w.heap.size w).alloc (Nat.le_refl _) _⟩
    · go_enter Tryd.func64, Tryd.ntmps64
      go_upto_region 2 with (fail)
      simp only [List.append]
      go_wp2
      go_ret
      exact ⟨by rw [← HR.out]; rfl, (Below.refl w.heap.size w).alloc (Nat.le_refl _) _⟩
  · cases nz
    · go_enter Tryd.func64, Tryd.ntmps64
      go_upto_region 2 with (fail)
      simp only [List.append]
      go_wp2
      go_ret
      exact ⟨by rw [← HR.out]; rfl, (Below.refl w.heap.size w).alloc (Nat.le_refl _) _⟩
    · cases tz0
      · go_enter Tryd.func64, Tryd.ntmps64
        go_upto_region 2 with (fail)
        simp only [List.append]
        go_wp2
        go_ret
        exact ⟨by rw [← HR.out]; rfl, (Below.refl w.heap.size w).alloc (Nat.le_refl _) _⟩
      · cases xz
        · go_enter Tryd.func64, Tryd.ntmps64
          go_upto_region 2 with (fail)
          simp only [List.append]
          go_wp2
          go_ret
          exact ⟨by rw [← HR.out]; rfl, (Below.refl w.heap.size w).alloc (Nat.le_refl _) _⟩
        · cases yz
          · go_enter Tryd.func64, Tryd.ntmps64
            go_upto_region 2 with (fail)
            simp only [List.append]
            go_wp2
            go_ret
            exact ⟨by rw [← HR.out]; rfl, (Below.refl w.heap.size w).alloc (Nat.le_refl _) _⟩
          · cases lz
            · go_enter Tryd.func64, Tryd.ntmps64
              go_upto_region 2 with (fail)
              simp only [List.append]
              go_wp2
              go_ret
              exact ⟨by rw [← HR.out]; rfl, (Below.refl w.heap.size w).alloc (Nat.le_refl _) _⟩
            · cases fz
              · go_enter Tryd.func64, Tryd.ntmps64
                go_upto_region 2 with (fail)
                simp only [List.append]
                go_wp2
                go_ret
                exact ⟨by rw [← HR.out]; rfl, (Below.refl w.heap.size w).alloc (Nat.le_refl _) _⟩
              · go_enter Tryd.func64, Tryd.ntmps64
                go_upto_region 2 with (fail)
                simp only [List.append]
                go_wp2
                go_ret
                exact ⟨by rw [← HR.out]; rfl, (Below.refl w.heap.size w).alloc (Nat.le_refl _) _⟩
  · cases b
    · cases tz0
      · go_enter Tryd.func64, Tryd.ntmps64
        go_upto_region 2 with (fail)
        simp only [List.append]
        go_wp2
        go_ret
        exact ⟨by rw [← HR.out]; rfl, (Below.refl w.heap.size w).alloc (Nat.le_refl _) _⟩
      · cases xz
        · go_enter Tryd.func64, Tryd.ntmps64
          go_upto_region 2 with (fail)
          simp only [List.append]
          go_wp2
          go_ret
          exact ⟨by rw [← HR.out]; rfl, (Below.refl w.heap.size w).alloc (Nat.le_refl _) _⟩
        · cases yz
          · go_enter Tryd.func64, Tryd.ntmps64
            go_upto_region 2 with (fail)
            simp only [List.append]
            go_wp2
            go_ret
            exact ⟨by rw [← HR.out]; rfl, (Below.refl w.heap.size w).alloc (Nat.le_refl _) _⟩
          · cases lz
            · go_enter Tryd.func64, Tryd.ntmps64
              go_upto_region 2 with (fail)
              simp only [List.append]
              go_wp2
              go_ret
              exact ⟨by rw [← HR.out]; rfl, (Below.refl w.heap.size w).alloc (Nat.le_refl _) _⟩
            · cases fz
              · go_enter Tryd.func64, Tryd.ntmps64
                go_upto_region 2 with (fail)
                simp only [List.append]
                go_wp2
                go_ret
                exact ⟨by rw [← HR.out]; rfl, (Below.refl w.heap.size w).alloc (Nat.le_refl _) _⟩
              · go_enter Tryd.func64, Tryd.ntmps64
                go_upto_region 2 with (fail)
                simp only [List.append]
                go_wp2
                go_ret
                exact ⟨by rw [← HR.out]; rfl, (Below.refl w.heap.size w).alloc (Nat.le_refl _) _⟩
    · go_enter Tryd.func64, Tryd.ntmps64
      go_upto_region 2 with (fail)
      simp only [List.append]
      go_wp2
      go_ret
      exact ⟨by rw [← HR.out]; rfl, (Below.refl w.heap.size w).alloc (Nat.le_refl _) _⟩
  · cases b
    · cases nz
      · go_enter Tryd.func64, Tryd.ntmps64
        go_upto_region 2 with (fail)
        simp only [List.append]
        go_wp2
        go_ret
        exact ⟨by rw [← HR.out]; rfl, (Below.refl w.heap.size w).alloc (Nat.le_refl _) _⟩
      · cases xz
        · go_enter Tryd.func64, Tryd.ntmps64
          go_upto_region 2 with (fail)
          simp only [List.append]
          go_wp2
          go_ret
          exact ⟨by rw [← HR.out]; rfl, (Below.refl w.heap.size w).alloc (Nat.le_refl _) _⟩
        · cases yz
          · go_enter Tryd.func64, Tryd.ntmps64
            go_upto_region 2 with (fail)
            simp only [List.append]
            go_wp2
            go_ret
            exact ⟨by rw [← HR.out]; rfl, (Below.refl w.heap.size w).alloc (Nat.le_refl _) _⟩
          · cases lz
            · go_enter Tryd.func64, Tryd.ntmps64
              go_upto_region 2 with (fail)
              simp only [List.append]
              go_wp2
              go_ret
              exact ⟨by rw [← HR.out]; rfl, (Below.refl w.heap.size w).alloc (Nat.le_refl _) _⟩
            · cases fz
              · go_enter Tryd.func64, Tryd.ntmps64
                go_upto_region 2 with (fail)
                simp only [List.append]
                go_wp2
                go_ret
                exact ⟨by rw [← HR.out]; rfl, (Below.refl w.heap.size w).alloc (Nat.le_refl _) _⟩
              · go_enter Tryd.func64, Tryd.ntmps64
                go_upto_region 2 with (fail)
                simp only [List.append]
                go_wp2
                go_ret
                exact ⟨by rw [← HR.out]; rfl, (Below.refl w.heap.size w).alloc (Nat.le_refl _) _⟩
    · go_enter Tryd.func64, Tryd.ntmps64
      go_upto_region 2 with (fail)
      simp only [List.append]
      go_wp2
      go_ret
      exact ⟨by rw [← HR.out]; rfl, (Below.refl w.heap.size w).alloc (Nat.le_refl _) _⟩
  · cases b
    · cases nz
      · go_enter Tryd.func64, Tryd.ntmps64
        go_upto_region 2 with (fail)
        simp only [List.append]
        go_wp2
        go_ret
        exact ⟨by rw [← HR.out]; rfl, (Below.refl w.heap.size w).alloc (Nat.le_refl _) _⟩
      · cases tz0
        · go_enter Tryd.func64, Tryd.ntmps64
          go_upto_region 2 with (fail)
          simp only [List.append]
          go_wp2
          go_ret
          exact ⟨by rw [← HR.out]; rfl, (Below.refl w.heap.size w).alloc (Nat.le_refl _) _⟩
        · cases yz
          · go_enter Tryd.func64, Tryd.ntmps64
            go_upto_region 2 with (fail)
            simp only [List.append]
            go_wp2
            go_ret
            exact ⟨by rw [← HR.out]; rfl, (Below.refl w.heap.size w).alloc (Nat.le_refl _) _⟩
          · cases lz
            · go_enter Tryd.func64, Tryd.ntmps64
              go_upto_region 2 with (fail)
              simp only [List.append]
              go_wp2
              go_ret
              exact ⟨by rw [← HR.out]; rfl, (Below.refl w.heap.size w).alloc (Nat.le_refl _) _⟩
            · cases fz
              · go_enter Tryd.func64, Tryd.ntmps64
                go_upto_region 2 with (fail)
                simp only [List.append]
                go_wp2
                go_ret
                exact ⟨by rw [← HR.out]; rfl, (Below.refl w.heap.size w).alloc (Nat.le_refl _) _⟩
              · go_enter Tryd.func64, Tryd.ntmps64
                go_upto_region 2 with (fail)
                simp only [List.append]
                go_wp2
                go_ret
                exact ⟨by rw [← HR.out]; rfl, (Below.refl w.heap.size w).alloc (Nat.le_refl _) _⟩
    · go_enter Tryd.func64, Tryd.ntmps64
      go_upto_region 2 with (fail)
      simp only [List.append]
      go_wp2
      go_ret
      exact ⟨by rw [← HR.out]; rfl, (Below.refl w.heap.size w).alloc (Nat.le_refl _) _⟩
  · cases b
    · cases nz
      · go_enter Tryd.func64, Tryd.ntmps64
        go_upto_region 2 with (fail)
        simp only [List.append]
        go_wp2
        go_ret
        exact ⟨by rw [← HR.out]; rfl, (Below.refl w.heap.size w).alloc (Nat.le_refl _) _⟩
      · cases tz0
        · go_enter Tryd.func64, Tryd.ntmps64
          go_upto_region 2 with (fail)
          simp only [List.append]
          go_wp2
          go_ret
          exact ⟨by rw [← HR.out]; rfl, (Below.refl w.heap.size w).alloc (Nat.le_refl _) _⟩
        · cases xz
          · go_enter Tryd.func64, Tryd.ntmps64
            go_upto_region 2 with (fail)
            simp only [List.append]
            go_wp2
            go_ret
            exact ⟨by rw [← HR.out]; rfl, (Below.refl w.heap.size w).alloc (Nat.le_refl _) _⟩
          · cases lz
            · go_enter Tryd.func64, Tryd.ntmps64
              go_upto_region 2 with (fail)
              simp only [List.append]
              go_wp2
              go_ret
              exact ⟨by rw [← HR.out]; rfl, (Below.refl w.heap.size w).alloc (Nat.le_refl _) _⟩
            · cases fz
              · go_enter Tryd.func64, Tryd.ntmps64
                go_upto_region 2 with (fail)
                simp only [List.append]
                go_wp2
                go_ret
                exact ⟨by rw [← HR.out]; rfl, (Below.refl w.heap.size w).alloc (Nat.le_refl _) _⟩
              · go_enter Tryd.func64, Tryd.ntmps64
                go_upto_region 2 with (fail)
                simp only [List.append]
                go_wp2
                go_ret
                exact ⟨by rw [← HR.out]; rfl, (Below.refl w.heap.size w).alloc (Nat.le_refl _) _⟩
    · go_enter Tryd.func64, Tryd.ntmps64
      go_upto_region 2 with (fail)
      simp only [List.append]
      go_wp2
      go_ret
      exact ⟨by rw [← HR.out]; rfl, (Below.refl w.heap.size w).alloc (Nat.le_refl _) _⟩
  · cases b
    · cases nz
      · go_enter Tryd.func64, Tryd.ntmps64
        go_upto_region 2 with (fail)
        simp only [List.append]
        go_wp2
        go_ret
        exact ⟨by rw [← HR.out]; rfl, (Below.refl w.heap.size w).alloc (Nat.le_refl _) _⟩
      · cases tz0
        · go_enter Tryd.func64, Tryd.ntmps64
          go_upto_region 2 with (fail)
          simp only [List.append]
          go_wp2
          go_ret
          exact ⟨by rw [← HR.out]; rfl, (Below.refl w.heap.size w).alloc (Nat.le_refl _) _⟩
        · cases xz
          · go_enter Tryd.func64, Tryd.ntmps64
            go_upto_region 2 with (fail)
            simp only [List.append]
            go_wp2
            go_ret
            exact ⟨by rw [← HR.out]; rfl, (Below.refl w.heap.size w).alloc (Nat.le_refl _) _⟩
          · cases yz
            · go_enter Tryd.func64, Tryd.ntmps64
              go_upto_region 2 with (fail)
              simp only [List.append]
              go_wp2
              go_ret
              exact ⟨by rw [← HR.out]; rfl, (Below.refl w.heap.size w).alloc (Nat.le_refl _) _⟩
            · cases fz
              · go_enter Tryd.func64, Tryd.ntmps64
                go_upto_region 2 with (fail)
                simp only [List.append]
                go_wp2
                go_ret
                exact ⟨by rw [← HR.out]; rfl, (Below.refl w.heap.size w).alloc (Nat.le_refl _) _⟩
              · go_enter Tryd.func64, Tryd.ntmps64
                go_upto_region 2 with (fail)
                simp only [List.append]
                go_wp2
                go_ret
                exact ⟨by rw [← HR.out]; rfl, (Below.refl w.heap.size w).alloc (Nat.le_refl _) _⟩
    · go_enter Tryd.func64, Tryd.ntmps64
      go_upto_region 2 with (fail)
      simp only [List.append]
      go_wp2
      go_ret
      exact ⟨by rw [← HR.out]; rfl, (Below.refl w.heap.size w).alloc (Nat.le_refl _) _⟩
  · cases b
    · cases nz
      · go_enter Tryd.func64, Tryd.ntmps64
        go_upto_region 2 with (fail)
        simp only [List.append]
        go_wp2
        go_ret
        exact ⟨by rw [← HR.out]; rfl, (Below.refl w.heap.size w).alloc (Nat.le_refl _) _⟩
      · cases tz0
        · go_enter Tryd.func64, Tryd.ntmps64
          go_upto_region 2 with (fail)
          simp only [List.append]
          go_wp2
          go_ret
          exact ⟨by rw [← HR.out]; rfl, (Below.refl w.heap.size w).alloc (Nat.le_refl _) _⟩
        · cases xz
          · go_enter Tryd.func64, Tryd.ntmps64
            go_upto_region 2 with (fail)
            simp only [List.append]
            go_wp2
            go_ret
            exact ⟨by rw [← HR.out]; rfl, (Below.refl w.heap.size w).alloc (Nat.le_refl _) _⟩
          · cases yz
            · go_enter Tryd.func64, Tryd.ntmps64
              go_upto_region 2 with (fail)
              simp only [List.append]
              go_wp2
              go_ret
              exact ⟨by rw [← HR.out]; rfl, (Below.refl w.heap.size w).alloc (Nat.le_refl _) _⟩
            · cases lz
              · go_enter Tryd.func64, Tryd.ntmps64
                go_upto_region 2 with (fail)
                simp only [List.append]
                go_wp2
                go_ret
                exact ⟨by rw [← HR.out]; rfl, (Below.refl w.heap.size w).alloc (Nat.le_refl _) _⟩
              · go_enter Tryd.func64, Tryd.ntmps64
                go_upto_region 2 with (fail)
                simp only [List.append]
                go_wp2
                go_ret
                exact ⟨by rw [← HR.out]; rfl, (Below.refl w.heap.size w).alloc (Nat.le_refl _) _⟩
    · go_enter Tryd.func64, Tryd.ntmps64
      go_upto_region 2 with (fail)
      simp only [List.append]
      go_wp2
      go_ret
      exact ⟨by rw [← HR.out]; rfl, (Below.refl w.heap.size w).alloc (Nat.le_refl _) _⟩
end Go.Proofs.YtfkfboiblgoamaaDoor
