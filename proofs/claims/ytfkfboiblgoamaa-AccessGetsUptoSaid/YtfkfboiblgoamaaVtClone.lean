/- Values: bytes that are cloned (slices.Clone). -/
import Derived.Test.YtfkfboiblgoamaaVtMade
import Derived.WalkSpells
namespace Go.Proofs.Ytfkfboiblgoamaa
open Go.ChangeShapes Go.WideShapes Go.Joins Go.Deep Go.RowKit

theorem Try.infoByteV : (Try.prog.info? 5).map (fun i => (i.zero, i.size, i.bytes)) = some (some (.int .u8 0), 1, 1) := by kernel_rfl
def CloneOut (n : Nat) (Y : Nat → Int) (w : World) (e : Ending) (w' : World) : Prop :=
  ∃ (a : Option Addr) (c b : Nat), e = .returned (.slice a n c) ∧ (0 < n → a = some ⟨b, 0, none⟩ ∧ w.heap.size ≤ b ∧ b < w'.heap.size) ∧ (∀ i, i < n → w'.cell? ⟨b, i, none⟩ = some (.int .u8 (Y i))) ∧ Below w.heap.size w w'
theorem clone_end {w w' : World} {n base : Nat} {Y : Nat → Int} {v : Value} (h : w'.ownsRow base 5 1 v n ((List.range n).map fun i => Value.int .u8 (Y i))) (hb : Below w.heap.size w w') (hW : w.heap.size ≤ base) : CloneOut n Y w (.returned v) w' := by
  by_cases hn : n = 0
  · subst hn
    rcases h.2 with ⟨rfl, _⟩ | ⟨g, cap, cur, rfl, _⟩
    · exact ⟨none, 0, 0, rfl, fun h => absurd h (Nat.lt_irrefl _), fun i h => absurd h (Nat.not_lt_zero _), hb⟩
    · exact ⟨_, cap, g, rfl, fun h => absurd h (Nat.lt_irrefl _), fun i h => absurd h (Nat.not_lt_zero _), hb⟩
  · obtain ⟨g, cap, rfl, hg, hlt⟩ := own_form h (by omega)
    refine ⟨_, cap, g, rfl, fun _ => ⟨rfl, by omega, hlt⟩, fun i hi => ?_, hb⟩
    have := h.cells (g := g) rfl i (.int .u8 (Y i)) (by simp [hi])
    rwa [add_plain, Nat.zero_add] at this
set_option maxHeartbeats 1000000 in
set_option maxRecDepth 100000 in
theorem clone_any {a : Option Addr} {n c b o : Nat} {Y : Nat → Int} (hn : n ≤ 1048576) (w : World) (ha : 0 < n → a = some ⟨b, o, none⟩ ∧ b < w.heap.size) (hY : ∀ i, i < n → w.cell? ⟨b, o + i, none⟩ = some (.int .u8 (Y i))) :
    Calls Try.prog 56 #[.slice a n c] w (CloneOut n Y w) := by
  cases a with
  | none =>
    have h0 : n = 0 := Classical.byContradiction fun q => by have := (ha (by omega)).1; cases this
    subst h0
    have HQ : Hid (CloneOut 0 Y w (.returned (.slice none 0 0)) w) := Lib.hid ⟨none, 0, 0, rfl, fun h => absurd h (Nat.lt_irrefl _), fun i h => absurd h (Nat.not_lt_zero _), Below.refl _ _⟩
    clear ha hY
    have hnil := fun (w : World) (l c : Nat) => Lib.run_eql_slice_nil (P := Try.prog) w 26 5 none l c 0 0 Try.underlying26
    go_enter Try.func56, Try.ntmps56
    go_wp2
    go_ret
    exact HQ.out
  | some ad =>
    obtain ⟨i0, hi, hz0, hz1, hz2⟩ := info_parts Try.infoByteV
    have hown := World.ownsRow_made (base := w.heap.size) (e := 5) (size := 1) w #[] 0 (Nat.le_refl _) (by unfold maxLen; omega) rfl
    have hb0 := (Below.refl w.heap.size w).alloc (Nat.le_refl _) (.cells #[] 5)
    have hnews : Hid (∀ j u, ((List.range n).map fun i => Value.int .u8 (Y i))[j]? = some u → (w.alloc (.cells #[] 5)).cell? (ad.add j) = some u) := Lib.hid fun j u hu => by
      have hj : j < n := by
        rcases Nat.lt_or_ge j n with q | q
        · exact q
        · rw [List.getElem?_eq_none (by simp; exact q)] at hu; cases hu
      obtain ⟨e, hlt⟩ := ha (by omega)
      cases e
      rw [add_plain]
      refine (hb0.cell (p := ⟨b, o + j, none⟩) hlt).trans ?_
      rw [hY j hj]
      simp [hj] at hu
      rw [← hu]
    clear ha hY
    have hnil := fun (w : World) (l c : Nat) => Lib.run_eql_slice_nil (P := Try.prog) w 26 5 (some ad) l c 0 0 Try.underlying26
    go_enter Try.func56, Try.ntmps56
    go_wp2_with (at_builtin; refine wpList_append_own _ rfl _ _ 26 rfl w.heap.size 5 i0 (.int .u8 0) 1 1 Try.underlying26 hi hz0 hz1 hz2 rfl (by decide) _ _ _ rfl hown ad n c ((List.range n).map fun i => Value.int .u8 (Y i)) rfl ?c1 ?c2 ?c3 ?c4 ?c5 ?c6 ?_)
    case c1 => simp
    case c2 => exact hnews.out
    case c3 =>
      intro u hu
      obtain ⟨_, _, rfl⟩ := List.mem_map.1 hu
      rfl
    case c4 => unfold maxLen; omega
    case c5 => omega
    case c6 => simp
    intro v' w3 hown3 hgrow _
    have hb3 := hb0.grown hgrow (by simp) (fun k e => by cases e; exact Nat.le_refl _)
    clear hown hnews hgrow
    go_wp2
    go_ret
    exact clone_end hown3 hb3 (Nat.le_refl _)
end Go.Proofs.Ytfkfboiblgoamaa
