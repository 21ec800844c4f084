/- Laid together for a claim: EvRofM. -/
import Derived.Test.YtpcbhneaaibfiaaDoorQB29
import Derived.Test.YtpcbhneaaibfiaaDoorQB28
import Derived.Test.YtpcbhneaaibfiaaDoorQB05
import Derived.Test.YtpcbhneaaibfiaaDoorQB26
/- Rows of events, one behind another: plain. -/
namespace Go.Proofs.YtpcbhneaaibfiaaDoor
open Go.RowKit
set_option linter.unusedSimpArgs false
set_option linter.unusedVariables false

theorem RowE.lower {B B' : Nat} {S S' : Nat → Prop} {W : World} {v : Value} {l : List Ev} (h : RowE B S W v l) (hB : B' ≤ B) (hS : ∀ b, S b → S' b) : RowE B' S' W v l := by
  obtain ⟨f, ho, hf⟩ := h
  refine ⟨f, ?_, fun i hi => ⟨(hf i hi).1, (hf i hi).2.1.mono fun b hb => ⟨hS b hb.1, hb.2⟩, (hf i hi).2.2⟩⟩
  obtain ⟨hl, ho⟩ := ho
  refine ⟨hl, ?_⟩
  rcases ho with ho | ⟨g, cap, cur, e, hb, r⟩
  · exact .inl ho
  · exact .inr ⟨g, cap, cur, e, Nat.le_trans hB hb, r⟩
/-- Events behind events. -/
theorem RowE.join {B : Nat} {S : Nat → Prop} {W1 W3 : World} {v v' u : Value} {l m : List Ev} {f g : Nat → Ev} (ho : W1.ownsRow B 57 15 v l.length (catN (fun i => (f i).cells) l.length))
    (hf : ∀ i, i < l.length → (f i).V.In W1 W1.heap.size ∧ (f i).V.Off (fun b => S b ∧ some b ≠ v.ownBlock) ∧ (f i).Same (nth l i) ∧ (f i).ok)
    (hg : ∀ i, i < m.length → (g i).V.In W1 W1.heap.size ∧ (g i).V.Off (fun b => S b ∧ some b ≠ u.ownBlock) ∧ (g i).Same (nth m i) ∧ (g i).ok) (hS : ∀ b, S b → some b ≠ v.ownBlock)
    (ho3 : W3.ownsRow B 57 15 v' (l.length + m.length) (catN (fun i => (f i).cells) l.length ++ catN (fun i => (g i).cells) m.length)) (hgr : W1.grownBy W3 v.ownBlock) (hv : v'.ownBlock = v.ownBlock ∨ v'.ownBlock = some W1.heap.size) (hSl : ∀ b, S b → b < W1.heap.size) :
    RowE B S W3 v' (l ++ m) := by
  unfold RowE
  rw [List.length_append]
  have hSv : ∀ b, S b → some b ≠ v'.ownBlock := fun b hb e => by
    rcases hv with hv | hv
    · rw [hv] at e; exact hS b hb e
    · rw [hv] at e
      have := hSl b hb
      cases e
      exact absurd this (Nat.lt_irrefl _)
  have key : ∀ {x : Ev}, x.V.In W1 W1.heap.size → x.V.Off S → x.V.In W3 W3.heap.size ∧ x.V.Off (fun b => S b ∧ some b ≠ v'.ownBlock) := fun h1 h2 =>
    ⟨h1.grown (h2.mono fun b hb => hS b hb) hgr, h2.mono fun b hb => ⟨hb, hSv b hb⟩⟩
  refine ⟨fun i => if i < l.length then f i else g (i - l.length), ?_, fun i hi => ?_⟩
  · have e : catN (fun i => (if i < l.length then f i else g (i - l.length)).cells) (l.length + m.length) = catN (fun i => (f i).cells) l.length ++ catN (fun i => (g i).cells) m.length := by
      rw [catN_append]
      rw [catN_congr (f := fun i => (if i < l.length then f i else g (i - l.length)).cells) (g := fun i => (f i).cells) (fun i hi => by rw [if_pos hi])]
      rw [catN_congr (f := fun i => (if l.length + i < l.length then f (l.length + i) else g (l.length + i - l.length)).cells) (g := fun i => (g i).cells) (fun i hi => by rw [if_neg (by omega), Nat.add_sub_cancel_left])]
    rw [e]
    exact ho3
  · dsimp only
    by_cases q : i < l.length
    · rw [if_pos q, nth_left q]
      obtain ⟨a, b, c⟩ := hf i q
      obtain ⟨k1, k2⟩ := key a (b.mono fun b hb => hb.1)
      exact ⟨k1, k2, c⟩
    · rw [if_neg q]
      obtain ⟨a, b, c⟩ := hg (i - l.length) (by omega)
      obtain ⟨k1, k2⟩ := key a (b.mono fun b hb => hb.1)
      have e : nth (l ++ m) i = nth m (i - l.length) := by
        unfold nth
        rw [List.getD_eq_getElem?_getD, List.getD_eq_getElem?_getD, List.getElem?_append_right (by omega)]
      rw [e]
      exact ⟨k1, k2, c⟩
/-- A row of one event. -/
theorem RowE.one {B : Nat} {S : Nat → Prop} {W : World} {b : Nat} {x y : Ev} (P : Whole W b 57 x.cells) (hB : B ≤ b) (hx : x.V.In W W.heap.size) (hS : x.V.Off S) (hb : ∀ c, S c → c ≠ b) (hxy : x.Same y) (hk : x.ok) : RowE B S W (.slice (some ⟨b, 0, none⟩) 1 1) [y] := by
  refine ⟨fun _ => x, ?_, fun i hi => ⟨hx, hS.mono fun c hc => ⟨hc, fun e => hb c hc (by cases e; rfl)⟩, ?_, hk⟩⟩
  · have h := own_shut (n := 1) (C := 15) P hB (Nat.le_refl _) (by unfold maxLen; omega) rfl
    have e : x.cells.toList.take (1 * 15) = catN (fun _ => x.cells) 1 := by
      show _ = [] ++ x.cells.toList
      rw [List.nil_append]
      exact List.take_of_length_le (by simp [Ev.cells, evc])
    rw [e] at h
    exact h
  · have hi0 : i = 0 := by have : i < 1 := hi; omega
    subst hi0
    exact hxy
end Go.Proofs.YtpcbhneaaibfiaaDoor
