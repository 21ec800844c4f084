/- Laid together for a claim: VtTold, VkChkE. -/
import Derived.RangeFuncNested
import Derived.RangeFuncBound
import Derived.RangeFuncCalls
import Derived.RangeFuncLeaves
import Derived.RangeFuncBox
import Derived.Shelf.Abstract
import Derived.Shelf.RegionOpen
import Derived.OwnWalkIn
import Derived.TacticsInMore
import Derived.LoopNIn
import Derived.LoopIn
import Derived.Test.YtfkfboiblgoamaaDoorProg
import Derived.Test.YtfkfboiblgoamaaDoorQB02
import Derived.Test.YtfkfboiblgoamaaDoorQB09
import Derived.Test.YtfkfboiblgoamaaDoorQB08
import Derived.Deep.Cut
import Derived.Deep.DeepCutAuto
/- A range over a function whose body is told where what it is handed lies: which blocks are the body's own, and what is kept through a round. -/
namespace Go.Proofs.YtfkfboiblgoamaaDoor
open Go.RowKit Go.Shelf

/-- All but these blocks lie as they lay. -/
structure Kept (O : Nat → Prop) (W W' : World) : Prop where
  os : W'.os = W.os
  tape : W'.tape = W.tape
  output : W'.output = W.output
  size : W.heap.size ≤ W'.heap.size
  block : ∀ k, k < W.heap.size → ¬ O k → W'.heap[k]? = W.heap[k]?
theorem Kept.refl (O : Nat → Prop) (W : World) : Kept O W W := ⟨rfl, rfl, rfl, Nat.le_refl _, fun _ _ _ => rfl⟩
theorem Kept.trans {O O' : Nat → Prop} {A B C : World} (h : Kept O A B) (k : Kept O' B C) (ho : ∀ b, O' b → O b ∨ A.heap.size ≤ b) : Kept O A C :=
  ⟨k.os.trans h.os, k.tape.trans h.tape, k.output.trans h.output, Nat.le_trans h.size k.size, fun i hi hn => (k.block i (Nat.lt_of_lt_of_le hi h.size) fun q => by
    rcases ho i q with q | q
    · exact hn q
    · omega).trans (h.block i hi hn)⟩
theorem Kept.of {O : Nat → Prop} {W W' : World} (h : Below W.heap.size W W') : Kept O W W' := ⟨h.os, h.tape, h.output, h.size, fun k hk _ => h.block k hk⟩
theorem Kept.more {O O' : Nat → Prop} {W W' : World} (h : Kept O W W') (ho : ∀ b, O b → O' b) : Kept O' W W' := ⟨h.os, h.tape, h.output, h.size, fun k hk q => h.block k hk fun e => q (ho k e)⟩
theorem Kept.below {O : Nat → Prop} {W W' : World} {n : Nat} (h : Kept O W W') (hn : n ≤ W.heap.size) (ho : ∀ b, b < n → ¬ O b) : Below n W W' := ⟨h.os, h.tape, h.output, h.size, fun k hk => h.block k (Nat.lt_of_lt_of_le hk hn) (ho k hk)⟩
theorem Kept.put (O : Nat → Prop) (W : World) (l : Nat) (o : Obj) (hl : O l) : Kept O W (W.putObj l o) :=
  ⟨rfl, rfl, rfl, by simp, fun k _ hk => World.putObj_heap_other (fun e => hk (by rw [e]; exact hl))⟩

theorem room_any (k : Nat) : Fence.wide.room k := fun d h => by cases h
theorem RoundIn.any {m m' : Nat} {P : Program} {l : Nat} {f : FuncId} {tmps : Array Value} {assign body : Code} {w : World} {R : Ending → World → Prop} (h : RoundIn Fence.wide m P l f tmps assign body w R) : RoundIn Fence.wide m' P l f tmps assign body w R :=
  ⟨h.1, fun c cs _ => h.2 c cs (room_any _)⟩

/-- What a round answers: J goes on, or it is over. -/
def ToldRound (J : Nat → (Nat → Prop) → World → Prop) (Jx : Nat → World → Prop) (k : Nat) (O : Nat → Prop) (W : World) (e : Ending) (W' : World) : Prop :=
  (e = .returned (.bool true) ∧ (∃ O', J (k + 1) O' W' ∧ ∀ b, O' b → O b ∨ W.heap.size ≤ b) ∧ Kept O W W') ∨ (e = .returned (.bool false) ∧ Jx (k + 1) W' ∧ Kept O W W')
/-- An iterator's contract: N rounds, each told 'Ok' of what it is handed; what the iterator needs is none of the body's. -/
def Told {α : Type} (n : Nat) (P : Program) (g : Nat) (lb : Array Value) (encs : α → Array Value) (Ok : Nat → α → (Nat → Prop) → World → Prop) (Need : Nat → Prop) (N : Nat) (w : World) : Prop :=
  ∀ (l : Nat) (O0 : Nat → Prop) (J : Nat → (Nat → Prop) → World → Prop) (Jx : Nat → World → Prop) (W : World), Below w.heap.size w W → (∀ b, Need b → ¬ O0 b) → J 0 O0 W →
    (∀ k O W W', J k O W → Below W.heap.size W W' → J k O W') → (∀ k W W', Jx k W → Below W.heap.size W W' → Jx k W') → (∀ k O W, J k O W → ∀ b, O b → b < W.heap.size) →
    (∀ k x O W1 m, J k O W1 → Ok k x O W1 → YieldAt Fence.wide m P l (encs x) W1 (ToldRound J Jx k O W1)) →
    CallsIn Fence.wide n P g (#[.func (.yield l) #[] #[]] ++ lb) W fun e W' => (∃ v, e = .returned v) ∧ ((∃ O, J N O W') ∨ (∃ k, k ≤ N ∧ Jx k W'))
/-- How the body of a round may be left. -/
def toldPost (I : Nat → (Nat → Prop) → World → Prop) (Ix : Code → Nat → World → Prop) (k : Nat) (O : Nat → Prop) (W : World) : Exit → Act → World → Prop
  | .normal, _, W' => Kept O W W' ∧ ∃ O', I k O' W' ∧ ∀ b, O' b → O b ∨ W.heap.size ≤ b
  | .ret, _, W' => Kept O W W' ∧ Ix .ret k W'
  | .exit id, _, W' => Kept O W W' ∧ Ix (.exit id) k W'
  | .goto t, _, W' => Kept O W W' ∧ Ix (.goto t) k W'
  | .panic _, _, _ => False
  | .outgrown, _, _ => False
/-- All blocks but the loop's own two lie as they lay. -/
def LoopKept (B : Nat) (W W' : World) : Prop := Kept (fun b => b = B ∨ b = B + 1) W W'

theorem wpIn_rangeFunc_toldA {P : Program} {n : Nat} {α : Type} {g : Operand} {ps : Array Tmp} {assign body : Code} {Q : Exit → Act → World → Prop} {a : Act} {w : World}
    (h1 : 1 ≤ n) {gf : Nat} {lb : Array Value} (hg : a.eval g = .func (.func gf) #[] lb) (eg : ∀ args w, (callFunc gf args).run P w = .ok (.enter gf args) w)
    {encs : α → Array Value} {Ok : Nat → α → (Nat → Prop) → World → Prop} {Need : Nat → Prop} {N : Nat} (hseq : Told (n - 1) P gf lb encs Ok Need N w) (hps : ∀ x, (encs x).size = ps.size)
    (hOk : ∀ k x O W W', Ok k x O W → Kept O W W' → Ok k x O W')
    (I : Nat → (Nat → Prop) → World → Prop) (Ix : Code → Nat → World → Prop)
    (hI : ∀ k O W W', w.heap.size ≤ W.heap.size → I k O W → LoopKept w.heap.size W W' → I k O W') (hIx : ∀ c k W W', w.heap.size ≤ W.heap.size → Ix c k W → LoopKept w.heap.size W W' → Ix c k W')
    (hIO : ∀ k O W, I k O W → ∀ b, O b → b < W.heap.size ∧ b ≠ w.heap.size ∧ b ≠ w.heap.size + 1)
    (O0 : Nat → Prop) (hO0 : ∀ b, Need b → ¬ O0 b) (hNeed : ∀ b, Need b → b < w.heap.size) (h0 : I 0 O0 w) (Ax : α → Act → World → Prop) (hAx : ∀ x a' W W', w.heap.size + 2 ≤ W.heap.size → Ax x a' W → LoopKept w.heap.size W W' → Ax x a' W')
    (hassign : ∀ (l k : Nat) (x : α) (O : Nat → Prop) (W : World) (K : Act → World → Prop), w.heap.size + 2 ≤ W.heap.size → I k O W → Ok k x (fun b => O b ∨ b = w.heap.size ∨ b = w.heap.size + 1) W → (∀ a' W', Below W.heap.size W W' → Ax x a' W' → K a' W') →
      assign.wpIn (Fence.wide.inRound l) (n - 1 - 1) P (Exit.then K (fun _ _ _ => False)) { tmps := (ps.zip (encs x)).foldl (fun t (p, v) => t.setIfInBounds p v) a.tmps, defers := [] } W)
    (hbody : ∀ (l k : Nat) (x : α) (O : Nat → Prop) (a' : Act) (W : World), Ax x a' W → w.heap.size + 2 ≤ W.heap.size → I k O W → Ok k x (fun b => O b ∨ b = w.heap.size ∨ b = w.heap.size + 1) W → body.wpIn (Fence.wide.inRound l) (n - 1 - 1) P (toldPost I Ix (k + 1) O W) a' W)
    (hdone : ∀ (O : Nat → Prop) (W : World), I N O W → W.heap[w.heap.size]? = some (.deferred (some [])) → Q .normal { a with defers := { target := .collected w.heap.size, args := #[] } :: a.defers } W)
    (hstop : ∀ (c : Code) (k : Nat) (W : World), k ≤ N → Ix c k W → W.heap[w.heap.size]? = some (.deferred (some [])) → c.wpIn Fence.wide n P Q { a with defers := { target := .collected w.heap.size, args := #[] } :: a.defers } W) :
    (Code.rangeFunc g ps assign body).wpIn Fence.wide n P Q a w := by
  refine wpIn_rangeFunc ?_
  intro fn hfn
  obtain ⟨rec, hrec⟩ : ∃ rec : LoopState → Option Code → Loop, rec = fun st pe => { state := st, pending := pe, fn, tmps := a.tmps, params := ps, assign, body, defers := w.heap.size } := ⟨_, rfl⟩
  obtain ⟨B, hB⟩ : ∃ B, w.heap.size = B := ⟨_, rfl⟩
  rw [hB] at hI hIx hIO hNeed hdone hstop hbody hassign hAx
  obtain ⟨W1, hW1⟩ : ∃ W1, (w.alloc (.deferred (some []))).alloc (.loop (rec .ready none)) = W1 := ⟨_, rfl⟩
  have hz1 : W1.heap.size = B + 2 := by rw [← hW1]; simp; omega
  have hbw : Below w.heap.size w W1 := by rw [← hW1]; exact ((Below.refl _ w).alloc (Nat.le_refl _) _).alloc (by simp) _
  have hL1 : W1.heap[B + 1]? = some (.loop (rec .ready none)) := by
    rw [← hW1]; have := World.alloc_heap_new (w.alloc (.deferred (some []))) (.loop (rec .ready none)); rwa [World.size_alloc, hB] at this
  have hK1 : W1.heap[B]? = some (.deferred (some [])) := by
    rw [← hW1, ← hB]; exact (Below.heap_alloc _ _ _ (by simp)).trans (World.alloc_heap_new w _)
  have hI1 : I 0 O0 W1 := hI 0 O0 w W1 (by omega) h0 (Kept.of hbw)
  refine ⟨B + 1, [{ target := .collected B, args := #[] }], W1, { target := .fn (.func gf) lb, args := #[.func (.yield (B + 1)) #[] #[]] }, W1, gf,
    #[.func (.yield (B + 1)) #[] #[]] ++ lb, W1, ?_, ?_, ?_, ?_, fun _ => h1, ?_⟩
  · have := run_enterLoop_outer (P := P) (w := w) fn a.tmps ps assign body
    rw [hB] at this
    rw [← hW1, hrec]
    dsimp only
    rw [hB]
    exact this
  · simp only [resolve, hg]
    simp [go_sem]
  · intro f' hf'; simp [Target.leads] at hf'; subst hf'; exact trivial
  · simp [invoke, go_sem, eg]
  obtain ⟨OX, hOX⟩ : ∃ OX : (Nat → Prop) → Nat → Prop, OX = fun O b => O b ∨ b = B ∨ b = B + 1 := ⟨_, rfl⟩
  have hox : ∀ O b, OX O b ↔ (O b ∨ b = B ∨ b = B + 1) := fun O b => by rw [hOX]
  refine (hseq (B + 1) (OX O0)
      (fun k O W => ∃ O', O = OX O' ∧ I k O' W ∧ W.heap[B + 1]? = some (.loop (rec .ready none)) ∧ W.heap[B]? = some (.deferred (some [])))
      (fun k W => ∃ c, Ix c k W ∧ W.heap[B + 1]? = some (.loop (rec .done (some c))) ∧ W.heap[B]? = some (.deferred (some [])))
      W1 hbw ?_ ⟨O0, rfl, hI1, hL1, hK1⟩ ?_ ?_ ?_ ?_).mono ?_
  · intro b hb q
    have := hNeed b hb
    rcases (hox _ _).1 q with q | q | q
    · exact hO0 b hb q
    · omega
    · omega
  · rintro k O W W' ⟨O', e, hi, hl, hd⟩ hb
    have hlt := (Array.getElem?_eq_some_iff.1 hl).1
    exact ⟨O', e, hI k O' W W' (by omega) hi (Kept.of hb), (hb.block _ hlt).trans hl, (hb.block _ (by omega)).trans hd⟩
  · rintro k W W' ⟨c, hi, hl, hd⟩ hb
    have hlt := (Array.getElem?_eq_some_iff.1 hl).1
    exact ⟨c, hIx c k W W' (by omega) hi (Kept.of hb), (hb.block _ hlt).trans hl, (hb.block _ (by omega)).trans hd⟩
  · rintro k O W ⟨O', rfl, hi, hl, hd⟩ b q
    have hlt := (Array.getElem?_eq_some_iff.1 hl).1
    rcases (hox _ _).1 q with q | q | q
    · exact (hIO k O' W hi b q).1
    · omega
    · omega
  · -- one round
    rintro k x O W m ⟨O', rfl, hi, hl, hd⟩ hok
    have hlt := (Array.getElem?_eq_some_iff.1 hl).1
    have hy := run_yield (P := P) (args := encs x) hl (by rw [hrec]; exact hps x)
    rw [hrec] at hy
    refine ⟨fn, _, assign, body, hy, RoundIn.any (m := n - 1 - 1) (roundIn_of_wpIn hfn (hassign _ k x O' W _ (by omega) hi (by rw [hOX] at hok; exact hok) ?_))⟩
    clear hy
    intro a' Wa hba hax
    have hKa : Kept (OX O') W Wa := Kept.of hba
    have hza := hba.size
    replace hi := hI k O' W Wa (by omega) hi (Kept.of hba)
    replace hok := hOk k x _ W Wa hok hKa
    replace hl := (hba.block _ hlt).trans hl
    replace hd := (hba.block _ (by omega)).trans hd
    replace hlt : B + 1 < Wa.heap.size := Nat.lt_of_lt_of_le hlt hza
    clear hba
    revert hKa hza
    generalize W = Wb
    intro hKa hza
    obtain ⟨W, rfl⟩ : ∃ W, W = Wa := ⟨_, rfl⟩
    refine ⟨_, run_beginRound hl (by rw [hrec]), ?_⟩
    have hk2 : Kept (fun b => b = B ∨ b = B + 1) W (W.putObj (B + 1) (.loop { rec .ready none with state := .busy })) := Kept.put _ _ _ _ (.inr rfl)
    have hi2 := hI k O' W _ (by omega) hi hk2
    have hax2 := hAx x a' W _ (by omega) hax hk2
    have hok2 := hOk k x _ W _ hok (hk2.more (fun b q => (hox _ _).2 (.inr q)))
    rw [hOX] at hok2
    dsimp only at hok2
    have hl2 : (W.putObj (B + 1) (.loop { rec .ready none with state := .busy })).heap[B + 1]? = some (.loop { rec .ready none with state := .busy }) := World.putObj_heap_same hlt
    have hd2 : (W.putObj (B + 1) (.loop { rec .ready none with state := .busy })).heap[B]? = some (.deferred (some [])) := (World.putObj_heap_other (by omega)).trans hd
    have hz2 : (W.putObj (B + 1) (.loop { rec .ready none with state := .busy })).heap.size = W.heap.size := by simp
    have hnl : ¬ O' (B + 1) := fun q => (hIO k O' W hi _ q).2.2 rfl
    have hnd : ¬ O' B := fun q => (hIO k O' W hi _ q).2.1 rfl
    refine wpIn_mono (hbody _ k x O' a' _ hax2 (by rw [World.putObj_size]; omega) hi2 hok2) ?_
    generalize W.putObj (B + 1) (.loop { rec .ready none with state := .busy }) = W2 at *
    have fin : ∀ (jump : Option Code) (W3 : World), Kept O' W2 W3 →
        (Instr.endRound (B + 1) jump).run P W3 = .ok (.bool jump.isNone) (W3.putObj (B + 1) (.loop (rec (if jump.isNone then .ready else .done) jump))) ∧
        (W3.putObj (B + 1) (.loop (rec (if jump.isNone then .ready else .done) jump))).heap[B + 1]? = some (.loop (rec (if jump.isNone then .ready else .done) jump)) ∧
        (W3.putObj (B + 1) (.loop (rec (if jump.isNone then .ready else .done) jump))).heap[B]? = some (.deferred (some [])) ∧
        LoopKept B W3 (W3.putObj (B + 1) (.loop (rec (if jump.isNone then .ready else .done) jump))) := fun jump W3 hk3 => by
      have hl3 := (hk3.block _ (by omega) hnl).trans hl2
      have := run_endRound (P := P) jump hl3
      rw [hrec] at this ⊢
      exact ⟨this, World.putObj_heap_same (Array.getElem?_eq_some_iff.1 hl3).1, (World.putObj_heap_other (by omega)).trans ((hk3.block _ (by omega) hnd).trans hd2), Kept.put _ _ _ _ (.inr rfl)⟩
    have KK : ∀ W3 W4, Kept O' W2 W3 → LoopKept B W3 W4 → Kept (OX O') Wb W4 := fun W3 W4 hk3 hk4 =>
      hKa.trans (O' := OX O') (((hk2.more (O' := OX O') (fun b q => (hox _ _).2 (.inr q))).trans (hk3.more (O' := OX O') (fun b q => (hox _ _).2 (.inl q))) (fun b q => .inl q)).trans (hk4.more (O' := OX O') (fun b q => (hox _ _).2 (.inr q))) (fun b q => .inl q)) (fun b q => .inl q)
    rintro e a3 W3 hp
    cases e with
    | normal =>
      obtain ⟨hk3, O3, hi3, ho3⟩ := hp
      obtain ⟨hr, hl4, hd4, hk4⟩ := fin none W3 hk3
      have hz3 := hk3.size
      refine ⟨_, _, hr, .inl ⟨rfl, ⟨OX O3, ⟨O3, rfl, hI _ O3 W3 _ (by omega) hi3 hk4, hl4, hd4⟩, fun b q => ?_⟩, ?_⟩⟩
      · rcases (hox _ _).1 q with q | q
        · rcases ho3 b q with q | q
          · exact .inl ((hox _ _).2 (.inl q))
          · exact .inr (by omega)
        · exact .inl ((hox _ _).2 (.inr q))
      · exact KK W3 _ hk3 hk4
    | ret =>
      obtain ⟨hk3, hi3⟩ := hp
      obtain ⟨hr, hl4, hd4, hk4⟩ := fin (some .ret) W3 hk3
      have hz3 := hk3.size
      exact ⟨_, _, hr, .inr ⟨rfl, ⟨.ret, hIx _ _ W3 _ (by omega) hi3 hk4, hl4, hd4⟩, KK W3 _ hk3 hk4⟩⟩
    | exit id =>
      obtain ⟨hk3, hi3⟩ := hp
      obtain ⟨hr, hl4, hd4, hk4⟩ := fin (some (.exit id)) W3 hk3
      have hz3 := hk3.size
      exact ⟨_, _, hr, .inr ⟨rfl, ⟨.exit id, hIx _ _ W3 _ (by omega) hi3 hk4, hl4, hd4⟩, KK W3 _ hk3 hk4⟩⟩
    | goto t =>
      obtain ⟨hk3, hi3⟩ := hp
      obtain ⟨hr, hl4, hd4, hk4⟩ := fin (some (.goto t)) W3 hk3
      have hz3 := hk3.size
      exact ⟨_, _, hr, .inr ⟨rfl, ⟨.goto t, hIx _ _ W3 _ (by omega) hi3 hk4, hl4, hd4⟩, KK W3 _ hk3 hk4⟩⟩
    | panic ch => exact hp.elim
    | outgrown => exact hp.elim
  · -- behind the iterator
    rintro e W2 ⟨⟨v, rfl⟩, (⟨O, O', rfl, hi, hl, hd⟩ | ⟨k, hk, c, hi, hl, hd⟩)⟩
    · have hlt := (Array.getElem?_eq_some_iff.1 hl).1
      exact ⟨none, _, by have := run_endLoop (P := P) hl (by rw [hrec]; simp); rw [hrec] at this; exact this, hdone O' _ (hI _ _ _ _ (by omega) hi (Kept.put _ _ _ _ (.inr rfl))) ((World.putObj_heap_other (by omega)).trans hd)⟩
    · have hlt := (Array.getElem?_eq_some_iff.1 hl).1
      exact ⟨some c, _, by have := run_endLoop (P := P) hl (by rw [hrec]; simp); rw [hrec] at this; exact this, hstop c k _ hk (hIx c k _ _ (by omega) hi (Kept.put _ _ _ _ (.inr rfl))) ((World.putObj_heap_other (by omega)).trans hd)⟩
theorem wpIn_rangeFunc_told {P : Program} {n : Nat} {α : Type} {g : Operand} {ps : Array Tmp} {assign body : Code} {Q : Exit → Act → World → Prop} {a : Act} {w : World}
    (h1 : 1 ≤ n) {gf : Nat} {lb : Array Value} (hg : a.eval g = .func (.func gf) #[] lb) (eg : ∀ args w, (callFunc gf args).run P w = .ok (.enter gf args) w)
    {encs : α → Array Value} {Ok : Nat → α → (Nat → Prop) → World → Prop} {Need : Nat → Prop} {N : Nat} (hseq : Told (n - 1) P gf lb encs Ok Need N w) (hps : ∀ x, (encs x).size = ps.size)
    (hOk : ∀ k x O W W', Ok k x O W → Kept O W W' → Ok k x O W')
    (I : Nat → (Nat → Prop) → World → Prop) (Ix : Code → Nat → World → Prop)
    (hI : ∀ k O W W', w.heap.size ≤ W.heap.size → I k O W → LoopKept w.heap.size W W' → I k O W') (hIx : ∀ c k W W', w.heap.size ≤ W.heap.size → Ix c k W → LoopKept w.heap.size W W' → Ix c k W')
    (hIO : ∀ k O W, I k O W → ∀ b, O b → b < W.heap.size ∧ b ≠ w.heap.size ∧ b ≠ w.heap.size + 1)
    (O0 : Nat → Prop) (hO0 : ∀ b, Need b → ¬ O0 b) (hNeed : ∀ b, Need b → b < w.heap.size) (h0 : I 0 O0 w) (a₁ : α → Act)
    (hassign : ∀ (l : Nat) (x : α) (W : World) (K : Act → World → Prop), K (a₁ x) W →
      assign.wpIn (Fence.wide.inRound l) (n - 1 - 1) P (Exit.then K (fun _ _ _ => False)) { tmps := (ps.zip (encs x)).foldl (fun t (p, v) => t.setIfInBounds p v) a.tmps, defers := [] } W)
    (hbody : ∀ (l k : Nat) (x : α) (O : Nat → Prop) (W : World), w.heap.size + 2 ≤ W.heap.size → I k O W → Ok k x (fun b => O b ∨ b = w.heap.size ∨ b = w.heap.size + 1) W → body.wpIn (Fence.wide.inRound l) (n - 1 - 1) P (toldPost I Ix (k + 1) O W) (a₁ x) W)
    (hdone : ∀ (O : Nat → Prop) (W : World), I N O W → W.heap[w.heap.size]? = some (.deferred (some [])) → Q .normal { a with defers := { target := .collected w.heap.size, args := #[] } :: a.defers } W)
    (hstop : ∀ (c : Code) (k : Nat) (W : World), k ≤ N → Ix c k W → W.heap[w.heap.size]? = some (.deferred (some [])) → c.wpIn Fence.wide n P Q { a with defers := { target := .collected w.heap.size, args := #[] } :: a.defers } W) :
    (Code.rangeFunc g ps assign body).wpIn Fence.wide n P Q a w :=
  wpIn_rangeFunc_toldA h1 hg eg hseq hps hOk I Ix hI hIx hIO O0 hO0 hNeed h0 (fun x a' _ => a' = a₁ x) (fun _ _ _ _ _ h _ => h)
    (fun l k x O W K _ _ _ hK => hassign l x W K (hK _ _ (Below.refl _ _) rfl)) (fun l k x O a' W e hz hi hok => by subst e; exact hbody l k x O W hz hi hok) hdone hstop
end Go.Proofs.YtfkfboiblgoamaaDoor
/- The program's value.check: words; the errors ahead of the kinds. -/
namespace Go.Proofs.YtfkfboiblgoamaaDoor
open Go.RowKit
set_option linter.unusedSimpArgs false
set_option linter.unusedVariables false

def ChkOut (R : Int × Int) (B : Nat) (w : World) (r : Ending) (w' : World) : Prop :=
  ∃ s' : Int, r = .returned (.int .i64 R.2) ∧ Whole w' B 3 #[.int .i64 s'] ∧ (R.2 = 0 → s' = R.1) ∧ Kept (· = B) w w'
def ChkIs (T : Vt) : Prop := ∀ (d s : Int) (top B : Nat) (w : World), T.In w top → top ≤ B → Whole w B 3 #[.int .i64 s] → 0 ≤ d → d ≤ 49 → 0 ≤ s → s ≤ 65536 →
    Calls Tryd.prog 54 #[.agg T.h.cells, .int .i64 d, .pointer (some ⟨B, 0, none⟩)] w (ChkOut (T.look d s) B w)
theorem Kept.setB (W : World) (B : Nat) (u : Value) : Kept (· = B) W (W.setCell ⟨B, 0, none⟩ u) := ⟨rfl, rfl, rfl, by simp [World.setCell], fun k _ hk => Below.heap_setCell _ _ _ _ hk⟩
theorem Kept.then {b : Nat} {A B C : World} (h : Kept (· = b) A B) (k : Below B.heap.size B C) : Kept (· = b) A C := h.trans ((Kept.of k).more (O' := (· = b)) (O := (· = b)) (fun _ q => q)) (fun _ q => .inl q)
theorem Whole.keptB {O : Nat → Prop} {W W' : World} {b : Nat} {t : TypeId} {cs : Array Value} (P : Whole W b t cs) (hk : Kept O W W') (hn : ¬ O b) : Whole W' b t cs := (hk.block b P.lt hn).trans P
set_option maxHeartbeats 4000000 in
set_option maxRecDepth 100000 in
theorem chk_deep {k : Int} {b n : Bool} {dd : ByteArray} {e tk td tn tz : Int} {x : ByteArray} {ba : Option Addr} {bn bc : Nat} {la : Option Addr} {ln lc : Nat} {fa : Option Addr} {fn fc bb bo lb lo fb fo : Nat} {Y : Nat → Int} {L : Nat → Vt} {K : Nat → ByteArray} {F : Nat → Vt} {d s : Int} {top B : Nat} {w : World} (hT : (Vt.mk ⟨k, b, n, dd, e, tk, td, tn, tz, x, ba, bn, bc, la, ln, lc, fa, fn, fc, bb, bo, lb, lo, fb, fo⟩ Y L K F).In w top) (ht : top ≤ B) (hB : Whole w B 3 #[.int .i64 s]) (d0 : 0 ≤ d) (s0 : 0 ≤ s) (h : 48 < d) (s1 : s ≤ 65536) :
    Calls Tryd.prog 54 #[.agg #[.int .i64 k, .bool b, .bool n, .string dd, .int .i64 e, .int .i64 tk, .int .i64 td, .int .i64 tn, .int .i64 tz, .string x, .slice ba bn bc, .slice la ln lc, .slice fa fn fc], .int .i64 d, .pointer (some ⟨B, 0, none⟩)] w (ChkOut (s, 9) B w) := by
  have hBl := hB.lt
  have hz0 : (w.setCell ⟨B, 0, none⟩ (.int .i64 (s + 1))).heap.size = w.heap.size := by simp [World.setCell]
  have P1 := Whole.new (w.setCell ⟨B, 0, none⟩ (.int .i64 (s + 1))) 30 #[.int .i64 k, .bool b, .bool n, .string dd, .int .i64 e, .int .i64 tk, .int .i64 td, .int .i64 tn, .int .i64 tz, .string x, .slice ba bn bc, .slice la ln lc, .slice fa fn fc]
  rw [hz0] at P1
  have B1 := (hB.s (.int .i64 (s + 1))).alloc (.cells #[.int .i64 k, .bool b, .bool n, .string dd, .int .i64 e, .int .i64 tk, .int .i64 td, .int .i64 tn, .int .i64 tz, .string x, .slice ba bn bc, .slice la ln lc, .slice fa fn fc] 30)
  have K1 : Kept (· = B) w ((w.setCell ⟨B, 0, none⟩ (.int .i64 (s + 1))).alloc (.cells #[.int .i64 k, .bool b, .bool n, .string dd, .int .i64 e, .int .i64 tk, .int .i64 td, .int .i64 tn, .int .i64 tz, .string x, .slice ba bn bc, .slice la ln lc, .slice fa fn fc] 30)) := (Kept.setB w B (.int .i64 (s + 1))).then ((Below.refl _ _).alloc (Nat.le_refl _) _)
  have bc0 := hB.cell 0
  have bf0 := hB.frozen 0
  clear hz0
  simp only [List.getElem?_toArray, List.getElem?_cons_zero] at bc0
  have HTk := Lib.hid (fun (w1 : World) (h : Kept (· = B) w w1) => Vt.In.below (h.below (Nat.le_of_lt (Nat.lt_of_le_of_lt ht hBl)) (fun c q e => by omega)) hT)
  clear HTk
  clear hT hB
  go_enter Tryd.func54, Tryd.ntmps54
  go_upto_region 2 with (fail)
  have hW : ∃ w1, (w.setCell ⟨B, 0, none⟩ (.int .i64 (s + 1))).alloc (.cells #[.int .i64 k, .bool b, .bool n, .string dd, .int .i64 e, .int .i64 tk, .int .i64 td, .int .i64 tn, .int .i64 tz, .string x, .slice ba bn bc, .slice la ln lc, .slice fa fn fc] 30) = w1 := ⟨_, rfl⟩
  obtain ⟨w1, hw1⟩ := hW
  rw [hw1] at P1 B1 K1 ⊢
  clear hw1 bc0 bf0
  have bc1 := B1.cell 0
  simp only [List.getElem?_toArray, List.getElem?_cons_zero] at bc1
  obtain ⟨c0, c1, c2, c3, c4, c5, c6, c7, c8, c9, c10, c11, c12⟩ := Whole.c13 (h := ⟨k, b, n, dd, e, tk, td, tn, tz, x, ba, bn, bc, la, ln, lc, fa, fn, fc, bb, bo, lb, lo, fb, fo⟩) P1
  go_wp2
  go_ret
  exact ⟨_, rfl, B1, fun q => absurd (show (9 : Int) = 0 from q) (by decide), K1⟩
set_option maxHeartbeats 4000000 in
set_option maxRecDepth 100000 in
theorem chk_many {k : Int} {b n : Bool} {dd : ByteArray} {e tk td tn tz : Int} {x : ByteArray} {ba : Option Addr} {bn bc : Nat} {la : Option Addr} {ln lc : Nat} {fa : Option Addr} {fn fc bb bo lb lo fb fo : Nat} {Y : Nat → Int} {L : Nat → Vt} {K : Nat → ByteArray} {F : Nat → Vt} {d s : Int} {top B : Nat} {w : World} (hT : (Vt.mk ⟨k, b, n, dd, e, tk, td, tn, tz, x, ba, bn, bc, la, ln, lc, fa, fn, fc, bb, bo, lb, lo, fb, fo⟩ Y L K F).In w top) (ht : top ≤ B) (hB : Whole w B 3 #[.int .i64 s]) (d0 : 0 ≤ d) (s0 : 0 ≤ s) (h : d ≤ 48) (s2 : 65536 ≤ s) (s1 : s ≤ 65536) :
    Calls Tryd.prog 54 #[.agg #[.int .i64 k, .bool b, .bool n, .string dd, .int .i64 e, .int .i64 tk, .int .i64 td, .int .i64 tn, .int .i64 tz, .string x, .slice ba bn bc, .slice la ln lc, .slice fa fn fc], .int .i64 d, .pointer (some ⟨B, 0, none⟩)] w (ChkOut (s, 10) B w) := by
  have hBl := hB.lt
  have hz0 : (w.setCell ⟨B, 0, none⟩ (.int .i64 (s + 1))).heap.size = w.heap.size := by simp [World.setCell]
  have P1 := Whole.new (w.setCell ⟨B, 0, none⟩ (.int .i64 (s + 1))) 30 #[.int .i64 k, .bool b, .bool n, .string dd, .int .i64 e, .int .i64 tk, .int .i64 td, .int .i64 tn, .int .i64 tz, .string x, .slice ba bn bc, .slice la ln lc, .slice fa fn fc]
  rw [hz0] at P1
  have B1 := (hB.s (.int .i64 (s + 1))).alloc (.cells #[.int .i64 k, .bool b, .bool n, .string dd, .int .i64 e, .int .i64 tk, .int .i64 td, .int .i64 tn, .int .i64 tz, .string x, .slice ba bn bc, .slice la ln lc, .slice fa fn fc] 30)
  have K1 : Kept (· = B) w ((w.setCell ⟨B, 0, none⟩ (.int .i64 (s + 1))).alloc (.cells #[.int .i64 k, .bool b, .bool n, .string dd, .int .i64 e, .int .i64 tk, .int .i64 td, .int .i64 tn, .int .i64 tz, .string x, .slice ba bn bc, .slice la ln lc, .slice fa fn fc] 30)) := (Kept.setB w B (.int .i64 (s + 1))).then ((Below.refl _ _).alloc (Nat.le_refl _) _)
  have bc0 := hB.cell 0
  have bf0 := hB.frozen 0
  clear hz0
  simp only [List.getElem?_toArray, List.getElem?_cons_zero] at bc0
  have HTk := Lib.hid (fun (w1 : World) (h : Kept (· = B) w w1) => Vt.In.below (h.below (Nat.le_of_lt (Nat.lt_of_le_of_lt ht hBl)) (fun c q e => by omega)) hT)
  clear HTk
  clear hT hB
  go_enter Tryd.func54, Tryd.ntmps54
  go_upto_region 2 with (fail)
  have hW : ∃ w1, (w.setCell ⟨B, 0, none⟩ (.int .i64 (s + 1))).alloc (.cells #[.int .i64 k, .bool b, .bool n, .string dd, .int .i64 e, .int .i64 tk, .int .i64 td, .int .i64 tn, .int .i64 tz, .string x, .slice ba bn bc, .slice la ln lc, .slice fa fn fc] 30) = w1 := ⟨_, rfl⟩
  obtain ⟨w1, hw1⟩ := hW
  rw [hw1] at P1 B1 K1 ⊢
  clear hw1 bc0 bf0
  have bc1 := B1.cell 0
  simp only [List.getElem?_toArray, List.getElem?_cons_zero] at bc1
  obtain ⟨c0, c1, c2, c3, c4, c5, c6, c7, c8, c9, c10, c11, c12⟩ := Whole.c13 (h := ⟨k, b, n, dd, e, tk, td, tn, tz, x, ba, bn, bc, la, ln, lc, fa, fn, fc, bb, bo, lb, lo, fb, fo⟩) P1
  go_wp2
  go_ret
  exact ⟨_, rfl, B1, fun q => absurd (show (10 : Int) = 0 from q) (by decide), K1⟩
set_option maxHeartbeats 4000000 in
set_option maxRecDepth 100000 in
theorem chk_low {k : Int} {b n : Bool} {dd : ByteArray} {e tk td tn tz : Int} {x : ByteArray} {ba : Option Addr} {bn bc : Nat} {la : Option Addr} {ln lc : Nat} {fa : Option Addr} {fn fc bb bo lb lo fb fo : Nat} {Y : Nat → Int} {L : Nat → Vt} {K : Nat → ByteArray} {F : Nat → Vt} {d s : Int} {top B : Nat} {w : World} (hT : (Vt.mk ⟨k, b, n, dd, e, tk, td, tn, tz, x, ba, bn, bc, la, ln, lc, fa, fn, fc, bb, bo, lb, lo, fb, fo⟩ Y L K F).In w top) (ht : top ≤ B) (hB : Whole w B 3 #[.int .i64 s]) (d0 : 0 ≤ d) (s0 : 0 ≤ s) (h : d ≤ 48) (s1 : s ≤ 65535) (hk : k < 0) :
    Calls Tryd.prog 54 #[.agg #[.int .i64 k, .bool b, .bool n, .string dd, .int .i64 e, .int .i64 tk, .int .i64 td, .int .i64 tn, .int .i64 tz, .string x, .slice ba bn bc, .slice la ln lc, .slice fa fn fc], .int .i64 d, .pointer (some ⟨B, 0, none⟩)] w (ChkOut (s, 6) B w) := by
  have hBl := hB.lt
  have hz0 : (w.setCell ⟨B, 0, none⟩ (.int .i64 (s + 1))).heap.size = w.heap.size := by simp [World.setCell]
  have P1 := Whole.new (w.setCell ⟨B, 0, none⟩ (.int .i64 (s + 1))) 30 #[.int .i64 k, .bool b, .bool n, .string dd, .int .i64 e, .int .i64 tk, .int .i64 td, .int .i64 tn, .int .i64 tz, .string x, .slice ba bn bc, .slice la ln lc, .slice fa fn fc]
  rw [hz0] at P1
  have B1 := (hB.s (.int .i64 (s + 1))).alloc (.cells #[.int .i64 k, .bool b, .bool n, .string dd, .int .i64 e, .int .i64 tk, .int .i64 td, .int .i64 tn, .int .i64 tz, .string x, .slice ba bn bc, .slice la ln lc, .slice fa fn fc] 30)
  have K1 : Kept (· = B) w ((w.setCell ⟨B, 0, none⟩ (.int .i64 (s + 1))).alloc (.cells #[.int .i64 k, .bool b, .bool n, .string dd, .int .i64 e, .int .i64 tk, .int .i64 td, .int .i64 tn, .int .i64 tz, .string x, .slice ba bn bc, .slice la ln lc, .slice fa fn fc] 30)) := (Kept.setB w B (.int .i64 (s + 1))).then ((Below.refl _ _).alloc (Nat.le_refl _) _)
  have bc0 := hB.cell 0
  have bf0 := hB.frozen 0
  clear hz0
  simp only [List.getElem?_toArray, List.getElem?_cons_zero] at bc0
  have HTk := Lib.hid (fun (w1 : World) (h : Kept (· = B) w w1) => Vt.In.below (h.below (Nat.le_of_lt (Nat.lt_of_le_of_lt ht hBl)) (fun c q e => by omega)) hT)
  clear HTk
  clear hT hB
  go_enter Tryd.func54, Tryd.ntmps54
  go_upto_region 2 with (fail)
  have hW : ∃ w1, (w.setCell ⟨B, 0, none⟩ (.int .i64 (s + 1))).alloc (.cells #[.int .i64 k, .bool b, .bool n, .string dd, .int .i64 e, .int .i64 tk, .int .i64 td, .int .i64 tn, .int .i64 tz, .string x, .slice ba bn bc, .slice la ln lc, .slice fa fn fc] 30) = w1 := ⟨_, rfl⟩
  obtain ⟨w1, hw1⟩ := hW
  rw [hw1] at P1 B1 K1 ⊢
  clear hw1 bc0 bf0
  have bc1 := B1.cell 0
  simp only [List.getElem?_toArray, List.getElem?_cons_zero] at bc1
  obtain ⟨c0, c1, c2, c3, c4, c5, c6, c7, c8, c9, c10, c11, c12⟩ := Whole.c13 (h := ⟨k, b, n, dd, e, tk, td, tn, tz, x, ba, bn, bc, la, ln, lc, fa, fn, fc, bb, bo, lb, lo, fb, fo⟩) P1
  go_wp2
  go_ret
  exact ⟨_, rfl, B1, fun q => absurd (show (6 : Int) = 0 from q) (by decide), K1⟩
set_option maxHeartbeats 4000000 in
set_option maxRecDepth 100000 in
theorem chk_high {k : Int} {b n : Bool} {dd : ByteArray} {e tk td tn tz : Int} {x : ByteArray} {ba : Option Addr} {bn bc : Nat} {la : Option Addr} {ln lc : Nat} {fa : Option Addr} {fn fc bb bo lb lo fb fo : Nat} {Y : Nat → Int} {L : Nat → Vt} {K : Nat → ByteArray} {F : Nat → Vt} {d s : Int} {top B : Nat} {w : World} (hT : (Vt.mk ⟨k, b, n, dd, e, tk, td, tn, tz, x, ba, bn, bc, la, ln, lc, fa, fn, fc, bb, bo, lb, lo, fb, fo⟩ Y L K F).In w top) (ht : top ≤ B) (hB : Whole w B 3 #[.int .i64 s]) (d0 : 0 ≤ d) (s0 : 0 ≤ s) (h : d ≤ 48) (s1 : s ≤ 65535) (hk : 7 < k) :
    Calls Tryd.prog 54 #[.agg #[.int .i64 k, .bool b, .bool n, .string dd, .int .i64 e, .int .i64 tk, .int .i64 td, .int .i64 tn, .int .i64 tz, .string x, .slice ba bn bc, .slice la ln lc, .slice fa fn fc], .int .i64 d, .pointer (some ⟨B, 0, none⟩)] w (ChkOut (s, 6) B w) := by
  have hBl := hB.lt
  have hz0 : (w.setCell ⟨B, 0, none⟩ (.int .i64 (s + 1))).heap.size = w.heap.size := by simp [World.setCell]
  have P1 := Whole.new (w.setCell ⟨B, 0, none⟩ (.int .i64 (s + 1))) 30 #[.int .i64 k, .bool b, .bool n, .string dd, .int .i64 e, .int .i64 tk, .int .i64 td, .int .i64 tn, .int .i64 tz, .string x, .slice ba bn bc, .slice la ln lc, .slice fa fn fc]
  rw [hz0] at P1
  have B1 := (hB.s (.int .i64 (s + 1))).alloc (.cells #[.int .i64 k, .bool b, .bool n, .string dd, .int .i64 e, .int .i64 tk, .int .i64 td, .int .i64 tn, .int .i64 tz, .string x, .slice ba bn bc, .slice la ln lc, .slice fa fn fc] 30)
  have K1 : Kept (· = B) w ((w.setCell ⟨B, 0, none⟩ (.int .i64 (s + 1))).alloc (.cells #[.int .i64 k, .bool b, .bool n, .string dd, .int .i64 e, .int .i64 tk, .int .i64 td, .int .i64 tn, .int .i64 tz, .string x, .slice ba bn bc, .slice la ln lc, .slice fa fn fc] 30)) := (Kept.setB w B (.int .i64 (s + 1))).then ((Below.refl _ _).alloc (Nat.le_refl _) _)
  have bc0 := hB.cell 0
  have bf0 := hB.frozen 0
  clear hz0
  simp only [List.getElem?_toArray, List.getElem?_cons_zero] at bc0
  have HTk := Lib.hid (fun (w1 : World) (h : Kept (· = B) w w1) => Vt.In.below (h.below (Nat.le_of_lt (Nat.lt_of_le_of_lt ht hBl)) (fun c q e => by omega)) hT)
  clear HTk
  clear hT hB
  go_enter Tryd.func54, Tryd.ntmps54
  go_upto_region 2 with (fail)
  have hW : ∃ w1, (w.setCell ⟨B, 0, none⟩ (.int .i64 (s + 1))).alloc (.cells #[.int .i64 k, .bool b, .bool n, .string dd, .int .i64 e, .int .i64 tk, .int .i64 td, .int .i64 tn, .int .i64 tz, .string x, .slice ba bn bc, .slice la ln lc, .slice fa fn fc] 30) = w1 := ⟨_, rfl⟩
  obtain ⟨w1, hw1⟩ := hW
  rw [hw1] at P1 B1 K1 ⊢
  clear hw1 bc0 bf0
  have bc1 := B1.cell 0
  simp only [List.getElem?_toArray, List.getElem?_cons_zero] at bc1
  obtain ⟨c0, c1, c2, c3, c4, c5, c6, c7, c8, c9, c10, c11, c12⟩ := Whole.c13 (h := ⟨k, b, n, dd, e, tk, td, tn, tz, x, ba, bn, bc, la, ln, lc, fa, fn, fc, bb, bo, lb, lo, fb, fo⟩) P1
  go_wp2
  go_ret
  exact ⟨_, rfl, B1, fun q => absurd (show (6 : Int) = 0 from q) (by decide), K1⟩
set_option maxHeartbeats 4000000 in
set_option maxRecDepth 100000 in
theorem chk_ext {k : Int} {b n : Bool} {dd : ByteArray} {e tk td tn tz : Int} {x : ByteArray} {ba : Option Addr} {bn bc : Nat} {la : Option Addr} {ln lc : Nat} {fa : Option Addr} {fn fc bb bo lb lo fb fo : Nat} {Y : Nat → Int} {L : Nat → Vt} {K : Nat → ByteArray} {F : Nat → Vt} {d s : Int} {top B : Nat} {w : World} (hT : (Vt.mk ⟨k, b, n, dd, e, tk, td, tn, tz, x, ba, bn, bc, la, ln, lc, fa, fn, fc, bb, bo, lb, lo, fb, fo⟩ Y L K F).In w top) (ht : top ≤ B) (hB : Whole w B 3 #[.int .i64 s]) (d0 : 0 ≤ d) (s0 : 0 ≤ s) (h : d ≤ 48) (s1 : s ≤ 65535) (hk : 0 ≤ k) (hk7 : k ≤ 7) (he : Vh.ext ⟨k, b, n, dd, e, tk, td, tn, tz, x, ba, bn, bc, la, ln, lc, fa, fn, fc, bb, bo, lb, lo, fb, fo⟩ = true) :
    Calls Tryd.prog 54 #[.agg #[.int .i64 k, .bool b, .bool n, .string dd, .int .i64 e, .int .i64 tk, .int .i64 td, .int .i64 tn, .int .i64 tz, .string x, .slice ba bn bc, .slice la ln lc, .slice fa fn fc], .int .i64 d, .pointer (some ⟨B, 0, none⟩)] w (ChkOut (s, 6) B w) := by
  have HX := Lib.hid (ext_any ⟨k, b, n, dd, e, tk, td, tn, tz, x, ba, bn, bc, la, ln, lc, fa, fn, fc, bb, bo, lb, lo, fb, fo⟩ ⟨hk, hk7⟩)
  rw [he] at HX
  simp only [Vh.cells] at HX
  clear he
  have hBl := hB.lt
  have hz0 : (w.setCell ⟨B, 0, none⟩ (.int .i64 (s + 1))).heap.size = w.heap.size := by simp [World.setCell]
  have P1 := Whole.new (w.setCell ⟨B, 0, none⟩ (.int .i64 (s + 1))) 30 #[.int .i64 k, .bool b, .bool n, .string dd, .int .i64 e, .int .i64 tk, .int .i64 td, .int .i64 tn, .int .i64 tz, .string x, .slice ba bn bc, .slice la ln lc, .slice fa fn fc]
  rw [hz0] at P1
  have B1 := (hB.s (.int .i64 (s + 1))).alloc (.cells #[.int .i64 k, .bool b, .bool n, .string dd, .int .i64 e, .int .i64 tk, .int .i64 td, .int .i64 tn, .int .i64 tz, .string x, .slice ba bn bc, .slice la ln lc, .slice fa fn fc] 30)
  have K1 : Kept (· = B) w ((w.setCell ⟨B, 0, none⟩ (.int .i64 (s + 1))).alloc (.cells #[.int .i64 k, .bool b, .bool n, .string dd, .int .i64 e, .int .i64 tk, .int .i64 td, .int .i64 tn, .int .i64 tz, .string x, .slice ba bn bc, .slice la ln lc, .slice fa fn fc] 30)) := (Kept.setB w B (.int .i64 (s + 1))).then ((Below.refl _ _).alloc (Nat.le_refl _) _)
  have bc0 := hB.cell 0
  have bf0 := hB.frozen 0
  clear hz0
  simp only [List.getElem?_toArray, List.getElem?_cons_zero] at bc0
  have HTk := Lib.hid (fun (w1 : World) (h : Kept (· = B) w w1) => Vt.In.below (h.below (Nat.le_of_lt (Nat.lt_of_le_of_lt ht hBl)) (fun c q e => by omega)) hT)
  clear HTk
  clear hT hB
  go_enter Tryd.func54, Tryd.ntmps54
  go_upto_region 2 with (fail)
  have hW : ∃ w1, (w.setCell ⟨B, 0, none⟩ (.int .i64 (s + 1))).alloc (.cells #[.int .i64 k, .bool b, .bool n, .string dd, .int .i64 e, .int .i64 tk, .int .i64 td, .int .i64 tn, .int .i64 tz, .string x, .slice ba bn bc, .slice la ln lc, .slice fa fn fc] 30) = w1 := ⟨_, rfl⟩
  obtain ⟨w1, hw1⟩ := hW
  rw [hw1] at P1 B1 K1 ⊢
  clear hw1 bc0 bf0
  have bc1 := B1.cell 0
  simp only [List.getElem?_toArray, List.getElem?_cons_zero] at bc1
  obtain ⟨c0, c1, c2, c3, c4, c5, c6, c7, c8, c9, c10, c11, c12⟩ := Whole.c13 (h := ⟨k, b, n, dd, e, tk, td, tn, tz, x, ba, bn, bc, la, ln, lc, fa, fn, fc, bb, bo, lb, lo, fb, fo⟩) P1
  go_wp2_with fail
  refine (HX.out _).mono ?_; rintro _ w2 ⟨rfl, hb2⟩
  have B2 := B1.below hb2 B1.lt
  have K2 := K1.then hb2
  go_wp2
  go_ret
  exact ⟨_, rfl, B2, fun q => absurd (show (6 : Int) = 0 from q) (by decide), K2⟩
end Go.Proofs.YtfkfboiblgoamaaDoor
