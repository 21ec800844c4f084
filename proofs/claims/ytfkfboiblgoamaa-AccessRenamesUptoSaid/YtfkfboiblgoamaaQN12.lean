/- Laid together for one claim: VtTold, VtFindR. -/
import Derived.RangeFuncNested
import Derived.RangeFuncBound
import Derived.RangeFuncCalls
import Derived.RangeFuncLeaves
import Derived.RangeFuncBox
import Derived.Shelf.Abstract
import Derived.Shelf.RegionOpen
import Derived.OwnWalkIn
import Derived.TacticsInMore
import Derived.LoopNIn
import Derived.LoopIn
import Derived.Test.YtfkfboiblgoamaaProg
import Derived.Test.YtfkfboiblgoamaaQN10
/- A range over a function whose body is told where what it is handed lies: which blocks are the body's own, and what is kept through a round. -/
namespace Go.Proofs.Ytfkfboiblgoamaa
open Go.RowKit Go.Shelf

/-- All but these blocks lie as they lay. -/
structure Kept (O : Nat → Prop) (W W' : World) : Prop where
  os : W'.os = W.os
  tape : W'.tape = W.tape
  output : W'.output = W.output
  size : W.heap.size ≤ W'.heap.size
  block : ∀ k, k < W.heap.size → ¬ O k → W'.heap[k]? = W.heap[k]?
theorem Kept.refl (O : Nat → Prop) (W : World) : Kept O W W := ⟨rfl, rfl, rfl, Nat.le_refl _, fun _ _ _ => rfl⟩
theorem Kept.trans {O O' : Nat → Prop} {A B C : World} (h : Kept O A B) (k : Kept O' B C) (ho : ∀ b, O' b → O b ∨ A.heap.size ≤ b) : Kept O A C :=
  ⟨k.os.trans h.os, k.tape.trans h.tape, k.output.trans h.output, Nat.le_trans h.size k.size, fun i hi hn => (k.block i (Nat.lt_of_lt_of_le hi h.size) fun q => by
    rcases ho i q with q | q
    · exact hn q
    · omega).trans (h.block i hi hn)⟩
theorem Kept.of {O : Nat → Prop} {W W' : World} (h : Below W.heap.size W W') : Kept O W W' := ⟨h.os, h.tape, h.output, h.size, fun k hk _ => h.block k hk⟩
theorem Kept.more {O O' : Nat → Prop} {W W' : World} (h : Kept O W W') (ho : ∀ b, O b → O' b) : Kept O' W W' := ⟨h.os, h.tape, h.output, h.size, fun k hk q => h.block k hk fun e => q (ho k e)⟩
theorem Kept.below {O : Nat → Prop} {W W' : World} {n : Nat} (h : Kept O W W') (hn : n ≤ W.heap.size) (ho : ∀ b, b < n → ¬ O b) : Below n W W' := ⟨h.os, h.tape, h.output, h.size, fun k hk => h.block k (Nat.lt_of_lt_of_le hk hn) (ho k hk)⟩
theorem Kept.put (O : Nat → Prop) (W : World) (l : Nat) (o : Obj) (hl : O l) : Kept O W (W.putObj l o) :=
  ⟨rfl, rfl, rfl, by simp, fun k _ hk => World.putObj_heap_other (fun e => hk (by rw [e]; exact hl))⟩

theorem room_any (k : Nat) : Fence.wide.room k := fun d h => by cases h
theorem RoundIn.any {m m' : Nat} {P : Program} {l : Nat} {f : FuncId} {tmps : Array Value} {assign body : Code} {w : World} {R : Ending → World → Prop} (h : RoundIn Fence.wide m P l f tmps assign body w R) : RoundIn Fence.wide m' P l f tmps assign body w R :=
  ⟨h.1, fun c cs _ => h.2 c cs (room_any _)⟩

/-- What a round answers: J goes on, or it is over. -/
def ToldRound (J : Nat → (Nat → Prop) → World → Prop) (Jx : Nat → World → Prop) (k : Nat) (O : Nat → Prop) (W : World) (e : Ending) (W' : World) : Prop :=
  (e = .returned (.bool true) ∧ (∃ O', J (k + 1) O' W' ∧ ∀ b, O' b → O b ∨ W.heap.size ≤ b) ∧ Kept O W W') ∨ (e = .returned (.bool false) ∧ Jx (k + 1) W' ∧ Kept O W W')
/-- An iterator's contract: N rounds, each told 'Ok' of what it is handed; what the iterator needs is none of the body's. -/
def Told {α : Type} (n : Nat) (P : Program) (g : Nat) (lb : Array Value) (encs : α → Array Value) (Ok : Nat → α → (Nat → Prop) → World → Prop) (Need : Nat → Prop) (N : Nat) (w : World) : Prop :=
  ∀ (l : Nat) (O0 : Nat → Prop) (J : Nat → (Nat → Prop) → World → Prop) (Jx : Nat → World → Prop) (W : World), Below w.heap.size w W → (∀ b, Need b → ¬ O0 b) → J 0 O0 W →
    (∀ k O W W', J k O W → Below W.heap.size W W' → J k O W') → (∀ k W W', Jx k W → Below W.heap.size W W' → Jx k W') → (∀ k O W, J k O W → ∀ b, O b → b < W.heap.size) →
    (∀ k x O W1 m, J k O W1 → Ok k x O W1 → YieldAt Fence.wide m P l (encs x) W1 (ToldRound J Jx k O W1)) →
    CallsIn Fence.wide n P g (#[.func (.yield l) #[] #[]] ++ lb) W fun e W' => (∃ v, e = .returned v) ∧ ((∃ O, J N O W') ∨ (∃ k, k ≤ N ∧ Jx k W'))
/-- How the body of a round may be left. -/
def toldPost (I : Nat → (Nat → Prop) → World → Prop) (Ix : Code → Nat → World → Prop) (k : Nat) (O : Nat → Prop) (W : World) : Exit → Act → World → Prop
  | .normal, _, W' => Kept O W W' ∧ ∃ O', I k O' W' ∧ ∀ b, O' b → O b ∨ W.heap.size ≤ b
  | .ret, _, W' => Kept O W W' ∧ Ix .ret k W'
  | .exit id, _, W' => Kept O W W' ∧ Ix (.exit id) k W'
  | .goto t, _, W' => Kept O W W' ∧ Ix (.goto t) k W'
  | .panic _, _, _ => False
  | .outgrown, _, _ => False
/-- All blocks but the loop's own two lie as they lay. -/
def LoopKept (B : Nat) (W W' : World) : Prop := Kept (fun b => b = B ∨ b = B + 1) W W'

theorem wpIn_rangeFunc_toldA {P : Program} {n : Nat} {α : Type} {g : Operand} {ps : Array Tmp} {assign body : Code} {Q : Exit → Act → World → Prop} {a : Act} {w : World}
    (h1 : 1 ≤ n) {gf : Nat} {lb : Array Value} (hg : a.eval g = .func (.func gf) #[] lb) (eg : ∀ args w, (callFunc gf args).run P w = .ok (.enter gf args) w)
    {encs : α → Array Value} {Ok : Nat → α → (Nat → Prop) → World → Prop} {Need : Nat → Prop} {N : Nat} (hseq : Told (n - 1) P gf lb encs Ok Need N w) (hps : ∀ x, (encs x).size = ps.size)
    (hOk : ∀ k x O W W', Ok k x O W → Kept O W W' → Ok k x O W')
    (I : Nat → (Nat → Prop) → World → Prop) (Ix : Code → Nat → World → Prop)
    (hI : ∀ k O W W', w.heap.size ≤ W.heap.size → I k O W → LoopKept w.heap.size W W' → I k O W') (hIx : ∀ c k W W', w.heap.size ≤ W.heap.size → Ix c k W → LoopKept w.heap.size W W' → Ix c k W')
    (hIO : ∀ k O W, I k O W → ∀ b, O b → b < W.heap.size ∧ b ≠ w.heap.size ∧ b ≠ w.heap.size + 1)
    (O0 : Nat → Prop) (hO0 : ∀ b, Need b → ¬ O0 b) (hNeed : ∀ b, Need b → b < w.heap.size) (h0 : I 0 O0 w) (Ax : α → Act → World → Prop) (hAx : ∀ x a' W W', w.heap.size + 2 ≤ W.heap.size → Ax x a' W → LoopKept w.heap.size W W' → Ax x a' W')
    (hassign : ∀ (l k : Nat) (x : α) (O : Nat → Prop) (W : World) (K : Act → World → Prop), w.heap.size + 2 ≤ W.heap.size → I k O W → Ok k x (fun b => O b ∨ b = w.heap.size ∨ b = w.heap.size + 1) W → (∀ a' W', Below W.heap.size W W' → Ax x a' W' → K a' W') →
      assign.wpIn (Fence.wide.inRound l) (n - 1 - 1) P (Exit.then K (fun _ _ _ => False)) { tmps := (ps.zip (encs x)).foldl (fun t (p, v) => t.setIfInBounds p v) a.tmps, defers := [] } W)
    (hbody : ∀ (l k : Nat) (x : α) (O : Nat → Prop) (a' : Act) (W : World), Ax x a' W → w.heap.size + 2 ≤ W.heap.size → I k O W → Ok k x (fun b => O b ∨ b = w.heap.size ∨ b = w.heap.size + 1) W → body.wpIn (Fence.wide.inRound l) (n - 1 - 1) P (toldPost I Ix (k + 1) O W) a' W)
    (hdone : ∀ (O : Nat → Prop) (W : World), I N O W → W.heap[w.heap.size]? = some (.deferred (some [])) → Q .normal { a with defers := { target := .collected w.heap.size, args := #[] } :: a.defers } W)
    (hstop : ∀ (c : Code) (k : Nat) (W : World), k ≤ N → Ix c k W → W.heap[w.heap.size]? = some (.deferred (some [])) → c.wpIn Fence.wide n P Q { a with defers := { target := .collected w.heap.size, args := #[] } :: a.defers } W) :
    (Code.rangeFunc g ps assign body).wpIn Fence.wide n P Q a w := by
  refine wpIn_rangeFunc ?_
  intro fn hfn
  obtain ⟨rec, hrec⟩ : ∃ rec : LoopState → Option Code → Loop, rec = fun st pe => { state := st, pending := pe, fn, tmps := a.tmps, params := ps, assign, body, defers := w.heap.size } := ⟨_, rfl⟩
  obtain ⟨B, hB⟩ : ∃ B, w.heap.size = B := ⟨_, rfl⟩
  rw [hB] at hI hIx hIO hNeed hdone hstop hbody hassign hAx
  obtain ⟨W1, hW1⟩ : ∃ W1, (w.alloc (.deferred (some []))).alloc (.loop (rec .ready none)) = W1 := ⟨_, rfl⟩
  have hz1 : W1.heap.size = B + 2 := by rw [← hW1]; simp; omega
  have hbw : Below w.heap.size w W1 := by rw [← hW1]; exact ((Below.refl _ w).alloc (Nat.le_refl _) _).alloc (by simp) _
  have hL1 : W1.heap[B + 1]? = some (.loop (rec .ready none)) := by
    rw [← hW1]; have := World.alloc_heap_new (w.alloc (.deferred (some []))) (.loop (rec .ready none)); rwa [World.size_alloc, hB] at this
  have hK1 : W1.heap[B]? = some (.deferred (some [])) := by
    rw [← hW1, ← hB]; exact (Below.heap_alloc _ _ _ (by simp)).trans (World.alloc_heap_new w _)
  have hI1 : I 0 O0 W1 := hI 0 O0 w W1 (by omega) h0 (Kept.of hbw)
  refine ⟨B + 1, [{ target := .collected B, args := #[] }], W1, { target := .fn (.func gf) lb, args := #[.func (.yield (B + 1)) #[] #[]] }, W1, gf,
    #[.func (.yield (B + 1)) #[] #[]] ++ lb, W1, ?_, ?_, ?_, ?_, fun _ => h1, ?_⟩
  · have := run_enterLoop_outer (P := P) (w := w) fn a.tmps ps assign body
    rw [hB] at this
    rw [← hW1, hrec]
    dsimp only
    rw [hB]
    exact this
  · simp only [resolve, hg]
    simp [go_sem]
  · intro f' hf'; simp [Target.leads] at hf'; subst hf'; exact trivial
  · simp [invoke, go_sem, eg]
  obtain ⟨OX, hOX⟩ : ∃ OX : (Nat → Prop) → Nat → Prop, OX = fun O b => O b ∨ b = B ∨ b = B + 1 := ⟨_, rfl⟩
  have hox : ∀ O b, OX O b ↔ (O b ∨ b = B ∨ b = B + 1) := fun O b => by rw [hOX]
  refine (hseq (B + 1) (OX O0)
      (fun k O W => ∃ O', O = OX O' ∧ I k O' W ∧ W.heap[B + 1]? = some (.loop (rec .ready none)) ∧ W.heap[B]? = some (.deferred (some [])))
      (fun k W => ∃ c, Ix c k W ∧ W.heap[B + 1]? = some (.loop (rec .done (some c))) ∧ W.heap[B]? = some (.deferred (some [])))
      W1 hbw ?_ ⟨O0, rfl, hI1, hL1, hK1⟩ ?_ ?_ ?_ ?_).mono ?_
  · intro b hb q
    have := hNeed b hb
    rcases (hox _ _).1 q with q | q | q
    · exact hO0 b hb q
    · omega
    · omega
  · rintro k O W W' ⟨O', e, hi, hl, hd⟩ hb
    have hlt := (Array.getElem?_eq_some_iff.1 hl).1
    exact ⟨O', e, hI k O' W W' (by omega) hi (Kept.of hb), (hb.block _ hlt).trans hl, (hb.block _ (by omega)).trans hd⟩
  · rintro k W W' ⟨c, hi, hl, hd⟩ hb
    have hlt := (Array.getElem?_eq_some_iff.1 hl).1
    exact ⟨c, hIx c k W W' (by omega) hi (Kept.of hb), (hb.block _ hlt).trans hl, (hb.block _ (by omega)).trans hd⟩
  · rintro k O W ⟨O', rfl, hi, hl, hd⟩ b q
    have hlt := (Array.getElem?_eq_some_iff.1 hl).1
    rcases (hox _ _).1 q with q | q | q
    · exact (hIO k O' W hi b q).1
    · omega
    · omega
  · -- one round
    rintro k x O W m ⟨O', rfl, hi, hl, hd⟩ hok
    have hlt := (Array.getElem?_eq_some_iff.1 hl).1
    have hy := run_yield (P := P) (args := encs x) hl (by rw [hrec]; exact hps x)
    rw [hrec] at hy
    refine ⟨fn, _, assign, body, hy, RoundIn.any (m := n - 1 - 1) (roundIn_of_wpIn hfn (hassign _ k x O' W _ (by omega) hi (by rw [hOX] at hok; exact hok) ?_))⟩
    clear hy
    intro a' Wa hba hax
    have hKa : Kept (OX O') W Wa := Kept.of hba
    have hza := hba.size
    replace hi := hI k O' W Wa (by omega) hi (Kept.of hba)
    replace hok := hOk k x _ W Wa hok hKa
    replace hl := (hba.block _ hlt).trans hl
    replace hd := (hba.block _ (by omega)).trans hd
    replace hlt : B + 1 < Wa.heap.size := Nat.lt_of_lt_of_le hlt hza
    clear hba
    revert hKa hza
    generalize W = Wb
    intro hKa hza
    obtain ⟨W, rfl⟩ : ∃ W, W = Wa := ⟨_, rfl⟩
    refine ⟨_, run_beginRound hl (by rw [hrec]), ?_⟩
    have hk2 : Kept (fun b => b = B ∨ b = B + 1) W (W.putObj (B + 1) (.loop { rec .ready none with state := .busy })) := Kept.put _ _ _ _ (.inr rfl)
    have hi2 := hI k O' W _ (by omega) hi hk2
    have hax2 := hAx x a' W _ (by omega) hax hk2
    have hok2 := hOk k x _ W _ hok (hk2.more (fun b q => (hox _ _).2 (.inr q)))
    rw [hOX] at hok2
    dsimp only at hok2
    have hl2 : (W.putObj (B + 1) (.loop { rec .ready none with state := .busy })).heap[B + 1]? = some (.loop { rec .ready none with state := .busy }) := World.putObj_heap_same hlt
    have hd2 : (W.putObj (B + 1) (.loop { rec .ready none with state := .busy })).heap[B]? = some (.deferred (some [])) := (World.putObj_heap_other (by omega)).trans hd
    have hz2 : (W.putObj (B + 1) (.loop { rec .ready none with state := .busy })).heap.size = W.heap.size := by simp
    have hnl : ¬ O' (B + 1) := fun q => (hIO k O' W hi _ q).2.2 rfl
    have hnd : ¬ O' B := fun q => (hIO k O' W hi _ q).2.1 rfl
    refine wpIn_mono (hbody _ k x O' a' _ hax2 (by rw [World.putObj_size]; omega) hi2 hok2) ?_
    generalize W.putObj (B + 1) (.loop { rec .ready none with state := .busy }) = W2 at *
    have fin : ∀ (jump : Option Code) (W3 : World), Kept O' W2 W3 →
        (Instr.endRound (B + 1) jump).run P W3 = .ok (.bool jump.isNone) (W3.putObj (B + 1) (.loop (rec (if jump.isNone then .ready else .done) jump))) ∧
        (W3.putObj (B + 1) (.loop (rec (if jump.isNone then .ready else .done) jump))).heap[B + 1]? = some (.loop (rec (if jump.isNone then .ready else .done) jump)) ∧
        (W3.putObj (B + 1) (.loop (rec (if jump.isNone then .ready else .done) jump))).heap[B]? = some (.deferred (some [])) ∧
        LoopKept B W3 (W3.putObj (B + 1) (.loop (rec (if jump.isNone then .ready else .done) jump))) := fun jump W3 hk3 => by
      have hl3 := (hk3.block _ (by omega) hnl).trans hl2
      have := run_endRound (P := P) jump hl3
      rw [hrec] at this ⊢
      exact ⟨this, World.putObj_heap_same (Array.getElem?_eq_some_iff.1 hl3).1, (World.putObj_heap_other (by omega)).trans ((hk3.block _ (by omega) hnd).trans hd2), Kept.put _ _ _ _ (.inr rfl)⟩
    have KK : ∀ W3 W4, Kept O' W2 W3 → LoopKept B W3 W4 → Kept (OX O') Wb W4 := fun W3 W4 hk3 hk4 =>
      hKa.trans (O' := OX O') (((hk2.more (O' := OX O') (fun b q => (hox _ _).2 (.inr q))).trans (hk3.more (O' := OX O') (fun b q => (hox _ _).2 (.inl q))) (fun b q => .inl q)).trans (hk4.more (O' := OX O') (fun b q => (hox _ _).2 (.inr q))) (fun b q => .inl q)) (fun b q => .inl q)
    rintro e a3 W3 hp
    cases e with
    | normal =>
      obtain ⟨hk3, O3, hi3, ho3⟩ := hp
      obtain ⟨hr, hl4, hd4, hk4⟩ := fin none W3 hk3
      have hz3 := hk3.size
      refine ⟨_, _, hr, .inl ⟨rfl, ⟨OX O3, ⟨O3, rfl, hI _ O3 W3 _ (by omega) hi3 hk4, hl4, hd4⟩, fun b q => ?_⟩, ?_⟩⟩
      · rcases (hox _ _).1 q with q | q
        · rcases ho3 b q with q | q
          · exact .inl ((hox _ _).2 (.inl q))
          · exact .inr (by omega)
        · exact .inl ((hox _ _).2 (.inr q))
      · exact KK W3 _ hk3 hk4
    | ret =>
      obtain ⟨hk3, hi3⟩ := hp
      obtain ⟨hr, hl4, hd4, hk4⟩ := fin (some .ret) W3 hk3
      have hz3 := hk3.size
      exact ⟨_, _, hr, .inr ⟨rfl, ⟨.ret, hIx _ _ W3 _ (by omega) hi3 hk4, hl4, hd4⟩, KK W3 _ hk3 hk4⟩⟩
    | exit id =>
      obtain ⟨hk3, hi3⟩ := hp
      obtain ⟨hr, hl4, hd4, hk4⟩ := fin (some (.exit id)) W3 hk3
      have hz3 := hk3.size
      exact ⟨_, _, hr, .inr ⟨rfl, ⟨.exit id, hIx _ _ W3 _ (by omega) hi3 hk4, hl4, hd4⟩, KK W3 _ hk3 hk4⟩⟩
    | goto t =>
      obtain ⟨hk3, hi3⟩ := hp
      obtain ⟨hr, hl4, hd4, hk4⟩ := fin (some (.goto t)) W3 hk3
      have hz3 := hk3.size
      exact ⟨_, _, hr, .inr ⟨rfl, ⟨.goto t, hIx _ _ W3 _ (by omega) hi3 hk4, hl4, hd4⟩, KK W3 _ hk3 hk4⟩⟩
    | panic ch => exact hp.elim
    | outgrown => exact hp.elim
  · -- behind the iterator
    rintro e W2 ⟨⟨v, rfl⟩, (⟨O, O', rfl, hi, hl, hd⟩ | ⟨k, hk, c, hi, hl, hd⟩)⟩
    · have hlt := (Array.getElem?_eq_some_iff.1 hl).1
      exact ⟨none, _, by have := run_endLoop (P := P) hl (by rw [hrec]; simp); rw [hrec] at this; exact this, hdone O' _ (hI _ _ _ _ (by omega) hi (Kept.put _ _ _ _ (.inr rfl))) ((World.putObj_heap_other (by omega)).trans hd)⟩
    · have hlt := (Array.getElem?_eq_some_iff.1 hl).1
      exact ⟨some c, _, by have := run_endLoop (P := P) hl (by rw [hrec]; simp); rw [hrec] at this; exact this, hstop c k _ hk (hIx c k _ _ (by omega) hi (Kept.put _ _ _ _ (.inr rfl))) ((World.putObj_heap_other (by omega)).trans hd)⟩
theorem wpIn_rangeFunc_told {P : Program} {n : Nat} {α : Type} {g : Operand} {ps : Array Tmp} {assign body : Code} {Q : Exit → Act → World → Prop} {a : Act} {w : World}
    (h1 : 1 ≤ n) {gf : Nat} {lb : Array Value} (hg : a.eval g = .func (.func gf) #[] lb) (eg : ∀ args w, (callFunc gf args).run P w = .ok (.enter gf args) w)
    {encs : α → Array Value} {Ok : Nat → α → (Nat → Prop) → World → Prop} {Need : Nat → Prop} {N : Nat} (hseq : Told (n - 1) P gf lb encs Ok Need N w) (hps : ∀ x, (encs x).size = ps.size)
    (hOk : ∀ k x O W W', Ok k x O W → Kept O W W' → Ok k x O W')
    (I : Nat → (Nat → Prop) → World → Prop) (Ix : Code → Nat → World → Prop)
    (hI : ∀ k O W W', w.heap.size ≤ W.heap.size → I k O W → LoopKept w.heap.size W W' → I k O W') (hIx : ∀ c k W W', w.heap.size ≤ W.heap.size → Ix c k W → LoopKept w.heap.size W W' → Ix c k W')
    (hIO : ∀ k O W, I k O W → ∀ b, O b → b < W.heap.size ∧ b ≠ w.heap.size ∧ b ≠ w.heap.size + 1)
    (O0 : Nat → Prop) (hO0 : ∀ b, Need b → ¬ O0 b) (hNeed : ∀ b, Need b → b < w.heap.size) (h0 : I 0 O0 w) (a₁ : α → Act)
    (hassign : ∀ (l : Nat) (x : α) (W : World) (K : Act → World → Prop), K (a₁ x) W →
      assign.wpIn (Fence.wide.inRound l) (n - 1 - 1) P (Exit.then K (fun _ _ _ => False)) { tmps := (ps.zip (encs x)).foldl (fun t (p, v) => t.setIfInBounds p v) a.tmps, defers := [] } W)
    (hbody : ∀ (l k : Nat) (x : α) (O : Nat → Prop) (W : World), w.heap.size + 2 ≤ W.heap.size → I k O W → Ok k x (fun b => O b ∨ b = w.heap.size ∨ b = w.heap.size + 1) W → body.wpIn (Fence.wide.inRound l) (n - 1 - 1) P (toldPost I Ix (k + 1) O W) (a₁ x) W)
    (hdone : ∀ (O : Nat → Prop) (W : World), I N O W → W.heap[w.heap.size]? = some (.deferred (some [])) → Q .normal { a with defers := { target := .collected w.heap.size, args := #[] } :: a.defers } W)
    (hstop : ∀ (c : Code) (k : Nat) (W : World), k ≤ N → Ix c k W → W.heap[w.heap.size]? = some (.deferred (some [])) → c.wpIn Fence.wide n P Q { a with defers := { target := .collected w.heap.size, args := #[] } :: a.defers } W) :
    (Code.rangeFunc g ps assign body).wpIn Fence.wide n P Q a w :=
  wpIn_rangeFunc_toldA h1 hg eg hseq hps hOk I Ix hI hIx hIO O0 hO0 hNeed h0 (fun x a' _ => a' = a₁ x) (fun _ _ _ _ _ h _ => h)
    (fun l k x O W K _ _ _ hK => hassign l x W K (hK _ _ (Below.refl _ _) rfl)) (fun l k x O a' W e hz hi hok => by subst e; exact hbody l k x O W hz hi hok) hdone hstop
end Go.Proofs.Ytfkfboiblgoamaa
/- Paths: what a step leads to, the reference (datakitref09.Find, Part). -/
namespace Go.Proofs.Ytfkfboiblgoamaa
open Go.RowKit

theorem find_k7 {T : Vt} {s : Stp} (hx : s.ix = false) (h : T.h.k ≠ 7) : T.find s = (0, 6) := by unfold Vt.find; rw [if_neg (by simp [hx]), if_pos h]
theorem find_key {T : Vt} {s : Stp} (hx : s.ix = false) (h : T.h.k = 7) (hf : fidx T.K s.key T.h.fn < T.h.fn) : T.find s = (((fidx T.K s.key T.h.fn : Nat) : Int), 0) := by unfold Vt.find; rw [if_neg (by simp [hx]), if_neg (by simp [h]), if_pos hf]
theorem find_nokey {T : Vt} {s : Stp} (hx : s.ix = false) (h : T.h.k = 7) (hf : ¬ fidx T.K s.key T.h.fn < T.h.fn) : T.find s = (0, 7) := by unfold Vt.find; rw [if_neg (by simp [hx]), if_neg (by simp [h]), if_neg hf]
theorem find_k6 {T : Vt} {s : Stp} (hx : s.ix = true) (h : T.h.k ≠ 6) : T.find s = (0, 6) := by unfold Vt.find; rw [if_pos hx, if_pos h]
theorem find_out {T : Vt} {s : Stp} (hx : s.ix = true) (h : T.h.k = 6) (hn : s.n < 0 ∨ (T.h.ln : Int) ≤ s.n) : T.find s = (0, 7) := by unfold Vt.find; rw [if_pos hx, if_neg (by simp [h]), if_pos hn]
theorem find_at {T : Vt} {s : Stp} (hx : s.ix = true) (h : T.h.k = 6) (hn : ¬ (s.n < 0 ∨ (T.h.ln : Int) ≤ s.n)) : T.find s = (s.n, 0) := by unfold Vt.find; rw [if_pos hx, if_neg (by simp [h]), if_neg hn]
set_option maxHeartbeats 8000000 in
set_option maxRecDepth 100000 in
theorem rfind_any {T : Vt} {s : Stp} {top : Nat} {w : World} (hT : T.In w top) (ht : top ≤ w.heap.size) (hs : w64 s.n) :
    Calls Try.prog 34 #[.agg T.h.cells, .agg s.cells] w fun r w' => r = .returned (.tuple #[.int .i64 (T.find s).1, .int .i64 (T.find s).2]) ∧ Below w.heap.size w w' := by
  cases T with
  | nil => exact hT.elim
  | mk h Y L K F =>
  have hb0 := ((Below.refl w.heap.size w).alloc (Nat.le_refl _) (.cells h.cells 30)).alloc (by simp) (.cells s.cells 59)
  have P := (Whole.new w 30 h.cells).alloc (.cells s.cells 59)
  have Q := Whole.new (w.alloc (.cells h.cells 30)) 59 s.cells
  rw [World.size_alloc] at Q
  have hok := hT.1
  have HFa : Hid (0 < h.fn → h.fa = some ⟨h.fb, h.fo, none⟩ ∧ h.fb < w.heap.size) := Lib.hid fun hp => ⟨(hT.2.2.2.2.2.1 hp).1, Nat.lt_of_lt_of_le (hT.2.2.2.2.2.1 hp).2 ht⟩
  have HT := Lib.hid hT.2.2.2.2.2.2
  obtain ⟨R, hR⟩ : ∃ R, (Vt.mk h Y L K F).find s = R := ⟨_, rfl⟩
  rw [hR]
  have HR := Lib.hid hR
  dsimp only [Vt.h]
  have hk := hok.k
  have hln := hok.ln
  have hfn := hok.fn
  clear hR hok hT
  obtain ⟨R1, R2⟩ := R
  obtain ⟨k, b, n', dd, e, tk, td, tn, tz, x, ba, bn, bc, la, ln, lc, fa, fn, fc, bb, bo, lb, lo, fb, fo⟩ := h
  obtain ⟨ix, key, n⟩ := s
  dsimp only at HFa HT hk hln hfn hs
  simp only [Vh.cells, Stp.cells] at hb0 P Q ⊢
  have hs1 := hs.1
  have hs2 := hs.2
  have hk1 := hk.1
  have hk2 := hk.2
  clear hs hk
  have n0 : (0 : Int) ≤ ln := by omega
  have n1 : (ln : Int) ≤ 1048576 := by omega
  have n2 : (0 : Int) ≤ fn := by omega
  have n3 : (fn : Int) ≤ 1048576 := by omega
  cases ix
  · by_cases k7 : k = 7
    case neg =>
      have hr := HR.out
      rw [find_k7 (T := Vt.mk ⟨k, b, n', dd, e, tk, td, tn, tz, x, ba, bn, bc, la, ln, lc, fa, fn, fc, bb, bo, lb, lo, fb, fo⟩ Y L K F) (s := ⟨false, key, n⟩) rfl k7, Prod.mk.injEq] at hr
      obtain ⟨rfl, rfl⟩ := hr
      have e7 : (k == 7) = false := beq_eq_false_iff_ne.2 k7
      have e7' : (k != 7) = true := by simpa using k7
      clear HR k7 HT HFa P Q
      go_enter Try.func34, Try.ntmps34
      go_wp2_with fail
      go_ret2
      exact ⟨rfl, hb0⟩
    have HR2 : Hid ((if fidx K key fn < fn then (((fidx K key fn : Nat) : Int), (0 : Int)) else ((0 : Int), (7 : Int))) = (R1, R2)) := Lib.hid (by
      rw [← HR.out]
      by_cases c : fidx K key fn < fn
      · rw [if_pos c]; exact (find_key (T := Vt.mk ⟨k, b, n', dd, e, tk, td, tn, tz, x, ba, bn, bc, la, ln, lc, fa, fn, fc, bb, bo, lb, lo, fb, fo⟩ Y L K F) (s := ⟨false, key, n⟩) rfl k7 c).symm
      · rw [if_neg c]; exact (find_nokey (T := Vt.mk ⟨k, b, n', dd, e, tk, td, tn, tz, x, ba, bn, bc, la, ln, lc, fa, fn, fc, bb, bo, lb, lo, fb, fo⟩ Y L K F) (s := ⟨false, key, n⟩) rfl k7 c).symm)
    have e7 : (k == 7) = true := beq_iff_eq.2 k7
    have e7' : (k != 7) = false := by simpa using k7
    clear HR k7
    go_enter Try.func34, Try.ntmps34
    go_wp2_with fail
    go_loopw [6] (fun i wr => ∃ j : Nat, j ≤ fn ∧ i = .int .i64 j ∧ Hid (∀ t, t < j → K t ≠ key) ∧ Whole wr w.heap.size 30 (Vh.cells ⟨k, b, n', dd, e, tk, td, tn, tz, x, ba, bn, bc, la, ln, lc, fa, fn, fc, bb, bo, lb, lo, fb, fo⟩) ∧ Whole wr (w.heap.size + 1) 59 (Stp.cells ⟨false, key, n⟩) ∧ Below w.heap.size w wr) (fun i _ => fn - (intOf i).toNat)
    case atStart => exact ⟨0, by omega, rfl, Lib.hid fun t h => absurd h (Nat.not_lt_zero _), P, Q, hb0⟩
    case round =>
      clear P Q hb0
      obtain ⟨j, hj, rfl, HJ, P, Q, hbr⟩ := hrel
      have hji : (0 : Int) ≤ j := by omega
      obtain ⟨-, -, -, -, -, -, -, -, -, -, -, -, p12⟩ := Whole.c13 P
      obtain ⟨q0, q1, q2⟩ := Whole.b3 (s := ⟨false, key, n⟩) Q
      dsimp only at p12 q0 q1 q2
      by_cases hjn : j < fn
      · obtain ⟨e1, hlt⟩ := HFa.out (by omega)
        have hji2 : (j : Int) < fn := by omega
        obtain ⟨k0, k1, k2, k3⟩ := HT.out j hjn
        have l0 := (hbr.cell (p := ⟨fb, fo + j * 14, none⟩) hlt).trans k0
        subst e1
        have hbd := fun m => below_drewN hbr m
        have HB := Lib.hid hbd
        have HP := Lib.hid (fun m => show Whole (wr.drewN m) w.heap.size 30 _ from P)
        have HQ := Lib.hid (fun m => show Whole (wr.drewN m) (w.heap.size + 1) 59 _ from Q)
        clear k0 k1 k2 k3 hbd
        by_cases c : K j = key
        · have hr : R1 = j ∧ R2 = 0 := by
            have := HR2.out
            rw [fidx_first HJ.out c hjn, if_pos hjn, Prod.mk.injEq] at this
            exact ⟨this.1.symm, this.2.symm⟩
          obtain ⟨rfl, rfl⟩ := hr
          have d1 : ((K j).toList == key.toList) = true := by rw [c]; exact beq_self_eq_true _
          clear HR2 HJ c HT
          generalize K j = y at *
          go_wp2_with fail
          go_quiet (fail)
          clear l0 p12 q0 q1 q2 P Q
          go_wp2
          go_ret2
          exact ⟨rfl, HB.out _⟩
        · have d1 : ((K j).toList == key.toList) = false := beq_eq_false_iff_ne.2 fun q => c (ba_eq q)
          have HJ2 : Hid (∀ t, t < j + 1 → K t ≠ key) := Lib.hid fun t ht => by
            by_cases q : t = j
            · subst q; exact c
            · exact HJ.out t (by omega)
          clear HJ c
          generalize K j = y at *
          go_wp2_with fail
          go_quiet (fail)
          clear l0 p12 q0 q1 q2 P Q
          go_wp2
          go_roundw
          case rel => exact ⟨j + 1, by omega, by go_num, HJ2, HP.out _, HQ.out _, HB.out _⟩
          case measure => simp [intOf]; omega
      · obtain rfl : j = fn := by omega
        have hr : R1 = 0 ∧ R2 = 7 := by
          have := HR2.out
          rw [fidx_none HJ.out, if_neg (Nat.lt_irrefl _), Prod.mk.injEq] at this
          exact ⟨this.1.symm, this.2.symm⟩
        obtain ⟨rfl, rfl⟩ := hr
        clear HR2 HJ HT hjn
        go_wp2
        go_ret2
        exact ⟨rfl, hbr⟩
  · clear HT HFa
    have hr := HR.out
    by_cases k6 : k = 6
    case neg =>
      rw [find_k6 (T := Vt.mk ⟨k, b, n', dd, e, tk, td, tn, tz, x, ba, bn, bc, la, ln, lc, fa, fn, fc, bb, bo, lb, lo, fb, fo⟩ Y L K F) (s := ⟨true, key, n⟩) rfl k6, Prod.mk.injEq] at hr
      obtain ⟨rfl, rfl⟩ := hr
      have e6 : (k == 6) = false := beq_eq_false_iff_ne.2 k6
      have e6' : (k != 6) = true := by simpa using k6
      clear HR k6
      go_enter Try.func34, Try.ntmps34
      go_wp2_with fail
      go_ret2
      exact ⟨rfl, hb0⟩
    have hk6 : (Vt.mk ⟨k, b, n', dd, e, tk, td, tn, tz, x, ba, bn, bc, la, ln, lc, fa, fn, fc, bb, bo, lb, lo, fb, fo⟩ Y L K F).h.k = 6 := k6
    have e6 : (k == 6) = true := beq_iff_eq.2 k6
    have e6' : (k != 6) = false := by simpa using k6
    have Hk6 := Lib.hid hk6
    clear HR k6 hk6
    by_cases c : n < 0
    · rw [find_out (s := ⟨true, key, n⟩) rfl Hk6.out (.inl c), Prod.mk.injEq] at hr
      obtain ⟨rfl, rfl⟩ := hr
      go_enter Try.func34, Try.ntmps34
      go_wp2_with fail
      go_ret2
      exact ⟨rfl, hb0⟩
    have cn : decide (n < 0) = false := decide_eq_false c
    have c0' : 0 ≤ n := by omega
    by_cases c2' : (ln : Int) ≤ n
    · rw [find_out (s := ⟨true, key, n⟩) rfl Hk6.out (.inr c2'), Prod.mk.injEq] at hr
      obtain ⟨rfl, rfl⟩ := hr
      go_enter Try.func34, Try.ntmps34
      go_wp2_with fail
      go_ret2
      exact ⟨rfl, hb0⟩
    · rw [find_at (s := ⟨true, key, n⟩) rfl Hk6.out (by rintro (q | q); exact c q; exact c2' q), Prod.mk.injEq] at hr
      obtain ⟨rfl, rfl⟩ := hr
      have cd : decide ((ln : Int) ≤ n) = false := decide_eq_false c2'
      go_enter Try.func34, Try.ntmps34
      go_wp2_with fail
      go_ret2
      exact ⟨rfl, hb0⟩
set_option maxHeartbeats 4000000 in
set_option maxRecDepth 100000 in
theorem part_any {T : Vt} {s : Stp} {top : Nat} {w : World} (hT : T.In w top) (ht : top ≤ w.heap.size) (h0 : (T.find s).2 = 0) :
    Calls Try.prog 35 #[.agg T.h.cells, .int .i64 (T.find s).1] w fun r w' => r = .returned (.agg (T.part (T.find s).1.toNat).h.cells) ∧ Below w.heap.size w w' := by
  obtain ⟨i, ei, hc⟩ := Vt.find_ok h0
  rw [ei, Int.toNat_natCast]
  clear ei h0
  cases T with
  | nil => exact hT.elim
  | mk h Y L K F =>
  have hb0 := ((Below.refl w.heap.size w).alloc (Nat.le_refl _) (.cells h.cells 30)).alloc (by simp) (.cells Vh.zero.cells 30)
  have Q := Whole.new (w.alloc (.cells h.cells 30)) 30 Vh.zero.cells
  rw [World.size_alloc] at Q
  have hok := hT.1
  have hln := hok.ln
  have hfn := hok.fn
  have i0 : (0 : Int) ≤ i := by omega
  rw [show (Vt.mk h Y L K F).h = h from rfl] at hc
  rcases hc with ⟨-, k6, hi, -⟩ | ⟨-, k7, hi, -⟩
  · rw [show (Vt.mk h Y L K F).part i = L i from if_pos k6]
    rw [show (Vt.mk h Y L K F).h = h from rfl]
    have e6 : (h.k == 6) = true := beq_iff_eq.2 k6
    obtain ⟨e1, hlt⟩ := hT.2.2.2.1 (show 0 < h.ln by omega)
    have hl := (hT.2.2.2.2.1 i hi).1.below (hb0.mono ht) hlt
    obtain ⟨l0, l1, l2, l3, l4, l5, l6, l7, l8, l9, l10, l11, l12⟩ := hl.c13
    have i1 : (i : Int) < h.ln := by omega
    clear hl hT k6 hok
    generalize (L i).h = G at *
    obtain ⟨k, b, n', dd, e, tk, td, tn, tz, x, ba, bn, bc, la, ln, lc, fa, fn, fc, bb, bo, lb, lo, fb, fo⟩ := h
    dsimp only at e1 i1 e6 l0 l1 l2 l3 l4 l5 l6 l7 l8 l9 l10 l11 l12
    subst e1
    have hbE := ((Below.refl w.heap.size w).alloc (Nat.le_refl _) (.cells (Vh.cells ⟨k, b, n', dd, e, tk, td, tn, tz, x, ba, bn, bc, some ⟨lb, lo, none⟩, ln, lc, fa, fn, fc, bb, bo, lb, lo, fb, fo⟩) 30)).alloc (by simp) (.cells G.cells 30)
    have hQE := Whole.new (w.alloc (.cells (Vh.cells ⟨k, b, n', dd, e, tk, td, tn, tz, x, ba, bn, bc, some ⟨lb, lo, none⟩, ln, lc, fa, fn, fc, bb, bo, lb, lo, fb, fo⟩) 30)) 30 G.cells
    rw [World.size_alloc] at hQE
    clear Q hb0
    simp only [Vh.cells, Vh.zero] at l0 l1 l2 l3 l4 l5 l6 l7 l8 l9 l10 l11 l12 ⊢
    go_enter Try.func35, Try.ntmps35
    go_wp2_with fail
    exact bodyPost_ret (v := .agg G.cells) (ret_val (p := 4) rfl rfl hQE) rfl ⟨rfl, hbE⟩
  · rw [show (Vt.mk h Y L K F).part i = F i from if_neg (show ¬ h.k = 6 by rw [k7]; decide)]
    rw [show (Vt.mk h Y L K F).h = h from rfl]
    have e6 : (h.k == 6) = false := by rw [k7]; rfl
    obtain ⟨e1, hlt⟩ := hT.2.2.2.2.2.1 (show 0 < h.fn by omega)
    have hl := (hT.2.2.2.2.2.2 i hi).2.2.1.below (hb0.mono ht) hlt
    obtain ⟨l0, l1, l2, l3, l4, l5, l6, l7, l8, l9, l10, l11, l12⟩ := hl.c13
    have i1 : (i : Int) < h.fn := by omega
    clear hl hT k7 hok
    generalize (F i).h = G at *
    obtain ⟨k, b, n', dd, e, tk, td, tn, tz, x, ba, bn, bc, la, ln, lc, fa, fn, fc, bb, bo, lb, lo, fb, fo⟩ := h
    dsimp only at e1 i1 e6 l0 l1 l2 l3 l4 l5 l6 l7 l8 l9 l10 l11 l12
    subst e1
    have hbE := ((Below.refl w.heap.size w).alloc (Nat.le_refl _) (.cells (Vh.cells ⟨k, b, n', dd, e, tk, td, tn, tz, x, ba, bn, bc, la, ln, lc, some ⟨fb, fo, none⟩, fn, fc, bb, bo, lb, lo, fb, fo⟩) 30)).alloc (by simp) (.cells G.cells 30)
    have hQE := Whole.new (w.alloc (.cells (Vh.cells ⟨k, b, n', dd, e, tk, td, tn, tz, x, ba, bn, bc, la, ln, lc, some ⟨fb, fo, none⟩, fn, fc, bb, bo, lb, lo, fb, fo⟩) 30)) 30 G.cells
    rw [World.size_alloc] at hQE
    clear Q hb0
    simp only [Vh.cells, Vh.zero] at l0 l1 l2 l3 l4 l5 l6 l7 l8 l9 l10 l11 l12 ⊢
    go_enter Try.func35, Try.ntmps35
    go_wp2_with fail
    exact bodyPost_ret (v := .agg G.cells) (ret_val (p := 4) rfl rfl hQE) rfl ⟨rfl, hbE⟩
end Go.Proofs.Ytfkfboiblgoamaa
