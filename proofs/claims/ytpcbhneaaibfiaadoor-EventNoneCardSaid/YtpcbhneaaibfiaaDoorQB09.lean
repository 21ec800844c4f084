/- Laid together for a claim: VtTold, VtChgM, VtClone. -/
import Derived.RangeFuncNested
import Derived.RangeFuncBound
import Derived.RangeFuncCalls
import Derived.RangeFuncLeaves
import Derived.RangeFuncBox
import Derived.Shelf.Abstract
import Derived.Shelf.RegionOpen
import Derived.OwnWalkIn
import Derived.TacticsInMore
import Derived.LoopNIn
import Derived.LoopIn
import Derived.Test.YtpcbhneaaibfiaaDoorProg
import Derived.Test.YtpcbhneaaibfiaaDoorQB04
import Derived.Test.YtpcbhneaaibfiaaDoorQB05
import Derived.WalkSpells
/- A range over a function whose body is told where what it is handed lies: which blocks are the body's own, and what is kept through a round. -/
namespace Go.Proofs.YtpcbhneaaibfiaaDoor
open Go.RowKit Go.Shelf

/-- All but these blocks lie as they lay. -/
structure Kept (O : Nat → Prop) (W W' : World) : Prop where
  os : W'.os = W.os
  tape : W'.tape = W.tape
  output : W'.output = W.output
  size : W.heap.size ≤ W'.heap.size
  block : ∀ k, k < W.heap.size → ¬ O k → W'.heap[k]? = W.heap[k]?
theorem Kept.refl (O : Nat → Prop) (W : World) : Kept O W W := ⟨rfl, rfl, rfl, Nat.le_refl _, fun _ _ _ => rfl⟩
theorem Kept.trans {O O' : Nat → Prop} {A B C : World} (h : Kept O A B) (k : Kept O' B C) (ho : ∀ b, O' b → O b ∨ A.heap.size ≤ b) : Kept O A C :=
  ⟨k.os.trans h.os, k.tape.trans h.tape, k.output.trans h.output, Nat.le_trans h.size k.size, fun i hi hn => (k.block i (Nat.lt_of_lt_of_le hi h.size) fun q => by
    rcases ho i q with q | q
    · exact hn q
    · omega).trans (h.block i hi hn)⟩
theorem Kept.of {O : Nat → Prop} {W W' : World} (h : Below W.heap.size W W') : Kept O W W' := ⟨h.os, h.tape, h.output, h.size, fun k hk _ => h.block k hk⟩
theorem Kept.more {O O' : Nat → Prop} {W W' : World} (h : Kept O W W') (ho : ∀ b, O b → O' b) : Kept O' W W' := ⟨h.os, h.tape, h.output, h.size, fun k hk q => h.block k hk fun e => q (ho k e)⟩
theorem Kept.below {O : Nat → Prop} {W W' : World} {n : Nat} (h : Kept O W W') (hn : n ≤ W.heap.size) (ho : ∀ b, b < n → ¬ O b) : Below n W W' := ⟨h.os, h.tape, h.output, h.size, fun k hk => h.block k (Nat.lt_of_lt_of_le hk hn) (ho k hk)⟩
theorem Kept.put (O : Nat → Prop) (W : World) (l : Nat) (o : Obj) (hl : O l) : Kept O W (W.putObj l o) :=
  ⟨rfl, rfl, rfl, by simp, fun k _ hk => World.putObj_heap_other (fun e => hk (by rw [e]; exact hl))⟩

theorem room_any (k : Nat) : Fence.wide.room k := fun d h => by cases h
theorem RoundIn.any {m m' : Nat} {P : Program} {l : Nat} {f : FuncId} {tmps : Array Value} {assign body : Code} {w : World} {R : Ending → World → Prop} (h : RoundIn Fence.wide m P l f tmps assign body w R) : RoundIn Fence.wide m' P l f tmps assign body w R :=
  ⟨h.1, fun c cs _ => h.2 c cs (room_any _)⟩

/-- What a round answers: J goes on, or it is over. -/
def ToldRound (J : Nat → (Nat → Prop) → World → Prop) (Jx : Nat → World → Prop) (k : Nat) (O : Nat → Prop) (W : World) (e : Ending) (W' : World) : Prop :=
  (e = .returned (.bool true) ∧ (∃ O', J (k + 1) O' W' ∧ ∀ b, O' b → O b ∨ W.heap.size ≤ b) ∧ Kept O W W') ∨ (e = .returned (.bool false) ∧ Jx (k + 1) W' ∧ Kept O W W')
/-- An iterator's contract: N rounds, each told 'Ok' of what it is handed; what the iterator needs is none of the body's. -/
def Told {α : Type} (n : Nat) (P : Program) (g : Nat) (lb : Array Value) (encs : α → Array Value) (Ok : Nat → α → (Nat → Prop) → World → Prop) (Need : Nat → Prop) (N : Nat) (w : World) : Prop :=
  ∀ (l : Nat) (O0 : Nat → Prop) (J : Nat → (Nat → Prop) → World → Prop) (Jx : Nat → World → Prop) (W : World), Below w.heap.size w W → (∀ b, Need b → ¬ O0 b) → J 0 O0 W →
    (∀ k O W W', J k O W → Below W.heap.size W W' → J k O W') → (∀ k W W', Jx k W → Below W.heap.size W W' → Jx k W') → (∀ k O W, J k O W → ∀ b, O b → b < W.heap.size) →
    (∀ k x O W1 m, J k O W1 → Ok k x O W1 → YieldAt Fence.wide m P l (encs x) W1 (ToldRound J Jx k O W1)) →
    CallsIn Fence.wide n P g (#[.func (.yield l) #[] #[]] ++ lb) W fun e W' => (∃ v, e = .returned v) ∧ ((∃ O, J N O W') ∨ (∃ k, k ≤ N ∧ Jx k W'))
/-- How the body of a round may be left. -/
def toldPost (I : Nat → (Nat → Prop) → World → Prop) (Ix : Code → Nat → World → Prop) (k : Nat) (O : Nat → Prop) (W : World) : Exit → Act → World → Prop
  | .normal, _, W' => Kept O W W' ∧ ∃ O', I k O' W' ∧ ∀ b, O' b → O b ∨ W.heap.size ≤ b
  | .ret, _, W' => Kept O W W' ∧ Ix .ret k W'
  | .exit id, _, W' => Kept O W W' ∧ Ix (.exit id) k W'
  | .goto t, _, W' => Kept O W W' ∧ Ix (.goto t) k W'
  | .panic _, _, _ => False
  | .outgrown, _, _ => False
/-- All blocks but the loop's own two lie as they lay. -/
def LoopKept (B : Nat) (W W' : World) : Prop := Kept (fun b => b = B ∨ b = B + 1) W W'

theorem wpIn_rangeFunc_toldA {P : Program} {n : Nat} {α : Type} {g : Operand} {ps : Array Tmp} {assign body : Code} {Q : Exit → Act → World → Prop} {a : Act} {w : World}
    (h1 : 1 ≤ n) {gf : Nat} {lb : Array Value} (hg : a.eval g = .func (.func gf) #[] lb) (eg : ∀ args w, (callFunc gf args).run P w = .ok (.enter gf args) w)
    {encs : α → Array Value} {Ok : Nat → α → (Nat → Prop) → World → Prop} {Need : Nat → Prop} {N : Nat} (hseq : Told (n - 1) P gf lb encs Ok Need N w) (hps : ∀ x, (encs x).size = ps.size)
    (hOk : ∀ k x O W W', Ok k x O W → Kept O W W' → Ok k x O W')
    (I : Nat → (Nat → Prop) → World → Prop) (Ix : Code → Nat → World → Prop)
    (hI : ∀ k O W W', w.heap.size ≤ W.heap.size → I k O W → LoopKept w.heap.size W W' → I k O W') (hIx : ∀ c k W W', w.heap.size ≤ W.heap.size → Ix c k W → LoopKept w.heap.size W W' → Ix c k W')
    (hIO : ∀ k O W, I k O W → ∀ b, O b → b < W.heap.size ∧ b ≠ w.heap.size ∧ b ≠ w.heap.size + 1)
    (O0 : Nat → Prop) (hO0 : ∀ b, Need b → ¬ O0 b) (hNeed : ∀ b, Need b → b < w.heap.size) (h0 : I 0 O0 w) (Ax : α → Act → World → Prop) (hAx : ∀ x a' W W', w.heap.size + 2 ≤ W.heap.size → Ax x a' W → LoopKept w.heap.size W W' → Ax x a' W')
    (hassign : ∀ (l k : Nat) (x : α) (O : Nat → Prop) (W : World) (K : Act → World → Prop), w.heap.size + 2 ≤ W.heap.size → I k O W → Ok k x (fun b => O b ∨ b = w.heap.size ∨ b = w.heap.size + 1) W → (∀ a' W', Below W.heap.size W W' → Ax x a' W' → K a' W') →
      assign.wpIn (Fence.wide.inRound l) (n - 1 - 1) P (Exit.then K (fun _ _ _ => False)) { tmps := (ps.zip (encs x)).foldl (fun t (p, v) => t.setIfInBounds p v) a.tmps, defers := [] } W)
    (hbody : ∀ (l k : Nat) (x : α) (O : Nat → Prop) (a' : Act) (W : World), Ax x a' W → w.heap.size + 2 ≤ W.heap.size → I k O W → Ok k x (fun b => O b ∨ b = w.heap.size ∨ b = w.heap.size + 1) W → body.wpIn (Fence.wide.inRound l) (n - 1 - 1) P (toldPost I Ix (k + 1) O W) a' W)
    (hdone : ∀ (O : Nat → Prop) (W : World), I N O W → W.heap[w.heap.size]? = some (.deferred (some [])) → Q .normal { a with defers := { target := .collected w.heap.size, args := #[] } :: a.defers } W)
    (hstop : ∀ (c : Code) (k : Nat) (W : World), k ≤ N → Ix c k W → W.heap[w.heap.size]? = some (.deferred (some [])) → c.wpIn Fence.wide n P Q { a with defers := { target := .collected w.heap.size, args := #[] } :: a.defers } W) :
    (Code.rangeFunc g ps assign body).wpIn Fence.wide n P Q a w := by
  refine wpIn_rangeFunc ?_
  intro fn hfn
  obtain ⟨rec, hrec⟩ : ∃ rec : LoopState → Option Code → Loop, rec = fun st pe => { state := st, pending := pe, fn, tmps := a.tmps, params := ps, assign, body, defers := w.heap.size } := ⟨_, rfl⟩
  obtain ⟨B, hB⟩ : ∃ B, w.heap.size = B := ⟨_, rfl⟩
  rw [hB] at hI hIx hIO hNeed hdone hstop hbody hassign hAx
  obtain ⟨W1, hW1⟩ : ∃ W1, (w.alloc (.deferred (some []))).alloc (.loop (rec .ready none)) = W1 := ⟨_, rfl⟩
  have hz1 : W1.heap.size = B + 2 := by rw [← hW1]; simp; omega
  have hbw : Below w.heap.size w W1 := by rw [← hW1]; exact ((Below.refl _ w).alloc (Nat.le_refl _) _).alloc (by simp) _
  have hL1 : W1.heap[B + 1]? = some (.loop (rec .ready none)) := by
    rw [← hW1]; have := World.alloc_heap_new (w.alloc (.deferred (some []))) (.loop (rec .ready none)); rwa [World.size_alloc, hB] at this
  have hK1 : W1.heap[B]? = some (.deferred (some [])) := by
    rw [← hW1, ← hB]; exact (Below.heap_alloc _ _ _ (by simp)).trans (World.alloc_heap_new w _)
  have hI1 : I 0 O0 W1 := hI 0 O0 w W1 (by omega) h0 (Kept.of hbw)
  refine ⟨B + 1, [{ target := .collected B, args := #[] }], W1, { target := .fn (.func gf) lb, args := #[.func (.yield (B + 1)) #[] #[]] }, W1, gf,
    #[.func (.yield (B + 1)) #[] #[]] ++ lb, W1, ?_, ?_, ?_, ?_, fun _ => h1, ?_⟩
  · have := run_enterLoop_outer (P := P) (w := w) fn a.tmps ps assign body
    rw [hB] at this
    rw [← hW1, hrec]
    dsimp only
    rw [hB]
    exact this
  · simp only [resolve, hg]
    simp [go_sem]
  · intro f' hf'; simp [Target.leads] at hf'; subst hf'; exact trivial
  · simp [invoke, go_sem, eg]
  obtain ⟨OX, hOX⟩ : ∃ OX : (Nat → Prop) → Nat → Prop, OX = fun O b => O b ∨ b = B ∨ b = B + 1 := ⟨_, rfl⟩
  have hox : ∀ O b, OX O b ↔ (O b ∨ b = B ∨ b = B + 1) := fun O b => by rw [hOX]
  refine (hseq (B + 1) (OX O0)
      (fun k O W => ∃ O', O = OX O' ∧ I k O' W ∧ W.heap[B + 1]? = some (.loop (rec .ready none)) ∧ W.heap[B]? = some (.deferred (some [])))
      (fun k W => ∃ c, Ix c k W ∧ W.heap[B + 1]? = some (.loop (rec .done (some c))) ∧ W.heap[B]? = some (.deferred (some [])))
      W1 hbw ?_ ⟨O0, rfl, hI1, hL1, hK1⟩ ?_ ?_ ?_ ?_).mono ?_
  · intro b hb q
    have := hNeed b hb
    rcases (hox _ _).1 q with q | q | q
    · exact hO0 b hb q
    · omega
    · omega
  · rintro k O W W' ⟨O', e, hi, hl, hd⟩ hb
    have hlt := (Array.getElem?_eq_some_iff.1 hl).1
    exact ⟨O', e, hI k O' W W' (by omega) hi (Kept.of hb), (hb.block _ hlt).trans hl, (hb.block _ (by omega)).trans hd⟩
  · rintro k W W' ⟨c, hi, hl, hd⟩ hb
    have hlt := (Array.getElem?_eq_some_iff.1 hl).1
    exact ⟨c, hIx c k W W' (by omega) hi (Kept.of hb), (hb.block _ hlt).trans hl, (hb.block _ (by omega)).trans hd⟩
  · rintro k O W ⟨O', rfl, hi, hl, hd⟩ b q
    have hlt := (Array.getElem?_eq_some_iff.1 hl).1
    rcases (hox _ _).1 q with q | q | q
    · exact (hIO k O' W hi b q).1
    · omega
    · omega
  · -- one round
    rintro k x O W m ⟨O', rfl, hi, hl, hd⟩ hok
    have hlt := (Array.getElem?_eq_some_iff.1 hl).1
    have hy := run_yield (P := P) (args := encs x) hl (by rw [hrec]; exact hps x)
    rw [hrec] at hy
    refine ⟨fn, _, assign, body, hy, RoundIn.any (m := n - 1 - 1) (roundIn_of_wpIn hfn (hassign _ k x O' W _ (by omega) hi (by rw [hOX] at hok; exact hok) ?_))⟩
    clear hy
    intro a' Wa hba hax
    have hKa : Kept (OX O') W Wa := Kept.of hba
    have hza := hba.size
    replace hi := hI k O' W Wa (by omega) hi (Kept.of hba)
    replace hok := hOk k x _ W Wa hok hKa
    replace hl := (hba.block _ hlt).trans hl
    replace hd := (hba.block _ (by omega)).trans hd
    replace hlt : B + 1 < Wa.heap.size := Nat.lt_of_lt_of_le hlt hza
    clear hba
    revert hKa hza
    generalize W = Wb
    intro hKa hza
    obtain ⟨W, rfl⟩ : ∃ W, W = Wa := ⟨_, rfl⟩
    refine ⟨_, run_beginRound hl (by rw [hrec]), ?_⟩
    have hk2 : Kept (fun b => b = B ∨ b = B + 1) W (W.putObj (B + 1) (.loop { rec .ready none with state := .busy })) := Kept.put _ _ _ _ (.inr rfl)
    have hi2 := hI k O' W _ (by omega) hi hk2
    have hax2 := hAx x a' W _ (by omega) hax hk2
    have hok2 := hOk k x _ W _ hok (hk2.more (fun b q => (hox _ _).2 (.inr q)))
    rw [hOX] at hok2
    dsimp only at hok2
    have hl2 : (W.putObj (B + 1) (.loop { rec .ready none with state := .busy })).heap[B + 1]? = some (.loop { rec .ready none with state := .busy }) := World.putObj_heap_same hlt
    have hd2 : (W.putObj (B + 1) (.loop { rec .ready none with state := .busy })).heap[B]? = some (.deferred (some [])) := (World.putObj_heap_other (by omega)).trans hd
    have hz2 : (W.putObj (B + 1) (.loop { rec .ready none with state := .busy })).heap.size = W.heap.size := by simp
    have hnl : ¬ O' (B + 1) := fun q => (hIO k O' W hi _ q).2.2 rfl
    have hnd : ¬ O' B := fun q => (hIO k O' W hi _ q).2.1 rfl
    refine wpIn_mono (hbody _ k x O' a' _ hax2 (by rw [World.putObj_size]; omega) hi2 hok2) ?_
    generalize W.putObj (B + 1) (.loop { rec .ready none with state := .busy }) = W2 at *
    have fin : ∀ (jump : Option Code) (W3 : World), Kept O' W2 W3 →
        (Instr.endRound (B + 1) jump).run P W3 = .ok (.bool jump.isNone) (W3.putObj (B + 1) (.loop (rec (if jump.isNone then .ready else .done) jump))) ∧
        (W3.putObj (B + 1) (.loop (rec (if jump.isNone then .ready else .done) jump))).heap[B + 1]? = some (.loop (rec (if jump.isNone then .ready else .done) jump)) ∧
        (W3.putObj (B + 1) (.loop (rec (if jump.isNone then .ready else .done) jump))).heap[B]? = some (.deferred (some [])) ∧
        LoopKept B W3 (W3.putObj (B + 1) (.loop (rec (if jump.isNone then .ready else .done) jump))) := fun jump W3 hk3 => by
      have hl3 := (hk3.block _ (by omega) hnl).trans hl2
      have := run_endRound (P := P) jump hl3
      rw [hrec] at this ⊢
      exact ⟨this, World.putObj_heap_same (Array.getElem?_eq_some_iff.1 hl3).1, (World.putObj_heap_other (by omega)).trans ((hk3.block _ (by omega) hnd).trans hd2), Kept.put _ _ _ _ (.inr rfl)⟩
    have KK : ∀ W3 W4, Kept O' W2 W3 → LoopKept B W3 W4 → Kept (OX O') Wb W4 := fun W3 W4 hk3 hk4 =>
      hKa.trans (O' := OX O') (((hk2.more (O' := OX O') (fun b q => (hox _ _).2 (.inr q))).trans (hk3.more (O' := OX O') (fun b q => (hox _ _).2 (.inl q))) (fun b q => .inl q)).trans (hk4.more (O' := OX O') (fun b q => (hox _ _).2 (.inr q))) (fun b q => .inl q)) (fun b q => .inl q)
    rintro e a3 W3 hp
    cases e with
    | normal =>
      obtain ⟨hk3, O3, hi3, ho3⟩ := hp
      obtain ⟨hr, hl4, hd4, hk4⟩ := fin none W3 hk3
      have hz3 := hk3.size
      refine ⟨_, _, hr, .inl ⟨rfl, ⟨OX O3, ⟨O3, rfl, hI _ O3 W3 _ (by omega) hi3 hk4, hl4, hd4⟩, fun b q => ?_⟩, ?_⟩⟩
      · rcases (hox _ _).1 q with q | q
        · rcases ho3 b q with q | q
          · exact .inl ((hox _ _).2 (.inl q))
          · exact .inr (by omega)
        · exact .inl ((hox _ _).2 (.inr q))
      · exact KK W3 _ hk3 hk4
    | ret =>
      obtain ⟨hk3, hi3⟩ := hp
      obtain ⟨hr, hl4, hd4, hk4⟩ := fin (some .ret) W3 hk3
      have hz3 := hk3.size
      exact ⟨_, _, hr, .inr ⟨rfl, ⟨.ret, hIx _ _ W3 _ (by omega) hi3 hk4, hl4, hd4⟩, KK W3 _ hk3 hk4⟩⟩
    | exit id =>
      obtain ⟨hk3, hi3⟩ := hp
      obtain ⟨hr, hl4, hd4, hk4⟩ := fin (some (.exit id)) W3 hk3
      have hz3 := hk3.size
      exact ⟨_, _, hr, .inr ⟨rfl, ⟨.exit id, hIx _ _ W3 _ (by omega) hi3 hk4, hl4, hd4⟩, KK W3 _ hk3 hk4⟩⟩
    | goto t =>
      obtain ⟨hk3, hi3⟩ := hp
      obtain ⟨hr, hl4, hd4, hk4⟩ := fin (some (.goto t)) W3 hk3
      have hz3 := hk3.size
      exact ⟨_, _, hr, .inr ⟨rfl, ⟨.goto t, hIx _ _ W3 _ (by omega) hi3 hk4, hl4, hd4⟩, KK W3 _ hk3 hk4⟩⟩
    | panic ch => exact hp.elim
    | outgrown => exact hp.elim
  · -- behind the iterator
    rintro e W2 ⟨⟨v, rfl⟩, (⟨O, O', rfl, hi, hl, hd⟩ | ⟨k, hk, c, hi, hl, hd⟩)⟩
    · have hlt := (Array.getElem?_eq_some_iff.1 hl).1
      exact ⟨none, _, by have := run_endLoop (P := P) hl (by rw [hrec]; simp); rw [hrec] at this; exact this, hdone O' _ (hI _ _ _ _ (by omega) hi (Kept.put _ _ _ _ (.inr rfl))) ((World.putObj_heap_other (by omega)).trans hd)⟩
    · have hlt := (Array.getElem?_eq_some_iff.1 hl).1
      exact ⟨some c, _, by have := run_endLoop (P := P) hl (by rw [hrec]; simp); rw [hrec] at this; exact this, hstop c k _ hk (hIx c k _ _ (by omega) hi (Kept.put _ _ _ _ (.inr rfl))) ((World.putObj_heap_other (by omega)).trans hd)⟩
theorem wpIn_rangeFunc_told {P : Program} {n : Nat} {α : Type} {g : Operand} {ps : Array Tmp} {assign body : Code} {Q : Exit → Act → World → Prop} {a : Act} {w : World}
    (h1 : 1 ≤ n) {gf : Nat} {lb : Array Value} (hg : a.eval g = .func (.func gf) #[] lb) (eg : ∀ args w, (callFunc gf args).run P w = .ok (.enter gf args) w)
    {encs : α → Array Value} {Ok : Nat → α → (Nat → Prop) → World → Prop} {Need : Nat → Prop} {N : Nat} (hseq : Told (n - 1) P gf lb encs Ok Need N w) (hps : ∀ x, (encs x).size = ps.size)
    (hOk : ∀ k x O W W', Ok k x O W → Kept O W W' → Ok k x O W')
    (I : Nat → (Nat → Prop) → World → Prop) (Ix : Code → Nat → World → Prop)
    (hI : ∀ k O W W', w.heap.size ≤ W.heap.size → I k O W → LoopKept w.heap.size W W' → I k O W') (hIx : ∀ c k W W', w.heap.size ≤ W.heap.size → Ix c k W → LoopKept w.heap.size W W' → Ix c k W')
    (hIO : ∀ k O W, I k O W → ∀ b, O b → b < W.heap.size ∧ b ≠ w.heap.size ∧ b ≠ w.heap.size + 1)
    (O0 : Nat → Prop) (hO0 : ∀ b, Need b → ¬ O0 b) (hNeed : ∀ b, Need b → b < w.heap.size) (h0 : I 0 O0 w) (a₁ : α → Act)
    (hassign : ∀ (l : Nat) (x : α) (W : World) (K : Act → World → Prop), K (a₁ x) W →
      assign.wpIn (Fence.wide.inRound l) (n - 1 - 1) P (Exit.then K (fun _ _ _ => False)) { tmps := (ps.zip (encs x)).foldl (fun t (p, v) => t.setIfInBounds p v) a.tmps, defers := [] } W)
    (hbody : ∀ (l k : Nat) (x : α) (O : Nat → Prop) (W : World), w.heap.size + 2 ≤ W.heap.size → I k O W → Ok k x (fun b => O b ∨ b = w.heap.size ∨ b = w.heap.size + 1) W → body.wpIn (Fence.wide.inRound l) (n - 1 - 1) P (toldPost I Ix (k + 1) O W) (a₁ x) W)
    (hdone : ∀ (O : Nat → Prop) (W : World), I N O W → W.heap[w.heap.size]? = some (.deferred (some [])) → Q .normal { a with defers := { target := .collected w.heap.size, args := #[] } :: a.defers } W)
    (hstop : ∀ (c : Code) (k : Nat) (W : World), k ≤ N → Ix c k W → W.heap[w.heap.size]? = some (.deferred (some [])) → c.wpIn Fence.wide n P Q { a with defers := { target := .collected w.heap.size, args := #[] } :: a.defers } W) :
    (Code.rangeFunc g ps assign body).wpIn Fence.wide n P Q a w :=
  wpIn_rangeFunc_toldA h1 hg eg hseq hps hOk I Ix hI hIx hIO O0 hO0 hNeed h0 (fun x a' _ => a' = a₁ x) (fun _ _ _ _ _ h _ => h)
    (fun l k x O W K _ _ _ hK => hassign l x W K (hK _ _ (Below.refl _ _) rfl)) (fun l k x O a' W e hz hi hok => by subst e; exact hbody l k x O W hz hi hok) hdone hstop
end Go.Proofs.YtpcbhneaaibfiaaDoor
/- Values changed at a path: plain. -/
namespace Go.Proofs.YtpcbhneaaibfiaaDoor
open Go.RowKit

def Vt.setL : Vt → Nat → Vt → Vt
  | .nil, _, _ => .nil
  | .mk h Y L K F, i, X => .mk h Y (fun j => if j = i then X else L j) K F
def Vt.setF : Vt → Nat → Vt → Vt
  | .nil, _, _ => .nil
  | .mk h Y L K F, i, X => .mk h Y L K (fun j => if j = i then X else F j)
/-- A value changed at a path (each step of which leads somewhere). -/
noncomputable def Vt.chg (g : Vt → Vt) : Nat → (Nat → Stp) → Vt → Vt
  | 0, _, T => g T
  | n + 1, S, T => if (S 0).ix = true then T.setL (T.find (S 0)).1.toNat (Vt.chg g n (fun i => S (i + 1)) (T.L (T.find (S 0)).1.toNat)) else T.setF (T.find (S 0)).1.toNat (Vt.chg g n (fun i => S (i + 1)) (T.F (T.find (S 0)).1.toNat))
theorem Vt.atN_le {T : Vt} {S : Nat → Stp} {k n : Nat} (h : (T.atN S n).2 = 0) (hk : k ≤ n) : (T.atN S k).2 = 0 :=
  Classical.byContradiction fun q => q (by rw [← Vt.atN_stays q n hk]; exact h)
theorem Vt.atN_find {T : Vt} {S : Nat → Stp} {k n : Nat} (h : (T.atN S n).2 = 0) (hk : k < n) : ((T.atN S k).1.find (S k)).2 = 0 := by
  refine Classical.byContradiction fun q => ?_
  have := Vt.atN_bad (Vt.atN_le h (Nat.le_of_lt hk)) q hk
  rw [h] at this
  exact q this.symm
theorem Vt.atN_shift {T : Vt} {S : Nat → Stp} (h0 : (T.find (S 0)).2 = 0) : ∀ n, T.atN S (n + 1) = (T.part (T.find (S 0)).1.toNat).atN (fun i => S (i + 1)) n := by
  intro n
  induction n with
  | zero => exact Vt.atN_next (k := 0) rfl h0
  | succ n ih =>
    show (if (T.atN S (n + 1)).2 ≠ 0 then T.atN S (n + 1) else if ((T.atN S (n + 1)).1.find (S (n + 1))).2 ≠ 0 then ((T.atN S (n + 1)).1, ((T.atN S (n + 1)).1.find (S (n + 1))).2) else ((T.atN S (n + 1)).1.part ((T.atN S (n + 1)).1.find (S (n + 1))).1.toNat, 0)) = _
    rw [ih]
    rfl
theorem Vt.part_ix {T : Vt} {s : Stp} (h : (T.find s).2 = 0) (hx : s.ix = true) : T.part (T.find s).1.toNat = T.L (T.find s).1.toNat ∧ T.h.k = 6 ∧ (T.find s).1.toNat < T.h.ln ∧ (T.find s).1 = ((T.find s).1.toNat : Nat) := by
  obtain ⟨i, e, hc⟩ := Vt.find_ok h
  rw [e, Int.toNat_natCast]
  rcases hc with ⟨_, k6, hi, _⟩ | ⟨hf, _⟩
  · exact ⟨if_pos k6, k6, hi, rfl⟩
  · rw [hx] at hf; cases hf
theorem Vt.part_key {T : Vt} {s : Stp} (h : (T.find s).2 = 0) (hx : s.ix = false) : T.part (T.find s).1.toNat = T.F (T.find s).1.toNat ∧ T.h.k = 7 ∧ (T.find s).1.toNat < T.h.fn ∧ (T.find s).1 = ((T.find s).1.toNat : Nat) ∧ (T.find s).1.toNat = fidx T.K s.key T.h.fn := by
  obtain ⟨i, e, hc⟩ := Vt.find_ok h
  rw [e, Int.toNat_natCast]
  rcases hc with ⟨hf, _⟩ | ⟨_, k7, hi, hi2⟩
  · rw [hx] at hf; cases hf
  · exact ⟨if_neg (by rw [k7]; decide), k7, hi, rfl, hi2⟩
end Go.Proofs.YtpcbhneaaibfiaaDoor
/- Values: bytes that are cloned (slices.Clone). -/
namespace Go.Proofs.YtpcbhneaaibfiaaDoor
open Go.ChangeShapes Go.WideShapes Go.Joins Go.Deep Go.RowKit

theorem Tryd.infoByteV : (Tryd.prog.info? 5).map (fun i => (i.zero, i.size, i.bytes)) = some (some (.int .u8 0), 1, 1) := by kernel_rfl
def CloneOut (n : Nat) (Y : Nat → Int) (w : World) (e : Ending) (w' : World) : Prop :=
  ∃ (a : Option Addr) (c b : Nat), e = .returned (.slice a n c) ∧ (0 < n → a = some ⟨b, 0, none⟩ ∧ w.heap.size ≤ b ∧ b < w'.heap.size) ∧ (∀ i, i < n → w'.cell? ⟨b, i, none⟩ = some (.int .u8 (Y i))) ∧ Below w.heap.size w w'
theorem clone_end {w w' : World} {n base : Nat} {Y : Nat → Int} {v : Value} (h : w'.ownsRow base 5 1 v n ((List.range n).map fun i => Value.int .u8 (Y i))) (hb : Below w.heap.size w w') (hW : w.heap.size ≤ base) : CloneOut n Y w (.returned v) w' := by
  by_cases hn : n = 0
  · subst hn
    rcases h.2 with ⟨rfl, _⟩ | ⟨g, cap, cur, rfl, _⟩
    · exact ⟨none, 0, 0, rfl, fun h => absurd h (Nat.lt_irrefl _), fun i h => absurd h (Nat.not_lt_zero _), hb⟩
    · exact ⟨_, cap, g, rfl, fun h => absurd h (Nat.lt_irrefl _), fun i h => absurd h (Nat.not_lt_zero _), hb⟩
  · obtain ⟨g, cap, rfl, hg, hlt⟩ := own_form h (by omega)
    refine ⟨_, cap, g, rfl, fun _ => ⟨rfl, by omega, hlt⟩, fun i hi => ?_, hb⟩
    have := h.cells (g := g) rfl i (.int .u8 (Y i)) (by simp [hi])
    rwa [add_plain, Nat.zero_add] at this
set_option maxHeartbeats 1000000 in
set_option maxRecDepth 100000 in
theorem clone_any {a : Option Addr} {n c b o : Nat} {Y : Nat → Int} (hn : n ≤ 1048576) (w : World) (ha : 0 < n → a = some ⟨b, o, none⟩ ∧ b < w.heap.size) (hY : ∀ i, i < n → w.cell? ⟨b, o + i, none⟩ = some (.int .u8 (Y i))) :
    Calls Tryd.prog 70 #[.slice a n c] w (CloneOut n Y w) := by
  cases a with
  | none =>
    have h0 : n = 0 := Classical.byContradiction fun q => by have := (ha (by omega)).1; cases this
    subst h0
    have HQ : Hid (CloneOut 0 Y w (.returned (.slice none 0 0)) w) := Lib.hid ⟨none, 0, 0, rfl, fun h => absurd h (Nat.lt_irrefl _), fun i h => absurd h (Nat.not_lt_zero _), Below.refl _ _⟩
    clear ha hY
    have hnil := fun (w : World) (l c : Nat) => Lib.run_eql_slice_nil (P := Tryd.prog) w 26 5 none l c 0 0 Tryd.underlying26
    go_enter Tryd.func70, Tryd.ntmps70
    go_wp2
    go_ret
    exact HQ.out
  | some ad =>
    obtain ⟨i0, hi, hz0, hz1, hz2⟩ := info_parts Tryd.infoByteV
    have hown := World.ownsRow_made (base := w.heap.size) (e := 5) (size := 1) w #[] 0 (Nat.le_refl _) (by unfold maxLen; omega) rfl
    have hb0 := (Below.refl w.heap.size w).alloc (Nat.le_refl _) (.cells #[] 5)
    have hnews : Hid (∀ j u, ((List.range n).map fun i => Value.int .u8 (Y i))[j]? = some u → (w.alloc (.cells #[] 5)).cell? (ad.add j) = some u) := Lib.hid fun j u hu => by
      have hj : j < n := by
        rcases Nat.lt_or_ge j n with q | q
        · exact q
        · rw [List.getElem?_eq_none (by simp; exact q)] at hu; cases hu
      obtain ⟨e, hlt⟩ := ha (by omega)
      cases e
      rw [add_plain]
      refine (hb0.cell (p := ⟨b, o + j, none⟩) hlt).trans ?_
      rw [hY j hj]
      simp [hj] at hu
      rw [← hu]
    clear ha hY
    have hnil := fun (w : World) (l c : Nat) => Lib.run_eql_slice_nil (P := Tryd.prog) w 26 5 (some ad) l c 0 0 Tryd.underlying26
    go_enter Tryd.func70, Tryd.ntmps70
    go_wp2_with (at_builtin; refine wpList_append_own _ rfl _ _ 26 rfl w.heap.size 5 i0 (.int .u8 0) 1 1 Tryd.underlying26 hi hz0 hz1 hz2 rfl (by decide) _ _ _ rfl hown ad n c ((List.range n).map fun i => Value.int .u8 (Y i)) rfl ?c1 ?c2 ?c3 ?c4 ?c5 ?c6 ?_)
    case c1 => simp
    case c2 => exact hnews.out
    case c3 =>
      intro u hu
      obtain ⟨_, _, rfl⟩ := List.mem_map.1 hu
      rfl
    case c4 => unfold maxLen; omega
    case c5 => omega
    case c6 => simp
    intro v' w3 hown3 hgrow _
    have hb3 := hb0.grown hgrow (by simp) (fun k e => by cases e; exact Nat.le_refl _)
    clear hown hnews hgrow
    go_wp2
    go_ret
    exact clone_end hown3 hb3 (Nat.le_refl _)
end Go.Proofs.YtpcbhneaaibfiaaDoor
