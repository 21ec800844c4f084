/- Laid together for one claim: VtIter, VtPRow. -/
import Derived.Test.YtfkfboiblgoamaaQP21
import Derived.Test.YtfkfboiblgoamaaQP13
import Derived.Test.YtfkfboiblgoamaaQP20
/- access.Walk: the iterator over all values in a value: its contract. -/
namespace Go.Proofs.Ytfkfboiblgoamaa
open Go.RowKit Go.Shelf
set_option linter.unusedSimpArgs false
set_option linter.unusedVariables false
attribute [local go_sem] Oper.semAt_some

/-- What a round is told of what it is handed: the k-th path, and a copy of the value at it. -/
def ArgOk (E : List (List Stp × Vt)) (k : Nat) (x : Pth × Vt) (O : Nat → Prop) (W : World) : Prop :=
  ∃ U : Vt, E[k]? = some (x.1.steps, U) ∧ x.2.Same U ∧ x.1.In W W.heap.size ∧ (0 < x.1.n → ¬ O x.1.b) ∧ x.2.In W W.heap.size ∧ x.2.Off (fun b => ¬ O b)
theorem argOk_kept (E : List (List Stp × Vt)) (k : Nat) (x : Pth × Vt) (O : Nat → Prop) (W W' : World) (h : ArgOk E k x O W) (hk : Kept O W W') : ArgOk E k x O W' := by
  obtain ⟨U, h1, h2, h3, h4, h5, h6⟩ := h
  exact ⟨U, h1, h2, h3.keptO h4 hk, h4, h5.keptO h6 hk, h6⟩
theorem argOk_less (E : List (List Stp × Vt)) (k : Nat) (x : Pth × Vt) (O O' : Nat → Prop) (W : World) (h : ArgOk E k x O W) (ho : ∀ b, O' b → O b) : ArgOk E k x O' W := by
  obtain ⟨U, h1, h2, h3, h4, h5, h6⟩ := h
  exact ⟨U, h1, h2, h3, fun q e => h4 q (ho _ e), h5, h6.mono fun b q e => q (ho _ e)⟩
def argEnc (x : Pth × Vt) : Array Value := #[.slice x.1.a x.1.n x.1.c, .agg x.2.h.cells]
def nilPth : Pth := ⟨none, 0, 0, 0, 0, fun _ => default⟩
theorem nilPth_in (W : World) (top : Nat) : nilPth.In W top := ⟨fun q => absurd q (Nat.lt_irrefl _), ⟨Nat.zero_le _, Nat.le_refl _, Nat.zero_le _⟩, fun i hi => absurd hi (Nat.not_lt_zero _)⟩
theorem nilPth_steps : nilPth.steps = [] := rfl
set_option maxHeartbeats 2000000 in
set_option maxRecDepth 100000 in
theorem yield_any {E : List (List Stp × Vt)} {J : Nat → (Nat → Prop) → World → Prop} {Jx : Nat → World → Prop} {l B : Nat} (hJ : ∀ k O W W', J k O W → Below W.heap.size W W' → J k O W') (hJO : ∀ k O W, J k O W → ∀ b, O b → b < W.heap.size)
    (hY : ∀ k x O W1 m, J k O W1 → ArgOk E k x O W1 → YieldAt Fence.wide m Try.prog l (argEnc x) W1 (ToldRound J Jx k O W1)) (hE : ∀ e, e ∈ E → e.2.upto 65536)
    (k : Nat) (O : Nat → Prop) (W : World) (p : Pth) (U : Vt) (hJ0 : J k O W) (hc : W.cell? ⟨B, 0, none⟩ = some (.func (.yield l) #[] #[])) (hB : B < W.heap.size) (hBO : ¬ O B) (hEk : E[k]? = some (p.steps, U)) (hp : p.In W W.heap.size) (hpo : 0 < p.n → ¬ O p.b) (hU : U.In W W.heap.size) (hUo : U.Off (fun b => ¬ O b)) (hpn : p.n ≤ 1000) :
    Calls Try.prog 30 #[.slice p.a p.n p.c, .agg U.h.cells, .pointer (some ⟨B, 0, none⟩)] W (ToldRound (fun k O W => J k O W ∧ W.cell? ⟨B, 0, none⟩ = some (.func (.yield l) #[] #[]) ∧ ¬ O B ∧ B < W.heap.size) Jx k O W) := by
  have hb0 := (Below.refl W.heap.size W).alloc (Nat.le_refl _) (.cells U.h.cells 30)
  have P := Whole.new W 30 U.h.cells
  have hc0 := hc
  have hcB := (hb0.cell (p := ⟨B, 0, none⟩) hB).trans hc
  have HJn := Lib.hid (fun (w1 : World) (hb : Below W.heap.size W w1) => join_any (p := p) (q := nilPth) ((Pth.In.below hp hb).up hb.size) (nilPth_in _ _) (Nat.le_refl _) (show p.n + 0 ≤ 1048576 by omega))
  have HCo := Lib.hid (fun (w1 : World) (hb : Below W.heap.size W w1) => copy_any ((Vt.In.below hb hU).up hb.size) (Nat.le_refl _) (hE _ (List.mem_of_getElem? hEk)))
  have hOb := hJO _ _ _ hJ0
  have HYy : Hid (∀ (r : Pth) (X : Vt) (W2 : World), Below W.heap.size W W2 → r.In W2 W2.heap.size → r.steps = p.steps → (0 < r.n → W.heap.size ≤ r.b) → X.In W2 W2.heap.size → X.Off (W.heap.size ≤ ·) → X.Same U →
      YieldAt Fence.wide 5 Try.prog l #[.slice r.a r.n r.c, .agg X.h.cells] W2 (fun e W3 => ∃ bb : Bool, e = .returned (.bool bb) ∧ Hid (ToldRound (fun k O W => J k O W ∧ W.cell? ⟨B, 0, none⟩ = some (.func (.yield l) #[] #[]) ∧ ¬ O B ∧ B < W.heap.size) Jx k O W e W3))) := Lib.hid fun r X W2 hb hr hrs hrb hX hXo hXs => by
    refine YieldAt.mono (hY k (r, X) O W2 5 (hJ _ _ _ _ hJ0 hb) ⟨U, by rw [hrs]; exact hEk, hXs, hr, fun q e => absurd (hOb _ e) (Nat.not_lt.2 (hrb q)), hX, hXo.mono fun b q e => absurd (hOb _ e) (Nat.not_lt.2 q)⟩) fun e W3 h => ?_
    have hcB2 := (hb.cell (p := ⟨B, 0, none⟩) hB).trans hc
    have hB2 : B < W2.heap.size := Nat.lt_of_lt_of_le hB hb.size
    rcases h with ⟨rfl, ⟨O', hJ', hO'⟩, hk⟩ | ⟨rfl, hx, hk⟩
    · refine ⟨true, rfl, Lib.hid (.inl ⟨rfl, ⟨O', ⟨hJ', ?_, fun q => ?_, Nat.lt_of_lt_of_le hB2 hk.size⟩, fun b q => (hO' b q).imp id fun z => Nat.le_trans hb.size z⟩, (Kept.of hb).trans hk fun b q => .inl q⟩)⟩
      · exact (World.cell?_of_block (a := ⟨B, 0, none⟩) (hk.block B hB2 hBO)).trans hcB2
      · rcases hO' B q with q | q
        · exact hBO q
        · omega
    · exact ⟨false, rfl, Lib.hid (.inr ⟨rfl, hx, (Kept.of hb).trans hk fun b q => .inl q⟩)⟩
  clear hJ0 hc hEk hp hpo hU hUo hY hE hJ hJO hOb
  obtain ⟨c0, c1, c2, c3, c4, c5, c6, c7, c8, c9, c10, c11, c12⟩ := Whole.c13 (h := U.h) P
  have HP := Lib.hid (fun (w1 w2 : World) (hb : Below w1.heap.size w1 w2) (q : Whole w1 W.heap.size 30 U.h.cells) => q.below hb q.lt)
  simp only [Vh.cells] at P hb0 hcB HCo HP c0 c1 c2 c3 c4 c5 c6 c7 c8 c9 c10 c11 c12 ⊢
  have hd5 : (Fence.wide.depth.isSome = true → 1 ≤ 6) := fun h => by cases h
  have hmx : Try.prog.follows .mixedOrders = true := by kernel_rfl
  refine (callsIn_wide (n := 6)).1 ?_
  refine callsIn_of_wp Try.func30 rfl trivial ?_ rfl
  simp only [Try.ntmps30, List.size_toArray, List.length_cons, List.length_nil, Nat.reduceAdd, Nat.reduceSub, Array.replicate_succ, Array.replicate_zero, List.push_toArray, List.append_toArray, List.nil_append, List.cons_append]
  gi_wp2
  have HCB := Lib.hid (fun (w1 : World) (hb : Below W.heap.size W w1) => (hb.cell (p := ⟨B, 0, none⟩) hB).trans hc0)
  gi_region_with_o (first
    | (refine ⟨trivial, ?_⟩
       gi_at_call 31
       refine (callsIn_wide.2 (HJn.out _ hb0.drew)).mono ?_
       rintro _ w5 ⟨r, rfl, hr, hrs, hrb, h5⟩
       have b5 := below_then hb0.drew h5
       have P5 := HP.out _ _ h5 P
       have cB5 := HCB.out _ b5
       obtain ⟨d0, d1, d2, d3, d4, d5, d6, d7, d8, d9, d10, d11, d12⟩ := Whole.c13 (h := U.h) P5)
    | (refine ⟨trivial, ?_⟩
       gi_at_call 32
       refine (callsIn_wide.2 (HCo.out _ b5)).mono ?_
       rintro _ w6 ⟨X, rfl, hX, hXo, hXs, h6⟩
       have b6 := below_then b5 h6
       have cB6 := HCB.out _ b6
       have hs5 := b5.size
       obtain ⟨fn, tmps, assign, body, hy, hR⟩ := HYy.out r X w6 b6 ((Pth.In.below hr h6).up h6.size) (by rw [hrs, nilPth_steps, List.append_nil]) (fun q => Nat.le_trans hb0.drew.size (hrb q)) hX (hXo.mono fun b q => Nat.le_trans hs5 q) hXs
       simp only [Vh.cells] at hy)
    | (try refine ⟨fun h => by cases h, ?_⟩
       refine hR.mono ?_
       rintro _ w7 ⟨bb, rfl, hT⟩))
  all_goals gi_wp2
  all_goals go_ret
  all_goals exact hT.out
/-- The iterator's contract. -/
theorem walk_told {T : Vt} {top Bv n : Nat} {w : World} (hT : T.In w top) (ht : top ≤ w.heap.size) (hu : T.upto 48) (hPv : Whole w Bv 30 T.h.cells) (hE : ∀ e, e ∈ T.walk [] → e.1.length ≤ 1000 ∧ e.2.upto 65536) :
    Told n Try.prog 28 #[.pointer (some ⟨Bv, 0, none⟩)] argEnc (ArgOk (T.walk [])) (fun b => b < top ∨ b = Bv) (T.walk []).length w := by
  intro l O0 J Jx W hW hO0 hJ0 hJ hJx hJO hY
  refine callsIn_wide.2 ?_
  have hPW := hPv.below hW hPv.lt
  have hTW : T.In W W.heap.size := (Vt.In.below (hW.mono ht) hT).up (Nat.le_trans ht hW.size)
  have hTo : T.Off (fun b => ¬ O0 b) := hT.off.mono fun b q => hO0 b (.inl q)
  have hb0 := (Below.refl W.heap.size W).alloc (Nat.le_refl _) (.cells #[.func (.yield l) #[] #[]] 54)
  have hnB : ¬ O0 W.heap.size := fun q => absurd (hJO _ _ _ hJ0 _ q) (Nat.lt_irrefl _)
  have C : VisCtx (T.walk []) (fun k O w' => J k O w' ∧ w'.cell? ⟨W.heap.size, 0, none⟩ = some (.func (.yield l) #[] #[]) ∧ ¬ O W.heap.size ∧ W.heap.size < w'.heap.size) Jx (.pointer (some ⟨W.heap.size, 0, none⟩)) :=
    ⟨fun k O w1 w2 h hb => ⟨hJ k O w1 w2 h.1 hb, (hb.cell (p := ⟨W.heap.size, 0, none⟩) h.2.2.2).trans h.2.1, h.2.2.1, Nat.lt_of_lt_of_le h.2.2.2 hb.size⟩,
     fun k O w1 h => hJO k O w1 h.1,
     fun k O w1 p U h hEk hp hpo hU hUo => yield_any hJ hJO hY (fun e he => (hE e he).2) k O w1 p U h.1 h.2.1 h.2.2.2 h.2.2.1 hEk hp hpo hU hUo (by have := (hE _ (List.mem_of_getElem? hEk)).1; rw [p.steps_len] at this; exact this)⟩
  have HV := Lib.hid (visit_any C T nilPth 48 0 O0 _ ⟨hJ _ _ _ _ hJ0 hb0, (Whole.new W 54 #[.func (.yield l) #[] #[]]).c, hnB, by simp⟩ (hTW.later hb0) hTo hu (by decide) (nilPth_in _ _) (fun q => absurd q (Nat.lt_irrefl _)) (fun j hj => by rw [Nat.zero_add]; rfl))
  rw [nilPth_steps] at HV
  rw [show nilPth.a = none from rfl, show nilPth.n = 0 from rfl, show nilPth.c = 0 from rfl] at HV
  have P := hPW.alloc (.cells #[.func (.yield l) #[] #[]] 54)
  clear hO0 hJ0 hJ hJx hJO hY hTW hTo hPW C hPv hE hT hu
  obtain ⟨c0, c1, c2, c3, c4, c5, c6, c7, c8, c9, c10, c11, c12⟩ := Whole.c13 (h := T.h) P
  simp only [Vh.cells] at HV
  show Calls Try.prog 28 #[.func (.yield l) #[] #[], .pointer (some ⟨Bv, 0, none⟩)] W _
  go_enter Try.func28, Try.ntmps28
  go_wp2_with fail
  refine HV.out.mono ?_
  rintro _ w1 (⟨rfl, ⟨O', hJ', -⟩, -⟩ | ⟨rfl, ⟨k', hk', hx⟩, -⟩)
  · go_wp2
    go_end0
    exact ⟨⟨_, rfl⟩, .inl ⟨O', by have := hJ'.1; rw [Nat.zero_add] at this; exact this⟩⟩
  · go_wp2
    go_end0
    exact ⟨⟨_, rfl⟩, .inr ⟨k', by omega, hx⟩⟩
set_option maxHeartbeats 1000000 in
theorem walk_make (T : Vt) (w : World) : Calls Try.prog 10 #[.agg T.h.cells] w fun e w' => e = .returned (.func (.func 28) #[] #[.pointer (some ⟨w.heap.size, 0, none⟩)]) ∧ w' = w.alloc (.cells T.h.cells 30) := by
  have hmf : ∀ (fn : Fn) (first cap : Array Value) (w : World), (Instr.makeFunc fn first cap).run Try.prog w = .ok (.func fn first cap) w := fun _ _ _ _ => rfl
  simp only [Vh.cells]
  go_enter Try.func10, Try.ntmps10
  go_wp2
  go_ret
  exact ⟨rfl, rfl⟩
end Go.Proofs.Ytfkfboiblgoamaa
/- Rows of paths ([][]api.Step): how they lie, what keeps them, one after the other. -/
namespace Go.Proofs.Ytfkfboiblgoamaa
open Go.RowKit
set_option linter.unusedSimpArgs false
set_option linter.unusedVariables false

theorem Try.infoPth : (Try.prog.info? 37).map (fun i => (i.zero, i.size, i.bytes)) = some (some (.slice none 0 0), 1, 24) := by kernel_rfl
def nilP : Pth := ⟨none, 0, 0, 0, 0, fun _ => default⟩
/-- A row of paths that a call makes: no path lies in the row's own block. -/
def PRow (B : Nat) (S : Nat → Prop) (W : World) (v : Value) (ps : List (List Stp)) : Prop :=
  ∃ fs : List Pth, fs.map Pth.steps = ps ∧ W.ownsRow B 37 1 v fs.length (fs.map Pth.val) ∧ ∀ f, f ∈ fs → f.In W W.heap.size ∧ (0 < f.n → S f.b ∧ some f.b ≠ v.ownBlock)
theorem PRow.nil (B : Nat) (S : Nat → Prop) (W : World) : PRow B S W (.slice none 0 0) [] := ⟨[], rfl, World.ownsRow_nil _ _ _ _, fun _ h => by cases h⟩
theorem val_one (fs : List Pth) : ∀ u ∈ fs.map Pth.val, u.oneCell' = true := by
  intro u hu
  obtain ⟨f, _, rfl⟩ := List.mem_map.1 hu
  rfl
theorem PRow.len {B : Nat} {S : Nat → Prop} {W : World} {v : Value} {ps : List (List Stp)} (h : PRow B S W v ps) : ∃ fs : List Pth, fs.length = ps.length ∧ W.ownsRow B 37 1 v ps.length (fs.map Pth.val) := by
  obtain ⟨fs, e, ho, _⟩ := h
  have : fs.length = ps.length := by rw [← e]; simp
  exact ⟨fs, this, by rw [← this]; exact ho⟩
theorem PRow.keptO {B : Nat} {S : Nat → Prop} {W W' : World} {v : Value} {ps : List (List Stp)} (h : PRow B S W v ps) {row : Option Nat} (hg : W.grownBy W' row) (hv : v.ownBlock = none ∨ v.ownBlock ≠ row) (hS : ∀ b, S b → some b ≠ row) : PRow B S W' v ps := by
  obtain ⟨fs, e, ho, hf⟩ := h
  refine ⟨fs, e, ho.kept hg hv, fun f hf' => ?_⟩
  obtain ⟨h1, h2⟩ := hf f hf'
  refine ⟨⟨fun q => ⟨(h1.1 q).1, Nat.lt_of_lt_of_le (h1.1 q).2 hg.size⟩, h1.2.1, fun i hi => ⟨fun j hj => ?_, (h1.2.2 i hi).2⟩⟩, h2⟩
  have hn : 0 < f.n := by omega
  exact (World.cell?_of_block (a := ⟨f.b, f.o + i * 3 + j, none⟩) (hg.block f.b (h1.1 hn).2 (hS _ (h2 hn).1))).trans ((h1.2.2 i hi).1 j hj)
theorem PRow.below {B : Nat} {S : Nat → Prop} {W W' : World} {v : Value} {ps : List (List Stp)} (h : PRow B S W v ps) (hb : Below W.heap.size W W') : PRow B S W' v ps := by
  refine h.keptO (row := none) ⟨hb.os, hb.tape, hb.output, hb.size, fun i hi _ => hb.block i hi⟩ ?_ (fun b _ e => by cases e)
  cases hv : v.ownBlock with
  | none => exact .inl rfl
  | some g => exact .inr (by simp)
theorem own_lower {W : World} {B B' C n : Nat} {e : TypeId} {v : Value} {xs : List Value} (h : W.ownsRow B e C v n xs) (hB : B' ≤ B) : W.ownsRow B' e C v n xs := by
  refine ⟨h.1, ?_⟩
  rcases h.2 with h | ⟨g, cap, cur, a, b, c⟩
  · exact .inl h
  · exact .inr ⟨g, cap, cur, a, Nat.le_trans hB b, c⟩
theorem PRow.weaken {B B' : Nat} {S S' : Nat → Prop} {W : World} {v : Value} {ps : List (List Stp)} (h : PRow B S W v ps) (hB : B' ≤ B) (hS : ∀ b, S b → S' b) : PRow B' S' W v ps := by
  obtain ⟨fs, e, ho, hf⟩ := h
  exact ⟨fs, e, own_lower ho hB, fun f hf' => ⟨(hf f hf').1, fun q => ⟨hS _ ((hf f hf').2 q).1, ((hf f hf').2 q).2⟩⟩⟩
/-- One row behind another. -/
theorem PRow.join {B : Nat} {S : Nat → Prop} {W W' : World} {v v' : Value} {fs gs : List Pth} (ho : W.ownsRow B 37 1 v fs.length (fs.map Pth.val)) (hf : ∀ f, f ∈ fs → f.In W W.heap.size ∧ (0 < f.n → S f.b ∧ some f.b ≠ v.ownBlock)) (hg : ∀ f, f ∈ gs → f.In W W.heap.size ∧ (0 < f.n → S f.b ∧ some f.b ≠ v.ownBlock))
    (ho' : W'.ownsRow B 37 1 v' (fs.length + gs.length) (fs.map Pth.val ++ gs.map Pth.val)) (hgr : W.grownBy W' v.ownBlock) (hv : v'.ownBlock = v.ownBlock ∨ v'.ownBlock = some W.heap.size) : PRow B S W' v' (fs.map Pth.steps ++ gs.map Pth.steps) := by
  refine ⟨fs ++ gs, by simp, by simpa using ho', fun f hm => ?_⟩
  have h : f.In W W.heap.size ∧ (0 < f.n → S f.b ∧ some f.b ≠ v.ownBlock) := by
    rcases List.mem_append.1 hm with hm | hm
    · exact hf f hm
    · exact hg f hm
  obtain ⟨h1, h2⟩ := h
  refine ⟨⟨fun q => ⟨(h1.1 q).1, Nat.lt_of_lt_of_le (h1.1 q).2 hgr.size⟩, h1.2.1, fun i hi => ⟨fun j hj => ?_, (h1.2.2 i hi).2⟩⟩, fun q => ⟨(h2 q).1, ?_⟩⟩
  · have hn : 0 < f.n := by omega
    exact (World.cell?_of_block (a := ⟨f.b, f.o + i * 3 + j, none⟩) (hgr.block f.b (h1.1 hn).2 (h2 hn).2)).trans ((h1.2.2 i hi).1 j hj)
  · rcases hv with e | e
    · rw [e]; exact (h2 q).2
    · rw [e]
      intro c
      have := Option.some.inj c
      have := (h1.1 q).2
      omega
/-- A finished row: each path, read. -/
theorem PRow.get {B : Nat} {S : Nat → Prop} {W : World} {v : Value} {ps : List (List Stp)} (h : PRow B S W v ps) : ∃ (a : Option Addr) (c b : Nat) (f : Nat → Pth), v = .slice a ps.length c ∧ (ps.length ≤ c ∧ c ≤ maxLen) ∧ (0 < ps.length → a = some ⟨b, 0, none⟩ ∧ B ≤ b ∧ b < W.heap.size) ∧
    ∀ i (hi : i < ps.length), W.cell? ⟨b, i, none⟩ = some (.slice (f i).a (f i).n (f i).c) ∧ (f i).In W W.heap.size ∧ (f i).steps = ps[i] ∧ (0 < (f i).n → S (f i).b) := by
  obtain ⟨fs, e, ho, hf⟩ := h
  have hl : fs.length = ps.length := by rw [← e]; simp
  have hcat : fs.map Pth.val = catN (fun i => #[(fs.getD i nilP).val]) fs.length := by
    refine List.ext_getElem? fun i => ?_
    by_cases hi : i < fs.length
    · have := catN_get (f := fun i => #[(fs.getD i nilP).val]) (C := 1) (fun _ => rfl) (n := fs.length) (i := i) (j := 0) (by omega) hi
      rw [Nat.mul_one, Nat.add_zero] at this
      rw [this]
      simp [hi]
    · have h2 := catN_len (f := fun i => #[(fs.getD i nilP).val]) (C := 1) (fun _ => rfl) fs.length
      rw [List.getElem?_eq_none (by simp; omega), List.getElem?_eq_none (by rw [h2]; omega)]
  rw [hcat] at ho
  obtain ⟨a, c, b, rfl, hcc, ha, hrow⟩ := own_lies (C := 1) (fun _ => rfl) ho
  refine ⟨a, c, b, fun i => fs.getD i nilP, by rw [hl], by rw [← hl]; exact hcc, by rw [← hl]; exact ha, fun i hi => ?_⟩
  have hi' : i < fs.length := by omega
  have hm : fs.getD i nilP ∈ fs := by simp [hi']
  have := hrow i hi' 0 (Nat.lt_succ_self 0)
  rw [Nat.mul_one, Nat.add_zero] at this
  refine ⟨this, (hf _ hm).1, ?_, fun q => ((hf _ hm).2 q).1⟩
  have : ps[i]? = some (fs.getD i nilP).steps := by rw [← e]; simp [hi']
  rw [List.getElem?_eq_getElem hi] at this
  exact (Option.some.inj this).symm
end Go.Proofs.Ytfkfboiblgoamaa
