/- Laid together for one claim: VtPths, VtRowIn, VtWkG. -/
import Derived.Test.YtfkfboiblgoamaaQP22
import Derived.Test.YtfkfboiblgoamaaQP23
import Derived.Test.YtfkfboiblgoamaaQP19
import Derived.OwnWalkIn
import Derived.Laws.Tables
import Derived.Test.YtfkfboiblgoamaaProg
import Derived.Test.YtfkfboiblgoamaaQP20
/- access.Paths: the paths of all values. -/
namespace Go.Proofs.Ytfkfboiblgoamaa
open Go.RowKit Go.Shelf
set_option linter.unusedSimpArgs false
set_option linter.unusedVariables false
attribute [local go_sem] Oper.semAt_some

theorem own_block {W W' : World} {B C n : Nat} {e : TypeId} {v : Value} {xs : List Value} (h : W.ownsRow B e C v n xs) (hv : ∀ g, v.ownBlock = some g → W'.heap[g]? = W.heap[g]?) : W'.ownsRow B e C v n xs := by
  refine ⟨h.1, ?_⟩
  rcases h.2 with h | ⟨g, cap, cur, rfl, b, c, r⟩
  · exact .inl h
  · exact .inr ⟨g, cap, cur, rfl, b, (hv g rfl).trans c, r⟩
theorem PRow.keptX {B : Nat} {S X : Nat → Prop} {W W' : World} {v : Value} {ps : List (List Stp)} (h : PRow B S W v ps) (hk : Kept X W W') (hv : ∀ g, v.ownBlock = some g → ¬ X g) (hS : ∀ b, S b → ¬ X b) : PRow B S W' v ps := by
  obtain ⟨fs, e, ho, hf⟩ := h
  exact ⟨fs, e, own_block ho fun g hg => hk.block g (ho.lt g hg).2 (hv g hg), fun f hm => ⟨(hf f hm).1.keptO (fun q => hS _ ((hf f hm).2 q).1) hk, (hf f hm).2⟩⟩
theorem Boxed.keptX {X : Nat → Prop} {W W' : World} {B : Nat} {t : TypeId} {v : Value} (h : Boxed W B t v) (hk : Kept X W W') (hn : ¬ X B) : Boxed W' B t v := (hk.block B h.lt hn).trans h
theorem kept_grown {X : Nat → Prop} {W W' : World} {row : Option Nat} (hg : W.grownBy W' row) (hX : ∀ g, row = some g → X g) : Kept X W W' := ⟨hg.os, hg.tape, hg.output, hg.size, fun k hk hn => hg.block k hk (fun e => hn (hX _ e.symm))⟩
theorem kept_set (X : Nat → Prop) (W : World) (b i : Nat) (u : Value) (hb : X b) : Kept X W (W.setCell ⟨b, i, none⟩ u) := ⟨rfl, rfl, rfl, by simp, fun k _ hn => Below.heap_setCell _ _ _ _ (by intro e; exact hn (by rw [e]; exact hb))⟩
theorem take_succ_eq {α : Type} {l : List α} {k : Nat} {x : α} (h : l[k]? = some x) : l.take (k + 1) = l.take k ++ [x] := by
  rw [List.take_add_one, h]
  rfl
theorem own_slice {W : World} {B C n : Nat} {e : TypeId} {v : Value} {xs : List Value} (h : W.ownsRow B e C v n xs) : ∃ a c, v = .slice a n c := by
  rcases h.2 with ⟨rfl, rfl⟩ | ⟨g, cap, cur, rfl, _⟩
  · exact ⟨_, _, rfl⟩
  · exact ⟨_, _, rfl⟩
/-- What a loop that collects paths keeps: its variable, in box bx, and the paths. -/
def Coll (bx base : Nat) (S : Nat → Prop) (w : World) (O : Nat → Prop) (W : World) (ps : List (List Stp)) : Prop :=
  ∃ v, O = (fun b => b = bx ∨ v.ownBlock = some b) ∧ Boxed W bx 32 v ∧ PRow base S W v ps ∧ Below w.heap.size w W
theorem Coll.kept {bx base B : Nat} {S O : Nat → Prop} {w W W' : World} {ps : List (List Stp)} (h : Coll bx base S w O W ps) (hk : LoopKept B W W') (hB : B + 2 ≤ base) (hS : ∀ b, S b → b ≠ B ∧ b ≠ B + 1) (hbx : bx < B) (hw : w.heap.size ≤ B) : Coll bx base S w O W' ps := by
  obtain ⟨v, hO, hb, hr, hbw⟩ := h
  have hg : ∀ g, v.ownBlock = some g → base ≤ g := fun g e => by obtain ⟨_, _, ho, _⟩ := hr; exact (ho.lt g e).1
  exact ⟨v, hO, Boxed.keptX hb hk (by omega), hr.keptX hk (fun g e => by have := hg g e; omega) (fun b q => by have := hS b q; omega), hbw.trans (hk.below hbw.size (fun b q => by omega))⟩
theorem Coll.own {bx base B : Nat} {S O : Nat → Prop} {w W : World} {ps : List (List Stp)} (h : Coll bx base S w O W ps) (hB : B + 2 ≤ base) (hbx : bx < B) : ∀ b, O b → b < W.heap.size ∧ b ≠ B ∧ b ≠ B + 1 := by
  obtain ⟨v, rfl, hb, hr, -⟩ := h
  intro b q
  rcases q with q | q
  · exact ⟨by rw [q]; exact hb.lt, by omega, by omega⟩
  · obtain ⟨_, _, ho, _⟩ := hr
    have := ho.lt b q
    exact ⟨this.2, by omega, by omega⟩
/-- One more path collected. -/
theorem Coll.push {bx base : Nat} {S O : Nat → Prop} {w W w2 : World} {fs : List Pth} {r : Pth} {v v' : Value} (hO : O = fun b => b = bx ∨ v.ownBlock = some b) (hb : Boxed W bx 32 v) (ho : (W.alloc (.cells #[r.val] 37)).ownsRow base 37 1 v fs.length (fs.map Pth.val)) (hf : ∀ f, f ∈ fs → f.In W W.heap.size ∧ (0 < f.n → S f.b ∧ some f.b ≠ v.ownBlock))
    (hbw : Below w.heap.size w W) (hr : r.In W W.heap.size) (hS : 0 < r.n → S r.b ∧ ¬ O r.b) (hbase : base ≤ W.heap.size) (hbx : w.heap.size ≤ bx) (hbb : bx < base) (hSb : ∀ b, S b → b ≠ bx) (ho' : w2.ownsRow base 37 1 v' (fs.length + 1) (fs.map Pth.val ++ [r.val])) (hg : (W.alloc (.cells #[r.val] 37)).grownBy w2 v.ownBlock) (hv : v'.ownBlock = v.ownBlock ∨ v'.ownBlock = some (W.alloc (.cells #[r.val] 37)).heap.size) :
    Kept O W (w2.setCell ⟨bx, 0, none⟩ v') ∧ ∃ O', Coll bx base S w O' (w2.setCell ⟨bx, 0, none⟩ v') (fs.map Pth.steps ++ [r.steps]) ∧ ∀ b, O' b → O b ∨ W.heap.size ≤ b := by
  have hA := (Below.refl W.heap.size W).alloc (Nat.le_refl _) (.cells #[r.val] 37)
  have hlt := fun g e => ho.lt g e
  have hnb : v.ownBlock ≠ some bx := fun e => by have := (hlt _ e).1; omega
  have b2 : Boxed w2 bx 32 v := (hg.block bx (by simp; have := hb.lt; omega) (fun e => hnb e.symm)).trans ((hA.block bx hb.lt).trans hb)
  have hrow : PRow base S w2 v' (fs.map Pth.steps ++ [r].map Pth.steps) := PRow.join (W := W.alloc (.cells #[r.val] 37)) ho (fun f hm => ⟨(Pth.In.below (hf f hm).1 hA).up hA.size, (hf f hm).2⟩)
    (fun f hm => by
      obtain rfl := List.mem_singleton.1 hm
      exact ⟨(Pth.In.below hr hA).up hA.size, fun q => ⟨(hS q).1, fun e => (hS q).2 (by rw [hO]; exact .inr e.symm)⟩⟩) (by simpa using ho') hg hv
  have hv' : ∀ g, v'.ownBlock = some g → base ≤ g := fun g e => (ho'.lt g e).1
  have hrow2 := hrow.keptX (kept_set (fun b => b = bx) w2 bx 0 v' rfl) (fun g e q => by have := hv' g e; omega) (fun b q e => hSb b q e)
  refine ⟨?_, fun b => b = bx ∨ v'.ownBlock = some b, ⟨v', rfl, Boxed.set v' b2, hrow2, ?_⟩, fun b q => ?_⟩
  · refine ((Kept.of (O := O) hA).trans (kept_grown (X := O) hg (fun g e => by rw [hO]; exact .inr e)) (fun b q => .inl q)).trans (kept_set O w2 bx 0 v' (by rw [hO]; exact .inl rfl)) (fun b q => .inl q)
  · exact ((hbw.trans (hA.mono hbw.size)).grown hg (by simp; have := hbw.size; omega) (fun g e => by have := (hlt g e).1; omega)).setCell (p := ⟨bx, 0, none⟩) hbx v'
  · rcases q with q | q
    · exact .inl (by rw [hO]; exact .inl q)
    · rcases hv with e | e
      · exact .inl (by rw [hO]; exact .inr (by rw [← e]; exact q))
      · refine .inr ?_
        rw [e, World.size_alloc] at q
        have := Option.some.inj q
        omega
/-- What the theory of walks asks of a value. -/
theorem walk_bounds {W : World} {top : Nat} {T : Vt} (hT : T.In W top) (hg : T.good) (hu : T.upto 48) (hsz : T.size ≤ 65536) : (T.walk []).length = T.size ∧ ∀ e, e ∈ T.walk [] → e.1.length ≤ 1000 ∧ e.2.upto 65536 := by
  refine ⟨Vt.walk_len hg hT.whole [], fun e he => ?_⟩
  obtain ⟨s, h1, h2, h3, -⟩ := Vt.walk_at hg hu hsz (q := []) (r := e.1) (U := e.2) he
  rw [List.nil_append] at h1
  refine ⟨by rw [h1]; omega, ?_⟩
  have := Vt.upto_at hu (lst s) s.length
  rw [h2] at this
  exact Vt.upto_le this (by decide)
set_option maxRecDepth 100000 in
set_option maxHeartbeats 2000000 in
theorem apaths_any {T : Vt} {w : World} (hT : T.In w w.heap.size) (hg : T.good) (hu : T.upto 48) (hsz : T.size ≤ 65536) :
    Calls Try.prog 15 #[.agg T.h.cells] w fun e w' => ∃ v, e = .returned v ∧ PRow w.heap.size (fun _ => True) w' v ((T.walk []).map Prod.fst) ∧ Below w.heap.size w w' := by
  obtain ⟨i0, hi0, hz0, hz1, hz2⟩ := info_parts Try.infoPth
  obtain ⟨hwl, hwE⟩ := walk_bounds hT hg hu hsz
  have hb1 := (Below.refl w.heap.size w).alloc (Nat.le_refl _) (.cells T.h.cells 30)
  have hb2 := hb1.alloc (by simp) (.cells #[.slice none 0 0] 32)
  have P1 := (Whole.new w 30 T.h.cells).alloc (.cells #[.slice none 0 0] 32)
  have bO := Boxed.new (w.alloc (.cells T.h.cells 30)) 32 (.slice none 0 0)
  rw [World.size_alloc] at bO
  have hWM := Lib.hid (fun w1 => walk_make T w1)
  obtain ⟨c0, c1, c2, c3, c4, c5, c6, c7, c8, c9, c10, c11, c12⟩ := Whole.c13 (h := T.h) P1
  have HT := Lib.hid hT
  have HU := Lib.hid hu
  have HWE := Lib.hid hwE
  have Hwl : Hid ((T.walk []).length ≤ 65536) := Lib.hid (by omega)
  clear hT hg hu hwE hwl hsz
  refine (callsIn_wide (n := 5)).1 ?_
  simp only [Vh.cells] at hb2 P1 bO hWM c0 c1 c2 c3 c4 c5 c6 c7 c8 c9 c10 c11 c12 ⊢
  refine callsIn_of_wp_marks Try.func15 rfl trivial ?_ rfl
  simp only [Try.ntmps15, List.size_toArray, List.length_cons, List.length_nil, Nat.reduceAdd, Nat.reduceSub, Array.replicate_succ, Array.replicate_zero, List.push_toArray, List.append_toArray, List.nil_append, List.cons_append]
  gi_wp2_with (refine ⟨trivial, ?_⟩; gi_at_call 10; refine (callsIn_wide.2 (hWM.out _)).mono ?_; rintro e w' ⟨rfl, rfl⟩)
  have bO2 := bO.alloc (.cells #[.int .i64 T.h.k, .bool T.h.b, .bool T.h.n, .string T.h.d, .int .i64 T.h.e, .int .i64 T.h.tk, .int .i64 T.h.td, .int .i64 T.h.tn, .int .i64 T.h.tz, .string T.h.x, .slice T.h.ba T.h.bn T.h.bc, .slice T.h.la T.h.ln T.h.lc, .slice T.h.fa T.h.fn T.h.fc] 30)
  have Pv := Whole.new ((w.alloc (.cells #[.int .i64 T.h.k, .bool T.h.b, .bool T.h.n, .string T.h.d, .int .i64 T.h.e, .int .i64 T.h.tk, .int .i64 T.h.td, .int .i64 T.h.tn, .int .i64 T.h.tz, .string T.h.x, .slice T.h.ba T.h.bn T.h.bc, .slice T.h.la T.h.ln T.h.lc, .slice T.h.fa T.h.fn T.h.fc] 30)).alloc (.cells #[.slice none 0 0] 32)) 30 #[.int .i64 T.h.k, .bool T.h.b, .bool T.h.n, .string T.h.d, .int .i64 T.h.e, .int .i64 T.h.tk, .int .i64 T.h.td, .int .i64 T.h.tn, .int .i64 T.h.tz, .string T.h.x, .slice T.h.ba T.h.bn T.h.bc, .slice T.h.la T.h.ln T.h.lc, .slice T.h.fa T.h.fn T.h.fc]
  simp only [World.size_alloc] at Pv
  have hb3 := hb2.alloc (by simp; omega) (.cells #[.int .i64 T.h.k, .bool T.h.b, .bool T.h.n, .string T.h.d, .int .i64 T.h.e, .int .i64 T.h.tk, .int .i64 T.h.td, .int .i64 T.h.tn, .int .i64 T.h.tz, .string T.h.x, .slice T.h.ba T.h.bn T.h.bc, .slice T.h.la T.h.ln T.h.lc, .slice T.h.fa T.h.fn T.h.fc] 30)
  have hz3 : (((w.alloc (.cells #[.int .i64 T.h.k, .bool T.h.b, .bool T.h.n, .string T.h.d, .int .i64 T.h.e, .int .i64 T.h.tk, .int .i64 T.h.td, .int .i64 T.h.tn, .int .i64 T.h.tz, .string T.h.x, .slice T.h.ba T.h.bn T.h.bc, .slice T.h.la T.h.ln T.h.lc, .slice T.h.fa T.h.fn T.h.fc] 30)).alloc (.cells #[.slice none 0 0] 32)).alloc (.cells #[.int .i64 T.h.k, .bool T.h.b, .bool T.h.n, .string T.h.d, .int .i64 T.h.e, .int .i64 T.h.tk, .int .i64 T.h.td, .int .i64 T.h.tn, .int .i64 T.h.tz, .string T.h.x, .slice T.h.ba T.h.bn T.h.bc, .slice T.h.la T.h.ln T.h.lc, .slice T.h.fa T.h.fn T.h.fc] 30)).heap.size = w.heap.size + 3 := by simp
  clear c0 c1 c2 c3 c4 c5 c6 c7 c8 c9 c10 c11 c12 hWM P1 bO hb1 hb2
  generalize ((w.alloc (.cells #[.int .i64 T.h.k, .bool T.h.b, .bool T.h.n, .string T.h.d, .int .i64 T.h.e, .int .i64 T.h.tk, .int .i64 T.h.td, .int .i64 T.h.tn, .int .i64 T.h.tz, .string T.h.x, .slice T.h.ba T.h.bn T.h.bc, .slice T.h.la T.h.ln T.h.lc, .slice T.h.fa T.h.fn T.h.fc] 30)).alloc (.cells #[.slice none 0 0] 32)).alloc (.cells #[.int .i64 T.h.k, .bool T.h.b, .bool T.h.n, .string T.h.d, .int .i64 T.h.e, .int .i64 T.h.tk, .int .i64 T.h.td, .int .i64 T.h.tn, .int .i64 T.h.tz, .string T.h.x, .slice T.h.ba T.h.bn T.h.bc, .slice T.h.la T.h.ln T.h.lc, .slice T.h.fa T.h.fn T.h.fc] 30) = W0 at *
  have hT0 : T.In W0 w.heap.size := HT.out.below hb3
  have hPv : Whole W0 (w.heap.size + 2) 30 T.h.cells := Pv
  refine wpIn_rangeFunc_told (by omega : 1 ≤ 5) (gf := 28) (lb := #[.pointer (some ⟨w.heap.size + 1 + 1, 0, none⟩)]) rfl (enters_of Try.func28 (by kernel_rfl) rfl)
    (walk_told (T := T) (top := w.heap.size) (Bv := w.heap.size + 1 + 1) hT0 (by omega) HU.out hPv HWE.out) (fun _ => rfl) (argOk_kept _)
    (fun k O W => Coll (w.heap.size + 1) (w.heap.size + 5) (fun b => b ≠ w.heap.size + 1 ∧ b ≠ w.heap.size + 3 ∧ b ≠ w.heap.size + 4) w O W (((T.walk []).map Prod.fst).take k))
    (fun _ _ _ => False)
    (fun k O W W' _ hI hk => by rw [hz3] at hk; exact hI.kept hk (by omega) (fun b q => ⟨q.2.1, q.2.2⟩) (by omega) (by omega))
    (fun _ _ _ _ _ h _ => h)
    (fun k O W hI => by rw [hz3]; exact hI.own (by omega) (by omega))
    (fun b => b = w.heap.size + 1 ∨ (Value.slice none 0 0).ownBlock = some b)
    (fun b q e => by rcases e with e | e; { omega }; { cases e })
    (fun b q => by rw [hz3]; omega)
    ⟨_, rfl, bO2, PRow.nil _ _ _, hb3⟩
    (fun x => { tmps := #[.agg #[.int .i64 T.h.k, .bool T.h.b, .bool T.h.n, .string T.h.d, .int .i64 T.h.e, .int .i64 T.h.tk, .int .i64 T.h.td, .int .i64 T.h.tn, .int .i64 T.h.tz, .string T.h.x, .slice T.h.ba T.h.bn T.h.bc, .slice T.h.la T.h.ln T.h.lc, .slice T.h.fa T.h.fn T.h.fc], .pointer (some ⟨w.heap.size, 0, none⟩), .slice none 0 0, .pointer (some ⟨w.heap.size + 1, 0, none⟩), .slice x.1.a x.1.n x.1.c, .agg #[.int .i64 T.h.k, .bool T.h.b, .bool T.h.n, .string T.h.d, .int .i64 T.h.e, .int .i64 T.h.tk, .int .i64 T.h.td, .int .i64 T.h.tn, .int .i64 T.h.tz, .string T.h.x, .slice T.h.ba T.h.bn T.h.bc, .slice T.h.la T.h.ln T.h.lc, .slice T.h.fa T.h.fn T.h.fc], .func (.func 28) #[] #[.pointer (some ⟨w.heap.size + 1 + 1, 0, none⟩)], .slice x.1.a x.1.n x.1.c, .agg #[.int .i64 x.2.h.k, .bool x.2.h.b, .bool x.2.h.n, .string x.2.h.d, .int .i64 x.2.h.e, .int .i64 x.2.h.tk, .int .i64 x.2.h.td, .int .i64 x.2.h.tn, .int .i64 x.2.h.tz, .string x.2.h.x, .slice x.2.h.ba x.2.h.bn x.2.h.bc, .slice x.2.h.la x.2.h.ln x.2.h.lc, .slice x.2.h.fa x.2.h.fn x.2.h.fc], undef, undef, undef, undef, undef], defers := [] }) ?assign ?body ?done ?stop
  case assign =>
    intro l x W K hK
    simp only [argEnc, Vh.cells]
    gi_wp2
    exact hK
  case body =>
    rintro l k x O W hsz ⟨v, hO, hb, hrow, hbw⟩ ⟨U, hEk, hXs, hp, hpo, hX, hXo⟩
    rw [hz3] at hsz hpo
    have hc := hb.cell
    obtain ⟨fs, efs, hown, hff⟩ := hrow
    obtain ⟨a0, c0, rfl⟩ := own_slice hown
    have Hown := Lib.hid (own_below hown ((Below.refl _ W).alloc (Nat.le_refl _) (.cells #[.slice x.1.a x.1.n x.1.c] 37)))
    have hkl : fs.length ≤ 65536 := by have := congrArg List.length efs; rw [List.length_map, List.length_take, List.length_map] at this; have := Hwl.out; omega
    have hbl := hb.lt
    have HB := Lib.hid hb
    have Hff := Lib.hid hff
    have Hpo : Hid (0 < x.1.n → (x.1.b ≠ w.heap.size + 1 ∧ x.1.b ≠ w.heap.size + 3 ∧ x.1.b ≠ w.heap.size + 4) ∧ ¬ O x.1.b) := Lib.hid fun q => by
      have h1 := hpo q
      refine ⟨⟨fun e => h1 (.inl (by rw [hO]; exact .inl e)), fun e => h1 (.inr (.inl e)), fun e => h1 (.inr (.inr e))⟩, fun e => h1 (.inl e)⟩
    have Hp := Lib.hid hp
    have HO := Lib.hid hO
    have Hbw := Lib.hid hbw
    have HL : Hid (fs.map Pth.steps ++ [x.1.steps] = ((T.walk []).map Prod.fst).take (k + 1)) := Lib.hid (by rw [efs, take_succ_eq (x := x.1.steps) (by rw [List.getElem?_map, hEk]; rfl)])
    have s1 := Lib.hid (cells_new W 37 #[.slice x.1.a x.1.n x.1.c])
    have s3 : Hid (fs.length + 1 ≤ maxLen) := Lib.hid (by unfold maxLen; omega)
    have s4 : Hid ((fs.length + 1) * 24 ≤ 140737488355328) := Lib.hid (by omega)
    have s5 : Hid (w.heap.size + 5 ≤ (W.alloc (.cells #[.slice x.1.a x.1.n x.1.c] 37)).heap.size) := Lib.hid (by simp; omega)
    have HBk : Hid (∀ w2, (W.alloc (.cells #[.slice x.1.a x.1.n x.1.c] 37)).grownBy w2 (Value.slice a0 fs.length c0).ownBlock → Boxed w2 (w.heap.size + 1) 32 (.slice a0 fs.length c0)) := Lib.hid fun w2 hg => (HB.out.alloc _).kept hg (fun e => by have := (Hown.out.lt _ e.symm).1; omega)
    clear hp hpo hX hXo hXs hEk hO hbw hff hb efs hown
    gi_wp2_with (gi_at_builtin; refine wpListIn_append_any _ rfl _ _ 32 rfl (w.heap.size + 5) 37 i0 _ 1 24 Try.underlying32 hi0 hz0 hz1 hz2 rfl (by decide) _ _ _ rfl Hown.out (some ⟨W.heap.size, 0, none⟩) 1 1 [.slice x.1.a x.1.n x.1.c] rfl rfl (fun _ => ⟨_, rfl, s1.out⟩) (by simp [Value.oneCell']) s3.out s4.out s5.out ?_; intro v' w2 hown' hgrow hat; obtain ⟨a', c', rfl⟩ := own_slice hown'; have b2 := HBk.out w2 hgrow; have e2 := b2.cell; have f2 := b2.frozen)
    have := Coll.push (S := fun b => b ≠ w.heap.size + 1 ∧ b ≠ w.heap.size + 3 ∧ b ≠ w.heap.size + 4) HO.out HB.out Hown.out Hff.out Hbw.out Hp.out Hpo.out (by omega) (by omega) (by omega) (fun b q => q.1) hown' hgrow hat
    rw [HL.out] at this
    exact this
  case done =>
    rintro O W hI hK
    have hI2 := hI.kept (W' := W.putObj W0.heap.size (.deferred none)) (Kept.put _ _ _ _ (.inl rfl)) (by omega) (fun b q => ⟨by rw [hz3]; exact q.2.1, by rw [hz3]; exact q.2.2⟩) (by omega) (by omega)
    rw [show ((T.walk []).map Prod.fst).take (T.walk []).length = (T.walk []).map Prod.fst from List.take_of_length_le (by rw [List.length_map]; exact Nat.le_refl _)] at hI2
    obtain ⟨v, -, hb, -, -⟩ := hI
    obtain ⟨v2, -, hb2, hr2, hw2⟩ := hI2
    have hlt := hb.lt
    obtain rfl : v2 = v := by
      have h1 := hb2.cell
      have h2 := (World.cell?_of_block (a := ⟨w.heap.size + 1, 0, none⟩) (World.putObj_heap_other (w := W) (o := .deferred none) (show w.heap.size + 1 ≠ W0.heap.size by omega))).trans hb.cell
      rw [h1] at h2
      exact Option.some.inj h2
    have hc := hb.cell
    have Hr2 := Lib.hid hr2
    have Hw2 := Lib.hid hw2
    clear hr2 hw2 hb2 hb
    gi_wp2
    refine ⟨by simp, .inl ⟨_, _, rfl, run_takeDeferred hK, ?_⟩⟩
    refine ⟨_, results_tmp rfl _ _ _, ?_⟩
    exact ⟨v2, rfl, Hr2.out.weaken (by omega) (fun _ _ => trivial), Hw2.out⟩
  case stop =>
    rintro c k W _ h _
    exact h.elim
end Go.Proofs.Ytfkfboiblgoamaa
/- A store of a whole struct, within a fence. -/
namespace Go.Proofs.Ytfkfboiblgoamaa
open Go.RowKit
theorem wpListIn_store_row {F : Fence} {n : Nat} {P : Program} {ops : Array Oper} {rest : List Oper} {o : Oper} {a : Act} {w : World} {Q : Exit → Act → World → Prop} (hgd : o.guard = none) (ty : TypeId) (x y : Operand) (ho : o.op = .store ty x y)
    (g : Nat) (cells : Array Value) (hx : a.eval x = .pointer (some ⟨g, 0, none⟩)) (hy : a.eval y = .agg cells)
    (t : TypeId) (old : Array Value) (hg : w.heap[g]? = some (.cells old t (0, 0))) (hi : (P.info? ty).map (·.size) = some cells.size)
    (hold : old.size = cells.size) (h1 : cells.all (·.oneCell') = true)
    (h : wpListIn F n P ops Q rest (a.put o.dst undef) (w.setRow g cells)) : wpListIn F n P ops Q (o :: rest) a w := by
  refine wpListIn_plain hgd fun K hK => ?_
  unfold Oper.wpIn
  refine ⟨?_, ?_⟩
  · simp [Oper.about, ho]
  · rw [Oper.semAt_plain F _ _ (by rw [ho]; intro c hc'; cases hc')]
    simp only [execOp, ho, hx, hy, Instr.storeAt, Instr.sureAddr, Sem.run_bind, Sem.run_pure, Result.andThen_ok, run_storeVar_row w g t ty old cells hg hi hold h1]
    exact hK _ _ h
end Go.Proofs.Ytfkfboiblgoamaa
/- What the reference's Get gives at the paths of a walk: plain. -/
namespace Go.Proofs.Ytfkfboiblgoamaa
open Go.RowKit

theorem Vt.atN_congr {T : Vt} {S S' : Nat → Stp} : ∀ {n : Nat}, (∀ i, i < n → S i = S' i) → T.atN S n = T.atN S' n := by
  intro n
  induction n with
  | zero => intro _; rfl
  | succ n ih =>
    intro h
    have e := ih (fun i hi => h i (by omega))
    show (if (T.atN S n).2 ≠ 0 then T.atN S n else if ((T.atN S n).1.find (S n)).2 ≠ 0 then ((T.atN S n).1, ((T.atN S n).1.find (S n)).2) else ((T.atN S n).1.part ((T.atN S n).1.find (S n)).1.toNat, 0)) = _
    rw [e, h n (Nat.lt_succ_self n)]
    rfl
/-- What the reference's Get gives at the k-th path. -/
theorem walk_getV {T : Vt} {p : Pth} {U : Vt} (hg : T.good) (hu : T.upto 48) (hsz : T.size ≤ 65536) (hm : (p.steps, U) ∈ T.walk []) : T.getV p.S p.n = (U, 0) ∧ ∃ n, T.atN p.S n = (U, 0) := by
  obtain ⟨s, h1, h2, h3, h4⟩ := Vt.walk_at hg hu hsz (q := []) hm
  rw [List.nil_append] at h1
  have hl : p.n = s.length := by rw [← p.steps_len, h1]
  have hS : ∀ i, i < p.n → p.S i = lst s i := fun i hi => by rw [Pth.steps_get hi, h1]
  have ha : T.atN p.S p.n = (U, 0) := by rw [Vt.atN_congr hS, hl]; exact h2
  have hB : pathB p.S p.n = true := pathB_yes ⟨by omega, fun i hi => by
    rw [hS i hi, lst_get (by omega)]
    exact h4 _ (List.getElem_mem _)⟩
  refine ⟨?_, _, ha⟩
  unfold Vt.getV Vt.get
  rw [if_pos hB, ha, if_pos rfl]
end Go.Proofs.Ytfkfboiblgoamaa
