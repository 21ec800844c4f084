/- Laid together for one claim: VtLeaves. -/
import Derived.Test.YtfkfboiblgoamaaQP24
/- access.Leaves, datakitref09.Leaves: the paths of the leaves. -/
namespace Go.Proofs.Ytfkfboiblgoamaa
open Go.RowKit Go.Shelf
set_option linter.unusedSimpArgs false
set_option linter.unusedVariables false
attribute [local go_sem] Oper.semAt_some

def leafB (e : List Stp × Vt) : Bool := decide (e.2.h.ln = 0 ∧ e.2.h.fn = 0)
def lvs (T : Vt) (k : Nat) : List (List Stp) := (((T.walk []).take k).filter leafB).map Prod.fst
theorem lvs_yes {T : Vt} {k : Nat} {e : List Stp × Vt} (h : (T.walk [])[k]? = some e) (hl : e.2.h.ln = 0 ∧ e.2.h.fn = 0) : lvs T (k + 1) = lvs T k ++ [e.1] := by
  unfold lvs
  rw [take_succ_eq h, List.filter_append, List.map_append]
  have : leafB e = true := decide_eq_true hl
  simp [this]
theorem lvs_no {T : Vt} {k : Nat} {e : List Stp × Vt} (h : (T.walk [])[k]? = some e) (hl : ¬ (e.2.h.ln = 0 ∧ e.2.h.fn = 0)) : lvs T (k + 1) = lvs T k := by
  unfold lvs
  rw [take_succ_eq h, List.filter_append, List.map_append]
  have : leafB e = false := decide_eq_false hl
  simp [this]
theorem lvs_all {T : Vt} {n : Nat} (h : (T.walk []).length ≤ n) : lvs T n = ((T.walk []).filter leafB).map Prod.fst := by
  unfold lvs
  rw [List.take_of_length_le h]
theorem lvs_len (T : Vt) (k : Nat) : (lvs T k).length ≤ (T.walk []).length := by
  unfold lvs
  rw [List.length_map]
  exact Nat.le_trans (List.length_filter_le _ _) (by rw [List.length_take]; omega)
set_option maxRecDepth 100000 in
set_option maxHeartbeats 2000000 in
theorem aleaves_any {T : Vt} {w : World} (hT : T.In w w.heap.size) (hg : T.good) (hu : T.upto 48) (hsz : T.size ≤ 65536) :
    Calls Try.prog 16 #[.agg T.h.cells] w fun e w' => ∃ v, e = .returned v ∧ PRow w.heap.size (fun _ => True) w' v (((T.walk []).filter leafB).map Prod.fst) ∧ Below w.heap.size w w' := by
  obtain ⟨i0, hi0, hz0, hz1, hz2⟩ := info_parts Try.infoPth
  obtain ⟨hwl, hwE⟩ := walk_bounds hT hg hu hsz
  have hb1 := (Below.refl w.heap.size w).alloc (Nat.le_refl _) (.cells T.h.cells 30)
  have hb2 := hb1.alloc (by simp) (.cells #[.slice none 0 0] 32)
  have P1 := (Whole.new w 30 T.h.cells).alloc (.cells #[.slice none 0 0] 32)
  have bO := Boxed.new (w.alloc (.cells T.h.cells 30)) 32 (.slice none 0 0)
  rw [World.size_alloc] at bO
  have hWM := Lib.hid (fun w1 => walk_make T w1)
  obtain ⟨c0, c1, c2, c3, c4, c5, c6, c7, c8, c9, c10, c11, c12⟩ := Whole.c13 (h := T.h) P1
  have HT := Lib.hid hT
  have HU := Lib.hid hu
  have HWE := Lib.hid hwE
  have Hwl : Hid ((T.walk []).length ≤ 65536) := Lib.hid (by omega)
  clear hT hg hu hwE hwl hsz
  refine (callsIn_wide (n := 5)).1 ?_
  simp only [Vh.cells] at hb2 P1 bO hWM c0 c1 c2 c3 c4 c5 c6 c7 c8 c9 c10 c11 c12 ⊢
  refine callsIn_of_wp_marks Try.func16 rfl trivial ?_ rfl
  simp only [Try.ntmps16, List.size_toArray, List.length_cons, List.length_nil, Nat.reduceAdd, Nat.reduceSub, Array.replicate_succ, Array.replicate_zero, List.push_toArray, List.append_toArray, List.nil_append, List.cons_append]
  gi_wp2_with (refine ⟨trivial, ?_⟩; gi_at_call 10; refine (callsIn_wide.2 (hWM.out _)).mono ?_; rintro e w' ⟨rfl, rfl⟩)
  have bO2 := bO.alloc (.cells #[.int .i64 T.h.k, .bool T.h.b, .bool T.h.n, .string T.h.d, .int .i64 T.h.e, .int .i64 T.h.tk, .int .i64 T.h.td, .int .i64 T.h.tn, .int .i64 T.h.tz, .string T.h.x, .slice T.h.ba T.h.bn T.h.bc, .slice T.h.la T.h.ln T.h.lc, .slice T.h.fa T.h.fn T.h.fc] 30)
  have Pv := Whole.new ((w.alloc (.cells #[.int .i64 T.h.k, .bool T.h.b, .bool T.h.n, .string T.h.d, .int .i64 T.h.e, .int .i64 T.h.tk, .int .i64 T.h.td, .int .i64 T.h.tn, .int .i64 T.h.tz, .string T.h.x, .slice T.h.ba T.h.bn T.h.bc, .slice T.h.la T.h.ln T.h.lc, .slice T.h.fa T.h.fn T.h.fc] 30)).alloc (.cells #[.slice none 0 0] 32)) 30 #[.int .i64 T.h.k, .bool T.h.b, .bool T.h.n, .string T.h.d, .int .i64 T.h.e, .int .i64 T.h.tk, .int .i64 T.h.td, .int .i64 T.h.tn, .int .i64 T.h.tz, .string T.h.x, .slice T.h.ba T.h.bn T.h.bc, .slice T.h.la T.h.ln T.h.lc, .slice T.h.fa T.h.fn T.h.fc]
  simp only [World.size_alloc] at Pv
  have hb3 := hb2.alloc (by simp; omega) (.cells #[.int .i64 T.h.k, .bool T.h.b, .bool T.h.n, .string T.h.d, .int .i64 T.h.e, .int .i64 T.h.tk, .int .i64 T.h.td, .int .i64 T.h.tn, .int .i64 T.h.tz, .string T.h.x, .slice T.h.ba T.h.bn T.h.bc, .slice T.h.la T.h.ln T.h.lc, .slice T.h.fa T.h.fn T.h.fc] 30)
  have hz3 : (((w.alloc (.cells #[.int .i64 T.h.k, .bool T.h.b, .bool T.h.n, .string T.h.d, .int .i64 T.h.e, .int .i64 T.h.tk, .int .i64 T.h.td, .int .i64 T.h.tn, .int .i64 T.h.tz, .string T.h.x, .slice T.h.ba T.h.bn T.h.bc, .slice T.h.la T.h.ln T.h.lc, .slice T.h.fa T.h.fn T.h.fc] 30)).alloc (.cells #[.slice none 0 0] 32)).alloc (.cells #[.int .i64 T.h.k, .bool T.h.b, .bool T.h.n, .string T.h.d, .int .i64 T.h.e, .int .i64 T.h.tk, .int .i64 T.h.td, .int .i64 T.h.tn, .int .i64 T.h.tz, .string T.h.x, .slice T.h.ba T.h.bn T.h.bc, .slice T.h.la T.h.ln T.h.lc, .slice T.h.fa T.h.fn T.h.fc] 30)).heap.size = w.heap.size + 3 := by simp
  clear c0 c1 c2 c3 c4 c5 c6 c7 c8 c9 c10 c11 c12 hWM P1 bO hb1 hb2
  generalize ((w.alloc (.cells #[.int .i64 T.h.k, .bool T.h.b, .bool T.h.n, .string T.h.d, .int .i64 T.h.e, .int .i64 T.h.tk, .int .i64 T.h.td, .int .i64 T.h.tn, .int .i64 T.h.tz, .string T.h.x, .slice T.h.ba T.h.bn T.h.bc, .slice T.h.la T.h.ln T.h.lc, .slice T.h.fa T.h.fn T.h.fc] 30)).alloc (.cells #[.slice none 0 0] 32)).alloc (.cells #[.int .i64 T.h.k, .bool T.h.b, .bool T.h.n, .string T.h.d, .int .i64 T.h.e, .int .i64 T.h.tk, .int .i64 T.h.td, .int .i64 T.h.tn, .int .i64 T.h.tz, .string T.h.x, .slice T.h.ba T.h.bn T.h.bc, .slice T.h.la T.h.ln T.h.lc, .slice T.h.fa T.h.fn T.h.fc] 30) = W0 at *
  have hT0 : T.In W0 w.heap.size := HT.out.below hb3
  have hPv : Whole W0 (w.heap.size + 2) 30 T.h.cells := Pv
  refine wpIn_rangeFunc_toldA (by omega : 1 ≤ 5) (gf := 28) (lb := #[.pointer (some ⟨w.heap.size + 1 + 1, 0, none⟩)]) rfl (enters_of Try.func28 (by kernel_rfl) rfl)
    (walk_told (T := T) (top := w.heap.size) (Bv := w.heap.size + 1 + 1) hT0 (by omega) HU.out hPv HWE.out) (fun _ => rfl) (argOk_kept _)
    (fun k O W => Coll (w.heap.size + 1) (w.heap.size + 5) (fun b => b ≠ w.heap.size + 1 ∧ b ≠ w.heap.size + 3 ∧ b ≠ w.heap.size + 4) w O W (lvs T k))
    (fun _ _ _ => False)
    (fun k O W W' _ hI hk => by rw [hz3] at hk; exact hI.kept hk (by omega) (fun b q => ⟨q.2.1, q.2.2⟩) (by omega) (by omega))
    (fun _ _ _ _ _ h _ => h)
    (fun k O W hI => by rw [hz3]; exact hI.own (by omega) (by omega))
    (fun b => b = w.heap.size + 1 ∨ (Value.slice none 0 0).ownBlock = some b)
    (fun b q e => by rcases e with e | e; { omega }; { cases e })
    (fun b q => by rw [hz3]; omega)
    ⟨_, rfl, bO2, PRow.nil _ _ _, hb3⟩
    (fun x a' V => ∃ Bx, w.heap.size + 5 ≤ Bx ∧ Whole V Bx 30 x.2.h.cells ∧ a' = { tmps := #[.agg #[.int .i64 T.h.k, .bool T.h.b, .bool T.h.n, .string T.h.d, .int .i64 T.h.e, .int .i64 T.h.tk, .int .i64 T.h.td, .int .i64 T.h.tn, .int .i64 T.h.tz, .string T.h.x, .slice T.h.ba T.h.bn T.h.bc, .slice T.h.la T.h.ln T.h.lc, .slice T.h.fa T.h.fn T.h.fc], .pointer (some ⟨w.heap.size, 0, none⟩), .slice none 0 0, .pointer (some ⟨w.heap.size + 1, 0, none⟩), .slice x.1.a x.1.n x.1.c, .pointer (some ⟨Bx, 0, none⟩), .agg #[.int .i64 T.h.k, .bool T.h.b, .bool T.h.n, .string T.h.d, .int .i64 T.h.e, .int .i64 T.h.tk, .int .i64 T.h.td, .int .i64 T.h.tn, .int .i64 T.h.tz, .string T.h.x, .slice T.h.ba T.h.bn T.h.bc, .slice T.h.la T.h.ln T.h.lc, .slice T.h.fa T.h.fn T.h.fc], .func (.func 28) #[] #[.pointer (some ⟨w.heap.size + 1 + 1, 0, none⟩)], .slice x.1.a x.1.n x.1.c, .agg #[.int .i64 x.2.h.k, .bool x.2.h.b, .bool x.2.h.n, .string x.2.h.d, .int .i64 x.2.h.e, .int .i64 x.2.h.tk, .int .i64 x.2.h.td, .int .i64 x.2.h.tn, .int .i64 x.2.h.tz, .string x.2.h.x, .slice x.2.h.ba x.2.h.bn x.2.h.bc, .slice x.2.h.la x.2.h.ln x.2.h.lc, .slice x.2.h.fa x.2.h.fn x.2.h.fc], undef, undef, undef, undef, undef, undef, undef, undef, undef, undef, undef, undef, undef], defers := [] })
    (fun x a' V V' _ h hk => by rw [hz3] at hk; obtain ⟨Bx, h1, h2, h3⟩ := h; exact ⟨Bx, h1, h2.keptO hk (by omega), h3⟩) ?assign ?body ?done ?stop
  case assign =>
    intro l k x O V K hs _ _ hK
    simp only [argEnc, Vh.cells]
    rw [hz3] at hs
    have Yb := Whole.new V 30 Vh.zero.cells
    have hone := Lib.hid (vh_all x.2.h)
    gi_wp2_with (refine wpListIn_store_row rfl 30 _ _ rfl V.heap.size x.2.h.cells rfl rfl 30 _ Yb vh_row rfl hone.out ?_)
    exact hK _ _ (below_setRow ((Below.refl _ V).alloc (Nat.le_refl _) _) (Nat.le_refl _) _) ⟨V.heap.size, by omega, Yb.setRow _, rfl⟩
  case body =>
    rintro l k x O a' W ⟨Bx, hBx, hPx, rfl⟩ hsz ⟨v, hO, hb, hrow, hbw⟩ ⟨U, hEk, hXs, hp, hpo, hX, hXo⟩
    rw [hz3] at hsz hpo
    have e1 : x.2.h.ln = U.h.ln := hXs.flat.ln
    have e2 : x.2.h.fn = U.h.fn := hXs.flat.fn
    obtain ⟨hx1, hx2⟩ : x.2.h.ln ≤ 1048576 ∧ x.2.h.fn ≤ 1048576 := by cases hq : x.2 with | nil => rw [hq] at hX; exact hX.elim | mk h Y L K F => rw [hq] at hX; exact ⟨hX.1.ln, hX.1.fn⟩
    have x11 := hPx.cell 11
    have x12 := hPx.cell 12
    have xi1 : (x.2.h.ln : Int) ≤ 1048576 := by omega
    have xi2 : (x.2.h.fn : Int) ≤ 1048576 := by omega
    have xi3 : (0 : Int) ≤ x.2.h.ln := by omega
    have xi4 : (0 : Int) ≤ x.2.h.fn := by omega
    simp only [Vh.cells, List.getElem?_toArray, List.getElem?_cons_succ, List.getElem?_cons_zero] at x11 x12
    clear hX hXo hXs
    by_cases hlf : x.2.h.ln = 0 ∧ x.2.h.fn = 0
    · have HL2 : Hid (lvs T (k + 1) = lvs T k ++ [x.1.steps]) := Lib.hid (lvs_yes hEk (by rw [← e1, ← e2]; exact hlf))
      obtain ⟨hl1, hl2⟩ := hlf
      rw [hl1] at x11
      rw [hl2] at x12
      have HL1 := Lib.hid hl1
      clear e1 e2 hl1 hl2 xi1 xi2 xi3 xi4 hx1 hx2 hEk
      have hc := hb.cell
      obtain ⟨fs, efs, hown, hff⟩ := hrow
      obtain ⟨a0, c0, rfl⟩ := own_slice hown
      have Hown := Lib.hid (own_below hown ((Below.refl _ W).alloc (Nat.le_refl _) (.cells #[.slice x.1.a x.1.n x.1.c] 37)))
      have hkl : fs.length ≤ 65536 := by have := congrArg List.length efs; rw [List.length_map] at this; have := lvs_len T k; have := Hwl.out; omega
      have hbl := hb.lt
      have HB := Lib.hid hb
      have Hff := Lib.hid hff
      have Hpo : Hid (0 < x.1.n → (x.1.b ≠ w.heap.size + 1 ∧ x.1.b ≠ w.heap.size + 3 ∧ x.1.b ≠ w.heap.size + 4) ∧ ¬ O x.1.b) := Lib.hid fun q => by
        have h1 := hpo q
        refine ⟨⟨fun e => h1 (.inl (by rw [hO]; exact .inl e)), fun e => h1 (.inr (.inl e)), fun e => h1 (.inr (.inr e))⟩, fun e => h1 (.inl e)⟩
      have Hp := Lib.hid hp
      have HO := Lib.hid hO
      have Hbw := Lib.hid hbw
      have HL : Hid (fs.map Pth.steps ++ [x.1.steps] = lvs T (k + 1)) := Lib.hid (by rw [efs, HL2.out])
      have s1 := Lib.hid (cells_new W 37 #[.slice x.1.a x.1.n x.1.c])
      have s3 : Hid (fs.length + 1 ≤ maxLen) := Lib.hid (by unfold maxLen; omega)
      have s4 : Hid ((fs.length + 1) * 24 ≤ 140737488355328) := Lib.hid (by omega)
      have s5 : Hid (w.heap.size + 5 ≤ (W.alloc (.cells #[.slice x.1.a x.1.n x.1.c] 37)).heap.size) := Lib.hid (by simp; omega)
      have HBk : Hid (∀ w2, (W.alloc (.cells #[.slice x.1.a x.1.n x.1.c] 37)).grownBy w2 (Value.slice a0 fs.length c0).ownBlock → Boxed w2 (w.heap.size + 1) 32 (.slice a0 fs.length c0)) := Lib.hid fun w2 hg => (HB.out.alloc _).kept hg (fun e => by have := (Hown.out.lt _ e.symm).1; omega)
      clear hp hpo hO hbw hff hb efs hown
      gi_wp2_with (gi_at_builtin; refine wpListIn_append_any _ rfl _ _ 32 rfl (w.heap.size + 5) 37 i0 _ 1 24 Try.underlying32 hi0 hz0 hz1 hz2 rfl (by decide) _ _ _ rfl Hown.out (some ⟨W.heap.size, 0, none⟩) 1 1 [.slice x.1.a x.1.n x.1.c] rfl rfl (fun _ => ⟨_, rfl, s1.out⟩) (by simp [Value.oneCell']) s3.out s4.out s5.out ?_; intro v' w2 hown' hgrow hat; obtain ⟨a', c', rfl⟩ := own_slice hown'; have b2 := HBk.out w2 hgrow; have q2 := b2.cell; have f2 := b2.frozen)
      have := Coll.push (S := fun b => b ≠ w.heap.size + 1 ∧ b ≠ w.heap.size + 3 ∧ b ≠ w.heap.size + 4) HO.out HB.out Hown.out Hff.out Hbw.out Hp.out Hpo.out (by omega) (by omega) (by omega) (fun b q => q.1) hown' hgrow hat
      rw [HL.out] at this
      exact this
    · have HL2 : Hid (lvs T (k + 1) = lvs T k) := Lib.hid (lvs_no hEk (by rw [← e1, ← e2]; exact hlf))
      have hne : ((x.2.h.ln : Int) + (x.2.h.fn : Int) == 0) = false := beq_eq_false_iff_ne.2 (by omega)
      have HI := Lib.hid (show Coll (w.heap.size + 1) (w.heap.size + 5) (fun b => b ≠ w.heap.size + 1 ∧ b ≠ w.heap.size + 3 ∧ b ≠ w.heap.size + 4) w O W (lvs T k) from ⟨v, hO, hb, hrow, hbw⟩)
      clear hlf e1 e2 hEk hp hpo hO hb hrow hbw hx1 hx2
      gi_wp2
      exact ⟨Kept.refl _ _, O, by show Coll _ _ _ _ _ _ (lvs T (k + 1)); rw [HL2.out]; exact HI.out, fun b q => .inl q⟩
  case done =>
    rintro O W hI hK
    have hI2 := hI.kept (W' := W.putObj W0.heap.size (.deferred none)) (Kept.put _ _ _ _ (.inl rfl)) (by omega) (fun b q => ⟨by rw [hz3]; exact q.2.1, by rw [hz3]; exact q.2.2⟩) (by omega) (by omega)
    rw [lvs_all (Nat.le_refl _)] at hI2
    obtain ⟨v, -, hb, -, -⟩ := hI
    obtain ⟨v2, -, hb2, hr2, hw2⟩ := hI2
    have hlt := hb.lt
    obtain rfl : v2 = v := by
      have h1 := hb2.cell
      have h2 := (World.cell?_of_block (a := ⟨w.heap.size + 1, 0, none⟩) (World.putObj_heap_other (w := W) (o := .deferred none) (show w.heap.size + 1 ≠ W0.heap.size by omega))).trans hb.cell
      rw [h1] at h2
      exact Option.some.inj h2
    have hc := hb.cell
    have Hr2 := Lib.hid hr2
    have Hw2 := Lib.hid hw2
    clear hr2 hw2 hb2 hb
    gi_wp2
    refine ⟨by simp, .inl ⟨_, _, rfl, run_takeDeferred hK, ?_⟩⟩
    refine ⟨_, results_tmp rfl _ _ _, ?_⟩
    exact ⟨v2, rfl, Hr2.out.weaken (by omega) (fun _ _ => trivial), Hw2.out⟩
  case stop =>
    rintro c k W _ h _
    exact h.elim
set_option maxHeartbeats 4000000 in
set_option maxRecDepth 100000 in
theorem leaves_ref {T : Vt} {w : World} (hT : T.In w w.heap.size) (hg : T.good) (hu : T.upto 48) (hsz : T.size ≤ 65536) :
    Calls Try.prog 17 #[.agg T.h.cells] w fun e w' => ∃ v, e = .returned v ∧ PRow w.heap.size (fun _ => True) w' v (((T.walk []).filter leafB).map Prod.fst) ∧ Below w.heap.size w w' := by
  obtain ⟨i0, hi0, hz0, hz1, hz2⟩ := info_parts Try.infoPth
  obtain ⟨hwl, hwE⟩ := walk_bounds hT hg hu hsz
  have hb0 := (Below.refl w.heap.size w).alloc (Nat.le_refl _) (.cells T.h.cells 30)
  have P := Whole.new w 30 T.h.cells
  have HPa := Lib.hid (paths_ref (hT.later hb0) hu (by omega))
  have HGv : Hid (∀ (p : Pth) (U : Vt), (p.steps, U) ∈ T.walk [] → T.getV p.S p.n = (U, 0) ∧ ∃ n, T.atN p.S n = (U, 0)) := Lib.hid fun p U hm => walk_getV hg hu hsz hm
  have HT := Lib.hid hT
  have Hwl : Hid ((T.walk []).length ≤ 65536) := Lib.hid (by omega)
  clear hT hg hu hwE hwl hsz
  obtain ⟨c0, c1, c2, c3, c4, c5, c6, c7, c8, c9, c10, c11, c12⟩ := Whole.c13 (h := T.h) P
  simp only [Vh.cells] at hb0 P HPa c0 c1 c2 c3 c4 c5 c6 c7 c8 c9 c10 c11 c12 ⊢
  go_enter Try.func17, Try.ntmps17
  go_wp2_with fail
  refine HPa.out.mono ?_
  rintro _ W4 ⟨v, rfl, hrow, hb2⟩
  clear c0 c1 c2 c3 c4 c5 c6 c7 c8 c9 c10 c11 c12
  have g4 := below_then hb0 hb2
  have P4 := P.below hb2 P.lt
  obtain ⟨a, c, b, f, rfl, hcc, ha, hf⟩ := hrow.get
  have HA : Hid (0 < (T.walk []).length → a = some ⟨b, 0, none⟩ ∧ b < W4.heap.size) := Lib.hid fun q => by rw [List.length_map] at ha; exact ⟨(ha q).1, (ha q).2.2⟩
  have HF : Hid (∀ i (e : List Stp × Vt), (T.walk [])[i]? = some e → W4.cell? ⟨b, i, none⟩ = some (.slice (f i).a (f i).n (f i).c) ∧ (f i).In W4 W4.heap.size ∧ (f i).steps = e.1) := Lib.hid fun i e he => by
    have hi : i < ((T.walk []).map Prod.fst).length := by rw [List.length_map]; exact (List.getElem?_eq_some_iff.1 he).1
    obtain ⟨h1, h2, h3, -⟩ := hf i hi
    refine ⟨h1, h2, ?_⟩
    rw [h3]
    obtain ⟨hlt, hee⟩ := List.getElem?_eq_some_iff.1 he
    simp [hee]
  rw [List.length_map] at hcc ⊢
  obtain ⟨LN, hLN⟩ : ∃ LN, (T.walk []).length = LN := ⟨_, rfl⟩
  have HEL : Hid (∀ i, i < LN → ∃ e, (T.walk [])[i]? = some e) := Lib.hid fun i hi => ⟨_, List.getElem?_eq_getElem (by rw [hLN]; exact hi)⟩
  rw [hLN] at HA Hwl hcc ⊢
  have HLN := Lib.hid hLN
  have hLb := Hwl.out
  have l0 : (0 : Int) ≤ LN := by omega
  have l1 : (LN : Int) ≤ 65536 := by omega
  have hw4 := hb2.size
  have hP4 := P4.lt
  clear hrow ha hf hLN hb2 HPa P hb0
  go_wp2_with fail
  go_loopw [3, 5] (fun v i wr => ∃ (k : Nat) (v0 : Value), v0 = v ∧ k ≤ LN ∧ i = .int .i64 k ∧ PRow W4.heap.size (fun _ => True) wr v0 (lvs T k) ∧ Below W4.heap.size W4 wr) (fun _ i _ => LN - (intOf i).toNat)
  case atStart => exact ⟨0, _, rfl, by omega, rfl, PRow.nil _ _ _, Below.refl _ _⟩
  case round =>
    obtain ⟨k, v0, rfl, hk, rfl, hrow, hbr⟩ := hrel
    have hki : (0 : Int) ≤ k := by omega
    have Hrow := Lib.hid hrow
    clear hrow
    by_cases hkn : k < LN
    · have hki2 : (k : Int) < LN := by omega
      obtain ⟨e, he⟩ := HEL.out k hkn
      obtain ⟨f1, f2, f3⟩ := HF.out k e he
      obtain ⟨e1, hblt⟩ := HA.out (by omega)
      subst e1
      obtain ⟨gv1, ng, gv2⟩ := HGv.out (f k) e.2 (by rw [f3]; exact List.mem_of_getElem? he)
      have gr := g4.trans (hbr.mono (by omega))
      have hUV : e.2.In wr w.heap.size := by have := Vt.In.atN (HT.out.below gr) (f k).S ng; rw [gv2] at this; exact this
      have HGe := Lib.hid (fun (V1 : World) (h : Below wr.heap.size wr V1) => show Calls Try.prog 12 #[.agg T.h.cells, .slice (f k).a (f k).n (f k).c] V1 fun r w' => r = .returned (.tuple #[.agg e.2.h.cells, .int .i64 0]) ∧ Below V1.heap.size V1 w' by
        have := rget_any (T := T) (p := f k) (w := V1) (top := wr.heap.size) (((HT.out.below gr).up gr.size).below h) (Pth.In.below ((Pth.In.below f2 hbr).up hbr.size) h) h.size
        rw [gv1] at this
        exact this)
      obtain ⟨hx1, hx2⟩ : e.2.h.ln ≤ 1048576 ∧ e.2.h.fn ≤ 1048576 := by cases hq : e.2 with | nil => rw [hq] at hUV; exact hUV.elim | mk h Y L K F => rw [hq] at hUV; exact ⟨hUV.1.ln, hUV.1.fn⟩
      have HFk := Lib.hid (fun (V : World) (h : Below wr.heap.size wr V) => ((hbr.trans (h.mono hbr.size)).cell (p := ⟨b, k, none⟩) hblt).trans f1)
      have Hfk := Lib.hid ((Pth.In.below f2 hbr).up hbr.size)
      have HfS := Lib.hid f3
      have HNO : Hid (0 < (f k).n → (f k).b < W4.heap.size) := Lib.hid fun q => (f2.1 q).2
      have He := Lib.hid he
      have PV := P4.below hbr hP4
      have hwr := hbr.size
      simp only [Vh.cells] at HGe
      clear he f1 f2 f3 gv1 gv2 hUV
      go_wp2_with fail
      refine wp_region_held_drew (S := fun V => Whole V w.heap.size 30 #[.int .i64 T.h.k, .bool T.h.b, .bool T.h.n, .string T.h.d, .int .i64 T.h.e, .int .i64 T.h.tk, .int .i64 T.h.td, .int .i64 T.h.tn, .int .i64 T.h.tz, .string T.h.x, .slice T.h.ba T.h.bn T.h.bc, .slice T.h.la T.h.ln T.h.lc, .slice T.h.fa T.h.fn T.h.fc] ∧ Below wr.heap.size wr V) (by kernel_rfl) ⟨Whole.drew PV, (Below.refl _ wr).drew⟩ (fun hS => ?_)
      refine wpAnyH_take (i := 0) (v := ?v0x1) rfl (by kernel_rfl) (by kernel_rfl) (by kernel_rfl) (fun _ _ _ h => h) (Or.inl ⟨by rfl, ?hy0x1⟩) hS ?rest0x1
      case hy0x1 => (intro wS hSw; obtain ⟨p1, p2⟩ := hSw; obtain ⟨y0, y1, y2, y3, y4, y5, y6, y7, y8, y9, y10, y11, y12⟩ := Whole.c13 (h := T.h) p1; go_simp; (try with_reducible rfl))
      case rest0x1 =>
      simp only [Act.put, List.getElem_toArray, List.getElem_cons_zero, List.getElem_cons_succ, List.setIfInBounds_toArray, List.set_cons_zero, List.set_cons_succ]
      refine wpAnyH_take (i := 1) (v := ?v1x2) rfl (by kernel_rfl) (by kernel_rfl) (by kernel_rfl) (fun _ _ _ h => h) (Or.inl ⟨by rfl, ?hy1x2⟩) hS ?rest1x2
      case hy1x2 => (intro wS hSw; go_simp; (try with_reducible rfl))
      case rest1x2 =>
      simp only [Act.put, List.getElem_toArray, List.getElem_cons_zero, List.getElem_cons_succ, List.setIfInBounds_toArray, List.set_cons_zero, List.set_cons_succ]
      refine wpAnyH_take (i := 2) (v := ?v2x3) rfl (by kernel_rfl) (by kernel_rfl) (by kernel_rfl) (fun _ _ _ h => h) (Or.inl ⟨by rfl, ?hy2x3⟩) hS ?rest2x3
      case hy2x3 => (intro wS hSw; go_simp; (try with_reducible rfl))
      case rest2x3 =>
      simp only [Act.put, List.getElem_toArray, List.getElem_cons_zero, List.getElem_cons_succ, List.setIfInBounds_toArray, List.set_cons_zero, List.set_cons_succ]
      refine wpAnyH_take (i := 3) (v := ?v3x4) rfl (by kernel_rfl) (by kernel_rfl) (by kernel_rfl) (fun _ _ _ h => h) (Or.inl ⟨by rfl, ?hy3x4⟩) hS ?rest3x4
      case hy3x4 => (intro wS hSw; go_simp; (try with_reducible rfl))
      case rest3x4 =>
      simp only [Act.put, List.getElem_toArray, List.getElem_cons_zero, List.getElem_cons_succ, List.setIfInBounds_toArray, List.set_cons_zero, List.set_cons_succ]
      refine wpAnyH_take (i := 4) (v := ?v4x5) rfl (by kernel_rfl) (by kernel_rfl) (by kernel_rfl) (fun _ _ _ h => h) (Or.inl ⟨by rfl, ?hy4x5⟩) hS ?rest4x5
      case hy4x5 => (intro wS hSw; obtain ⟨p1, p2⟩ := hSw; have fk := HFk.out _ p2; go_simp; (try with_reducible rfl))
      case rest4x5 =>
      simp only [Act.put, List.getElem_toArray, List.getElem_cons_zero, List.getElem_cons_succ, List.setIfInBounds_toArray, List.set_cons_zero, List.set_cons_succ]
      have bd := (Below.refl wr.heap.size wr).drew
      have PD : Whole wr.drew w.heap.size 30 #[.int .i64 T.h.k, .bool T.h.b, .bool T.h.n, .string T.h.d, .int .i64 T.h.e, .int .i64 T.h.tk, .int .i64 T.h.td, .int .i64 T.h.tn, .int .i64 T.h.tz, .string T.h.x, .slice T.h.ba T.h.bn T.h.bc, .slice T.h.la T.h.ln T.h.lc, .slice T.h.fa T.h.fn T.h.fc] := PV
      have hzd : wr.heap.size ≤ wr.drew.heap.size := Nat.le_refl _
      clear PV
      generalize wr.drew = wd at *
      refine wpAnyH_ready (rs := [5, 9]) (by kernel_rfl) (by simp) ?_
      refine AllReadyH.cons rfl (fun KK hK => ?_) (AllReadyH.cons rfl (fun KK hK => ?_) AllReadyH.nil)
      · go_simp
        go_at_call 12
        refine (HGe.out _ bd).mono ?_
        rintro _ w5 ⟨rfl, hqw5⟩
        have bw5 := below_then bd hqw5
        have Pw5 := Whole.below PD hqw5 (Whole.lt PD)
        refine hK.out _ _ ⟨Pw5, bw5⟩ (fun hS5 => ?_)
        clear hK KK
        try simp only [Act.put, List.getElem_toArray, List.getElem_cons_zero, List.getElem_cons_succ, List.setIfInBounds_toArray, List.set_cons_zero, List.set_cons_succ]
        refine wpAnyH_take (i := 6) (v := ?v6x6) rfl (by kernel_rfl) (by kernel_rfl) (by kernel_rfl) (fun _ _ _ h => h) (Or.inl ⟨by rfl, ?hy6x6⟩) hS5 ?rest6x6
        case hy6x6 => (intro wS hSw; go_simp; (try with_reducible rfl))
        case rest6x6 =>
        simp only [Act.put, List.getElem_toArray, List.getElem_cons_zero, List.getElem_cons_succ, List.setIfInBounds_toArray, List.set_cons_zero, List.set_cons_succ]
        refine wpAnyH_take (i := 7) (v := ?v7x7) rfl (by kernel_rfl) (by kernel_rfl) (by kernel_rfl) (fun _ _ _ h => h) (Or.inl ⟨by rfl, ?hy7x7⟩) hS5 ?rest7x7
        case hy7x7 => (intro wS hSw; go_simp; (try with_reducible rfl))
        case rest7x7 =>
        simp only [Act.put, List.getElem_toArray, List.getElem_cons_zero, List.getElem_cons_succ, List.setIfInBounds_toArray, List.set_cons_zero, List.set_cons_succ]
        refine wpAnyH_take (i := 8) (v := ?v8x8) rfl (by kernel_rfl) (by kernel_rfl) (by kernel_rfl) (fun _ _ _ h => h) (Or.inl ⟨by rfl, ?hy8x8⟩) hS5 ?rest8x8
        case hy8x8 => (intro wS hSw; go_simp; (try with_reducible rfl))
        case rest8x8 =>
        simp only [Act.put, List.getElem_toArray, List.getElem_cons_zero, List.getElem_cons_succ, List.setIfInBounds_toArray, List.set_cons_zero, List.set_cons_succ]
        refine wpAnyH_ready (rs := [9]) (by kernel_rfl) (by simp) ?_
        refine AllReadyH.cons rfl (fun KK hK => ?_) AllReadyH.nil
        go_simp
        have hz5 := bw5.size
        have Y6 := Whole.new w5 30 #[.int .i64 0, .bool false, .bool false, .string ⟨#[]⟩, .int .i64 0, .int .i64 0, .int .i64 0, .int .i64 0, .int .i64 0, .string ⟨#[]⟩, .slice none 0 0, .slice none 0 0, .slice none 0 0]
        have b6 := bw5.alloc hz5 (.cells #[.int .i64 0, .bool false, .bool false, .string ⟨#[]⟩, .int .i64 0, .int .i64 0, .int .i64 0, .int .i64 0, .int .i64 0, .string ⟨#[]⟩, .slice none 0 0, .slice none 0 0, .slice none 0 0] 30)
        have P6 := Whole.alloc Pw5 (.cells #[.int .i64 0, .bool false, .bool false, .string ⟨#[]⟩, .int .i64 0, .int .i64 0, .int .i64 0, .int .i64 0, .int .i64 0, .string ⟨#[]⟩, .slice none 0 0, .slice none 0 0, .slice none 0 0] 30)
        refine hK.out _ _ ⟨P6, b6⟩ (fun hS6 => ?_)
        clear hK KK
        try simp only [Act.put, List.getElem_toArray, List.getElem_cons_zero, List.getElem_cons_succ, List.setIfInBounds_toArray, List.set_cons_zero, List.set_cons_succ]
        refine wpAnyH_ready (rs := [10]) (by kernel_rfl) (by simp) ?_
        refine AllReadyH.cons rfl (fun KK hK => ?_) AllReadyH.nil
        rw [if_pos (by rfl)]
        refine wp_store_row 30 _ _ rfl (w5.heap.size) #[.int .i64 e.2.h.k, .bool e.2.h.b, .bool e.2.h.n, .string e.2.h.d, .int .i64 e.2.h.e, .int .i64 e.2.h.tk, .int .i64 e.2.h.td, .int .i64 e.2.h.tn, .int .i64 e.2.h.tz, .string e.2.h.x, .slice e.2.h.ba e.2.h.bn e.2.h.bc, .slice e.2.h.la e.2.h.ln e.2.h.lc, .slice e.2.h.fa e.2.h.fn e.2.h.fc] rfl rfl 30 _ Y6 vh_row rfl (vh_all e.2.h) ?_
        have b7 := below_setRow b6 hz5 #[.int .i64 e.2.h.k, .bool e.2.h.b, .bool e.2.h.n, .string e.2.h.d, .int .i64 e.2.h.e, .int .i64 e.2.h.tk, .int .i64 e.2.h.td, .int .i64 e.2.h.tn, .int .i64 e.2.h.tz, .string e.2.h.x, .slice e.2.h.ba e.2.h.bn e.2.h.bc, .slice e.2.h.la e.2.h.ln e.2.h.lc, .slice e.2.h.fa e.2.h.fn e.2.h.fc]
        have Y7 := Whole.setRow Y6 #[.int .i64 e.2.h.k, .bool e.2.h.b, .bool e.2.h.n, .string e.2.h.d, .int .i64 e.2.h.e, .int .i64 e.2.h.tk, .int .i64 e.2.h.td, .int .i64 e.2.h.tn, .int .i64 e.2.h.tz, .string e.2.h.x, .slice e.2.h.ba e.2.h.bn e.2.h.bc, .slice e.2.h.la e.2.h.ln e.2.h.lc, .slice e.2.h.fa e.2.h.fn e.2.h.fc]
        have P7 := Whole.farRow (B' := w5.heap.size) P6 (by omega) #[.int .i64 e.2.h.k, .bool e.2.h.b, .bool e.2.h.n, .string e.2.h.d, .int .i64 e.2.h.e, .int .i64 e.2.h.tk, .int .i64 e.2.h.td, .int .i64 e.2.h.tn, .int .i64 e.2.h.tz, .string e.2.h.x, .slice e.2.h.ba e.2.h.bn e.2.h.bc, .slice e.2.h.la e.2.h.ln e.2.h.lc, .slice e.2.h.fa e.2.h.fn e.2.h.fc]
        generalize (w5.alloc (.cells #[.int .i64 0, .bool false, .bool false, .string ⟨#[]⟩, .int .i64 0, .int .i64 0, .int .i64 0, .int .i64 0, .int .i64 0, .string ⟨#[]⟩, .slice none 0 0, .slice none 0 0, .slice none 0 0] 30)).setRow w5.heap.size #[.int .i64 e.2.h.k, .bool e.2.h.b, .bool e.2.h.n, .string e.2.h.d, .int .i64 e.2.h.e, .int .i64 e.2.h.tk, .int .i64 e.2.h.td, .int .i64 e.2.h.tn, .int .i64 e.2.h.tz, .string e.2.h.x, .slice e.2.h.ba e.2.h.bn e.2.h.bc, .slice e.2.h.la e.2.h.ln e.2.h.lc, .slice e.2.h.fa e.2.h.fn e.2.h.fc] = w7 at *
        refine hK.out _ _ ⟨P7, b7⟩ (fun hS7 => ?_)
        clear hK KK
        try simp only [Act.put, List.getElem_toArray, List.getElem_cons_zero, List.getElem_cons_succ, List.setIfInBounds_toArray, List.set_cons_zero, List.set_cons_succ]
        refine wpAnyH_take (i := 11) (v := ?v11x9) rfl (by kernel_rfl) (by kernel_rfl) (by kernel_rfl) (fun _ _ _ h => h) (Or.inl ⟨by rfl, ?hy11x9⟩) hS7 ?rest11x9
        case hy11x9 => (intro wS hSw; go_simp; (try with_reducible rfl))
        case rest11x9 =>
        simp only [Act.put, List.getElem_toArray, List.getElem_cons_zero, List.getElem_cons_succ, List.setIfInBounds_toArray, List.set_cons_zero, List.set_cons_succ]
        refine wpAnyH_done (by kernel_rfl) ?_ _
        have hone := 0
        clear hone
        have d11 := (Y7).cell 11
        have d12 := (Y7).cell 12
        simp only [List.getElem?_toArray, List.getElem?_cons_succ, List.getElem?_cons_zero] at d11 d12
        have xi1 : (e.2.h.ln : Int) ≤ 1048576 := by omega
        have xi2 : (e.2.h.fn : Int) ≤ 1048576 := by omega
        have Hr8 := Lib.hid (Hrow.out.below b7)
        have HbZ := Lib.hid b7
        have fk8 := HFk.out _ b7
        have hz8 := (b7).size
        clear HGe HFk Hrow
        by_cases hlf : e.2.h.ln = 0 ∧ e.2.h.fn = 0
        · have HL2 : Hid (lvs T (k + 1) = lvs T k ++ [(f k).steps]) := Lib.hid (by rw [lvs_yes He.out hlf, HfS.out])
          obtain ⟨hl1, hl2⟩ := hlf
          rw [hl1] at d11
          rw [hl2] at d12
          clear hl1 hl2 xi1 xi2 hx1 hx2
          obtain ⟨fs, efs, hown, hff⟩ := Hr8.out
          obtain ⟨a0, c0, rfl⟩ := own_slice hown
          have Hown := Lib.hid (own_below hown ((Below.refl _ w7).alloc (Nat.le_refl _) (.cells #[.slice (f k).a (f k).n (f k).c] 37)))
          have hkl : fs.length ≤ 65536 := by have := congrArg List.length efs; rw [List.length_map] at this; have := lvs_len T k; have := HLN.out; omega
          have Hff := Lib.hid hff
          have Hefs := Lib.hid efs
          have s1 := Lib.hid (cells_new w7 37 #[.slice (f k).a (f k).n (f k).c])
          have s3 : Hid (fs.length + 1 ≤ maxLen) := Lib.hid (by unfold maxLen; omega)
          have s4 : Hid ((fs.length + 1) * 24 ≤ 140737488355328) := Lib.hid (by omega)
          have s5 : Hid (W4.heap.size ≤ (w7.alloc (.cells #[.slice (f k).a (f k).n (f k).c] 37)).heap.size) := Lib.hid (by simp; omega)
          have HNB : Hid (0 < (f k).n → some (f k).b ≠ (Value.slice a0 fs.length c0).ownBlock) := Lib.hid fun q e => by
            have h1 := (HNO.out q)
            have h2 := (hown.lt _ e.symm)
            omega
          clear hown hff efs
          go_wp2_with (at_builtin; refine wpList_append_any _ rfl _ _ 32 rfl W4.heap.size 37 i0 _ 1 24 Try.underlying32 hi0 hz0 hz1 hz2 rfl (by decide) _ _ _ rfl Hown.out (some ⟨w7.heap.size, 0, none⟩) 1 1 [.slice (f k).a (f k).n (f k).c] rfl rfl (fun _ => ⟨_, rfl, s1.out⟩) (by simp [Value.oneCell']) s3.out s4.out s5.out ?_)
          intro v' w9 hown9 hgrow9 hat9
          have hA := (Below.refl w7.heap.size w7).alloc (Nat.le_refl _) (.cells #[.slice (f k).a (f k).n (f k).c] 37)
          have hrow9 : PRow W4.heap.size (fun _ => True) w9 v' (fs.map Pth.steps ++ [f k].map Pth.steps) := PRow.join Hown.out (fun g hm => ⟨(Pth.In.below (Hff.out g hm).1 hA).up hA.size, (Hff.out g hm).2⟩)
            (fun g hm => by
              obtain rfl := List.mem_singleton.1 hm
              exact ⟨(Pth.In.below ((Pth.In.below Hfk.out HbZ.out).up HbZ.out.size) hA).up hA.size, fun q => ⟨trivial, HNB.out q⟩⟩) hown9 hgrow9 (by simpa only [World.size_alloc] using hat9)
          rw [Hefs.out] at hrow9
          have g9 := (((hbr.trans (HbZ.out.mono hwr)).trans (hA.mono (by omega))).grown hgrow9 s5.out (fun g hg => (Hown.out.lt g hg).1))
          have Hr9 := Lib.hid hrow9
          clear hrow9 hown9 hgrow9 hat9 d11 d12
          go_wp2
          go_roundw
          case rel => exact ⟨k + 1, _, rfl, by omega, by go_num, by rw [HL2.out]; exact Hr9.out, g9⟩
          case measure => simp [intOf]; omega
        · have HL2 : Hid (lvs T (k + 1) = lvs T k) := Lib.hid (lvs_no He.out hlf)
          have g9 := hbr.trans (HbZ.out.mono hwr)
          by_cases hl1 : e.2.h.ln = 0
          · have hl2 : e.2.h.fn ≠ 0 := fun q => hlf ⟨hl1, q⟩
            have hne : ((e.2.h.fn : Int) == 0) = false := beq_eq_false_iff_ne.2 (by omega)
            have hne2 : (e.2.h.fn == 0) = false := beq_eq_false_iff_ne.2 hl2
            rw [hl1] at d11
            clear hl1 hl2 hlf
            go_wp2
            go_roundw
            case rel => exact ⟨k + 1, _, rfl, by omega, by go_num, by rw [HL2.out]; exact Hr8.out, g9⟩
            case measure => simp [intOf]; omega
          · have hne : ((e.2.h.ln : Int) == 0) = false := beq_eq_false_iff_ne.2 (by omega)
            have hne2 : (e.2.h.ln == 0) = false := beq_eq_false_iff_ne.2 hl1
            clear hl1 hlf
            go_wp2
            go_roundw
            case rel => exact ⟨k + 1, _, rfl, by omega, by go_num, by rw [HL2.out]; exact Hr8.out, g9⟩
            case measure => simp [intOf]; omega
      · go_simp
        have Y5 := Whole.new wd 30 #[.int .i64 0, .bool false, .bool false, .string ⟨#[]⟩, .int .i64 0, .int .i64 0, .int .i64 0, .int .i64 0, .int .i64 0, .string ⟨#[]⟩, .slice none 0 0, .slice none 0 0, .slice none 0 0]
        have b5 := bd.alloc (by omega) (.cells #[.int .i64 0, .bool false, .bool false, .string ⟨#[]⟩, .int .i64 0, .int .i64 0, .int .i64 0, .int .i64 0, .int .i64 0, .string ⟨#[]⟩, .slice none 0 0, .slice none 0 0, .slice none 0 0] 30)
        have P5 := Whole.alloc PD (.cells #[.int .i64 0, .bool false, .bool false, .string ⟨#[]⟩, .int .i64 0, .int .i64 0, .int .i64 0, .int .i64 0, .int .i64 0, .string ⟨#[]⟩, .slice none 0 0, .slice none 0 0, .slice none 0 0] 30)
        refine hK.out _ _ ⟨P5, b5⟩ (fun hS5 => ?_)
        clear hK KK
        try simp only [Act.put, List.getElem_toArray, List.getElem_cons_zero, List.getElem_cons_succ, List.setIfInBounds_toArray, List.set_cons_zero, List.set_cons_succ]
        refine wpAnyH_ready (rs := [5]) (by kernel_rfl) (by simp) ?_
        refine AllReadyH.cons rfl (fun KK hK => ?_) AllReadyH.nil
        go_simp
        go_at_call 12
        refine (HGe.out _ b5).mono ?_
        rintro _ w6 ⟨rfl, hqw6⟩
        have bw6 := below_then b5 hqw6
        have Pw6 := Whole.below P5 hqw6 (Whole.lt P5)
        have Y6 := Whole.below Y5 hqw6 (Whole.lt Y5)
        refine hK.out _ _ ⟨Pw6, bw6⟩ (fun hS6 => ?_)
        clear hK KK
        try simp only [Act.put, List.getElem_toArray, List.getElem_cons_zero, List.getElem_cons_succ, List.setIfInBounds_toArray, List.set_cons_zero, List.set_cons_succ]
        refine wpAnyH_take (i := 6) (v := ?v6x10) rfl (by kernel_rfl) (by kernel_rfl) (by kernel_rfl) (fun _ _ _ h => h) (Or.inl ⟨by rfl, ?hy6x10⟩) hS6 ?rest6x10
        case hy6x10 => (intro wS hSw; go_simp; (try with_reducible rfl))
        case rest6x10 =>
        simp only [Act.put, List.getElem_toArray, List.getElem_cons_zero, List.getElem_cons_succ, List.setIfInBounds_toArray, List.set_cons_zero, List.set_cons_succ]
        refine wpAnyH_take (i := 7) (v := ?v7x11) rfl (by kernel_rfl) (by kernel_rfl) (by kernel_rfl) (fun _ _ _ h => h) (Or.inl ⟨by rfl, ?hy7x11⟩) hS6 ?rest7x11
        case hy7x11 => (intro wS hSw; go_simp; (try with_reducible rfl))
        case rest7x11 =>
        simp only [Act.put, List.getElem_toArray, List.getElem_cons_zero, List.getElem_cons_succ, List.setIfInBounds_toArray, List.set_cons_zero, List.set_cons_succ]
        refine wpAnyH_take (i := 8) (v := ?v8x12) rfl (by kernel_rfl) (by kernel_rfl) (by kernel_rfl) (fun _ _ _ h => h) (Or.inl ⟨by rfl, ?hy8x12⟩) hS6 ?rest8x12
        case hy8x12 => (intro wS hSw; go_simp; (try with_reducible rfl))
        case rest8x12 =>
        simp only [Act.put, List.getElem_toArray, List.getElem_cons_zero, List.getElem_cons_succ, List.setIfInBounds_toArray, List.set_cons_zero, List.set_cons_succ]
        refine wpAnyH_ready (rs := [10]) (by kernel_rfl) (by simp) ?_
        refine AllReadyH.cons rfl (fun KK hK => ?_) AllReadyH.nil
        rw [if_pos (by rfl)]
        refine wp_store_row 30 _ _ rfl (wd.heap.size) #[.int .i64 e.2.h.k, .bool e.2.h.b, .bool e.2.h.n, .string e.2.h.d, .int .i64 e.2.h.e, .int .i64 e.2.h.tk, .int .i64 e.2.h.td, .int .i64 e.2.h.tn, .int .i64 e.2.h.tz, .string e.2.h.x, .slice e.2.h.ba e.2.h.bn e.2.h.bc, .slice e.2.h.la e.2.h.ln e.2.h.lc, .slice e.2.h.fa e.2.h.fn e.2.h.fc] rfl rfl 30 _ Y6 vh_row rfl (vh_all e.2.h) ?_
        have b7 := below_setRow bw6 (by omega) #[.int .i64 e.2.h.k, .bool e.2.h.b, .bool e.2.h.n, .string e.2.h.d, .int .i64 e.2.h.e, .int .i64 e.2.h.tk, .int .i64 e.2.h.td, .int .i64 e.2.h.tn, .int .i64 e.2.h.tz, .string e.2.h.x, .slice e.2.h.ba e.2.h.bn e.2.h.bc, .slice e.2.h.la e.2.h.ln e.2.h.lc, .slice e.2.h.fa e.2.h.fn e.2.h.fc]
        have Y7 := Whole.setRow Y6 #[.int .i64 e.2.h.k, .bool e.2.h.b, .bool e.2.h.n, .string e.2.h.d, .int .i64 e.2.h.e, .int .i64 e.2.h.tk, .int .i64 e.2.h.td, .int .i64 e.2.h.tn, .int .i64 e.2.h.tz, .string e.2.h.x, .slice e.2.h.ba e.2.h.bn e.2.h.bc, .slice e.2.h.la e.2.h.ln e.2.h.lc, .slice e.2.h.fa e.2.h.fn e.2.h.fc]
        have P7 := Whole.farRow (B' := wd.heap.size) Pw6 (by omega) #[.int .i64 e.2.h.k, .bool e.2.h.b, .bool e.2.h.n, .string e.2.h.d, .int .i64 e.2.h.e, .int .i64 e.2.h.tk, .int .i64 e.2.h.td, .int .i64 e.2.h.tn, .int .i64 e.2.h.tz, .string e.2.h.x, .slice e.2.h.ba e.2.h.bn e.2.h.bc, .slice e.2.h.la e.2.h.ln e.2.h.lc, .slice e.2.h.fa e.2.h.fn e.2.h.fc]
        generalize w6.setRow wd.heap.size #[.int .i64 e.2.h.k, .bool e.2.h.b, .bool e.2.h.n, .string e.2.h.d, .int .i64 e.2.h.e, .int .i64 e.2.h.tk, .int .i64 e.2.h.td, .int .i64 e.2.h.tn, .int .i64 e.2.h.tz, .string e.2.h.x, .slice e.2.h.ba e.2.h.bn e.2.h.bc, .slice e.2.h.la e.2.h.ln e.2.h.lc, .slice e.2.h.fa e.2.h.fn e.2.h.fc] = w7 at *
        refine hK.out _ _ ⟨P7, b7⟩ (fun hS7 => ?_)
        clear hK KK
        try simp only [Act.put, List.getElem_toArray, List.getElem_cons_zero, List.getElem_cons_succ, List.setIfInBounds_toArray, List.set_cons_zero, List.set_cons_succ]
        refine wpAnyH_take (i := 11) (v := ?v11x13) rfl (by kernel_rfl) (by kernel_rfl) (by kernel_rfl) (fun _ _ _ h => h) (Or.inl ⟨by rfl, ?hy11x13⟩) hS7 ?rest11x13
        case hy11x13 => (intro wS hSw; go_simp; (try with_reducible rfl))
        case rest11x13 =>
        simp only [Act.put, List.getElem_toArray, List.getElem_cons_zero, List.getElem_cons_succ, List.setIfInBounds_toArray, List.set_cons_zero, List.set_cons_succ]
        refine wpAnyH_done (by kernel_rfl) ?_ _
        have hone := 0
        clear hone
        have d11 := (Y7).cell 11
        have d12 := (Y7).cell 12
        simp only [List.getElem?_toArray, List.getElem?_cons_succ, List.getElem?_cons_zero] at d11 d12
        have xi1 : (e.2.h.ln : Int) ≤ 1048576 := by omega
        have xi2 : (e.2.h.fn : Int) ≤ 1048576 := by omega
        have Hr8 := Lib.hid (Hrow.out.below b7)
        have HbZ := Lib.hid b7
        have fk8 := HFk.out _ b7
        have hz8 := (b7).size
        clear HGe HFk Hrow
        by_cases hlf : e.2.h.ln = 0 ∧ e.2.h.fn = 0
        · have HL2 : Hid (lvs T (k + 1) = lvs T k ++ [(f k).steps]) := Lib.hid (by rw [lvs_yes He.out hlf, HfS.out])
          obtain ⟨hl1, hl2⟩ := hlf
          rw [hl1] at d11
          rw [hl2] at d12
          clear hl1 hl2 xi1 xi2 hx1 hx2
          obtain ⟨fs, efs, hown, hff⟩ := Hr8.out
          obtain ⟨a0, c0, rfl⟩ := own_slice hown
          have Hown := Lib.hid (own_below hown ((Below.refl _ w7).alloc (Nat.le_refl _) (.cells #[.slice (f k).a (f k).n (f k).c] 37)))
          have hkl : fs.length ≤ 65536 := by have := congrArg List.length efs; rw [List.length_map] at this; have := lvs_len T k; have := HLN.out; omega
          have Hff := Lib.hid hff
          have Hefs := Lib.hid efs
          have s1 := Lib.hid (cells_new w7 37 #[.slice (f k).a (f k).n (f k).c])
          have s3 : Hid (fs.length + 1 ≤ maxLen) := Lib.hid (by unfold maxLen; omega)
          have s4 : Hid ((fs.length + 1) * 24 ≤ 140737488355328) := Lib.hid (by omega)
          have s5 : Hid (W4.heap.size ≤ (w7.alloc (.cells #[.slice (f k).a (f k).n (f k).c] 37)).heap.size) := Lib.hid (by simp; omega)
          have HNB : Hid (0 < (f k).n → some (f k).b ≠ (Value.slice a0 fs.length c0).ownBlock) := Lib.hid fun q e => by
            have h1 := (HNO.out q)
            have h2 := (hown.lt _ e.symm)
            omega
          clear hown hff efs
          go_wp2_with (at_builtin; refine wpList_append_any _ rfl _ _ 32 rfl W4.heap.size 37 i0 _ 1 24 Try.underlying32 hi0 hz0 hz1 hz2 rfl (by decide) _ _ _ rfl Hown.out (some ⟨w7.heap.size, 0, none⟩) 1 1 [.slice (f k).a (f k).n (f k).c] rfl rfl (fun _ => ⟨_, rfl, s1.out⟩) (by simp [Value.oneCell']) s3.out s4.out s5.out ?_)
          intro v' w9 hown9 hgrow9 hat9
          have hA := (Below.refl w7.heap.size w7).alloc (Nat.le_refl _) (.cells #[.slice (f k).a (f k).n (f k).c] 37)
          have hrow9 : PRow W4.heap.size (fun _ => True) w9 v' (fs.map Pth.steps ++ [f k].map Pth.steps) := PRow.join Hown.out (fun g hm => ⟨(Pth.In.below (Hff.out g hm).1 hA).up hA.size, (Hff.out g hm).2⟩)
            (fun g hm => by
              obtain rfl := List.mem_singleton.1 hm
              exact ⟨(Pth.In.below ((Pth.In.below Hfk.out HbZ.out).up HbZ.out.size) hA).up hA.size, fun q => ⟨trivial, HNB.out q⟩⟩) hown9 hgrow9 (by simpa only [World.size_alloc] using hat9)
          rw [Hefs.out] at hrow9
          have g9 := (((hbr.trans (HbZ.out.mono hwr)).trans (hA.mono (by omega))).grown hgrow9 s5.out (fun g hg => (Hown.out.lt g hg).1))
          have Hr9 := Lib.hid hrow9
          clear hrow9 hown9 hgrow9 hat9 d11 d12
          go_wp2
          go_roundw
          case rel => exact ⟨k + 1, _, rfl, by omega, by go_num, by rw [HL2.out]; exact Hr9.out, g9⟩
          case measure => simp [intOf]; omega
        · have HL2 : Hid (lvs T (k + 1) = lvs T k) := Lib.hid (lvs_no He.out hlf)
          have g9 := hbr.trans (HbZ.out.mono hwr)
          by_cases hl1 : e.2.h.ln = 0
          · have hl2 : e.2.h.fn ≠ 0 := fun q => hlf ⟨hl1, q⟩
            have hne : ((e.2.h.fn : Int) == 0) = false := beq_eq_false_iff_ne.2 (by omega)
            have hne2 : (e.2.h.fn == 0) = false := beq_eq_false_iff_ne.2 hl2
            rw [hl1] at d11
            clear hl1 hl2 hlf
            go_wp2
            go_roundw
            case rel => exact ⟨k + 1, _, rfl, by omega, by go_num, by rw [HL2.out]; exact Hr8.out, g9⟩
            case measure => simp [intOf]; omega
          · have hne : ((e.2.h.ln : Int) == 0) = false := beq_eq_false_iff_ne.2 (by omega)
            have hne2 : (e.2.h.ln == 0) = false := beq_eq_false_iff_ne.2 hl1
            clear hl1 hlf
            go_wp2
            go_roundw
            case rel => exact ⟨k + 1, _, rfl, by omega, by go_num, by rw [HL2.out]; exact Hr8.out, g9⟩
            case measure => simp [intOf]; omega
    · obtain rfl : k = LN := by omega
      rw [lvs_all (Nat.le_of_eq HLN.out)] at Hrow
      go_wp2
      go_ret
      exact ⟨_, rfl, Hrow.out.weaken (by omega) (fun _ _ => trivial), g4.trans (hbr.mono (by omega))⟩
end Go.Proofs.Ytfkfboiblgoamaa
