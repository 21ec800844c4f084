/- Laid together for a claim: VtLastM, VtWoL. -/
import Derived.Test.YtfkfboiblgoamaaDoorQB18
import Derived.Deep.Cut
import Derived.Deep.DeepCutAuto
/- What the reference makes of a value at a path: plain. -/
namespace Go.Proofs.YtfkfboiblgoamaaDoor
open Go.RowKit

/-- What the reference's functions answer that give a value or an error. -/
def ResOut (R : Vt × Int) (top : Nat) (w : World) (e : Ending) (w' : World) : Prop :=
  ∃ X : Vt, e = .returned (.tuple #[.agg #[.int .i64 X.h.k, .bool X.h.b, .bool X.h.n, .string X.h.d, .int .i64 X.h.e, .int .i64 X.h.tk, .int .i64 X.h.td, .int .i64 X.h.tn, .int .i64 X.h.tz, .string X.h.x, .slice X.h.ba X.h.bn X.h.bc, .slice X.h.la X.h.ln X.h.lc, .slice X.h.fa X.h.fn X.h.fc], .int .i64 R.2]) ∧
    X.In w' w'.heap.size ∧ X.Off (fun b => b < top ∨ w.heap.size ≤ b) ∧ (R.2 = 0 → X.Same R.1) ∧ (R.2 ≠ 0 → X = .z) ∧ Below w.heap.size w w'
theorem Vt.z_off (S : Nat → Prop) : Vt.z.Off S :=
  ⟨fun q => absurd q (Nat.lt_irrefl _), fun q => absurd q (Nat.lt_irrefl _), fun _ hi => absurd hi (Nat.not_lt_zero _), fun q => absurd q (Nat.lt_irrefl _), fun _ hi => absurd hi (Nat.not_lt_zero _)⟩
/-- A value with another part. -/
def Vt.setP (T : Vt) (i : Nat) (X : Vt) : Vt := if T.h.k = 6 then T.setL i X else T.setF i X
/-- What the reference's change makes, 'g' at the last step. -/
noncomputable def Vt.chgV (g : Vt → Stp → Vt × Int) : Nat → (Nat → Stp) → Vt → Vt × Int
  | 0, _, _ => (.z, 0)
  | n + 1, S, T => if n = 0 then g T (S 0) else if (T.find (S 0)).2 ≠ 0 then (.z, (T.find (S 0)).2) else
      if (Vt.chgV g n (fun i => S (i + 1)) (T.part (T.find (S 0)).1.toNat)).2 ≠ 0 then (.z, (Vt.chgV g n (fun i => S (i + 1)) (T.part (T.find (S 0)).1.toNat)).2)
      else (T.setP (T.find (S 0)).1.toNat (Vt.chgV g n (fun i => S (i + 1)) (T.part (T.find (S 0)).1.toNat)).1, 0)
theorem Vt.chgV_one (g : Vt → Stp → Vt × Int) (S : Nat → Stp) (T : Vt) : Vt.chgV g 1 S T = g T (S 0) := if_pos rfl
theorem Vt.chgV_bad {g : Vt → Stp → Vt × Int} {n : Nat} {S : Nat → Stp} {T : Vt} (h : (T.find (S 0)).2 ≠ 0) : Vt.chgV g (n + 2) S T = (.z, (T.find (S 0)).2) := by
  rw [Vt.chgV, if_neg (by omega), if_pos h]
theorem Vt.chgV_sub {g : Vt → Stp → Vt × Int} {n : Nat} {S : Nat → Stp} {T : Vt} (h : (T.find (S 0)).2 = 0) (h2 : (Vt.chgV g (n + 1) (fun i => S (i + 1)) (T.part (T.find (S 0)).1.toNat)).2 ≠ 0) :
    Vt.chgV g (n + 2) S T = (.z, (Vt.chgV g (n + 1) (fun i => S (i + 1)) (T.part (T.find (S 0)).1.toNat)).2) := by
  rw [Vt.chgV, if_neg (by omega), if_neg (by simp [h]), if_pos h2]
theorem Vt.chgV_ok {g : Vt → Stp → Vt × Int} {n : Nat} {S : Nat → Stp} {T : Vt} (h : (T.find (S 0)).2 = 0) (h2 : (Vt.chgV g (n + 1) (fun i => S (i + 1)) (T.part (T.find (S 0)).1.toNat)).2 = 0) :
    Vt.chgV g (n + 2) S T = (T.setP (T.find (S 0)).1.toNat (Vt.chgV g (n + 1) (fun i => S (i + 1)) (T.part (T.find (S 0)).1.toNat)).1, 0) := by
  rw [Vt.chgV, if_neg (by omega), if_neg (by simp [h]), if_neg (by simp [h2])]
theorem Vt.setP_ix {T : Vt} {s : Stp} {X : Vt} (h : (T.find s).2 = 0) : T.setP (T.find s).1.toNat X = if s.ix = true then T.setL (T.find s).1.toNat X else T.setF (T.find s).1.toNat X := by
  cases hx : s.ix with
  | true => obtain ⟨_, k6, _⟩ := Vt.part_ix h hx; rw [Vt.setP, if_pos k6, if_pos rfl]
  | false => obtain ⟨_, k7, _⟩ := Vt.part_key h hx; rw [Vt.setP, if_neg (by rw [k7]; decide), if_neg (by simp)]
/-- The way there fails: so does the change. -/
theorem Vt.chgV_atN {g : Vt → Stp → Vt × Int} : ∀ {n : Nat} {S : Nat → Stp} {T : Vt}, (T.atN S n).2 ≠ 0 → Vt.chgV g (n + 1) S T = (.z, (T.atN S n).2) := by
  intro n
  induction n with
  | zero => intro S T h; exact absurd rfl h
  | succ n ih =>
    intro S T h
    by_cases h0 : (T.find (S 0)).2 = 0
    · rw [Vt.atN_shift h0] at h ⊢
      have e := ih h
      rw [Vt.chgV_sub h0 (by rw [e]; exact h), e]
    · have e : (T.atN S (n + 1)).2 = (T.find (S 0)).2 := Vt.atN_bad (k := 0) rfl h0 (by omega)
      rw [Vt.chgV_bad h0, e]
theorem Vt.chgV_err {g : Vt → Stp → Vt × Int} : ∀ {n : Nat} {S : Nat → Stp} {T : Vt}, (T.atN S n).2 = 0 → (g (T.atN S n).1 (S n)).2 ≠ 0 → (g (T.atN S n).1 (S n)).1 = .z → Vt.chgV g (n + 1) S T = (.z, (g (T.atN S n).1 (S n)).2) := by
  intro n
  induction n with
  | zero => intro S T _ _ h; rw [Vt.chgV_one]; exact Prod.ext h rfl
  | succ n ih =>
    intro S T h h2 h3
    have h0 : (T.find (S 0)).2 = 0 := Vt.atN_find (k := 0) h (by omega)
    rw [Vt.atN_shift h0] at h h2 h3 ⊢
    have e := ih h h2 h3
    rw [Vt.chgV_sub h0 (by rw [e]; exact h2), e]
theorem Vt.chgV_chg {g : Vt → Stp → Vt × Int} {f : Vt → Vt} : ∀ {n : Nat} {S : Nat → Stp} {T : Vt}, (T.atN S n).2 = 0 → g (T.atN S n).1 (S n) = (f (T.atN S n).1, 0) → Vt.chgV g (n + 1) S T = (Vt.chg f n S T, 0) := by
  intro n
  induction n with
  | zero => intro S T _ h; rw [Vt.chgV_one]; exact h
  | succ n ih =>
    intro S T h h2
    have h0 : (T.find (S 0)).2 = 0 := Vt.atN_find (k := 0) h (by omega)
    rw [Vt.atN_shift h0] at h h2
    have e := ih h h2
    rw [Vt.chgV_ok h0 (by rw [e]), e, Vt.setP_ix h0]
    refine Prod.ext ?_ rfl
    show _ = Vt.chg f (n + 1) S T
    rw [Vt.chg]
    cases hx : (S 0).ix with
    | true => rw [(Vt.part_ix h0 hx).1, if_pos rfl, if_pos rfl]
    | false => rw [(Vt.part_key h0 hx).1, if_neg (by simp), if_neg (by simp)]
/-- The same change of a part is the same change of the whole. -/
theorem Vt.setP_same {W : World} {top : Nat} {T X Z : Vt} {i : Nat} (hT : T.In W top) (h : X.Same Z) : (T.setP i X).Same (T.setP i Z) := by
  cases T with
  | nil => exact hT.elim
  | mk h Y L K F =>
    have hw := hT.whole
    unfold Vt.setP
    split
    · refine ⟨(fun e => by cases e), Vh.flat.refl _, fun _ _ => rfl, fun j hj => ?_, fun j hj => ⟨rfl, Vt.Same.rfl' (hw.2 j hj)⟩⟩
      show Vt.Same (if j = i then X else L j) (if j = i then Z else L j)
      split
      · exact ‹X.Same Z›
      · exact Vt.Same.rfl' (hw.1 j hj)
    · refine ⟨(fun e => by cases e), Vh.flat.refl _, fun _ _ => rfl, fun j hj => Vt.Same.rfl' (hw.1 j hj), fun j hj => ⟨rfl, ?_⟩⟩
      show Vt.Same (if j = i then X else F j) (if j = i then Z else F j)
      split
      · exact ‹X.Same Z›
      · exact Vt.Same.rfl' (hw.2 j hj)
/-- What lies at a path in a good value is good. -/
theorem Vt.good_part {T : Vt} {s : Stp} (hg : T.good) (h0 : (T.find s).2 = 0) : (T.part (T.find s).1.toNat).good := by
  cases T with
  | nil => unfold Vt.part; split <;> exact trivial
  | mk h Y L K F =>
    obtain ⟨_, g2, g3⟩ := hg
    cases hx : s.ix with
    | true =>
      obtain ⟨e, _, hi, _⟩ := Vt.part_ix h0 hx
      rw [e]
      exact g2 _ hi
    | false =>
      obtain ⟨e, _, hi, _⟩ := Vt.part_key h0 hx
      rw [e]
      exact g3 _ hi
theorem Vt.good_atN {T : Vt} (hg : T.good) (S : Nat → Stp) : ∀ n, (T.atN S n).1.good := by
  intro n
  induction n with
  | zero => exact hg
  | succ n ih =>
    show (if (T.atN S n).2 ≠ 0 then T.atN S n else if ((T.atN S n).1.find (S n)).2 ≠ 0 then ((T.atN S n).1, ((T.atN S n).1.find (S n)).2) else ((T.atN S n).1.part ((T.atN S n).1.find (S n)).1.toNat, 0)).1.good
    split
    · exact ih
    · split
      · exact ih
      · exact Vt.good_part ih (by omega)
theorem Vt.good_own {T : Vt} (hg : T.good) (hT : T ≠ .nil) : T.h.own = true := by
  cases T with
  | nil => exact absurd rfl hT
  | mk h Y L K F => exact oneE_own hg.1
end Go.Proofs.YtfkfboiblgoamaaDoor
/- Values without a part: datakitref09.Without of a list. -/
namespace Go.Proofs.YtfkfboiblgoamaaDoor
open Go.RowKit
set_option linter.unusedSimpArgs false

set_option maxHeartbeats 8000000 in
set_option maxRecDepth 100000 in
theorem withoutL {h : Vh} {Y : Nat → Int} {L : Nat → Vt} {K : Nat → ByteArray} {F : Nat → Vt} {top i : Nat} {w : World} (hT : (Vt.mk h Y L K F).In w top) (ht : top ≤ w.heap.size) (ho : h.own = true) (hk : h.k = 6) (hi : i < h.ln) :
    Calls Tryd.prog 57 #[.agg h.cells, .int .i64 i] w (FnOut ((Vt.mk h Y L K F).dropL i) top w) := by
  have hb0 := (((Below.refl w.heap.size w).alloc (Nat.le_refl _) (.cells h.cells 30)).alloc (by simp) (.cells Vh.zero.cells 30)).alloc (by simp; omega) (.cells (Vh.lst h.k none 0 0 0).cells 30)
  have P := ((Whole.new w 30 h.cells).alloc (.cells Vh.zero.cells 30)).alloc (.cells (Vh.lst h.k none 0 0 0).cells 30)
  have Q := (Whole.new (w.alloc (.cells h.cells 30)) 30 Vh.zero.cells).alloc (.cells (Vh.lst h.k none 0 0 0).cells 30)
  have O := Whole.new ((w.alloc (.cells h.cells 30)).alloc (.cells Vh.zero.cells 30)) 30 (Vh.lst h.k none 0 0 0).cells
  rw [World.size_alloc] at Q
  rw [World.size_alloc, World.size_alloc] at O
  obtain ⟨i0, hi0, hz0, hz1, hz2⟩ := info_parts Tryd.infoVal
  have hokh := hT.1
  have hTw := Lib.hid (fun (w1 : World) (hb : Below w.heap.size w w1) => hT.below (hb.mono ht))
  obtain ⟨e1, hlt⟩ := hT.2.2.2.1 (show 0 < h.ln by omega)
  have HOwn := Lib.hid ho
  have Hk := Lib.hid hk
  have HWh := Lib.hid (fun t (ht : t < h.ln) => Vt.Same.rfl' (hT.whole.1 t ht))
  have HLrow := Lib.hid (fun (w1 : World) (hb : Below w.heap.size w w1) => fun j (hj : j < h.ln) => ((hT.below (hb.mono ht)).2.2.2.2.1 j hj))
  have hln := hokh.ln
  have hk1 := hokh.k.1
  have hk2 := hokh.k.2
  have hfn : h.fn = 0 := (Vh.own_parts ho).2.2.2.2.2.2.2.2 (by omega)
  have i1 : (0 : Int) ≤ i := by omega
  have i2 : (i : Int) < h.ln := by omega
  have i3 : (h.ln : Int) ≤ 1048576 := by omega
  have i4 : (0 : Int) ≤ h.ln := by omega
  clear hokh hT ho hk
  obtain ⟨k, b', n', dd, e, tk, td, tn, tz, x, ba, bn, bc, la, ln, lc, fa, fn, fc, bb, bo, lb, lo, fb, fo⟩ := h
  dsimp only at e1 hlt hln hk1 hk2 hfn i2 i3 i4 hi HLrow HWh Hk P O hb0 Q
  subst e1 hfn
  obtain ⟨M, hM⟩ : ∃ M : Nat → Vt, M = fun j => if j < i then L j else L (j + 1) := ⟨_, rfl⟩
  have HM := Lib.hid hM
  clear hM
  have hPl := P.lt
  simp only [Vh.cells, Vh.zero, Vh.lst] at hb0 Q O ⊢
  go_enter Tryd.func57, Tryd.ntmps57
  go_wp2_with fail
  go_loopw [6] (fun s wr => ∃ (j : Nat) (u : Value), j ≤ ln ∧ s = .int .i64 j ∧ RowG (fun x : Vt => x.h.cells) id 13 30 (w.heap.size + 3) (· < top) (fun t X => X = M t) wr u (if j ≤ i then j else j - 1) ∧ Whole wr w.heap.size 30 (Vh.cells ⟨k, b', n', dd, e, tk, td, tn, tz, x, ba, bn, bc, some ⟨lb, lo, none⟩, ln, lc, fa, 0, fc, bb, bo, lb, lo, fb, fo⟩) ∧ Whole wr (w.heap.size + 1) 30 Vh.zero.cells ∧ Whole wr (w.heap.size + 2) 30 #[.int .i64 k, .bool false, .bool false, .string ⟨#[]⟩, .int .i64 0, .int .i64 0, .int .i64 0, .int .i64 0, .int .i64 0, .string ⟨#[]⟩, .slice none 0 0, u, .slice none 0 0] ∧ Below w.heap.size w wr) (fun s _ => ln - (intOf s).toNat)
  case atStart => exact ⟨0, .slice none 0 0, by omega, rfl, by rw [if_pos (Nat.zero_le _)]; exact RowG.nil, P, Q, O, hb0⟩
  case round =>
    clear P Q O hb0
    obtain ⟨j, u, hj, rfl, hrow, P, Q, O, hbr⟩ := hrel
    have hji : (0 : Int) ≤ j := by omega
    have hOl := Whole.lt O
    by_cases hjn : j < ln
    · have hji2 : (j : Int) < ln := by omega
      obtain ⟨hl, hin⟩ := HLrow.out wr hbr j hjn
      have c11 := Whole.cell P 11
      simp only [Vh.cells, List.getElem?_toArray, List.getElem?_cons_succ, List.getElem?_cons_zero] at c11
      by_cases hjeq : j = i
      · subst hjeq
        have hrow2 : RowG (fun x : Vt => x.h.cells) id 13 30 (w.heap.size + 3) (· < top) (fun t X => X = M t) wr u (if j + 1 ≤ j then j + 1 else j + 1 - 1) := by
          rw [if_pos (Nat.le_refl _)] at hrow
          rw [if_neg (by omega)]
          exact hrow
        clear hl hin hrow
        go_wp2_with fail
        go_roundw
        case rel => exact ⟨j + 1, u, by omega, by go_num, hrow2, P, Q, O, hbr⟩
        case measure => simp [intOf]; omega
      · have hne : (j == i) = false := beq_eq_false_iff_ne.2 hjeq
        have hne2 : ((j : Int) == (i : Int)) = false := beq_eq_false_iff_ne.2 (by omega)
        have hne3 : ((j : Int) != (i : Int)) = true := bne_iff_ne.2 (by omega)
        have hne4 : (j != i) = true := bne_iff_ne.2 hjeq
        obtain ⟨l0, l1, l2, l3, l4, l5, l6, l7, l8, l9, l10, l11, l12⟩ := hl.c13
        have o11 := Whole.cell O 11
        have f11 := Whole.frozen O 11
        simp only [List.getElem?_toArray, List.getElem?_cons_succ, List.getElem?_cons_zero] at o11
        obtain ⟨m, hm, hmj, hMj, hm1⟩ : ∃ m, m = (if j ≤ i then j else j - 1) ∧ m ≤ j ∧ L j = M m ∧ (if j + 1 ≤ i then j + 1 else j + 1 - 1) = m + 1 := by
          rw [HM.out]
          by_cases h1 : j < i
          · exact ⟨j, by rw [if_pos (by omega)], Nat.le_refl _, by dsimp only; rw [if_pos h1], by rw [if_pos (by omega)]⟩
          · exact ⟨j - 1, by rw [if_neg (by omega)], by omega, by dsimp only; rw [if_neg (by omega), show j - 1 + 1 = j by omega], by rw [if_neg (by omega)]; omega⟩
        rw [← hm] at hrow
        have Hm1 := Lib.hid hm1
        have HMj := Lib.hid hMj
        clear hm hm1 hMj
        go_wp2_with fail
        clear hln hne hne2 hne3 hne4
        refine wp_region_held_drew (S := fun _ => True) (by kernel_rfl) trivial (fun _ => ?_)
        refine wpAnyH_take (i := 0) (v := ?v0) rfl (by kernel_rfl) (by kernel_rfl) (by kernel_rfl) (fun _ _ _ h => h) (Or.inl ⟨by rfl, ?hy0⟩) trivial ?rest0
        case hy0 => ((intro w hSw); go_simp; (try with_reducible rfl))
        case rest0 =>
        simp only [Act.put, List.getElem_toArray, List.getElem_cons_zero, List.getElem_cons_succ, List.setIfInBounds_toArray, List.set_cons_zero, List.set_cons_succ]
        refine wpAnyH_take (i := 2) (v := ?v2) rfl (by kernel_rfl) (by kernel_rfl) (by kernel_rfl) (fun _ _ _ h => h) (Or.inl ⟨by rfl, ?hy2⟩) trivial ?rest2
        case hy2 => ((intro w hSw); go_simp; (try with_reducible rfl))
        case rest2 =>
        simp only [Act.put, List.getElem_toArray, List.getElem_cons_zero, List.getElem_cons_succ, List.setIfInBounds_toArray, List.set_cons_zero, List.set_cons_succ]
        refine wpAnyH_take (i := 4) (v := ?v4) rfl (by kernel_rfl) (by kernel_rfl) (by kernel_rfl) (fun _ _ _ h => h) (Or.inl ⟨by rfl, ?hy4⟩) trivial ?rest4
        case hy4 => ((intro w hSw); go_simp; (try with_reducible rfl))
        case rest4 =>
        simp only [Act.put, List.getElem_toArray, List.getElem_cons_zero, List.getElem_cons_succ, List.setIfInBounds_toArray, List.set_cons_zero, List.set_cons_succ]
        apply cutAt
        · intro E
          refine wpAnyH_ready (rs := [1, 3]) (by kernel_rfl) (by simp) ?_
          refine (AllReadyH.cons rfl (fun K hK => ?_) (AllReadyH.cons rfl (fun K hK => ?_) AllReadyH.nil))
          · go_simp
            refine hK.out _ _ trivial (fun _ => ?_)
            clear hK K
            try simp only [Act.put, List.getElem_toArray, List.getElem_cons_zero, List.getElem_cons_succ, List.setIfInBounds_toArray, List.set_cons_zero, List.set_cons_succ]
            refine wpAnyH_ready (rs := [3]) (by kernel_rfl) (by simp) ?_
            refine (AllReadyH.cons rfl (fun K hK => ?_) AllReadyH.nil)
            go_simp
            refine hK.out _ _ trivial (fun _ => ?_)
            clear hK K
            try simp only [Act.put, List.getElem_toArray, List.getElem_cons_zero, List.getElem_cons_succ, List.setIfInBounds_toArray, List.set_cons_zero, List.set_cons_succ]
            refine wpAnyH_take (i := 5) (v := ?v5) rfl (by kernel_rfl) (by kernel_rfl) (by kernel_rfl) (fun _ _ _ h => h) (Or.inl ⟨by rfl, ?hy5⟩) trivial ?rest5
            case hy5 => ((intro w hSw); go_simp; (try with_reducible rfl))
            case rest5 =>
            simp only [Act.put, List.getElem_toArray, List.getElem_cons_zero, List.getElem_cons_succ, List.setIfInBounds_toArray, List.set_cons_zero, List.set_cons_succ]
            refine wpAnyH_ready (rs := [6]) (by kernel_rfl) (by simp) ?_
            refine (AllReadyH.cons rfl (fun K hK => ?_) AllReadyH.nil)
            go_simp
            refine hK.out _ _ trivial (fun _ => ?_)
            clear hK K
            try simp only [Act.put, List.getElem_toArray, List.getElem_cons_zero, List.getElem_cons_succ, List.setIfInBounds_toArray, List.set_cons_zero, List.set_cons_succ]
            refine wpAnyH_ready (rs := [7]) (by kernel_rfl) (by simp) ?_
            refine (AllReadyH.cons rfl (fun K hK => ?_) AllReadyH.nil)
            go_simp
            refine hK.out _ _ trivial (fun _ => ?_)
            clear hK K
            try simp only [Act.put, List.getElem_toArray, List.getElem_cons_zero, List.getElem_cons_succ, List.setIfInBounds_toArray, List.set_cons_zero, List.set_cons_succ]
            exact E
          · go_simp
            refine hK.out _ _ trivial (fun _ => ?_)
            clear hK K
            try simp only [Act.put, List.getElem_toArray, List.getElem_cons_zero, List.getElem_cons_succ, List.setIfInBounds_toArray, List.set_cons_zero, List.set_cons_succ]
            refine wpAnyH_take (i := 5) (v := ?v5) rfl (by kernel_rfl) (by kernel_rfl) (by kernel_rfl) (fun _ _ _ h => h) (Or.inl ⟨by rfl, ?hy5⟩) trivial ?rest5
            case hy5 => ((intro w hSw); go_simp; (try with_reducible rfl))
            case rest5 =>
            simp only [Act.put, List.getElem_toArray, List.getElem_cons_zero, List.getElem_cons_succ, List.setIfInBounds_toArray, List.set_cons_zero, List.set_cons_succ]
            refine wpAnyH_ready (rs := [1, 6]) (by kernel_rfl) (by simp) ?_
            refine (AllReadyH.cons rfl (fun K hK => ?_) (AllReadyH.cons rfl (fun K hK => ?_) AllReadyH.nil))
            · go_simp
              refine hK.out _ _ trivial (fun _ => ?_)
              clear hK K
              try simp only [Act.put, List.getElem_toArray, List.getElem_cons_zero, List.getElem_cons_succ, List.setIfInBounds_toArray, List.set_cons_zero, List.set_cons_succ]
              refine wpAnyH_ready (rs := [6]) (by kernel_rfl) (by simp) ?_
              refine (AllReadyH.cons rfl (fun K hK => ?_) AllReadyH.nil)
              go_simp
              refine hK.out _ _ trivial (fun _ => ?_)
              clear hK K
              try simp only [Act.put, List.getElem_toArray, List.getElem_cons_zero, List.getElem_cons_succ, List.setIfInBounds_toArray, List.set_cons_zero, List.set_cons_succ]
              refine wpAnyH_ready (rs := [7]) (by kernel_rfl) (by simp) ?_
              refine (AllReadyH.cons rfl (fun K hK => ?_) AllReadyH.nil)
              go_simp
              refine hK.out _ _ trivial (fun _ => ?_)
              clear hK K
              try simp only [Act.put, List.getElem_toArray, List.getElem_cons_zero, List.getElem_cons_succ, List.setIfInBounds_toArray, List.set_cons_zero, List.set_cons_succ]
              exact E
            · go_simp
              refine hK.out _ _ trivial (fun _ => ?_)
              clear hK K
              try simp only [Act.put, List.getElem_toArray, List.getElem_cons_zero, List.getElem_cons_succ, List.setIfInBounds_toArray, List.set_cons_zero, List.set_cons_succ]
              refine wpAnyH_ready (rs := [1, 7]) (by kernel_rfl) (by simp) ?_
              refine (AllReadyH.cons rfl (fun K hK => ?_) (AllReadyH.cons rfl (fun K hK => ?_) AllReadyH.nil))
              · go_simp
                refine hK.out _ _ trivial (fun _ => ?_)
                clear hK K
                try simp only [Act.put, List.getElem_toArray, List.getElem_cons_zero, List.getElem_cons_succ, List.setIfInBounds_toArray, List.set_cons_zero, List.set_cons_succ]
                refine wpAnyH_ready (rs := [7]) (by kernel_rfl) (by simp) ?_
                refine (AllReadyH.cons rfl (fun K hK => ?_) AllReadyH.nil)
                go_simp
                refine hK.out _ _ trivial (fun _ => ?_)
                clear hK K
                try simp only [Act.put, List.getElem_toArray, List.getElem_cons_zero, List.getElem_cons_succ, List.setIfInBounds_toArray, List.set_cons_zero, List.set_cons_succ]
                exact E
              · go_simp
                refine hK.out _ _ trivial (fun _ => ?_)
                clear hK K
                try simp only [Act.put, List.getElem_toArray, List.getElem_cons_zero, List.getElem_cons_succ, List.setIfInBounds_toArray, List.set_cons_zero, List.set_cons_succ]
                refine wpAnyH_ready (rs := [1]) (by kernel_rfl) (by simp) ?_
                refine (AllReadyH.cons rfl (fun K hK => ?_) AllReadyH.nil)
                go_simp
                refine hK.out _ _ trivial (fun _ => ?_)
                clear hK K
                try simp only [Act.put, List.getElem_toArray, List.getElem_cons_zero, List.getElem_cons_succ, List.setIfInBounds_toArray, List.set_cons_zero, List.set_cons_succ]
                exact E
        · have hbo : m ≤ j := hmj
          obtain ⟨f, hown, hf⟩ := (hrow.alloc (.cells (L j).h.cells 30)).drew
          have Hf := Lib.hid hf
          have HIn := Lib.hid hin
          have s1 := Lib.hid (cells_new wr 30 (L j).h.cells)
          have s2 := Lib.hid (vh_one (L j).h)
          have s3 : Hid (m + 1 ≤ maxLen) := Lib.hid (by unfold maxLen; omega)
          have s4 : Hid ((m + 1) * 168 ≤ 140737488355328) := Lib.hid (by omega)
          have hwsz := hbr.size
          refine wpAnyH_ready (rs := [8]) (by kernel_rfl) (by simp) ?_
          refine AllReadyH.cons rfl (fun K hK => ?_) AllReadyH.nil
          refine step_append_lies _ (by rfl) _ _ _ (by rfl) (w.heap.size + 3) 30 i0 _ 13 168 Tryd.underlying27 hi0 hz0 hz1 hz2 rfl (by decide) u m _ (by rfl) hown ⟨wr.heap.size, 0, none⟩ 1 1 (L j).h.cells.toList (by rfl) (by rfl) ?s1 s2.out (by omega) s3.out s4.out ?s5 (wr.heap.size + 1) (by simp) ?_
          case s1 => exact fun p v hv => s1.out p v hv
          case s5 => exact Nat.le_trans (show w.heap.size + 3 ≤ wr.heap.size + 1 by omega) (Nat.le_of_eq (World.size_alloc _ _).symm)
          intro gg cap w3 hown3 hgrow hat hlt3
          have HOw := fun g (hg : u.ownBlock = some g) => hown.lt g hg
          have A := (Below.refl wr.heap.size wr).alloc (Nat.le_refl _) (.cells (L j).h.cells 30)
          have hrow3 : RowG (fun x : Vt => x.h.cells) id 13 30 (w.heap.size + 3) (· < top) (fun t X => X = M t) w3 (.slice (some ⟨gg, 0, none⟩) (m + 1) cap) (m + 1) :=
            RowG.push (x := L j) hown Hf.out (((HIn.out.below (A.mono (by omega))).below (Below.refl _ _).drew).up (by show top ≤ (wr.alloc _).heap.size; rw [World.size_alloc]; omega)) (HIn.out.off)
              (fun g hg => HIn.out.off.mono fun b hb => by have := (HOw g hg).1; omega) HMj.out hown3 hgrow
              (by rcases hat with h | h
                  · exact .inl h.symm
                  · exact .inr (by show some gg = some (wr.alloc _).heap.size; rw [World.size_alloc, h]))
          have far : ∀ B, B < w.heap.size + 3 → some B ≠ u.ownBlock := fun B hB e => by have := (HOw B e.symm).1; omega
          have P3 := Whole.kept (P.alloc (.cells (L j).h.cells 30)).drew hgrow (far _ (by omega))
          have Q3 := Whole.kept (Q.alloc (.cells (L j).h.cells 30)).drew hgrow (far _ (by omega))
          have O3 := Whole.kept (O.alloc (.cells (L j).h.cells 30)).drew hgrow (far _ (by omega))
          have hb3 := (hbr.alloc hbr.size (.cells (L j).h.cells 30)).drew.grown hgrow (by show w.heap.size ≤ (wr.alloc _).heap.size; rw [World.size_alloc]; omega) (fun g hg => by have := (HOw g hg).1; omega)
          clear hown Hf hown3 hgrow hat hrow hl P Q O hbr c11 o11 f11 s1 s2 s3 s4 l0 l1 l2 l3 l4 l5 l6 l7 l8 l9 l10 l11 l12 A HOw far
          have f11 := Whole.frozen O3 11
          refine hK.out _ _ trivial (fun _ => ?_)
          clear hK K
          try simp only [Act.put, List.getElem_toArray, List.getElem_cons_zero, List.getElem_cons_succ, List.setIfInBounds_toArray, List.set_cons_zero, List.set_cons_succ]
          refine wpAnyH_take (i := 9) (v := ?v9) rfl (by kernel_rfl) (by kernel_rfl) (by kernel_rfl) (fun _ _ _ h => h) (Or.inl ⟨by rfl, ?hy9⟩) trivial ?rest9
          case hy9 => ((intro w hSw); go_simp; (try with_reducible rfl))
          case rest9 =>
          simp only [Act.put, List.getElem_toArray, List.getElem_cons_zero, List.getElem_cons_succ, List.setIfInBounds_toArray, List.set_cons_zero, List.set_cons_succ]
          refine wpAnyH_ready (rs := [10]) (by kernel_rfl) (by simp) ?_
          refine AllReadyH.cons rfl (fun K hK => ?_) AllReadyH.nil
          have o11 := Whole.cell O3 11
          simp only [List.getElem?_toArray, List.getElem?_cons_succ, List.getElem?_cons_zero] at o11
          go_simp
          refine hK.out _ _ trivial (fun _ => ?_)
          clear hK K o11 f11
          refine wpAnyH_done (by kernel_rfl) ?_ _
          have O4 := Whole.set O3 11 (.slice (some ⟨gg, 0, none⟩) (m + 1) cap)
          have P4 := Whole.far (p := ⟨w.heap.size + 1 + 1, 11, none⟩) P3 (by show w.heap.size ≠ w.heap.size + 1 + 1; omega) (.slice (some ⟨gg, 0, none⟩) (m + 1) cap)
          have Q4 := Whole.far (p := ⟨w.heap.size + 1 + 1, 11, none⟩) Q3 (by show w.heap.size + 1 ≠ w.heap.size + 1 + 1; omega) (.slice (some ⟨gg, 0, none⟩) (m + 1) cap)
          have hb4 := hb3.setCell (p := ⟨w.heap.size + 1 + 1, 11, none⟩) (by show w.heap.size ≤ w.heap.size + 1 + 1; omega) (.slice (some ⟨gg, 0, none⟩) (m + 1) cap)
          have hrow4 := hrow3.turn (grown_set w3 (w.heap.size + 1 + 1) 11 (.slice (some ⟨gg, 0, none⟩) (m + 1) cap)) (by omega) (fun b hb => by have hb' : b < top := hb; omega)
          clear O3 P3 Q3 hb3 hrow3
          go_wp2_with fail
          go_roundw
          case rel => exact ⟨j + 1, _, by omega, by go_num, by rw [Hm1.out]; exact hrow4, P4, Q4, O4, hb4⟩
          case measure => simp [intOf]; omega
    · obtain rfl : j = ln := by omega
      rw [if_neg (by omega)] at hrow
      obtain ⟨-, a', c', b1, rfl, -, -, -⟩ := RowG.done (fun x : Vt => vh_size x.h) hrow
      have HE : Hid (∀ W', Below w.heap.size w W' → RowG (fun x : Vt => x.h.cells) id 13 30 (w.heap.size + 3) (· < top) (fun t X => X = M t) W' (.slice a' (j - 1) c') (j - 1) → FnOut ((Vt.mk ⟨k, b', n', dd, e, tk, td, tn, tz, x, ba, bn, bc, some ⟨lb, lo, none⟩, j, lc, fa, 0, fc, bb, bo, lb, lo, fb, fo⟩ Y L K F).dropL i) top w (.returned (.agg #[.int .i64 6, .bool false, .bool false, .string ⟨#[]⟩, .int .i64 0, .int .i64 0, .int .i64 0, .int .i64 0, .int .i64 0, .string ⟨#[]⟩, .slice none 0 0, .slice a' (j - 1) c', .slice none 0 0])) W') := Lib.hid fun W' hb hr =>
        lst_out (M := M) hr (by omega) (by omega) hb (fun t X ht hq => by rw [hq, HM.out]; dsimp only; split <;> exact HWh.out _ (by omega)) (fun a c b M' hM' => by rw [HM.out] at hM'; exact lst_same HOwn.out Hk.out hM')
      have Hr := Lib.hid hrow
      obtain rfl : k = 6 := Hk.out
      clear hrow
      obtain ⟨c0, c1, c2, c3, c4, c5, c6, c7, c8, c9, c10, c11, c12⟩ := Whole.c13 (h := Vh.lst 6 a' (j - 1) c' 0) O
      have c12' := Whole.cell P 12
      have c11' := Whole.cell P 11
      simp only [Vh.lst, Vh.cells, List.getElem?_toArray, List.getElem?_cons_succ, List.getElem?_cons_zero] at c0 c1 c2 c3 c4 c5 c6 c7 c8 c9 c10 c11 c12 c12' c11'
      go_wp2_with fail
      go_loopw [7] (fun s wx => s = .int .i64 0 ∧ wx = wr) (fun _ _ => 0)
      case atStart => exact ⟨rfl, rfl⟩
      case round =>
        obtain ⟨rfl, rfl⟩ := hrel
        have hone := Lib.hid (vh_all (Vh.lst 6 a' (j - 1) c' 0))
        go_wp2_with (refine wpList_store_row rfl 30 _ _ rfl (w.heap.size + 1) (Vh.lst 6 a' (j - 1) c' 0).cells rfl rfl 30 _ Q vh_row rfl hone.out ?_)
        exact bodyPost_ret (v := .agg (Vh.lst 6 a' (j - 1) c' 0).cells) (ret_val (p := 4) rfl rfl (Q.setRow _)) rfl (HE.out _ (below_setRow hbr (Nat.le_succ _) _) (Hr.out.turn (grown_row _ _ _) (by omega) (fun b hb => by have hb' : b < top := hb; omega)))
end Go.Proofs.YtfkfboiblgoamaaDoor
