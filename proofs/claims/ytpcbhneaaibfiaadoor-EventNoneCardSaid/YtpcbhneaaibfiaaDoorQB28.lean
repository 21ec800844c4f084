/- Laid together for a claim: EvRun, EvLive, EvVal, EvWhe. -/
import Derived.Test.YtpcbhneaaibfiaaDoorQB20
import Derived.Test.YtpcbhneaaibfiaaDoorQB08
import Derived.Test.YtpcbhneaaibfiaaDoorQB27
/- Events one after the other: the events of a value make that value; plain. -/
namespace Go.Proofs.YtpcbhneaaibfiaaDoor
open Go.RowKit
set_option linter.unusedVariables false
set_option linter.unusedSimpArgs false

theorem keysE_each {K : Nat → ByteArray} : ∀ {n : Nat}, keysE K n = 0 → ∀ i, i < n → keyE K i = 0 := by
  intro n h i hi
  have h0 : keysE K i = 0 := Classical.byContradiction fun q => q (by rw [← keysE_stays q n (by omega)]; exact h)
  have h1 : keysE K (i + 1) = 0 := Classical.byContradiction fun q => q (by rw [← keysE_stays q n (by omega)]; exact h)
  have e : keysE K (i + 1) = keyE K i := by
    show (if keysE K i ≠ 0 then keysE K i else keyE K i) = _
    rw [if_neg (by simp [h0])]
  rw [← e]; exact h1
theorem keyE_what {K : Nat → ByteArray} {i : Nat} (h : keyE K i = 0) : utfB (K i) = true ∧ (K i).size ≤ 1024 ∧ ∀ k, k < i → K k ≠ K i := by
  unfold keyE at h
  split at h
  · omega
  rename_i h1
  split at h
  · omega
  rename_i h2
  split at h
  · omega
  rename_i h3
  exact ⟨by simpa using h1, by omega, fun k hk e => h3 ⟨k, hk, e⟩⟩
theorem oneE_keysE {T : Vt} (h : oneE T = 0) : keysE T.K T.h.fn = 0 := by
  unfold oneE at h
  split at h
  · omega
  split at h
  · omega
  split at h
  · omega
  split at h
  · omega
  exact h

/-! ### builders that differ in nothing that is read -/
structure Bst.eqv (s t : Bst) : Prop where
  d : s.d = t.d
  fr : ∀ i, i < s.d → s.fr i = t.fr i
  dn : s.dn = t.dn
  out : s.out = t.out
  nd : s.nd = t.nd
  bad : s.bad = t.bad
theorem Bst.eqv.rfl' (s : Bst) : s.eqv s := ⟨rfl, fun _ _ => rfl, rfl, rfl, rfl, rfl⟩
theorem Bst.eqv.symm {s t : Bst} (h : s.eqv t) : t.eqv s := ⟨h.d.symm, fun i hi => (h.fr i (by rw [h.d]; exact hi)).symm, h.dn.symm, h.out.symm, h.nd.symm, h.bad.symm⟩
theorem Bst.eqv.trans {s t u : Bst} (h : s.eqv t) (g : t.eqv u) : s.eqv u := ⟨h.d.trans g.d, fun i hi => (h.fr i hi).trans (g.fr i (by rw [← h.d]; exact hi)), h.dn.trans g.dn, h.out.trans g.out, h.nd.trans g.nd, h.bad.trans g.bad⟩
theorem addE_eqv {s t : Bst} {x : Ev} (h : s.eqv t) : addE s x = addE t x := by
  have hf : followE s x = followE t x := by
    unfold followE
    rw [h.dn, h.d]
    by_cases q : t.d = 0
    · rw [if_pos q, if_pos q]
    · rw [h.fr (t.d - 1) (by rw [h.d]; omega)]
  unfold addE
  rw [hf, h.bad, h.d, h.nd]
theorem putS_eqv {s t : Bst} {V : Vt} (h : s.eqv t) : (putS s V).eqv (putS t V) := by
  obtain ⟨d, fr, dn, out, nd, bad⟩ := s
  obtain ⟨d', fr', dn', out', nd', bad'⟩ := t
  obtain ⟨h1, h2, h3, h4, h5, h6⟩ := h
  dsimp only at h1 h2 h3 h4 h5 h6
  subst h1 h3 h4 h5 h6
  unfold putS
  dsimp only
  by_cases q : d = 0
  · rw [if_pos q, if_pos q]
    exact ⟨rfl, h2, rfl, rfl, rfl, rfl⟩
  · have e := h2 (d - 1) (by omega)
    rw [if_neg q, if_neg q]
    cases hm : (fr' (d - 1)).mp with
    | true =>
      rw [if_pos (by rw [e]; exact hm), if_pos (by rfl)]
      refine ⟨rfl, fun i hi => ?_, rfl, rfl, rfl, rfl⟩
      by_cases z : i = d - 1
      · subst z; simp only [upd_same, e]
      · simp only [upd_other z]; exact h2 i hi
    | false =>
      rw [if_neg (by rw [e, hm]; decide), if_neg (by decide)]
      refine ⟨rfl, fun i hi => ?_, rfl, rfl, rfl, rfl⟩
      by_cases z : i = d - 1
      · subst z; simp only [upd_same, e]
      · simp only [upd_other z]; exact h2 i hi
theorem eqv_nd {s t : Bst} (h : s.eqv t) : Bst.eqv { s with nd := s.nd + 1 } { t with nd := t.nd + 1 } := ⟨h.d, h.fr, h.dn, h.out, by show s.nd + 1 = t.nd + 1; rw [h.nd], h.bad⟩
theorem pushS_eqv {s t : Bst} {mp : Bool} (h : s.eqv t) : (pushS s mp).eqv (pushS t mp) := by
  obtain ⟨d, fr, dn, out, nd, bad⟩ := s
  obtain ⟨d', fr', dn', out', nd', bad'⟩ := t
  obtain ⟨h1, h2, h3, h4, h5, h6⟩ := h
  dsimp only at h1 h2 h3 h4 h5 h6
  subst h1 h3 h4 h5 h6
  unfold pushS
  dsimp only
  refine ⟨rfl, fun i hi => ?_, rfl, rfl, rfl, rfl⟩
  have hi' : i < d + 1 := hi
  by_cases z : i = d
  · subst z; simp only [upd_same]
  · simp only [upd_other z]; exact h2 i (by omega)
theorem keyS_eqv {s t : Bst} {key : ByteArray} (h : s.eqv t) (hd : 0 < s.d) : (keyS s key).eqv (keyS t key) := by
  obtain ⟨d, fr, dn, out, nd, bad⟩ := s
  obtain ⟨d', fr', dn', out', nd', bad'⟩ := t
  obtain ⟨h1, h2, h3, h4, h5, h6⟩ := h
  dsimp only at h1 h2 h3 h4 h5 h6 hd
  subst h1 h3 h4 h5 h6
  unfold keyS
  dsimp only
  rw [h2 (d - 1) (by omega)]
  refine ⟨rfl, fun i hi => ?_, rfl, rfl, rfl, rfl⟩
  by_cases z : i = d - 1
  · subst z; simp only [upd_same]
  · simp only [upd_other z]; exact h2 i hi
theorem popS_eqv {s t : Bst} (h : s.eqv t) (hd : 0 < s.d) : (popS s).eqv (popS t) := by
  obtain ⟨d, fr, dn, out, nd, bad⟩ := s
  obtain ⟨d', fr', dn', out', nd', bad'⟩ := t
  obtain ⟨h1, h2, h3, h4, h5, h6⟩ := h
  dsimp only at h1 h2 h3 h4 h5 h6 hd
  subst h1 h3 h4 h5 h6
  unfold popS
  dsimp only
  rw [h2 (d - 1) (by omega)]
  exact putS_eqv ⟨rfl, fun i hi => (by have hi' : i < d - 1 := hi; exact h2 i (by omega)), rfl, rfl, rfl, rfl⟩
/-- With an event that may be added. -/
theorem stepS_eqv {s t : Bst} {x : Ev} (h : s.eqv t) (ha : addE s x = 0) : (stepS s x).eqv (stepS t x) := by
  obtain ⟨a1, a2, a3, a4⟩ := addE_ok ha
  obtain ⟨b1, -⟩ := shapeE_ok a2
  obtain ⟨c1, c2, c3⟩ := followE_ok a3
  unfold stepS
  split
  · exact putS_eqv (eqv_nd h)
  split
  · rename_i e
    exact keyS_eqv h (Nat.pos_of_ne_zero fun q => (c2 q).1 e)
  split
  · exact pushS_eqv (eqv_nd h)
  split
  · exact pushS_eqv (eqv_nd h)
  · exact popS_eqv h (Nat.pos_of_ne_zero fun q => by have := c2 q; omega)
theorem addS_eqv {s t : Bst} {x : Ev} (h : s.eqv t) : (addS s x).eqv (addS t x) := by
  unfold addS
  rw [← h.bad, ← addE_eqv h]
  split
  · exact h
  split
  · rename_i q; exact stepS_eqv h q
  · exact ⟨h.d, h.fr, h.dn, h.out, h.nd, rfl⟩

/-! ### one event after the other -/
noncomputable def run1 (r : Bst × Int) (x : Ev) : Bst × Int := if r.2 ≠ 0 then r else (addS r.1 x, addE r.1 x)
/-- Events, one after the other, till an error. -/
noncomputable def runL (r : Bst × Int) (l : List Ev) : Bst × Int := l.foldl run1 r
theorem runL_nil (r : Bst × Int) : runL r [] = r := rfl
theorem runL_cons (r : Bst × Int) (x : Ev) (l : List Ev) : runL r (x :: l) = runL (run1 r x) l := rfl
theorem runL_append (r : Bst × Int) (a b : List Ev) : runL r (a ++ b) = runL (runL r a) b := List.foldl_append
theorem runL_stop {r : Bst × Int} (h : r.2 ≠ 0) : ∀ l, runL r l = r := by
  intro l
  induction l with
  | nil => rfl
  | cons x l ih =>
    rw [runL_cons]
    have e : run1 r x = r := if_pos h
    rw [e]; exact ih
theorem runL_go {s : Bst} {x : Ev} {l : List Ev} (h : addE s x = 0) : runL (s, 0) (x :: l) = runL (stepS s x, 0) l := by
  have e : run1 (s, 0) x = (stepS s x, 0) := by
    unfold run1
    rw [if_neg (by simp), h, addS_ok h]
  rw [runL_cons, e]
theorem runL_take {r : Bst × Int} {l : List Ev} {j : Nat} (hj : j < l.length) : runL r (l.take (j + 1)) = run1 (runL r (l.take j)) l[j] := by
  rw [← List.take_append_getElem hj, runL_append]
  rfl
/-- What follows an error in the first events. -/
theorem runL_bad {r : Bst × Int} {l : List Ev} {j : Nat} (h : (runL r (l.take j)).2 ≠ 0) : runL r l = runL r (l.take j) := by
  conv => lhs; rw [← List.take_append_drop j l, runL_append]
  exact runL_stop h _
theorem runL_eqv {l : List Ev} : ∀ {s t : Bst} {e : Int}, s.eqv t → (runL (s, e) l).1.eqv (runL (t, e) l).1 ∧ (runL (s, e) l).2 = (runL (t, e) l).2 := by
  induction l with
  | nil => intro s t e h; exact ⟨h, rfl⟩
  | cons x l ih =>
    intro s t e h
    rw [runL_cons, runL_cons]
    by_cases q : e = 0
    · subst q
      have e1 : run1 (s, 0) x = (addS s x, addE s x) := if_neg (by simp)
      have e2 : run1 (t, 0) x = (addS t x, addE t x) := if_neg (by simp)
      rw [e1, e2, ← addE_eqv h]
      exact ih (addS_eqv h)
    · have e1 : run1 (s, e) x = (s, e) := if_pos q
      have e2 : run1 (t, e) x = (t, e) := if_pos q
      rw [e1, e2]
      exact ih h
/-- A builder that takes a value. -/
structure Bst.rdy (s : Bst) : Prop where
  bad : s.bad = false
  dn : s.dn = false
  top : 0 < s.d → (s.fr (s.d - 1)).mp = true → (s.fr (s.d - 1)).kd = true
theorem fol_beg {s : Bst} {x : Ev} (h : s.rdy) (hx : x.k = 1 ∨ x.k = 2 ∨ x.k = 4) : followE s x = 0 := by
  unfold followE
  rw [if_neg (by rw [h.dn]; decide)]
  split
  · rw [if_neg (by omega)]
  · rw [if_neg (by omega), if_neg (by omega), if_neg (by omega), if_neg (by
      rintro ⟨q1, q2⟩
      have := h.top (by omega) q1
      rw [q2] at this; cases this)]
theorem shape_mark {x : Ev} {k : Int} (hk : k = 2 ∨ k = 3 ∨ k = 4 ∨ k = 5) (h : x.Same (evM k)) : shapeE x = 0 := by
  have h1 : x.k = k := h.k
  have h2 : x.key = ⟨#[]⟩ := h.key
  have h3 : x.V.h.plain = true := (plain_same h.V.left).2 h.V
  have e0 : utfB (⟨#[]⟩ : ByteArray) = true := utfB_nil rfl
  unfold shapeE
  rw [if_neg (by
    rintro (q | q | ⟨q1, q2⟩ | ⟨q1, q2⟩)
    · simp at q; omega
    · simp at q; omega
    · rw [h2] at q2; rw [Lib.toList_data] at q2; simp at q2
    · rw [h3] at q2; cases q2), if_neg (by simp; omega), h2, if_neg (by rw [e0]; decide), if_neg (show ¬ 1024 < (⟨#[]⟩ : ByteArray).size from Nat.not_lt_zero _)]
theorem shape_key {x : Ev} {key : ByteArray} (h : x.Same (evK key)) (hu : utfB key = true) (hs : key.size ≤ 1024) : shapeE x = 0 := by
  have h1 : x.k = 6 := h.k
  have h2 : x.key = key := h.key
  have h3 : x.V.h.plain = true := (plain_same h.V.left).2 h.V
  unfold shapeE
  rw [if_neg (by
    rintro (q | q | ⟨q1, q2⟩ | ⟨q1, q2⟩)
    · simp at q; omega
    · simp at q; omega
    · rw [h1] at q1; cases q1
    · rw [h3] at q2; cases q2), if_neg (by simp; omega), h2, if_neg (by rw [hu]; decide), if_neg (by omega)]
theorem shape_sca {x : Ev} {T : Vt} (h : x.Same (evS T)) (hs : T.sca) : shapeE x = 0 := by
  have h1 : x.k = 1 := h.k
  have h2 : x.key = ⟨#[]⟩ := h.key
  have h3 : x.V.Same T := h.V
  have hk : x.V.h.k = T.h.k := h3.flat.k
  have hT := h3.right
  have hlook : (x.V.look 1 0).2 = 0 := by
    have hkn : T.kn = 0 := by
      unfold Vt.kn
      split
      · exact hs.fn
      · exact hs.ln
    rw [look_same h3, Vt.look_eq hT, if_neg (by omega), if_neg (by omega), if_neg (by simp [hs.one]), hkn]
    rfl
  unfold shapeE
  rw [if_neg (by
    rintro (q | q | ⟨q1, q2⟩ | ⟨q1, q2⟩)
    · simp at q; omega
    · simp at q; omega
    · rw [h2] at q2; rw [Lib.toList_data] at q2; simp at q2
    · rw [h1] at q1; cases q1), if_pos (by rw [h1]; rfl), if_neg (by have := hs.lt; have := hs.ge; omega)]
  exact hlook
theorem putS_d (s : Bst) (V : Vt) : (putS s V).d = s.d ∧ (putS s V).nd = s.nd ∧ (putS s V).bad = s.bad := by
  unfold putS
  split
  · exact ⟨rfl, rfl, rfl⟩
  split
  · exact ⟨rfl, rfl, rfl⟩
  · exact ⟨rfl, rfl, rfl⟩
/-- The state behind some of a value's parts. -/
def part (s : Bst) (m : Nat) (f : Fr) : Bst := { s with d := s.d + 1, nd := m, fr := upd s.fr s.d f }
theorem part_top (s : Bst) (m : Nat) (f : Fr) : (part s m f).fr ((part s m f).d - 1) = f := by
  show upd s.fr s.d f (s.d + 1 - 1) = f
  rw [Nat.add_sub_cancel, upd_same]
theorem putS_part {s : Bst} {m : Nat} {f : Fr} {V : Vt} : putS (part s m f) V = part s m (if f.mp = true then ⟨true, f.n + 1, upd f.K f.n f.key, upd f.M f.n V, ⟨#[]⟩, false⟩ else ⟨false, f.n + 1, upd f.K f.n ⟨#[]⟩, upd f.M f.n V, f.key, f.kd⟩) := by
  have e : ∀ g : Fr, upd (upd s.fr s.d f) s.d g = upd s.fr s.d g := fun g => by
    funext i
    by_cases z : i = s.d
    · subst z; rw [upd_same, upd_same]
    · rw [upd_other z, upd_other z, upd_other z]
  unfold putS
  rw [if_neg (by show ¬ s.d + 1 = 0; omega), part_top]
  cases hm : f.mp with
  | true =>
    simp only [if_true]
    unfold part
    simp only [Nat.add_sub_cancel, e]
  | false =>
    simp only [Bool.false_eq_true, if_false]
    unfold part
    simp only [Nat.add_sub_cancel, e]
/-- What the events of a value do to a builder that takes a value. -/
def Runs (T : Vt) : Prop := ∀ (s : Bst) (l : List Ev) (e : Nat), s.rdy → T.whole → T.good → T.upto e → s.d + e ≤ 48 → s.nd + T.size ≤ 65536 → SameL l (evs T) →
    ∃ T' : Vt, T'.Same T ∧ (runL (s, 0) l).2 = 0 ∧ (runL (s, 0) l).1.eqv (putS { s with nd := s.nd + T.size } T')
theorem add_beg {s : Bst} {x : Ev} (h : s.rdy) (hx : x.k = 1 ∨ x.k = 2 ∨ x.k = 4) (hs : shapeE x = 0) (hd : s.d < 48) (hn : s.nd < 65536) : addE s x = 0 := by
  unfold addE
  rw [if_neg (by rw [h.bad]; decide), if_neg (by simp [hs]), if_neg (by simp [fol_beg h hx]), if_neg (by omega), if_neg (by omega)]
theorem run_sca {T : Vt} {s : Bst} {l : List Ev} (hs : s.rdy) (hT : T.sca) (hw : T.whole) (hd : s.d < 48) (hn : s.nd < 65536) (hl : SameL l (evs T)) :
    ∃ T' : Vt, T'.Same T ∧ (runL (s, 0) l).2 = 0 ∧ (runL (s, 0) l).1.eqv (putS { s with nd := s.nd + 1 } T') := by
  have hne : T ≠ .nil := by rintro rfl; exact hw
  rw [evs_sca hne hT.lt] at hl
  match l, hl with
  | [x], .cons h .nil =>
    have hk : x.k = 1 := h.k
    have ha := add_beg (x := x) hs (.inl hk) (shape_sca h hT) hd hn
    refine ⟨x.V, h.V, ?_⟩
    rw [runL_go ha, runL_nil]
    refine ⟨rfl, ?_⟩
    unfold stepS
    rw [if_pos hk]
    exact Bst.eqv.rfl' _
theorem good_sca {T : Vt} (hw : T.whole) (hg : T.good) (h6 : T.h.k ≠ 6) (h7 : T.h.k ≠ 7) : T.sca ∧ T.size = 1 := by
  cases T with
  | nil => exact hw.elim
  | mk h Y L K F =>
    have ow := Vh.own_parts (oneE_own hg.1)
    have ln : (Vt.mk h Y L K F).h.ln = 0 := ow.2.2.2.2.2.2.2.1 h6
    have fn : (Vt.mk h Y L K F).h.fn = 0 := ow.2.2.2.2.2.2.2.2 h7
    refine ⟨⟨?_, ow.1, hg, hg.1, ln, fn⟩, ?_⟩
    · have := ow.2.1
      simp only [Vt.h] at this h6 h7 ⊢
      omega
    · rw [Vt.size_eq (by intro e; cases e)]
      have : (Vt.mk h Y L K F).kn = 0 := by
        unfold Vt.kn
        rw [if_neg h7]
        exact ln
      rw [this]
      rfl
theorem part_rdy {s : Bst} {m : Nat} {f : Fr} (hs : s.rdy) (hf : f.mp = true → f.kd = true) : (part s m f).rdy := ⟨hs.bad, hs.dn, fun _ => by rw [part_top]; exact hf⟩
end Go.Proofs.YtpcbhneaaibfiaaDoor
/- A builder that lives on: what its methods say, in few words. -/
namespace Go.Proofs.YtpcbhneaaibfiaaDoor
open Go.RowKit
set_option linter.unusedVariables false

/-- A builder in memory: all that it reads is among A. -/
def Live (B0 bb : Nat) (A : Nat → Prop) (W : World) (s : Bst) : Prop := s.inv ∧ ∃ O, BInv B0 bb A O W s
theorem Live.later {B0 bb : Nat} {A : Nat → Prop} {W W' : World} {s : Bst} (h : Live B0 bb A W s) (hb : Below W.heap.size W W') : Live B0 bb A W' s := by
  obtain ⟨h1, O, h2⟩ := h
  exact ⟨h1, O, h2.later hb⟩
theorem Live.keep {B0 bb : Nat} {A T : Nat → Prop} {W W' : World} {s : Bst} (h : Live B0 bb A W s) (hk : Kept T W W') (hA : ∀ b, A b → ¬ T b) : Live B0 bb A W' s := by
  obtain ⟨h1, O, h2⟩ := h
  exact ⟨h1, O, h2.keep hk hA⟩
theorem Live.at {B0 bb : Nat} {A : Nat → Prop} {W : World} {s : Bst} (h : Live B0 bb A W s) : B0 ≤ bb ∧ bb < W.heap.size ∧ A bb := by
  obtain ⟨h1, O, ov, us, X, h2⟩ := h
  exact ⟨h2.hB0, h2.box.lt, h2.hA _ h2.Obb⟩
theorem live_new {B0 : Nat} {W : World} (hB : B0 ≤ W.heap.size) : Calls Tryd.prog 21 #[] W fun e W' => ∃ bb, e = .returned (.pointer (some ⟨bb, 0, none⟩)) ∧ Live B0 bb (fun b => W.heap.size ≤ b) W' Bst.zero ∧ Below W.heap.size W W' := by
  refine (new_any hB).mono fun e W' hr => ?_
  obtain ⟨bb, O, h1, h2, -, h4⟩ := hr
  exact ⟨bb, h1, ⟨inv_zero, O, h2⟩, h4⟩
/-- What a step says. -/
def LiveOut (B0 bb : Nat) (A : Nat → Prop) (W : World) (s' : Bst) (W' : World) : Prop := ∃ A', Live B0 bb A' W' s' ∧ (∀ b, A' b → A b ∨ W.heap.size ≤ b) ∧ Kept A W W'
theorem live_add {B0 bb : Nat} {A : Nat → Prop} {W : World} {s : Bst} {x : Ev} (h : Live B0 bb A W s) (hx : x.ok) (hV : x.V.In W B0) (hB0 : B0 ≤ W.heap.size) :
    Calls Tryd.prog 23 #[.pointer (some ⟨bb, 0, none⟩), .agg x.cells] W fun e W' => e = .returned (.int .i64 (addE s x)) ∧ LiveOut B0 bb A W (addS s x) W' := by
  obtain ⟨h1, O, h2⟩ := h
  have hOA : ∀ b, O b → A b := by
    obtain ⟨ov, us, X, h3⟩ := h2
    exact h3.hA
  refine (add_any h2 h1 hx hV hB0).mono fun e W' hr => ?_
  obtain ⟨q1, A', O', q2, q3, q4, q5⟩ := hr
  exact ⟨q1, A', ⟨add_inv h1 hx hV.whole, O', q2⟩, q3, q5.more hOA⟩
theorem live_depth {B0 bb : Nat} {A : Nat → Prop} {W : World} {s : Bst} (h : Live B0 bb A W s) : Calls Tryd.prog 26 #[.pointer (some ⟨bb, 0, none⟩)] W fun e W' => e = .returned (.int .i64 s.d) ∧ Below W.heap.size W W' := by
  obtain ⟨h1, O, h2⟩ := h
  exact depth_any h2
theorem live_done {B0 bb : Nat} {A : Nat → Prop} {W : World} {s : Bst} (h : Live B0 bb A W s) : Calls Tryd.prog 24 #[.pointer (some ⟨bb, 0, none⟩)] W (DoneOut s W) := by
  obtain ⟨h1, O, h2⟩ := h
  exact done_any h2
theorem live_path {B0 bb : Nat} {A : Nat → Prop} {W : World} {s : Bst} (h : Live B0 bb A W s) : Calls Tryd.prog 27 #[.pointer (some ⟨bb, 0, none⟩)] W (PthOut (pathS s) W) := by
  obtain ⟨h1, O, h2⟩ := h
  exact path_any h2
/-- What belongs says. -/
def LiveBel (B0 bb : Nat) (A : Nat → Prop) (W : World) (s : Bst) (x : Ev) (e : Ending) (W' : World) : Prop :=
  ∃ r : Pth, e = .returned (.tuple #[.slice r.a r.n r.c, .int .i64 (addE s x)]) ∧ r.In W' W'.heap.size ∧ r.steps = (if addE s x = 0 then whereS s x else []) ∧ (0 < r.n → W.heap.size ≤ r.b) ∧ LiveOut B0 bb A W (addS s x) W'
theorem live_bel {B0 bb : Nat} {A : Nat → Prop} {W : World} {s : Bst} {x : Ev} (h : Live B0 bb A W s) (hx : x.ok) (hV : x.V.In W B0) (hB0 : B0 ≤ W.heap.size) :
    Calls Tryd.prog 39 #[.pointer (some ⟨bb, 0, none⟩), .agg x.cells] W (LiveBel B0 bb A W s x) := by
  obtain ⟨h1, O, h2⟩ := h
  have hOA : ∀ b, O b → A b := by
    obtain ⟨ov, us, X, h3⟩ := h2
    exact h3.hA
  refine (bel_any h2 h1 hx hV hB0).mono fun e W' hr => ?_
  obtain ⟨r, q1, q2, q3, q4, A', O', q5, q6, q7, q8⟩ := hr
  exact ⟨r, q1, q2, q3, q4, A', ⟨add_inv h1 hx hV.whole, O', q5⟩, q6, q8.more hOA⟩

/-! ### lists of events -/
def Evs.list (p : Evs) : List Ev := (List.range p.n).map p.S
theorem Evs.list_len (p : Evs) : p.list.length = p.n := by simp [Evs.list]
theorem Evs.list_get {p : Evs} {i : Nat} (h : i < p.n) : p.list[i]'(by rw [Evs.list_len]; exact h) = p.S i := by simp [Evs.list]
/-- The builder behind the first events, and the first error. -/
noncomputable def runN (p : Evs) (j : Nat) : Bst × Int := runL (Bst.zero, 0) (p.list.take j)
theorem runN_zero (p : Evs) : runN p 0 = (Bst.zero, 0) := rfl
theorem runN_succ {p : Evs} {j : Nat} (hj : j < p.n) (h0 : (runN p j).2 = 0) : runN p (j + 1) = (addS (runN p j).1 (p.S j), addE (runN p j).1 (p.S j)) := by
  unfold runN at h0 ⊢
  rw [runL_take (by rw [Evs.list_len]; exact hj), Evs.list_get hj]
  unfold run1
  rw [if_neg (by simp [h0])]
theorem runN_bad {p : Evs} {j m : Nat} (h : (runN p j).2 ≠ 0) (hm : j ≤ m) : runN p m = runN p j := by
  unfold runN at h ⊢
  have e : p.list.take j = (p.list.take m).take j := by rw [List.take_take, Nat.min_eq_left hm]
  rw [e] at h ⊢
  exact runL_bad h
theorem runN_all (p : Evs) : runN p p.n = runL (Bst.zero, 0) p.list := by
  unfold runN
  rw [List.take_of_length_le (by rw [Evs.list_len]; exact Nat.le_refl _)]
/-- What holds of it. -/
theorem runN_inv {W : World} {top : Nat} {p : Evs} (h : p.In W top) : ∀ j, j ≤ p.n → (runN p j).1.inv := by
  intro j
  induction j with
  | zero => intro _; exact inv_zero
  | succ j ih =>
    intro hj
    by_cases q : (runN p j).2 = 0
    · rw [runN_succ hj q]
      exact add_inv (ih (by omega)) (h.2.2 j hj).2.1 (h.2.2 j hj).2.2.whole
    · rw [runN_bad q (Nat.le_succ j)]
      exact ih (by omega)
end Go.Proofs.YtpcbhneaaibfiaaDoor
/- The value of events: event.Value, event.Check. -/
namespace Go.Proofs.YtpcbhneaaibfiaaDoor
open Go.RowKit
set_option linter.unusedSimpArgs false
set_option linter.unusedVariables false

/-- What is wrong with events; 0: nothing. -/
noncomputable def valE (p : Evs) : Int := if (runN p p.n).2 ≠ 0 then (runN p p.n).2 else if (runN p p.n).1.dn = true then 0 else 4
/-- The value of events. -/
noncomputable def valT (p : Evs) : Vt := if valE p = 0 then (runN p p.n).1.out else Vt.z
def ValOut (p : Evs) (W : World) (e : Ending) (W' : World) : Prop := ∃ X : Vt, e = .returned (.tuple #[.agg #[.int .i64 X.h.k, .bool X.h.b, .bool X.h.n, .string X.h.d, .int .i64 X.h.e, .int .i64 X.h.tk, .int .i64 X.h.td, .int .i64 X.h.tn, .int .i64 X.h.tz, .string X.h.x, .slice X.h.ba X.h.bn X.h.bc, .slice X.h.la X.h.ln X.h.lc, .slice X.h.fa X.h.fn X.h.fc], .int .i64 (valE p)]) ∧ X.In W' W'.heap.size ∧ X.Off (W.heap.size ≤ ·) ∧ X.Same (valT p) ∧ Below W.heap.size W W'
theorem valE_bad {p : Evs} {j : Nat} (hj : j ≤ p.n) (h : (runN p j).2 ≠ 0) : valE p = (runN p j).2 := by
  unfold valE
  rw [runN_bad h hj, if_pos h]
theorem valE_end {p : Evs} (h : (runN p p.n).2 = 0) : valE p = if (runN p p.n).1.dn = true then 0 else 4 := by
  unfold valE
  rw [if_neg (by simp [h])]
set_option maxHeartbeats 8000000 in
set_option maxRecDepth 100000 in
theorem value_any {p : Evs} {top : Nat} {W : World} (hp : p.In W top) (ht : top ≤ W.heap.size) : Calls Tryd.prog 16 #[.slice p.a p.n p.c] W (ValOut p W) := by
  have hb0 := (Below.refl W.heap.size W).alloc (Nat.le_refl _) (.cells Vh.zero.cells 30)
  have Q := Whole.new W 30 Vh.zero.cells
  have HNew := Lib.hid (live_new (B0 := W.heap.size) (W := W.alloc (.cells Vh.zero.cells 30)) hb0.size)
  have hone0 := Lib.hid (vh_all Vh.zero)
  have HB := Lib.hid hb0
  have HTop := Lib.hid (show top ≤ W.heap.size + 1 by omega)
  have HT0 := Lib.hid ht
  have hn1 := hp.2.1.1
  have hnj : ((p.n : Nat) : Int) ≤ 1048576 := by omega
  have hni : (0 : Int) ≤ ((p.n : Nat) : Int) := by omega
  have HP := Lib.hid (Evs.In.below hp (hb0.mono ht))
  clear hp ht hb0
  simp only [Vh.cells, Vh.zero] at HNew Q HB HP
  have hW1 : (W.alloc (.cells #[.int .i64 0, .bool false, .bool false, .string ⟨#[]⟩, .int .i64 0, .int .i64 0, .int .i64 0, .int .i64 0, .int .i64 0, .string ⟨#[]⟩, .slice none 0 0, .slice none 0 0, .slice none 0 0] 30)).heap.size = W.heap.size + 1 := World.size_alloc _ _
  go_enter Tryd.func16, Tryd.ntmps16
  go_wp2_with fail
  have HQ := Lib.hid Q
  clear Q
  obtain ⟨W1, hw1⟩ : ∃ W1, W.alloc (.cells #[.int .i64 0, .bool false, .bool false, .string ⟨#[]⟩, .int .i64 0, .int .i64 0, .int .i64 0, .int .i64 0, .int .i64 0, .string ⟨#[]⟩, .slice none 0 0, .slice none 0 0, .slice none 0 0] 30) = W1 := ⟨_, rfl⟩
  simp only [hw1] at HNew HQ HB HP hW1 ⊢
  clear hw1
  have HW1 := Lib.hid hW1
  refine HNew.out.mono ?_; rintro _ w2 ⟨bb, rfl, hL, hb2⟩
  have HL := Lib.hid hL
  have g2 : Below (W.heap.size + 1) W1 w2 := hW1 ▸ hb2
  have HA0 : Hid (∀ b, W1.heap.size ≤ b → W.heap.size + 1 ≤ b) := Lib.hid fun b q => by omega
  clear HNew hL hb2 hW1
  go_wp2_with fail
  go_loopw [13] (fun i wr => ∃ (j : Nat) (A : Nat → Prop), j ≤ p.n ∧ i = .int .i64 j ∧ Hid ((runN p j).2 = 0) ∧ Hid (Live W.heap.size bb A wr (runN p j).1) ∧ Hid (∀ b, A b → W.heap.size + 1 ≤ b) ∧ Below (W.heap.size + 1) W1 wr) (fun i _ => p.n - (intOf i).toNat)
  case atStart => exact ⟨0, _, by omega, rfl, Lib.hid rfl, HL, HA0, g2⟩
  case round =>
    clear g2 HL HA0
    obtain ⟨j, A, hj, rfl, HE, HLv, HAn, hbr⟩ := hrel
    have hji : (0 : Int) ≤ j := by omega
    have hwr : W.heap.size + 1 ≤ wr.heap.size := by have := hbr.size; have := HW1.out; omega
    by_cases hjn : j < p.n
    · have hjl : (j : Int) < p.n := by omega
      obtain ⟨ea, elt⟩ := HP.out.1 (by omega)
      obtain ⟨q1, q2, q3⟩ := HP.out.2.2 j hjn
      have hl := (q1.below (hbr.mono HTop.out) elt).e15
      obtain ⟨l0, l1, l2, l3, l4, l5, l6, l7, l8, l9, l10, l11, l12, l13, l14⟩ := hl
      have HV := Lib.hid (Vt.In.up HT0.out (Vt.In.below (hbr.mono HTop.out) q3))
      have HOk := Lib.hid q2
      have hS := Lib.hid (runN_succ hjn HE.out)
      clear q1 q2 q3
      have HAdd := Lib.hid (fun (w3 : World) (hb : Below wr.heap.size wr w3) => live_add (x := p.S j) (HLv.out.later hb) HOk.out (Vt.In.below (hb.mono (by omega)) HV.out) (Nat.le_trans (by omega) hb.size))
      obtain ⟨s, hs⟩ : ∃ s, (runN p j).1 = s := ⟨_, rfl⟩
      obtain ⟨x, hx⟩ : ∃ x, p.S j = x := ⟨_, rfl⟩
      rw [hs, hx] at HAdd hS
      rw [hx] at l0 l1 l2 l3 l4 l5 l6 l7 l8 l9 l10 l11 l12 l13 l14
      have hVB := Lib.hid (valE_bad (p := p) (j := j + 1) hjn)
      rw [hS.out] at hVB
      rw [ea]
      have HSx := hS
      clear hs hx HE HLv HV HOk ea elt hS
      obtain ⟨E, hE⟩ : ∃ E, addE s x = E := ⟨_, rfl⟩
      rw [hE] at HAdd hVB HSx
      obtain ⟨T, hT⟩ : ∃ T, addS s x = T := ⟨_, rfl⟩
      rw [hT] at HAdd hVB HSx
      have HVB := Lib.hid hVB
      clear hE hT hVB
      obtain ⟨k, key, V⟩ := x
      dsimp only at l0 l1 l2 l3 l4 l5 l6 l7 l8 l9 l10 l11 l12 l13 l14
      simp only [Ev.cells, evc] at HAdd
      have ga : Below wr.heap.size wr (wr.alloc (.cells #[.int .i64 k, .string key, .int .i64 V.h.k, .bool V.h.b, .bool V.h.n, .string V.h.d, .int .i64 V.h.e, .int .i64 V.h.tk, .int .i64 V.h.td, .int .i64 V.h.tn, .int .i64 V.h.tz, .string V.h.x, .slice V.h.ba V.h.bn V.h.bc, .slice V.h.la V.h.ln V.h.lc, .slice V.h.fa V.h.fn V.h.fc] 57)) := (Below.refl _ _).alloc (Nat.le_refl _) _
      go_wp2_with fail
      refine (HAdd.out _ ga).mono ?_; rintro _ w3 ⟨rfl, A', hL', hA', hk⟩
      have g3 : Below (W.heap.size + 1) W1 w3 := (hbr.trans (ga.mono hwr)).trans (hk.below (Nat.le_trans hwr ga.size) (fun b hb q => by have := HAn.out b q; omega))
      have HA3 : Hid (∀ b, A' b → W.heap.size + 1 ≤ b) := Lib.hid fun b q => by
        rcases hA' b q with q | q
        · exact HAn.out b q
        · have := ga.size; omega
      have HL3 := Lib.hid hL'
      clear HAdd ga hk hL' hA' l0 l1 l2 l3 l4 l5 l6 l7 l8 l9 l10 l11 l12 l13 l14 hbr 
      by_cases hE0 : E = 0
      · subst hE0
        clear HVB
        go_wp2_with fail
        go_roundw
        case rel => exact ⟨j + 1, A', by omega, by go_num, Lib.hid (by rw [HSx.out]), Lib.hid (by rw [HSx.out]; exact HL3.out), HA3, g3⟩
        case measure => simp [intOf]; omega
      · have dE : (E != 0) = true := bne_iff_ne.2 hE0
        have Hv := Lib.hid (HVB.out hE0)
        have HE0 := Lib.hid hE0
        have Q3 := HQ.out.below g3 (Nat.lt_succ_self _)
        clear HVB hE0 HSx HL3
        go_wp2_with (refine wpList_store_row rfl 30 _ _ rfl W.heap.size Vh.zero.cells rfl rfl 30 _ Q3 vh_row rfl hone0.out ?_)
        exact bodyPost_ret (v := .tuple #[.agg Vh.zero.cells, .int .i64 E]) (ret_val2 (p := 2) (q := 3) rfl rfl (Whole.setRow Q3 Vh.zero.cells)) rfl ⟨Vt.z, by rw [Hv.out]; rfl, Vt.z_in _ _, off_zero _, by unfold valT; rw [if_neg (by rw [Hv.out]; exact HE0.out)]; exact Vt.z_same, below_setRow (HB.out.trans (g3.mono (Nat.le_succ _))) (Nat.le_refl _) _⟩
    · obtain rfl : j = p.n := by omega
      have HD := Lib.hid (live_done HLv.out)
      have hve := valE_end HE.out
      have hvt : valE p = 0 → valT p = (runN p p.n).1.out := fun q => by unfold valT; rw [if_pos q]
      have hvn : valE p ≠ 0 → valT p = Vt.z := fun q => by unfold valT; rw [if_neg q]
      unfold DoneOut Bst.res at HD
      generalize (runN p p.n).1 = s at *
      clear HLv HE
      obtain ⟨dn, hdn⟩ : ∃ c, s.dn = c := ⟨_, rfl⟩
      rw [hdn] at hve HD
      have Hve := Lib.hid hve
      have Hvt := Lib.hid hvt
      have Hvn := Lib.hid hvn
      have HBr := Lib.hid hbr
      clear hve hvt hvn hdn hjn hbr
      go_wp2_with fail
      refine HD.out.mono ?_; rintro _ w4 ⟨X, rfl, hX, hXo, hXs, hb4⟩
      have gb := (Below.refl w4.heap.size w4).alloc (Nat.le_refl _) (.cells X.h.cells 30)
      have g4 : Below (W.heap.size + 1) W1 (w4.alloc (.cells X.h.cells 30)) := (HBr.out.trans (hb4.mono hwr)).trans (gb.mono (Nat.le_trans hwr hb4.size))
      have Q4 := HQ.out.below g4 (Nat.lt_succ_self _)
      have N4 := Whole.new w4 30 X.h.cells
      have HX := Lib.hid (hX.later gb)
      have HXo := Lib.hid hXo
      have HXs := Lib.hid hXs
      have hone := Lib.hid (vh_all X.h)
      obtain ⟨x0, x1, x2, x3, x4, x5, x6, x7, x8, x9, x10, x11, x12⟩ := Whole.c13 (h := X.h) N4
      have HW4 : Hid (W.heap.size + 1 ≤ wr.heap.size ∧ wr.heap.size ≤ (w4.alloc (.cells X.h.cells 30)).heap.size) := Lib.hid ⟨hwr, Nat.le_trans hb4.size gb.size⟩
      clear HD hX hXo hXs hb4 gb N4 HBr
      simp only [Vh.cells] at Q4 g4 HX x0 x1 x2 x3 x4 x5 x6 x7 x8 x9 x10 x11 x12 HW4
      cases dn
      · have Hv : Hid (valE p = 4) := Lib.hid Hve.out
        clear x0 x1 x2 x3 x4 x5 x6 x7 x8 x9 x10 x11 x12
        go_wp2_with (refine wpList_store_row rfl 30 _ _ rfl W.heap.size Vh.zero.cells rfl rfl 30 _ Q4 vh_row rfl hone0.out ?_)
        exact bodyPost_ret (v := .tuple #[.agg Vh.zero.cells, .int .i64 4]) (ret_val2 (p := 2) (q := 3) rfl rfl (Whole.setRow Q4 Vh.zero.cells)) rfl ⟨Vt.z, by rw [Hv.out]; rfl, Vt.z_in _ _, off_zero _, by rw [Hvn.out (by rw [Hv.out]; decide)]; exact Vt.z_same, below_setRow (HB.out.trans (g4.mono (Nat.le_succ _))) (Nat.le_refl _) _⟩
      · have Hv : Hid (valE p = 0) := Lib.hid Hve.out
        go_wp2_with (refine wpList_store_row rfl 30 _ _ rfl W.heap.size X.h.cells rfl rfl 30 _ Q4 vh_row rfl hone.out ?_)
        exact bodyPost_ret (v := .tuple #[.agg X.h.cells, .int .i64 0]) (ret_val2 (p := 2) (q := 3) rfl rfl (Whole.setRow Q4 X.h.cells)) rfl ⟨X, by rw [Hv.out]; rfl, HX.out.stays (S := (wr.heap.size ≤ ·)) HXo.out (fun b hb => setRow_other _ _ _ _ (by have := HW4.out.1; omega)) (by rw [size_setRow]; exact Nat.le_refl _), HXo.out.mono fun b hb => by have := HW4.out.1; omega, by rw [Hvt.out Hv.out]; exact HXs.out, below_setRow (HB.out.trans (g4.mono (Nat.le_succ _))) (Nat.le_refl _) _⟩
end Go.Proofs.YtpcbhneaaibfiaaDoor
/- The path of the value to which an event belongs: event.Where; event.Check. -/
namespace Go.Proofs.YtpcbhneaaibfiaaDoor
open Go.RowKit
set_option linter.unusedSimpArgs false
set_option linter.unusedVariables false

set_option maxHeartbeats 8000000 in
set_option maxRecDepth 100000 in
theorem evcheck_any {p : Evs} {top : Nat} {W : World} (hp : p.In W top) (ht : top ≤ W.heap.size) : Calls Tryd.prog 30 #[.slice p.a p.n p.c] W fun e W' => e = .returned (.int .i64 (valE p)) ∧ Below W.heap.size W W' := by
  have HV := Lib.hid (value_any hp ht)
  unfold ValOut at HV
  obtain ⟨E, hE⟩ : ∃ E, valE p = E := ⟨_, rfl⟩
  rw [hE] at HV ⊢
  clear hp ht hE
  go_enter Tryd.func30, Tryd.ntmps30
  go_wp2_with fail
  refine HV.out.mono ?_; rintro _ w1 ⟨X, rfl, -, -, -, hb1⟩
  have g1 := hb1.alloc hb1.size (.cells X.h.cells 30)
  simp only [Vh.cells] at g1
  clear HV hb1
  go_wp2
  go_ret
  exact ⟨rfl, g1⟩
/-- Where an event belongs, or what is wrong. -/
noncomputable def whE (p : Evs) (i : Int) : Int × List Stp :=
  if i < 0 ∨ (p.n : Int) ≤ i then (2, [])
  else if (runN p i.toNat).2 ≠ 0 then ((runN p i.toNat).2, [])
  else (addE (runN p i.toNat).1 (p.S i.toNat), if addE (runN p i.toNat).1 (p.S i.toNat) = 0 then whereS (runN p i.toNat).1 (p.S i.toNat) else [])
def WhOut (p : Evs) (i : Int) (W : World) (e : Ending) (W' : World) : Prop := ∃ r : Pth, e = .returned (.tuple #[.slice r.a r.n r.c, .int .i64 (whE p i).1]) ∧ r.In W' W'.heap.size ∧ r.steps = (whE p i).2 ∧ (0 < r.n → W.heap.size ≤ r.b) ∧ Below W.heap.size W W'
theorem wh_nil {p : Evs} {i E : Int} {W W' : World} (h : whE p i = (E, [])) (hb : Below W.heap.size W W') : WhOut p i W (.returned (.tuple #[.slice none 0 0, .int .i64 E])) W' :=
  ⟨⟨none, 0, 0, 0, 0, fun _ => default⟩, by rw [h], nil_in _ _ _ _ _ _ _ (Nat.zero_le _), by rw [h]; rfl, fun q => absurd q (Nat.lt_irrefl _), hb⟩
set_option maxHeartbeats 8000000 in
set_option maxRecDepth 100000 in
theorem where_any {p : Evs} {i : Int} {top : Nat} {W : World} (hp : p.In W top) (ht : top ≤ W.heap.size) (hi : w64 i) : Calls Tryd.prog 18 #[.slice p.a p.n p.c, .int .i64 i] W (WhOut p i W) := by
  have hn1 := hp.2.1.1
  have hnj : ((p.n : Nat) : Int) ≤ 1048576 := by omega
  have hni : (0 : Int) ≤ ((p.n : Nat) : Int) := by omega
  have hw1 := hi.1
  have hw2 := hi.2
  by_cases c1 : i < 0
  · have HE := Lib.hid (wh_nil (W := W) (show whE p i = (2, []) from if_pos (.inl c1)) (Below.refl _ _))
    clear hp ht hi
    go_enter Tryd.func18, Tryd.ntmps18
    go_wp2
    go_ret2
    exact HE.out
  by_cases c2 : (p.n : Int) ≤ i
  · have HE := Lib.hid (wh_nil (W := W) (show whE p i = (2, []) from if_pos (.inr c2)) (Below.refl _ _))
    clear hp ht hi
    go_enter Tryd.func18, Tryd.ntmps18
    go_wp2
    go_ret2
    exact HE.out
  obtain ⟨m, rfl⟩ : ∃ m : Nat, i = m := ⟨i.toNat, by omega⟩
  have hmn : m < p.n := by omega
  have hmi : (m : Int) < p.n := by omega
  have hmj : (0 : Int) ≤ (m : Int) := by omega
  have hic : m ≤ p.c := by have := hp.2.1.2.1; omega
  have HNew := Lib.hid (live_new (B0 := W.heap.size) (W := W) (Nat.le_refl _))
  have HP := Lib.hid hp
  have HT := Lib.hid ht
  have hwe : whE p m = if (runN p m).2 ≠ 0 then ((runN p m).2, []) else (addE (runN p m).1 (p.S m), if addE (runN p m).1 (p.S m) = 0 then whereS (runN p m).1 (p.S m) else []) := by
    unfold whE
    rw [if_neg (by omega), Int.toNat_natCast]
  have HWE := Lib.hid hwe
  obtain ⟨ea, elt⟩ := hp.1 (by omega)
  have HLT := Lib.hid elt
  have hmc : ¬ ((p.n : Nat) : Int) ≤ (m : Int) := by omega
  clear hp ht hi hwe c1 c2 elt hw1 hw2
  go_enter Tryd.func18, Tryd.ntmps18
  go_wp2_with fail
  refine HNew.out.mono ?_; rintro _ w2 ⟨bb, rfl, hL, g2⟩
  have HL := Lib.hid hL
  have HA0 : Hid (∀ b, W.heap.size ≤ b → W.heap.size ≤ b) := Lib.hid fun b q => q
  clear HNew hL
  go_wp2_with fail
  go_loopw [23] (fun i wr => ∃ (j : Nat) (A : Nat → Prop), j ≤ m ∧ i = .int .i64 j ∧ Hid ((runN p j).2 = 0) ∧ Hid (Live W.heap.size bb A wr (runN p j).1) ∧ Hid (∀ b, A b → W.heap.size ≤ b) ∧ Below W.heap.size W wr) (fun i _ => m - (intOf i).toNat)
  case atStart => exact ⟨0, _, by omega, rfl, Lib.hid rfl, HL, HA0, g2⟩
  case round =>
    clear g2 HL HA0
    obtain ⟨j, A, hj, rfl, HE, HLv, HAn, hbr⟩ := hrel
    have hji : (0 : Int) ≤ j := by omega
    have hwr := hbr.size
    by_cases hjn : j < m
    · have hjl : (j : Int) < m := by omega
      obtain ⟨q1, q2, q3⟩ := HP.out.2.2 j (by omega)
      have hl := (q1.below (hbr.mono HT.out) HLT.out).e15
      obtain ⟨l0, l1, l2, l3, l4, l5, l6, l7, l8, l9, l10, l11, l12, l13, l14⟩ := hl
      have HV := Lib.hid (Vt.In.up HT.out (Vt.In.below (hbr.mono HT.out) q3))
      have HOk := Lib.hid q2
      clear q1 q2 q3
      have hS := Lib.hid (runN_succ (p := p) (j := j) (by omega) HE.out)
      have HAdd := Lib.hid (fun (w3 : World) (hb : Below wr.heap.size wr w3) => live_add (x := p.S j) (HLv.out.later hb) HOk.out (Vt.In.below (hb.mono (by omega)) HV.out) (Nat.le_trans (by omega) hb.size))
      obtain ⟨s, hs⟩ : ∃ s, (runN p j).1 = s := ⟨_, rfl⟩
      obtain ⟨x, hx⟩ : ∃ x, p.S j = x := ⟨_, rfl⟩
      rw [hs, hx] at HAdd hS
      rw [hx] at l0 l1 l2 l3 l4 l5 l6 l7 l8 l9 l10 l11 l12 l13 l14
      have hVB := Lib.hid (fun (q : (runN p (j + 1)).2 ≠ 0) => (show whE p m = ((runN p (j + 1)).2, []) from by
        have e := runN_bad q (show j + 1 ≤ m by omega)
        rw [HWE.out, e, if_pos q]))
      rw [hS.out] at hVB
      try rw [ea]
      have HSx := hS
      clear hs hx HE HLv HV HOk hS
      obtain ⟨E, hE⟩ : ∃ E, addE s x = E := ⟨_, rfl⟩
      rw [hE] at HAdd hVB HSx
      obtain ⟨T, hT⟩ : ∃ T, addS s x = T := ⟨_, rfl⟩
      rw [hT] at HAdd hVB HSx
      have HVB := Lib.hid hVB
      clear hE hT hVB
      obtain ⟨k, key, V⟩ := x
      dsimp only at l0 l1 l2 l3 l4 l5 l6 l7 l8 l9 l10 l11 l12 l13 l14
      simp only [Ev.cells, evc] at HAdd
      have ga : Below wr.heap.size wr (wr.alloc (.cells #[.int .i64 k, .string key, .int .i64 V.h.k, .bool V.h.b, .bool V.h.n, .string V.h.d, .int .i64 V.h.e, .int .i64 V.h.tk, .int .i64 V.h.td, .int .i64 V.h.tn, .int .i64 V.h.tz, .string V.h.x, .slice V.h.ba V.h.bn V.h.bc, .slice V.h.la V.h.ln V.h.lc, .slice V.h.fa V.h.fn V.h.fc] 57)) := (Below.refl _ _).alloc (Nat.le_refl _) _
      go_wp2_with fail
      refine (HAdd.out _ ga).mono ?_; rintro _ w3 ⟨rfl, A', hL', hA', hk⟩
      have g3 : Below W.heap.size W w3 := (hbr.trans (ga.mono hwr)).trans (hk.below (Nat.le_trans hwr ga.size) (fun b hb q => by have := HAn.out b q; omega))
      have HA3 : Hid (∀ b, A' b → W.heap.size ≤ b) := Lib.hid fun b q => by
        rcases hA' b q with q | q
        · exact HAn.out b q
        · have := ga.size; omega
      have HL3 := Lib.hid hL'
      clear HAdd ga hk hL' hA' l0 l1 l2 l3 l4 l5 l6 l7 l8 l9 l10 l11 l12 l13 l14 hbr
      by_cases hE0 : E = 0
      · subst hE0
        clear HVB
        go_wp2_with fail
        go_roundw
        case rel => exact ⟨j + 1, A', by omega, by go_num, Lib.hid (by rw [HSx.out]), Lib.hid (by rw [HSx.out]; exact HL3.out), HA3, g3⟩
        case measure => simp [intOf]; omega
      · have dE : (E != 0) = true := bne_iff_ne.2 hE0
        have HO := Lib.hid (wh_nil (HVB.out hE0) g3)
        clear HVB hE0 HSx HL3
        go_wp2
        (first | exact HO.out | (go_ret2; exact HO.out))
    · obtain rfl : j = m := by omega
      obtain ⟨q1, q2, q3⟩ := HP.out.2.2 j (by omega)
      have hl := (q1.below (hbr.mono HT.out) HLT.out).e15
      obtain ⟨l0, l1, l2, l3, l4, l5, l6, l7, l8, l9, l10, l11, l12, l13, l14⟩ := hl
      have HV := Lib.hid (Vt.In.up HT.out (Vt.In.below (hbr.mono HT.out) q3))
      have HOk := Lib.hid q2
      clear q1 q2 q3
      have hwe := HWE.out
      rw [if_neg (by simp [HE.out])] at hwe
      have HB := Lib.hid (live_bel (x := p.S j) HLv.out HOk.out HV.out hwr)
      try rw [ea]
      have HWX := Lib.hid hwe
      clear HE HLv hwe HWE HV HOk
      unfold LiveBel at HB
      generalize (runN p j).1 = s at *
      obtain ⟨x, hx⟩ : ∃ x, p.S j = x := ⟨_, rfl⟩
      rw [hx] at l0 l1 l2 l3 l4 l5 l6 l7 l8 l9 l10 l11 l12 l13 l14 HB HWX
      clear hx
      obtain ⟨E, hE⟩ : ∃ E, addE s x = E := ⟨_, rfl⟩
      rw [hE] at HB HWX
      obtain ⟨U, hU⟩ : ∃ U, (if E = 0 then whereS s x else []) = U := ⟨_, rfl⟩
      rw [hU] at HB HWX
      generalize addS s x = T at *
      clear hE hU
      obtain ⟨k, key, V⟩ := x
      dsimp only at l0 l1 l2 l3 l4 l5 l6 l7 l8 l9 l10 l11 l12 l13 l14
      simp only [Ev.cells, evc] at HB
      have HBr := Lib.hid hbr
      clear hbr
      go_wp2_with fail
      refine HB.out.mono ?_; rintro _ w3 ⟨r, rfl, hr, hrs, hrb, A', -, -, hk⟩
      have HO : Hid (WhOut p j W (.returned (.tuple #[.slice r.a r.n r.c, .int .i64 E])) w3) := Lib.hid ⟨r, by rw [HWX.out], hr, by rw [HWX.out]; exact hrs, fun q => Nat.le_trans hwr (hrb q), HBr.out.trans (hk.below hwr (fun b hb q => by have := HAn.out b q; omega))⟩
      clear HB hr hrs hrb hk HWX HBr l0 l1 l2 l3 l4 l5 l6 l7 l8 l9 l10 l11 l12 l13 l14
      go_wp2
      (first | exact HO.out | (go_ret2; exact HO.out))
end Go.Proofs.YtpcbhneaaibfiaaDoor
