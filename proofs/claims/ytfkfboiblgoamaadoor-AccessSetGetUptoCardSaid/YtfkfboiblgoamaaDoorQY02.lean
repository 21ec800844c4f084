/- Laid together for a claim: VkSetGetM, VtPRow, VtEq8, VtRemV, VtArmM, VkUnder8, VkSet1. -/
import Derived.Test.YtfkfboiblgoamaaDoorQY01
import Derived.Test.YtfkfboiblgoamaaDoorQB26
import Derived.BigQuiet
import Derived.Deep.RegionHeld3
import Derived.BigRegion
import Derived.Test.YtfkfboiblgoamaaDoorQB23
import Derived.Test.YtfkfboiblgoamaaDoorQB15
import Derived.Test.YtfkfboiblgoamaaDoorQB14
import Derived.Test.YtfkfboiblgoamaaDoorQB13
/- What Get finds behind Set: plain. -/
namespace Go.Proofs.YtfkfboiblgoamaaDoor
open Go.RowKit

theorem chkV_zero2 {T : Vt} (h : T.chkV.2 = 0) : (T.look 1 0).2 = 0 ∧ T.chkV = (T, 0) := by
  unfold Vt.chkV at h ⊢
  by_cases z : (T.look 1 0).2 ≠ 0
  · rw [if_pos z] at h; exact absurd h z
  · rw [if_neg z]; exact ⟨by omega, rfl⟩
/-- What a good Set has made. -/
theorem setV_parts {T X : Vt} {S : Nat → Stp} {m : Nat} (hB : pathB S (m + 1) = true) (h : (T.setV S (m + 1) X).2 = 0) :
    (∃ C : Vt, T.setV S (m + 1) X = (C, 0) ∧ (C.look 1 0).2 = 0 ∧ ((C = Vt.chg (fun _ => X) (m + 1) S T ∧ (T.atN S (m + 1)).2 = 0) ∨ (C = Vt.chg (fun U => U.moreF (S m).key X) m S T ∧ (T.atN S m).2 = 0 ∧ ((T.atN S m).1.find (S m)).2 = 7 ∧ (S m).ix = false))) := by
  have e : T.setV S (m + 1) X = chkR (Vt.chgV (Vt.last1 X) (m + 1) S T) := by unfold Vt.setV; rw [if_pos hB, if_neg (by omega)]
  rw [e] at h ⊢
  by_cases h2 : (T.atN S m).2 = 0
  · by_cases h3 : ((T.atN S m).1.find (S m)).2 = 0
    · have h4 : (T.atN S (m + 1)).2 = 0 := by rw [Vt.atN_next h2 h3]
      rw [set_in h4, chkR_ok] at h ⊢
      obtain ⟨z1, z2⟩ := chkV_zero2 h
      exact ⟨_, z2, z1, .inl ⟨rfl, h4⟩⟩
    · by_cases h4 : ((T.atN S m).1.find (S m)).2 = 7 ∧ (S m).ix = false
      · rw [set_more h2 h4.1 h4.2, chkR_ok] at h ⊢
        obtain ⟨z1, z2⟩ := chkV_zero2 h
        exact ⟨_, z2, z1, .inr ⟨rfl, h2, h4.1, h4.2⟩⟩
      · rw [set_err h2 h3 h4, chkR_bad h3] at h
        exact absurd h h3
  · rw [Vt.chgV_atN h2, chkR_bad h2] at h
    exact absurd h h2
theorem setGet_at {T X A : Vt} {S : Nat → Stp} {m : Nat} (hw : T.whole) (hB : pathB S (m + 1) = true) (h : (T.setV S (m + 1) X).2 = 0) (hA : A.Same (T.setV S (m + 1) X).1) :
    A.upto 48 ∧ (A.atN S (m + 1)).2 = 0 ∧ (A.atN S (m + 1)).1.Same X := by
  obtain ⟨C, e, hlk, hc⟩ := setV_parts hB h
  rw [e] at hA
  have hA : A.Same C := hA
  have hu := (Vt.look_ok (d := 1) (s := 0) hA.whole (by rw [look_same hA]; exact hlk)).2.1
  have c1 : C.atN S (m + 1) = (X, 0) := by
    rcases hc with ⟨rfl, h4⟩ | ⟨rfl, h2, h7, hix⟩
    · exact chg_atN h4
    · have c0 := chg_atN (f := fun U => U.moreF (S m).key X) h2
      have hwM : (T.atN S m).1.whole := (atN_same (Vt.Same.rfl' hw) m).2.whole
      obtain ⟨a1, a2, _⟩ := more_find (X := X) hwM hix h7
      rw [Vt.atN_next (by rw [c0]) (by rw [c0]; dsimp only; rw [a1]), c0]
      dsimp only
      rw [a1, Int.toNat_natCast]
      exact Prod.ext a2 rfl
  obtain ⟨q1, q2⟩ := atN_same (S := S) hA (m + 1)
  rw [c1] at q1 q2
  exact ⟨hu, q1, q2⟩
theorem key_nil {k : ByteArray} (h : k.toList = []) {l : ByteArray} (h' : l.toList = []) : k = l := by
  rw [Lib.toList_data] at h h'
  exact ByteArray.ext (Array.toList_inj.1 (h.trans h'.symm))
/-- Two steps that lead to the same part are the same. -/
theorem find_inj {T : Vt} {s t : Stp} (hs : stepOk s) (ht : stepOk t) (h1 : (T.find s).2 = 0) (h2 : (T.find t).2 = 0) (h : (T.find s).1.toNat = (T.find t).1.toNat) : s = t := by
  obtain ⟨i, e1, c1⟩ := Vt.find_ok h1
  obtain ⟨j, e2, c2⟩ := Vt.find_ok h2
  rw [e1, e2, Int.toNat_natCast, Int.toNat_natCast] at h
  subst h
  obtain ⟨ix, key, n⟩ := s
  obtain ⟨ix', key', n'⟩ := t
  rcases c1 with ⟨a1, a2, a3, a4⟩ | ⟨a1, a2, a3, a4⟩ <;> rcases c2 with ⟨b1, b2, b3, b4⟩ | ⟨b1, b2, b3, b4⟩
  · dsimp only at a1 a4 b1 b4
    subst a1 b1
    unfold stepOk at hs ht
    rw [if_pos rfl] at hs ht
    obtain rfl : n = n' := by omega
    obtain rfl : key = key' := key_nil hs.1 ht.1
    rfl
  · rw [a2] at b2; exact absurd b2 (by decide)
  · rw [a2] at b2; exact absurd b2 (by decide)
  · dsimp only at a1 a4 b1 b4
    subst a1 b1
    unfold stepOk at hs ht
    rw [if_neg (fun q => by cases q)] at hs ht
    have k1 := (fidx_spec (K := T.K) (key := key) (n := T.h.fn)).1 (by omega)
    have k2 := (fidx_spec (K := T.K) (key := key') (n := T.h.fn)).1 (by omega)
    rw [← a4] at k1
    rw [← b4, k1] at k2
    have e3 : n = 0 := hs.1
    have e4 : n' = 0 := ht.1
    rw [e3, e4, k2]
/-- A path that leaves the changed one leads where it led. -/
theorem chg_other {f : Vt → Vt} : ∀ {d n l : Nat} {S Q : Nat → Stp} {T : Vt}, d < n → d < l → (T.atN S n).2 = 0 → (T.atN Q l).2 = 0 → stepOk (S d) → stepOk (Q d) → S d ≠ Q d → (∀ e, e < d → S e = Q e) → (Vt.chg f n S T).atN Q l = T.atN Q l := by
  intro d
  induction d with
  | zero =>
    intro n l S Q T hn hl h1 h2 s1 s2 hne _
    obtain ⟨n, rfl⟩ : ∃ k, n = k + 1 := ⟨n - 1, by omega⟩
    obtain ⟨l, rfl⟩ : ∃ k, l = k + 1 := ⟨l - 1, by omega⟩
    have h0 : (T.find (S 0)).2 = 0 := Vt.atN_find (k := 0) h1 (by omega)
    have g0 : (T.find (Q 0)).2 = 0 := Vt.atN_find (k := 0) h2 (by omega)
    rw [Vt.chg_succ2 h0, Vt.atN_shift (by rw [setP_find]; exact g0), setP_find, setP_other (fun e => hne (find_inj s1 s2 h0 g0 e.symm)), Vt.atN_shift g0]
  | succ d ih =>
    intro n l S Q T hn hl h1 h2 s1 s2 hne hag
    obtain ⟨n, rfl⟩ : ∃ k, n = k + 1 := ⟨n - 1, by omega⟩
    obtain ⟨l, rfl⟩ : ∃ k, l = k + 1 := ⟨l - 1, by omega⟩
    have h0 : (T.find (S 0)).2 = 0 := Vt.atN_find (k := 0) h1 (by omega)
    have e0 := hag 0 (by omega)
    have g0 : (T.find (Q 0)).2 = 0 := by rw [← e0]; exact h0
    rw [Vt.chg_succ2 h0, Vt.atN_shift (by rw [setP_find]; exact g0), setP_find, Vt.atN_shift g0, ← e0, setP_part h0]
    rw [Vt.atN_shift h0] at h1
    rw [Vt.atN_shift g0, ← e0] at h2
    exact ih (S := fun i => S (i + 1)) (Q := fun i => Q (i + 1)) (by omega) (by omega) h1 h2 s1 s2 hne (fun e he => hag (e + 1) (by omega))
theorem atN_add {T : Vt} {Q : Nat → Stp} {a : Nat} (h : (T.atN Q a).2 = 0) : ∀ b, T.atN Q (a + b) = (T.atN Q a).1.atN (fun i => Q (a + i)) b := by
  intro b
  induction b with
  | zero => exact Prod.ext rfl h
  | succ b ih =>
    show (if (T.atN Q (a + b)).2 ≠ 0 then T.atN Q (a + b) else if ((T.atN Q (a + b)).1.find (Q (a + b))).2 ≠ 0 then ((T.atN Q (a + b)).1, ((T.atN Q (a + b)).1.find (Q (a + b))).2) else ((T.atN Q (a + b)).1.part ((T.atN Q (a + b)).1.find (Q (a + b))).1.toNat, 0)) = _
    rw [ih]
    rfl
theorem more_other {M X : Vt} {s t : Stp} (hM : M.whole) (hix : s.ix = false) (h7 : (M.find s).2 = 7) (h0 : (M.find t).2 = 0) : (M.moreF s.key X).find t = M.find t ∧ (M.moreF s.key X).part (M.find t).1.toNat = M.part (M.find t).1.toNat := by
  have k7 : M.h.k = 7 := by
    unfold Vt.find at h7
    rw [if_neg (by rw [hix]; decide)] at h7
    split at h7
    · cases h7
    · rename_i q; exact Classical.byContradiction q
  cases M with
  | nil => exact hM.elim
  | mk h Y L K F =>
    have k7' : h.k = 7 := k7
    obtain ⟨i, e, c⟩ := Vt.find_ok h0
    rcases c with ⟨_, k6, _, _⟩ | ⟨tx, _, hi, hf⟩
    · rw [k7] at k6; exact absurd k6 (by decide)
    · have hi : i < h.fn := hi
      have hf : i = fidx K t.key h.fn := hf
      have sp := fidx_spec (K := K) (key := t.key) (n := h.fn)
      rw [← hf] at sp
      have hk : fidx (fun j => if j < h.fn then K j else s.key) t.key (h.fn + 1) = i :=
        fidx_first (fun j hj => by rw [if_pos (by omega)]; exact sp.2 j hj) (by rw [if_pos hi]; exact sp.1 hi) (by omega)
      have e0 : (Vt.mk h Y L K F).find t = ((i : Int), 0) := Prod.ext e h0
      rw [e0]
      refine ⟨?_, ?_⟩
      · show (if t.ix = true then _ else if h.k ≠ 7 then _ else if fidx (fun j => if j < h.fn then K j else s.key) t.key (h.fn + 1) < h.fn + 1 then (((fidx (fun j => if j < h.fn then K j else s.key) t.key (h.fn + 1) : Nat) : Int), (0 : Int)) else (0, 7)) = _
        rw [if_neg (by rw [tx]; decide), if_neg (fun r => r k7'), hk, if_pos (by omega)]
      · rw [Int.toNat_natCast]
        show (if h.k = 6 then L i else (if i < h.fn then F i else X)) = (if h.k = 6 then L i else F i)
        have k6 : ¬ h.k = 6 := by omega
        rw [if_neg k6, if_pos hi, if_neg k6]
/-- Behind Set, what lies elsewhere is as it was. -/
theorem setGet_other {T X A : Vt} {S Q : Nat → Stp} {m l d : Nat} (hw : T.whole) (hB : pathB S (m + 1) = true) (h : (T.setV S (m + 1) X).2 = 0) (hA : A.Same (T.setV S (m + 1) X).1)
    (hd1 : d < m + 1) (hd2 : d < l) (hq : (T.atN Q l).2 = 0) (hQ : stepOk (Q d)) (hne : S d ≠ Q d) (hag : ∀ e, e < d → S e = Q e) :
    (A.atN Q l).2 = 0 ∧ (A.atN Q l).1.Same (T.atN Q l).1 := by
  obtain ⟨C, e, hlk, hc⟩ := setV_parts hB h
  rw [e] at hA
  have hA : A.Same C := hA
  have hS := (pathB_ok hB).2 d hd1
  have c1 : C.atN Q l = T.atN Q l := by
    rcases hc with ⟨rfl, h4⟩ | ⟨rfl, h2, h7, hix⟩
    · exact chg_other hd1 hd2 h4 hq hS hQ hne hag
    · by_cases hdm : d < m
      · exact chg_other hdm hd2 h2 hq hS hQ hne hag
      · obtain rfl : d = m := by omega
        obtain ⟨r, rfl⟩ : ∃ r, l = d + (r + 1) := ⟨l - d - 1, by omega⟩
        have hqm : (T.atN Q d).2 = 0 := Vt.atN_le hq (by omega)
        have eT : T.atN Q d = T.atN S d := Vt.atN_congr (fun i hi => (hag i hi).symm)
        have c0 : (Vt.chg (fun U => U.moreF (S d).key X) d S T).atN Q d = ((T.atN S d).1.moreF (S d).key X, 0) := by
          rw [Vt.atN_congr (fun i hi => (hag i hi).symm)]
          exact chg_atN (f := fun U => U.moreF (S d).key X) h2
        have hwM : (T.atN S d).1.whole := (atN_same (Vt.Same.rfl' hw) d).2.whole
        have g0 : ((T.atN S d).1.find (Q d)).2 = 0 := by rw [← eT]; exact Vt.atN_find hq (by omega)
        obtain ⟨m1, m2⟩ := more_other (X := X) hwM hix h7 g0
        rw [atN_add (by rw [c0]) (r + 1), atN_add hqm (r + 1), c0, eT]
        have s1 : (((T.atN S d).1.moreF (S d).key X).find ((fun i => Q (d + i)) 0)).2 = 0 := by
          show (((T.atN S d).1.moreF (S d).key X).find (Q (d + 0))).2 = 0
          rw [Nat.add_zero, m1]
          exact g0
        have s2 : ((T.atN S d).1.find ((fun i => Q (d + i)) 0)).2 = 0 := by
          show ((T.atN S d).1.find (Q (d + 0))).2 = 0
          rw [Nat.add_zero]
          exact g0
        rw [Vt.atN_shift (S := fun i => Q (d + i)) s1, Vt.atN_shift (S := fun i => Q (d + i)) s2]
        try dsimp only
        rw [Nat.add_zero, m1, m2]
  obtain ⟨q1, q2⟩ := atN_same (S := Q) hA l
  rw [c1] at q1 q2
  exact ⟨by rw [q1]; exact hq, q2⟩
/-- Two lists of steps agree, or there is a first place where they do not. -/
theorem differ {S Q : Nat → Stp} : ∀ k, (∀ i, i < k → S i = Q i) ∨ ∃ d, d < k ∧ S d ≠ Q d ∧ ∀ e, e < d → S e = Q e := by
  intro k
  induction k with
  | zero => exact .inl fun i hi => absurd hi (Nat.not_lt_zero _)
  | succ k ih =>
    rcases ih with h | ⟨d, hd, h1, h2⟩
    · by_cases e : S k = Q k
      · exact .inl fun i hi => by
          by_cases q : i = k
          · rw [q]; exact e
          · exact h i (by omega)
      · exact .inr ⟨k, Nat.lt_succ_self k, e, h⟩
    · exact .inr ⟨d, by omega, h1, h2⟩
end Go.Proofs.YtfkfboiblgoamaaDoor
/- Rows of paths ([][]api.Step): how they lie, what keeps them, one after the other. -/
namespace Go.Proofs.YtfkfboiblgoamaaDoor
open Go.RowKit
set_option linter.unusedSimpArgs false
set_option linter.unusedVariables false

theorem Tryd.infoPth : (Tryd.prog.info? 31).map (fun i => (i.zero, i.size, i.bytes)) = some (some (.slice none 0 0), 1, 24) := by kernel_rfl
def nilP : Pth := ⟨none, 0, 0, 0, 0, fun _ => default⟩
/-- A row of paths that a call makes: no path lies in the row's own block. -/
def PRow (B : Nat) (S : Nat → Prop) (W : World) (v : Value) (ps : List (List Stp)) : Prop :=
  ∃ fs : List Pth, fs.map Pth.steps = ps ∧ W.ownsRow B 31 1 v fs.length (fs.map Pth.val) ∧ ∀ f, f ∈ fs → f.In W W.heap.size ∧ (0 < f.n → S f.b ∧ some f.b ≠ v.ownBlock)
theorem PRow.nil (B : Nat) (S : Nat → Prop) (W : World) : PRow B S W (.slice none 0 0) [] := ⟨[], rfl, World.ownsRow_nil _ _ _ _, fun _ h => by cases h⟩
theorem val_one (fs : List Pth) : ∀ u ∈ fs.map Pth.val, u.oneCell' = true := by
  intro u hu
  obtain ⟨f, _, rfl⟩ := List.mem_map.1 hu
  rfl
theorem PRow.len {B : Nat} {S : Nat → Prop} {W : World} {v : Value} {ps : List (List Stp)} (h : PRow B S W v ps) : ∃ fs : List Pth, fs.length = ps.length ∧ W.ownsRow B 31 1 v ps.length (fs.map Pth.val) := by
  obtain ⟨fs, e, ho, _⟩ := h
  have : fs.length = ps.length := by rw [← e]; simp
  exact ⟨fs, this, by rw [← this]; exact ho⟩
theorem PRow.keptO {B : Nat} {S : Nat → Prop} {W W' : World} {v : Value} {ps : List (List Stp)} (h : PRow B S W v ps) {row : Option Nat} (hg : W.grownBy W' row) (hv : v.ownBlock = none ∨ v.ownBlock ≠ row) (hS : ∀ b, S b → some b ≠ row) : PRow B S W' v ps := by
  obtain ⟨fs, e, ho, hf⟩ := h
  refine ⟨fs, e, ho.kept hg hv, fun f hf' => ?_⟩
  obtain ⟨h1, h2⟩ := hf f hf'
  refine ⟨⟨fun q => ⟨(h1.1 q).1, Nat.lt_of_lt_of_le (h1.1 q).2 hg.size⟩, h1.2.1, fun i hi => ⟨fun j hj => ?_, (h1.2.2 i hi).2⟩⟩, h2⟩
  have hn : 0 < f.n := by omega
  exact (World.cell?_of_block (a := ⟨f.b, f.o + i * 3 + j, none⟩) (hg.block f.b (h1.1 hn).2 (hS _ (h2 hn).1))).trans ((h1.2.2 i hi).1 j hj)
theorem PRow.below {B : Nat} {S : Nat → Prop} {W W' : World} {v : Value} {ps : List (List Stp)} (h : PRow B S W v ps) (hb : Below W.heap.size W W') : PRow B S W' v ps := by
  refine h.keptO (row := none) ⟨hb.os, hb.tape, hb.output, hb.size, fun i hi _ => hb.block i hi⟩ ?_ (fun b _ e => by cases e)
  cases hv : v.ownBlock with
  | none => exact .inl rfl
  | some g => exact .inr (by simp)
theorem own_lower {W : World} {B B' C n : Nat} {e : TypeId} {v : Value} {xs : List Value} (h : W.ownsRow B e C v n xs) (hB : B' ≤ B) : W.ownsRow B' e C v n xs := by
  refine ⟨h.1, ?_⟩
  rcases h.2 with h | ⟨g, cap, cur, a, b, c⟩
  · exact .inl h
  · exact .inr ⟨g, cap, cur, a, Nat.le_trans hB b, c⟩
theorem PRow.weaken {B B' : Nat} {S S' : Nat → Prop} {W : World} {v : Value} {ps : List (List Stp)} (h : PRow B S W v ps) (hB : B' ≤ B) (hS : ∀ b, S b → S' b) : PRow B' S' W v ps := by
  obtain ⟨fs, e, ho, hf⟩ := h
  exact ⟨fs, e, own_lower ho hB, fun f hf' => ⟨(hf f hf').1, fun q => ⟨hS _ ((hf f hf').2 q).1, ((hf f hf').2 q).2⟩⟩⟩
/-- One row behind another. -/
theorem PRow.join {B : Nat} {S : Nat → Prop} {W W' : World} {v v' : Value} {fs gs : List Pth} (ho : W.ownsRow B 31 1 v fs.length (fs.map Pth.val)) (hf : ∀ f, f ∈ fs → f.In W W.heap.size ∧ (0 < f.n → S f.b ∧ some f.b ≠ v.ownBlock)) (hg : ∀ f, f ∈ gs → f.In W W.heap.size ∧ (0 < f.n → S f.b ∧ some f.b ≠ v.ownBlock))
    (ho' : W'.ownsRow B 31 1 v' (fs.length + gs.length) (fs.map Pth.val ++ gs.map Pth.val)) (hgr : W.grownBy W' v.ownBlock) (hv : v'.ownBlock = v.ownBlock ∨ v'.ownBlock = some W.heap.size) : PRow B S W' v' (fs.map Pth.steps ++ gs.map Pth.steps) := by
  refine ⟨fs ++ gs, by simp, by simpa using ho', fun f hm => ?_⟩
  have h : f.In W W.heap.size ∧ (0 < f.n → S f.b ∧ some f.b ≠ v.ownBlock) := by
    rcases List.mem_append.1 hm with hm | hm
    · exact hf f hm
    · exact hg f hm
  obtain ⟨h1, h2⟩ := h
  refine ⟨⟨fun q => ⟨(h1.1 q).1, Nat.lt_of_lt_of_le (h1.1 q).2 hgr.size⟩, h1.2.1, fun i hi => ⟨fun j hj => ?_, (h1.2.2 i hi).2⟩⟩, fun q => ⟨(h2 q).1, ?_⟩⟩
  · have hn : 0 < f.n := by omega
    exact (World.cell?_of_block (a := ⟨f.b, f.o + i * 3 + j, none⟩) (hgr.block f.b (h1.1 hn).2 (h2 hn).2)).trans ((h1.2.2 i hi).1 j hj)
  · rcases hv with e | e
    · rw [e]; exact (h2 q).2
    · rw [e]
      intro c
      have := Option.some.inj c
      have := (h1.1 q).2
      omega
/-- A finished row: each path, read. -/
theorem PRow.get {B : Nat} {S : Nat → Prop} {W : World} {v : Value} {ps : List (List Stp)} (h : PRow B S W v ps) : ∃ (a : Option Addr) (c b : Nat) (f : Nat → Pth), v = .slice a ps.length c ∧ (ps.length ≤ c ∧ c ≤ maxLen) ∧ (0 < ps.length → a = some ⟨b, 0, none⟩ ∧ B ≤ b ∧ b < W.heap.size) ∧
    ∀ i (hi : i < ps.length), W.cell? ⟨b, i, none⟩ = some (.slice (f i).a (f i).n (f i).c) ∧ (f i).In W W.heap.size ∧ (f i).steps = ps[i] ∧ (0 < (f i).n → S (f i).b) := by
  obtain ⟨fs, e, ho, hf⟩ := h
  have hl : fs.length = ps.length := by rw [← e]; simp
  have hcat : fs.map Pth.val = catN (fun i => #[(fs.getD i nilP).val]) fs.length := by
    refine List.ext_getElem? fun i => ?_
    by_cases hi : i < fs.length
    · have := catN_get (f := fun i => #[(fs.getD i nilP).val]) (C := 1) (fun _ => rfl) (n := fs.length) (i := i) (j := 0) (by omega) hi
      rw [Nat.mul_one, Nat.add_zero] at this
      rw [this]
      simp [hi]
    · have h2 := catN_len (f := fun i => #[(fs.getD i nilP).val]) (C := 1) (fun _ => rfl) fs.length
      rw [List.getElem?_eq_none (by simp; omega), List.getElem?_eq_none (by rw [h2]; omega)]
  rw [hcat] at ho
  obtain ⟨a, c, b, rfl, hcc, ha, hrow⟩ := own_lies (C := 1) (fun _ => rfl) ho
  refine ⟨a, c, b, fun i => fs.getD i nilP, by rw [hl], by rw [← hl]; exact hcc, by rw [← hl]; exact ha, fun i hi => ?_⟩
  have hi' : i < fs.length := by omega
  have hm : fs.getD i nilP ∈ fs := by simp [hi']
  have := hrow i hi' 0 (Nat.lt_succ_self 0)
  rw [Nat.mul_one, Nat.add_zero] at this
  refine ⟨this, (hf _ hm).1, ?_, fun q => ((hf _ hm).2 q).1⟩
  have : ps[i]? = some (fs.getD i nilP).steps := by rw [← e]; simp [hi']
  rw [List.getElem?_eq_getElem hi] at this
  exact (Option.some.inj this).symm
end Go.Proofs.YtfkfboiblgoamaaDoor
/- Are two paths equal: datakitref08.Equal. -/
namespace Go.Proofs.YtfkfboiblgoamaaDoor
open Go.RowKit
set_option linter.unusedSimpArgs false
set_option linter.unusedVariables false

theorem stp_neq (a b : Bool) (s t : ByteArray) (e f : Int) (W : World) : (binOp .neq 50 (.agg #[.bool a, .string s, .int .i64 e]) (.agg #[.bool b, .string t, .int .i64 f])).run Tryd.prog W = .ok (.bool (!decide ((a, s, e) = (b, t, f)))) W := by
  have h : s ≠ t → ¬ s.toList = t.toList := fun q e => q (by
    rw [Lib.toList_data, Lib.toList_data] at e
    exact ByteArray.ext (Array.toList_inj.1 e))
  by_cases h1 : a = b <;> by_cases h2 : s = t <;> by_cases h3 : e = f <;> simp [go_sem, h1, h2, h3] <;> exact h h2
theorem stp_same (s : Stp) (W : World) : (binOp .neq 50 (.agg s.cells) (.agg s.cells)).run Tryd.prog W = .ok (.bool false) W := by
  have := stp_neq s.ix s.ix s.key s.key s.n s.n W
  rw [decide_eq_true rfl] at this
  exact this
theorem stp_diff {s t : Stp} (h : s ≠ t) (W : World) : (binOp .neq 50 (.agg s.cells) (.agg t.cells)).run Tryd.prog W = .ok (.bool true) W := by
  have := stp_neq s.ix t.ix s.key t.key s.n t.n W
  rw [decide_eq_false (fun e => h (by cases s; cases t; simp only [Prod.mk.injEq] at e; obtain ⟨rfl, rfl, rfl⟩ := e; rfl))] at this
  exact this
noncomputable def eqS (a b : List Stp) : Bool := @decide (a = b) (Classical.propDecidable _)
theorem eqS_yes {a b : List Stp} (h : a = b) : eqS a b = true := @decide_eq_true _ (Classical.propDecidable _) h
theorem eqS_no {a b : List Stp} (h : a ≠ b) : eqS a b = false := @decide_eq_false _ (Classical.propDecidable _) h
theorem eqS_iff {a b : List Stp} : eqS a b = true ↔ a = b := ⟨@of_decide_eq_true _ (Classical.propDecidable _), eqS_yes⟩
theorem steps_eq {p q : Pth} (hn : p.n = q.n) (h : ∀ i, i < p.n → p.S i = q.S i) : p.steps = q.steps := by
  refine List.ext_getElem (by rw [p.steps_len, q.steps_len, hn]) fun i h1 h2 => ?_
  rw [p.steps_len] at h1
  simp [Pth.steps, h i h1]
theorem steps_ne {p q : Pth} {i : Nat} (hi : i < p.n) (hj : i < q.n) (h : p.S i ≠ q.S i) : p.steps ≠ q.steps := fun e => by
  apply h
  rw [Pth.steps_get hi, Pth.steps_get hj, e]
set_option maxHeartbeats 2000000 in
set_option maxRecDepth 100000 in
theorem equal_any {p q : Pth} {top : Nat} {w : World} (hp : p.In w top) (hq : q.In w top) (ht : top ≤ w.heap.size) :
    Calls Tryd.prog 38 #[.slice p.a p.n p.c, .slice q.a q.n q.c] w fun e w' => e = .returned (.bool (eqS p.steps q.steps)) ∧ Below w.heap.size w w' := by
  have hpn := hp.2.1.1
  have hqn := hq.2.1.1
  have i0 : (0 : Int) ≤ p.n := by omega
  have i1 : (p.n : Int) ≤ 1048576 := by omega
  have i2 : (q.n : Int) ≤ 1048576 := by omega
  have i3 : (0 : Int) ≤ q.n := by omega
  by_cases hn : p.n = q.n
  · obtain ⟨R, hR⟩ : ∃ R, eqS p.steps q.steps = R := ⟨_, rfl⟩
    have HP := Lib.hid (fun (w1 : World) (hb : Below w.heap.size w w1) => Pth.In.below hp (hb.mono ht))
    have HQ := Lib.hid (fun (w1 : World) (hb : Below w.heap.size w w1) => Pth.In.below hq (hb.mono ht))
    have Hyes : Hid ((∀ i, i < p.n → p.S i = q.S i) → R = true) := Lib.hid fun h => by rw [← hR]; exact eqS_yes (steps_eq hn h)
    have Hno : Hid (∀ i, i < p.n → p.S i ≠ q.S i → R = false) := Lib.hid fun i hi h => by rw [← hR]; exact eqS_no (steps_ne hi (by omega) h)
    rw [hR]
    clear hR hp hq
    obtain ⟨a, n, c, b, o, S⟩ := p
    obtain ⟨a', n', c', b', o', S'⟩ := q
    dsimp only at hn hpn hqn HP HQ Hyes Hno i0 i1 i2 i3 ⊢
    subst hn
    go_enter Tryd.func38, Tryd.ntmps38
    go_wp2_with fail
    go_loopw [5] (fun i wr => ∃ k : Nat, k ≤ n ∧ i = .int .i64 k ∧ Hid (∀ j, j < k → S j = S' j) ∧ Below w.heap.size w wr) (fun i _ => n - (intOf i).toNat)
    case atStart => exact ⟨0, by omega, rfl, Lib.hid (fun j hj => absurd hj (Nat.not_lt_zero _)), Below.refl _ _⟩
    case round =>
      obtain ⟨k, hk, rfl, hall, hbr⟩ := hrel
      have hki : (0 : Int) ≤ k := by omega
      by_cases hkn : k < n
      · have hki2 : (k : Int) < n := by omega
        have h1 := HP.out wr hbr
        have h2 := HQ.out wr hbr
        obtain ⟨e1, -⟩ := h1.1 (show 0 < n by omega)
        obtain ⟨e2, -⟩ := h2.1 (show 0 < n by omega)
        dsimp only at e1 e2
        subst e1 e2
        obtain ⟨l0, l1, l2⟩ := (h1.2.2 k hkn).1.s3
        obtain ⟨m0, m1, m2⟩ := (h2.2.2 k hkn).1.s3
        dsimp only at l0 l1 l2 m0 m1 m2
        clear h1 h2
        by_cases heq : S k = S' k
        · have hbo := fun W => stp_same (S' k) W
          rw [heq] at l0 l1 l2
          have Heq := Lib.hid heq
          simp only [Stp.cells] at hbo
          clear heq
          go_wp2_with fail
          go_quiet (fail)
          go_wp2
          go_roundw
          case rel => exact ⟨k + 1, by omega, by go_num, Lib.hid (fun j hj => by by_cases e : j = k; { rw [e]; exact Heq.out }; { exact hall.out j (by omega) }), below_drewN' hbr _⟩
          case measure => simp [intOf]; omega
        · have hbo := fun W => stp_diff heq W
          have hf := Hno.out k hkn heq
          subst hf
          simp only [Stp.cells] at hbo
          clear heq
          go_wp2_with fail
          go_quiet (fail)
          go_wp2
          go_ret
          exact ⟨rfl, below_drewN' hbr _⟩
      · obtain rfl : k = n := by omega
        have hf := Hyes.out hall.out
        subst hf
        go_wp2
        go_ret
        exact ⟨rfl, hbr⟩
  · have hf : eqS p.steps q.steps = false := eqS_no fun e => hn (by rw [← p.steps_len, e, q.steps_len])
    have t1 : ((p.n : Int) != (q.n : Int)) = true := bne_iff_ne.2 (by omega)
    have t2 : (p.n != q.n) = true := bne_iff_ne.2 hn
    rw [hf]
    clear hn hp hq hf
    go_enter Tryd.func38, Tryd.ntmps38
    go_wp2
    go_ret
    exact ⟨rfl, Below.refl _ _⟩
end Go.Proofs.YtfkfboiblgoamaaDoor
/- What Remove answers: plain. -/
namespace Go.Proofs.YtfkfboiblgoamaaDoor

noncomputable def Vt.remV (T : Vt) (S : Nat → Stp) (n : Nat) : Vt × Int := if pathB S n = true ∧ n ≠ 0 then Vt.chgV (Vt.last3 .z) n S T else (.z, 1)
end Go.Proofs.YtfkfboiblgoamaaDoor
/- A value without a part: what both sides make; plain. -/
namespace Go.Proofs.YtfkfboiblgoamaaDoor
open Go.RowKit

theorem Vt.upto_same : ∀ {X U : Vt} {d : Nat}, X.Same U → U.upto d → X.upto d := by
  intro X
  induction X with
  | nil => intro U d h; exact h.elim
  | mk h Y L K F ihL ihF =>
    intro U d hs hu
    cases U with
    | nil => exact absurd rfl hs.1
    | mk h' Y' L' K' F' =>
      obtain ⟨_, hf, _, hl, hk⟩ := hs
      have e1 : h.ln = h'.ln := hf.ln
      have e2 : h.fn = h'.fn := hf.fn
      exact ⟨hu.1, fun i hi => ihL i (hl i hi) (hu.2.1 i (by omega)), fun i hi => ihF i (hk i hi).2 (hu.2.2 i (by omega))⟩
theorem Vt.upto_setL {T X : Vt} {i d : Nat} (hT : T.upto d) (hX : X.upto (d - 1)) : (T.setL i X).upto d := by
  cases T with
  | nil => exact trivial
  | mk h Y L K F =>
    refine ⟨hT.1, fun j hj => ?_, hT.2.2⟩
    show Vt.upto (if j = i then X else L j) _
    split
    · exact hX
    · exact hT.2.1 j hj
theorem Vt.upto_setF {T X : Vt} {i d : Nat} (hT : T.upto d) (hX : X.upto (d - 1)) : (T.setF i X).upto d := by
  cases T with
  | nil => exact trivial
  | mk h Y L K F =>
    refine ⟨hT.1, hT.2.1, fun j hj => ?_⟩
    show Vt.upto (if j = i then X else F j) _
    split
    · exact hX
    · exact hT.2.2 j hj
theorem Vt.upto_wo {T : Vt} {s : Stp} {d : Nat} (hT : T.upto d) : (T.wo s).upto d := by
  unfold Vt.wo
  cases T with
  | nil => split <;> exact trivial
  | mk h Y L K F =>
    split
    · refine ⟨hT.1, fun j hj => ?_, hT.2.2⟩
      have hj' : j < h.ln - 1 := hj
      show Vt.upto (if j < _ then L j else L (j + 1)) _
      split
      · exact hT.2.1 j (by omega)
      · exact hT.2.1 (j + 1) (by omega)
    · refine ⟨hT.1, hT.2.1, fun j hj => ?_⟩
      have hj' : j < h.fn - 1 := hj
      show Vt.upto (if j < _ then F j else F (j + 1)) _
      split
      · exact hT.2.2 j (by omega)
      · exact hT.2.2 (j + 1) (by omega)
theorem Vt.upto_chg {g : Vt → Vt} (hg : ∀ U d, U.upto d → (g U).upto d) : ∀ {n : Nat} {S : Nat → Stp} {T : Vt} {d : Nat}, (T.atN S n).2 = 0 → T.upto d → (Vt.chg g n S T).upto d := by
  intro n
  induction n with
  | zero => intro S T d _ h; exact hg T d h
  | succ n ih =>
    intro S T d h0 h
    have hf : (T.find (S 0)).2 = 0 := Vt.atN_find (k := 0) h0 (by omega)
    rw [Vt.atN_shift hf] at h0
    rw [Vt.chg]
    cases hx : (S 0).ix with
    | true =>
      obtain ⟨e, _, hi, _⟩ := Vt.part_ix hf hx
      rw [if_pos rfl]
      rw [e] at h0
      refine Vt.upto_setL h (ih h0 ?_)
      cases T with
      | nil => exact trivial
      | mk hh Y L K F => exact h.2.1 _ hi
    | false =>
      obtain ⟨e, _, hi, _, _⟩ := Vt.part_key hf hx
      rw [if_neg (by simp)]
      rw [e] at h0
      refine Vt.upto_setF h (ih h0 ?_)
      cases T with
      | nil => exact trivial
      | mk hh Y L K F => exact h.2.2 _ hi
theorem remV_ok {T : Vt} {S : Nat → Stp} {m : Nat} (hB : pathB S (m + 1) = true) (h0 : (T.atN S (m + 1)).2 = 0) : T.remV S (m + 1) = (Vt.chg (fun U => U.wo (S m)) m S T, 0) := by
  unfold Vt.remV
  rw [if_pos ⟨hB, by omega⟩]
  refine Vt.chgV_chg (Vt.atN_le h0 (by omega)) ?_
  unfold Vt.last3
  rw [if_pos (Vt.atN_find h0 (by omega))]
theorem remV_at {T : Vt} {S : Nat → Stp} {m : Nat} (hB : pathB S (m + 1) = true) (h0 : (T.atN S (m + 1)).2 ≠ 0) : T.remV S (m + 1) = (.z, (T.atN S (m + 1)).2) := by
  unfold Vt.remV
  rw [if_pos ⟨hB, by omega⟩]
  by_cases h1 : (T.atN S m).2 = 0
  · have h2 : ((T.atN S m).1.find (S m)).2 ≠ 0 := fun e => h0 (by rw [Vt.atN_next h1 e])
    have e3 : Vt.last3 .z (T.atN S m).1 (S m) = (.z, ((T.atN S m).1.find (S m)).2) := by unfold Vt.last3; rw [if_neg h2]
    rw [Vt.chgV_err h1 (by rw [e3]; exact h2) (by rw [e3]), e3, Vt.atN_bad h1 h2 (Nat.lt_succ_self _)]
  · rw [Vt.chgV_atN h1, Vt.atN_stays h1 (m + 1) (by omega)]
theorem remV_bad {T : Vt} {S : Nat → Stp} {n : Nat} (h : pathB S n = false ∨ n = 0) : T.remV S n = (.z, 1) := by
  unfold Vt.remV
  rw [if_neg]
  rintro ⟨a, b⟩
  rcases h with h | h
  · rw [h] at a; cases a
  · exact b h
end Go.Proofs.YtfkfboiblgoamaaDoor
/- Is a path under another: datakitref08.Under; what Get finds behind Set at the paths of a walk. -/
namespace Go.Proofs.YtfkfboiblgoamaaDoor
open Go.ChangeShapes Go.WideShapes Go.Joins Go.Deep Go.RowKit
set_option linter.unusedSimpArgs false
set_option linter.unusedVariables false

section
variable {ty el : TypeId} {C : Nat} (hu : Tryd.prog.underlying ty = some (.slice el)) (he : Tryd.prog.elem ty = el) (hs : (Tryd.prog.info? el).map (·.size) = some C)
include hu he hs
/-- The first elements of a slice, wherever it lies. -/
theorem slice_head8 {a : Option Addr} {b o n c i : Nat} (hi : i ≤ c) : ∃ a1 : Option Addr, (a = some ⟨b, o, none⟩ → a1 = some ⟨b, o, none⟩) ∧
    ∀ W, (Instr.sliceAt ty (.slice a n c) none (some (.int .i64 i)) none).run Tryd.prog W = .ok (.slice a1 i c) W := by
  have hu' : Tryd.prog.underlying ty = some (.slice (Tryd.prog.elem ty)) := by rw [he]; exact hu
  refine ⟨if c = 0 then a else a.map (·.add (0 * C)), fun q => ?_, fun W => ?_⟩
  · rw [q]; split <;> simp [Addr.add]
  rw [run_sliceAt_slice _ _ _ _ _ _ hu', run_slice_h _ _ _ _ _ hu' .i64 i (by omega) (by omega), he]
  cases hq : Tryd.prog.info? el with
  | none => rw [hq] at hs; cases hs
  | some t =>
    have hi : t.size = C := by rw [hq] at hs; simpa using hs
    simp [sizeOf, typeInfo, hq, hi, sliced, Result.andThen]
end
noncomputable def preB (a b : List Stp) : Bool := @decide (a <+: b) (Classical.propDecidable _)
theorem preB_iff {a b : List Stp} : preB a b = true ↔ a <+: b := ⟨@of_decide_eq_true _ (Classical.propDecidable _), @decide_eq_true _ (Classical.propDecidable _)⟩
theorem preB_no {a b : List Stp} (h : ¬ a <+: b) : preB a b = false := @decide_eq_false _ (Classical.propDecidable _) h
theorem steps_take {p : Pth} {k : Nat} (hk : k ≤ p.n) : p.steps.take k = (List.range k).map p.S := by
  unfold Pth.steps
  rw [← List.map_take, List.take_range, Nat.min_eq_left hk]
theorem eqS_pre {p q : Pth} (h : q.n ≤ p.n) : eqS ((List.range q.n).map p.S) q.steps = preB q.steps p.steps := by
  have e : q.steps <+: p.steps ↔ q.steps = (List.range q.n).map p.S := by
    rw [List.prefix_iff_eq_take, q.steps_len, steps_take h]
  by_cases c : q.steps <+: p.steps
  · rw [preB_iff.2 c, eqS_yes (e.1 c).symm]
  · rw [preB_no c, eqS_no (fun r => c (e.2 r.symm))]
set_option maxHeartbeats 4000000 in
set_option maxRecDepth 100000 in
theorem under8_any {p q : Pth} {top : Nat} {w : World} (hp : p.In w top) (hq : q.In w top) (ht : top ≤ w.heap.size) :
    Calls Tryd.prog 16 #[.slice p.a p.n p.c, .slice q.a q.n q.c] w fun e w' => e = .returned (.bool (preB q.steps p.steps)) ∧ Below w.heap.size w w' := by
  have hpn := hp.2.1.1
  have hqn := hq.2.1.1
  have hpc := hp.2.1.2.1
  have n1 : (0 : Int) ≤ p.n := by omega
  have n2 : (0 : Int) ≤ q.n := by omega
  have n3 : (p.n : Int) ≤ 1048576 := by omega
  have n4 : (q.n : Int) ≤ 1048576 := by omega
  by_cases h : q.n ≤ p.n
  · have hI : (q.n : Int) ≤ p.n := by omega
    obtain ⟨a1, ha1, hsl⟩ := slice_head8 Tryd.underlying31 elem_path stp_size (a := p.a) (b := p.b) (o := p.o) (n := p.n) (c := p.c) (i := q.n) (by omega)
    have hp' : Pth.In w top ⟨a1, q.n, p.c, p.b, p.o, p.S⟩ := ⟨fun r => ⟨ha1 (hp.1 (show 0 < p.n by have r' : 0 < q.n := r; omega)).1, (hp.1 (show 0 < p.n by have r' : 0 < q.n := r; omega)).2⟩, ⟨hqn, Nat.le_trans h hpc, hp.2.1.2.2⟩, fun i hi => hp.2.2 i (Nat.lt_of_lt_of_le hi h)⟩
    have HE := Lib.hid (equal_any hp' hq ht)
    rw [show (Pth.steps ⟨a1, q.n, p.c, p.b, p.o, p.S⟩) = (List.range q.n).map p.S from rfl, eqS_pre h] at HE
    clear ha1 hp' hp hq
    dsimp only at HE
    go_enter Tryd.func16, Tryd.ntmps16
    go_wp2_with fail
    refine HE.out.mono ?_; rintro _ w1 ⟨rfl, hb1⟩
    clear hsl
    go_wp2
    go_ret
    exact ⟨rfl, hb1⟩
  · have hI : ¬ (q.n : Int) ≤ p.n := by omega
    have e : preB q.steps p.steps = false := preB_no fun c => h (by have := c.length_le; rw [q.steps_len, p.steps_len] at this; exact this)
    rw [e]
    clear e hp hq
    go_enter Tryd.func16, Tryd.ntmps16
    go_wp2
    go_ret
    exact ⟨rfl, Below.refl _ _⟩

/-- What a path of a walk leads to. -/
theorem walk_path {T : Vt} {p : Pth} {U : Vt} (hg : T.good) (hu : T.upto 48) (hsz : T.size ≤ 65536) (hm : (p.steps, U) ∈ T.walk []) : T.atN p.S p.n = (U, 0) ∧ pathB p.S p.n = true := by
  obtain ⟨s, h1, h2, h3, h4⟩ := Vt.walk_at hg hu hsz (q := []) hm
  rw [List.nil_append] at h1
  have hl : p.n = s.length := by rw [← p.steps_len, h1]
  have hS : ∀ i, i < p.n → p.S i = lst s i := fun i hi => by rw [Pth.steps_get hi, h1]
  refine ⟨by rw [Vt.atN_congr hS, hl]; exact h2, pathB_yes ⟨by omega, fun i hi => ?_⟩⟩
  rw [hS i hi, lst_get (by omega)]
  exact h4 _ (List.getElem_mem _)
theorem get_of {A : Vt} {S : Nat → Stp} {n : Nat} (hB : pathB S n = true) (h : (A.atN S n).2 = 0) : A.getV S n = A.atN S n := by
  unfold Vt.getV Vt.get
  rw [if_pos hB, if_pos h]
theorem setGet_all {T X A : Vt} {p : Pth} (hw : T.whole) (hg : T.good) (hu : T.upto 48) (hsz : T.size ≤ 65536) (hux : X.upto 48) (h : (T.setV p.S p.n X).2 = 0) (hA : A.Same (T.setV p.S p.n X).1) :
    A.upto 48 ∧ (A.getV p.S p.n).2 = 0 ∧ (A.getV p.S p.n).1.Same X ∧ ∀ (q : Pth) (U : Vt), (q.steps, U) ∈ T.walk [] → preB q.steps p.steps = false → preB p.steps q.steps = false → (A.getV q.S q.n).2 = 0 ∧ (A.getV q.S q.n).1.Same U := by
  have hB : pathB p.S p.n = true := by
    cases e : pathB p.S p.n with
    | true => rfl
    | false =>
      unfold Vt.setV at h
      rw [if_neg (by rw [e]; decide)] at h
      exact absurd h (by decide)
  cases hn : p.n with
  | zero =>
    rw [hn] at h hA hB
    have e : T.setV p.S 0 X = (X, 0) := by unfold Vt.setV; rw [if_pos hB, if_pos rfl]
    rw [e] at hA
    have hA : A.Same X := hA
    have e2 : A.getV p.S 0 = (A, 0) := get_of hB rfl
    rw [e2]
    refine ⟨Vt.upto_same hA hux, rfl, hA, fun q U _ _ h3 => ?_⟩
    have ep : p.steps = [] := by unfold Pth.steps; rw [hn]; rfl
    rw [ep, preB_iff.2 List.nil_prefix] at h3
    cases h3
  | succ m =>
    rw [hn] at h hA hB
    obtain ⟨a1, a2, a3⟩ := setGet_at hw hB h hA
    rw [get_of hB a2]
    refine ⟨a1, a2, a3, fun q U hm h1 h2 => ?_⟩
    obtain ⟨w1, w2⟩ := walk_path hg hu hsz hm
    rcases differ (S := p.S) (Q := q.S) (Nat.min p.n q.n) with hd | ⟨d, hd, hne, hag⟩
    · exfalso
      by_cases c : p.n ≤ q.n
      · have e : p.steps <+: q.steps := by
          rw [List.prefix_iff_eq_take, p.steps_len, steps_take c]
          exact List.map_congr_left fun i hi => hd i (by have := List.mem_range.1 hi; rw [show Nat.min p.n q.n = p.n from Nat.min_eq_left c]; exact this)
        rw [preB_iff.2 e] at h2
        cases h2
      · have e : q.steps <+: p.steps := by
          rw [List.prefix_iff_eq_take, q.steps_len, steps_take (by omega)]
          exact List.map_congr_left fun i hi => (hd i (by have := List.mem_range.1 hi; rw [show Nat.min p.n q.n = q.n from Nat.min_eq_right (by omega)]; exact this)).symm
        rw [preB_iff.2 e] at h1
        cases h1
    · have hd1 : d < p.n := Nat.lt_of_lt_of_le hd (Nat.min_le_left _ _)
      have hd2 : d < q.n := Nat.lt_of_lt_of_le hd (Nat.min_le_right _ _)
      obtain ⟨b1, b2⟩ := setGet_other hw hB h hA (by omega) hd2 (by rw [w1]) ((pathB_ok w2).2 d hd2) hne hag
      rw [get_of w2 b1]
      rw [w1] at b2
      exact ⟨b1, b2⟩
end Go.Proofs.YtfkfboiblgoamaaDoor
/- Values set: access.Set$1. -/
namespace Go.Proofs.YtfkfboiblgoamaaDoor
open Go.RowKit
set_option linter.unusedSimpArgs false
set_option linter.unusedVariables false

set_option maxHeartbeats 1000000 in
set_option maxRecDepth 100000 in
theorem set1_ok {X : Vt} {xb : Nat} {W0 : World} {n0 : Nat} (hxb : xb < n0) (hX : Whole W0 xb 30 X.h.cells) (hXT : X.In W0 n0) (hn0 : n0 ≤ W0.heap.size) :
    FnOk 27 #[.pointer (some ⟨xb, 0, none⟩)] (fun _ => X) (fun _ => True) W0 n0 := by
  intro w U hw hU _
  have hsw := hw.size
  have hb0 := ((Below.refl w.heap.size w).alloc (Nat.le_refl _) (.cells U.h.cells 30)).alloc (by simp) (.cells Vh.zero.cells 30)
  have Q := Whole.new (w.alloc (.cells U.h.cells 30)) 30 Vh.zero.cells
  rw [World.size_alloc] at Q
  have PX := ((hX.below hw hxb).alloc (.cells U.h.cells 30)).alloc (.cells Vh.zero.cells 30)
  have hXin := Lib.hid ((Vt.In.below (hw.trans (hb0.mono (Nat.le_trans hn0 hsw))) hXT))
  obtain ⟨c0, c1, c2, c3, c4, c5, c6, c7, c8, c9, c10, c11, c12⟩ := Whole.c13 (h := X.h) PX
  have hone := Lib.hid (vh_all X.h)
  have HW := Lib.hid hXT.whole
  clear hX hXT hU PX hw
  simp only [Vh.cells, Vh.zero] at hb0 Q c0 c1 c2 c3 c4 c5 c6 c7 c8 c9 c10 c11 c12 hXin ⊢
  go_enter Tryd.func27, Tryd.ntmps27
  go_wp2_with (refine wpList_store_row rfl 30 _ _ rfl (w.heap.size + 1) X.h.cells rfl rfl 30 _ Q vh_row rfl hone.out ?_)
  have Q2 := Q.setRow X.h.cells
  have hsz := Q.lt
  refine bodyPost_ret (v := .agg X.h.cells) (ret_val (p := 3) rfl rfl Q2) rfl ⟨X, rfl, ?_, ?_, Vt.Same.rfl' HW.out, below_setRow hb0 (by omega) _⟩
  · exact (hXin.out.up (by simp; omega)).stays hXin.out.off (fun b hb => setRow_other _ _ _ _ (by have : b < n0 := hb; omega)) (by rw [size_setRow]; exact Nat.le_refl _)
  · exact hXin.out.off.mono fun b hb => .inl hb
end Go.Proofs.YtfkfboiblgoamaaDoor
