/- Laid together for a claim: EvRunB, EvRow, EvLivM, EvOfS. -/
import Derived.Test.YtpcbhneaaibfiaaDoorQB28
import Derived.Test.YtpcbhneaaibfiaaDoorQB20
import Derived.Test.YtpcbhneaaibfiaaDoorQB05
import Derived.Test.YtpcbhneaaibfiaaDoorQB18
import Derived.Test.YtpcbhneaaibfiaaDoorQB10
import Derived.Deep.AppendLies
import Derived.Deep.RegionHeld3
import Derived.Test.YtpcbhneaaibfiaaDoorQB13
/- The events of a value make that value: plain. -/
namespace Go.Proofs.YtpcbhneaaibfiaaDoor
open Go.RowKit
set_option linter.unusedVariables false
set_option linter.unusedSimpArgs false

theorem sameL_cons {l : List Ev} {y : Ev} {b : List Ev} (h : SameL l (y :: b)) : ∃ x a, l = x :: a ∧ x.Same y ∧ SameL a b := by
  cases h with
  | cons h1 h2 => exact ⟨_, _, rfl, h1, h2⟩
theorem sameL_nil {l : List Ev} (h : SameL l []) : l = [] := by
  cases h; rfl
theorem sameL_app {l : List Ev} {b d : List Ev} (h : SameL l (b ++ d)) : ∃ a c, l = a ++ c ∧ SameL a b ∧ SameL c d := by
  have hl : b.length ≤ l.length := by rw [h.length]; simp
  refine ⟨l.take b.length, l.drop b.length, (List.take_append_drop _ _).symm, ?_⟩
  refine SameL.split (by rw [List.take_append_drop]; exact h) ?_
  rw [List.length_take]; omega
theorem size_lst {T : Vt} (hT : T ≠ .nil) (h6 : T.h.k = 6) : T.size = 1 + sumN (fun i => (T.L i).size) T.h.ln := by
  cases T with
  | nil => exact absurd rfl hT
  | mk h Y L K F =>
    simp only [Vt.h] at h6
    show 1 + (if h.k = 7 then _ else _) = _
    rw [if_neg (by omega)]
    rfl
theorem size_map {T : Vt} (hT : T ≠ .nil) (h7 : T.h.k = 7) : T.size = 1 + sumN (fun i => (T.F i).size) T.h.fn := by
  cases T with
  | nil => exact absurd rfl hT
  | mk h Y L K F =>
    simp only [Vt.h] at h7
    show 1 + (if h.k = 7 then _ else _) = _
    rw [if_pos h7]
    rfl
theorem size_pos (T : Vt) : 0 < T.size := by
  cases T with
  | nil => exact Nat.one_pos
  | mk h Y L K F => show 0 < 1 + _; omega
theorem keyS_part {s : Bst} {m : Nat} {f : Fr} {key : ByteArray} : keyS (part s m f) key = part s m (keyF f key) := by
  have e : ∀ g : Fr, upd (upd s.fr s.d f) s.d g = upd s.fr s.d g := fun g => by
    funext i
    by_cases z : i = s.d
    · subst z; rw [upd_same, upd_same]
    · rw [upd_other z, upd_other z, upd_other z]
  unfold keyS
  rw [part_top]
  unfold part
  simp only [Nat.add_sub_cancel, e]
theorem popS_part {s : Bst} {m : Nat} {f : Fr} : (popS (part s m f)).eqv (putS { s with nd := m } (frV f)) := by
  unfold popS
  rw [part_top]
  refine putS_eqv ⟨?_, fun i hi => ?_, rfl, rfl, rfl, rfl⟩
  · show s.d + 1 - 1 = s.d; omega
  · have hi' : i < s.d := by have : i < s.d + 1 - 1 := hi; omega
    show upd s.fr s.d f i = s.fr i
    rw [upd_other (by omega)]
theorem push_part {s : Bst} {mp : Bool} : pushS { s with nd := s.nd + 1 } mp = part s (s.nd + 1) (fr0 mp) := rfl
theorem runL_then {r : Bst × Int} {a b : List Ev} {t : Bst} (h : (runL r a).2 = 0) (he : (runL r a).1.eqv t) : (runL r (a ++ b)).1.eqv (runL (t, 0) b).1 ∧ (runL r (a ++ b)).2 = (runL (t, 0) b).2 := by
  rw [runL_append]
  have e : runL r a = ((runL r a).1, 0) := by rw [← h]
  rw [e]
  exact runL_eqv he
theorem fr_eta (mp : Bool) (f : Fr) (h : f.mp = mp) : f = ⟨mp, f.n, f.K, f.M, f.key, f.kd⟩ := by rw [← h]
theorem runs_all : ∀ T : Vt, Runs T := by
  intro T
  induction T with
  | nil => intro s l e _ hw; exact hw.elim
  | mk h Y L K F ihL ihF =>
    intro s l e hs hw hg hu hd hn hl
    have hne : Vt.mk h Y L K F ≠ .nil := by intro q; cases q
    have he := hu.1
    have own := oneE_own hg.1
    by_cases k6 : (Vt.mk h Y L K F).h.k = 6
    · have hsz := size_lst hne k6
      rw [evs_lst hne k6] at hl
      simp only [Vt.L, Vt.h] at hl hsz k6
      obtain ⟨x, l1, rfl, hx, hl1⟩ := sameL_cons hl
      obtain ⟨mid, l2, rfl, hm, hl2⟩ := sameL_app hl1
      obtain ⟨z, l3, rfl, hz, hl3⟩ := sameL_cons hl2
      obtain rfl := sameL_nil hl3
      have hxk : x.k = 2 := hx.k
      have ha := add_beg (x := x) hs (.inr (.inl hxk)) (shape_mark (.inl rfl) hx) (by omega) (by omega)
      have hst : stepS s x = part s (s.nd + 1) (fr0 false) := by
        unfold stepS
        rw [if_neg (by omega), if_neg (by omega), if_pos hxk]
        rfl
      have kids : ∀ k, k ≤ h.ln → ∀ mid, SameL mid (catL (fun i => evs (L i)) k) → ∃ K' M', (∀ j, j < k → (M' j).Same (L j)) ∧ (runL (stepS s x, 0) mid).2 = 0 ∧ (runL (stepS s x, 0) mid).1.eqv (part s (s.nd + 1 + sumN (fun i => (L i).size) k) ⟨false, k, K', M', ⟨#[]⟩, false⟩) := by
        intro k
        induction k with
        | zero =>
          intro _ mid hmid
          obtain rfl := sameL_nil hmid
          exact ⟨_, _, fun j hj => absurd hj (Nat.not_lt_zero _), rfl, by rw [runL_nil, hst]; exact Bst.eqv.rfl' _⟩
        | succ k ih =>
          intro hk mid hmid
          obtain ⟨m1, m2, rfl, hm1, hm2⟩ := sameL_app hmid
          obtain ⟨K', M', q1, q2, q3⟩ := ih (by omega) m1 hm1
          have hmono := sumN_mono (f := fun i => (L i).size) hk
          have hss : sumN (fun i => (L i).size) (k + 1) = sumN (fun i => (L i).size) k + (L k).size := rfl
          obtain ⟨T', t1, t2, t3⟩ := ihL k (part s (s.nd + 1 + sumN (fun i => (L i).size) k) ⟨false, k, K', M', ⟨#[]⟩, false⟩) m2 (e - 1) (part_rdy hs (fun q => by cases q)) (hw.1 k hk) (hg.2.1 k hk) (hu.2.1 k hk) (by show s.d + 1 + (e - 1) ≤ 48; omega) (by show s.nd + 1 + sumN (fun i => (L i).size) k + (L k).size ≤ 65536; omega) hm2
          obtain ⟨w1, w2⟩ := runL_then (b := m2) q2 q3
          have e1 : putS { part s (s.nd + 1 + sumN (fun i => (L i).size) k) ⟨false, k, K', M', ⟨#[]⟩, false⟩ with nd := (part s (s.nd + 1 + sumN (fun i => (L i).size) k) ⟨false, k, K', M', ⟨#[]⟩, false⟩).nd + (L k).size } T' = part s (s.nd + 1 + sumN (fun i => (L i).size) (k + 1)) ⟨false, k + 1, upd K' k ⟨#[]⟩, upd M' k T', ⟨#[]⟩, false⟩ := by
            rw [hss, ← Nat.add_assoc]
            exact putS_part
          rw [e1] at t3
          refine ⟨_, _, fun j hj => ?_, w2.trans t2, w1.trans t3⟩
          by_cases q : j = k
          · subst q; rw [upd_same]; exact t1
          · rw [upd_other q]; exact q1 j (by omega)
      obtain ⟨K', M', q1, q2, q3⟩ := kids h.ln (Nat.le_refl _) mid hm
      rw [runL_go ha]
      obtain ⟨w1, w2⟩ := runL_then (b := [z]) q2 q3
      have hzk : z.k = 3 := hz.k
      have hza : addE (part s (s.nd + 1 + sumN (fun i => (L i).size) h.ln) ⟨false, h.ln, K', M', ⟨#[]⟩, false⟩) z = 0 := by
        have hf : followE (part s (s.nd + 1 + sumN (fun i => (L i).size) h.ln) ⟨false, h.ln, K', M', ⟨#[]⟩, false⟩) z = 0 := by
          unfold followE
          rw [part_top, if_neg (by rw [show (part s _ _).dn = s.dn from rfl, hs.dn]; decide), if_neg (by show ¬ s.d + 1 = 0; omega), if_neg (by omega), if_pos hzk, if_neg (fun q => by cases q)]
        unfold addE
        rw [if_neg (by rw [show (part s _ _).bad = s.bad from rfl, hs.bad]; decide), if_neg (by simp [shape_mark (.inr (.inl rfl)) hz]), if_neg (by simp [hf]), if_neg (by unfold begE; omega), if_neg (by unfold begE; omega)]
      rw [runL_go hza, runL_nil] at w1 w2
      have hzs : stepS (part s (s.nd + 1 + sumN (fun i => (L i).size) h.ln) ⟨false, h.ln, K', M', ⟨#[]⟩, false⟩) z = popS (part s (s.nd + 1 + sumN (fun i => (L i).size) h.ln) ⟨false, h.ln, K', M', ⟨#[]⟩, false⟩) := by
        unfold stepS
        rw [if_neg (by omega), if_neg (by omega), if_neg (by omega), if_neg (by omega)]
      rw [hzs] at w1
      refine ⟨frV ⟨false, h.ln, K', M', ⟨#[]⟩, false⟩, ?_, w2, ?_⟩
      · exact lst_same (h := h) (m := h.ln) own k6 q1
      · have := w1.trans popS_part
        rw [hsz, ← Nat.add_assoc]
        exact this
    by_cases k7 : (Vt.mk h Y L K F).h.k = 7
    · have hsz := size_map hne k7
      have hkeys := keysE_each (oneE_keysE hg.1)
      rw [evs_map hne k7] at hl
      simp only [Vt.F, Vt.K, Vt.h] at hl hsz k7 hkeys
      obtain ⟨x, l1, rfl, hx, hl1⟩ := sameL_cons hl
      obtain ⟨mid, l2, rfl, hm, hl2⟩ := sameL_app hl1
      obtain ⟨z, l3, rfl, hz, hl3⟩ := sameL_cons hl2
      obtain rfl := sameL_nil hl3
      have hxk : x.k = 4 := hx.k
      have ha := add_beg (x := x) hs (.inr (.inr hxk)) (shape_mark (.inr (.inr (.inl rfl))) hx) (by omega) (by omega)
      have hst : stepS s x = part s (s.nd + 1) (fr0 true) := by
        unfold stepS
        rw [if_neg (by omega), if_neg (by omega), if_neg (by omega), if_pos hxk]
        rfl
      have kids : ∀ k, k ≤ h.fn → ∀ mid, SameL mid (catL (fun i => evK (K i) :: evs (F i)) k) → ∃ K' M', (∀ j, j < k → K' j = K j ∧ (M' j).Same (F j)) ∧ (runL (stepS s x, 0) mid).2 = 0 ∧ (runL (stepS s x, 0) mid).1.eqv (part s (s.nd + 1 + sumN (fun i => (F i).size) k) ⟨true, k, K', M', ⟨#[]⟩, false⟩) := by
        intro k
        induction k with
        | zero =>
          intro _ mid hmid
          obtain rfl := sameL_nil hmid
          exact ⟨_, _, fun j hj => absurd hj (Nat.not_lt_zero _), rfl, by rw [runL_nil, hst]; exact Bst.eqv.rfl' _⟩
        | succ k ih =>
          intro hk mid hmid
          obtain ⟨m1, m2, rfl, hm1, hm2⟩ := sameL_app hmid
          obtain ⟨y, m3, rfl, hy, hm3⟩ := sameL_cons hm2
          obtain ⟨K', M', q1, q2, q3⟩ := ih (by omega) m1 hm1
          have hmono := sumN_mono (f := fun i => (F i).size) hk
          have hss : sumN (fun i => (F i).size) (k + 1) = sumN (fun i => (F i).size) k + (F k).size := rfl
          obtain ⟨kw1, kw2, kw3⟩ := keyE_what (hkeys k hk)
          have hyk : y.k = 6 := hy.k
          have hyy : y.key = K k := hy.key
          have hya : addE (part s (s.nd + 1 + sumN (fun i => (F i).size) k) ⟨true, k, K', M', ⟨#[]⟩, false⟩) y = 0 := by
            have hf : followE (part s (s.nd + 1 + sumN (fun i => (F i).size) k) ⟨true, k, K', M', ⟨#[]⟩, false⟩) y = 0 := by
              unfold followE
              rw [part_top, if_neg (by rw [show (part s _ _).dn = s.dn from rfl, hs.dn]; decide), if_neg (by show ¬ s.d + 1 = 0; omega), if_pos hyk, if_neg (by simp), fidx_none (fun j hj => by rw [show Fr.K ⟨true, k, K', M', ⟨#[]⟩, false⟩ j = K' j from rfl, (q1 j hj).1, hyy]; exact kw3 j hj), if_neg (Nat.lt_irrefl _)]
            unfold addE
            rw [if_neg (by rw [show (part s _ _).bad = s.bad from rfl, hs.bad]; decide), if_neg (by simp [shape_key hy kw1 kw2]), if_neg (by simp [hf]), if_neg (by unfold begE; omega), if_neg (by unfold begE; omega)]
          have hys : stepS (part s (s.nd + 1 + sumN (fun i => (F i).size) k) ⟨true, k, K', M', ⟨#[]⟩, false⟩) y = part s (s.nd + 1 + sumN (fun i => (F i).size) k) ⟨true, k, K', M', K k, true⟩ := by
            unfold stepS
            rw [if_neg (by omega), if_pos hyk, keyS_part, hyy]
            rfl
          obtain ⟨T', t1, t2, t3⟩ := ihF k (part s (s.nd + 1 + sumN (fun i => (F i).size) k) ⟨true, k, K', M', K k, true⟩) m3 (e - 1) (part_rdy hs (fun _ => rfl)) (hw.2 k hk) (hg.2.2 k hk) (hu.2.2 k hk) (by show s.d + 1 + (e - 1) ≤ 48; omega) (by show s.nd + 1 + sumN (fun i => (F i).size) k + (F k).size ≤ 65536; omega) hm3
          obtain ⟨w1, w2⟩ := runL_then (b := y :: m3) q2 q3
          rw [runL_go hya, hys] at w1 w2
          have e1 : putS { part s (s.nd + 1 + sumN (fun i => (F i).size) k) ⟨true, k, K', M', K k, true⟩ with nd := (part s (s.nd + 1 + sumN (fun i => (F i).size) k) ⟨true, k, K', M', K k, true⟩).nd + (F k).size } T' = part s (s.nd + 1 + sumN (fun i => (F i).size) (k + 1)) ⟨true, k + 1, upd K' k (K k), upd M' k T', ⟨#[]⟩, false⟩ := by
            rw [hss, ← Nat.add_assoc]
            exact putS_part
          rw [e1] at t3
          refine ⟨_, _, fun j hj => ?_, w2.trans t2, w1.trans t3⟩
          by_cases q : j = k
          · subst q; rw [upd_same, upd_same]; exact ⟨rfl, t1⟩
          · rw [upd_other q, upd_other q]; exact q1 j (by omega)
      obtain ⟨K', M', q1, q2, q3⟩ := kids h.fn (Nat.le_refl _) mid hm
      rw [runL_go ha]
      obtain ⟨w1, w2⟩ := runL_then (b := [z]) q2 q3
      have hzk : z.k = 5 := hz.k
      have hza : addE (part s (s.nd + 1 + sumN (fun i => (F i).size) h.fn) ⟨true, h.fn, K', M', ⟨#[]⟩, false⟩) z = 0 := by
        have hf : followE (part s (s.nd + 1 + sumN (fun i => (F i).size) h.fn) ⟨true, h.fn, K', M', ⟨#[]⟩, false⟩) z = 0 := by
          unfold followE
          rw [part_top, if_neg (by rw [show (part s _ _).dn = s.dn from rfl, hs.dn]; decide), if_neg (by show ¬ s.d + 1 = 0; omega), if_neg (by omega), if_neg (by omega), if_pos hzk, if_neg (by simp)]
        unfold addE
        rw [if_neg (by rw [show (part s _ _).bad = s.bad from rfl, hs.bad]; decide), if_neg (by simp [shape_mark (.inr (.inr (.inr rfl))) hz]), if_neg (by simp [hf]), if_neg (by unfold begE; omega), if_neg (by unfold begE; omega)]
      rw [runL_go hza, runL_nil] at w1 w2
      have hzs : stepS (part s (s.nd + 1 + sumN (fun i => (F i).size) h.fn) ⟨true, h.fn, K', M', ⟨#[]⟩, false⟩) z = popS (part s (s.nd + 1 + sumN (fun i => (F i).size) h.fn) ⟨true, h.fn, K', M', ⟨#[]⟩, false⟩) := by
        unfold stepS
        rw [if_neg (by omega), if_neg (by omega), if_neg (by omega), if_neg (by omega)]
      rw [hzs] at w1
      refine ⟨frV ⟨true, h.fn, K', M', ⟨#[]⟩, false⟩, ?_, w2, ?_⟩
      · exact fld_same (h := h) (m := h.fn) own k7 q1
      · have := w1.trans popS_part
        rw [hsz, ← Nat.add_assoc]
        exact this
    · obtain ⟨hsc, h1⟩ := good_sca hw hg k6 k7
      rw [h1]
      exact run_sca hs hsc hw (by omega) (by omega) hl
/-- The events of a right value make that value. -/
theorem run_value {T : Vt} {l : List Ev} (hw : T.whole) (hok : (T.look 1 0).2 = 0) (hl : SameL l (evs T)) : ∃ T' : Vt, T'.Same T ∧ (runL (Bst.zero, 0) l).2 = 0 ∧ (runL (Bst.zero, 0) l).1.dn = true ∧ (runL (Bst.zero, 0) l).1.out = T' := by
  obtain ⟨g1, g2, g3⟩ := Vt.look_ok (d := 1) (s := 0) hw hok
  have hb := (Vt.look_bd T 1 0 (by decide)).2
  have g3' : (T.look 1 0).1 = (0 : Int) + T.size := g3
  obtain ⟨T', t1, t2, t3⟩ := runs_all T Bst.zero l 48 ⟨rfl, rfl, fun q => absurd q (Nat.lt_irrefl _)⟩ hw g1 g2 (by decide) (by show 0 + T.size ≤ 65536; omega) hl
  refine ⟨T', t1, t2, ?_⟩
  have e : putS { Bst.zero with nd := Bst.zero.nd + T.size } T' = { Bst.zero with nd := Bst.zero.nd + T.size, dn := true, out := T' } := by
    exact if_pos rfl
  rw [e] at t3
  exact ⟨t3.dn, t3.out⟩
end Go.Proofs.YtpcbhneaaibfiaaDoor
/- Rows of events that a call makes: plain. -/
namespace Go.Proofs.YtpcbhneaaibfiaaDoor
open Go.RowKit
set_option linter.unusedVariables false

theorem Tryd.infoEvt : (Tryd.prog.info? 57).map (fun i => (i.zero, i.size, i.bytes)) = some (some (.agg (evc 0 ⟨#[]⟩ Vh.zero)), 15, 192) := by kernel_rfl
def nth (l : List Ev) (i : Nat) : Ev := l.getD i default
theorem nth_left {a b : List Ev} {i : Nat} (h : i < a.length) : nth (a ++ b) i = nth a i := by unfold nth; simp [List.getD_eq_getElem?_getD, List.getElem?_append_left h]
theorem nth_last {a : List Ev} {y : Ev} : nth (a ++ [y]) a.length = y := by unfold nth; simp
theorem nth_get {l : List Ev} {i : Nat} {x : Ev} (h : l[i]? = some x) : nth l i = x := by unfold nth; simp [List.getD_eq_getElem?_getD, h]
/-- A row of events: what lies in it is the same as this list. -/
def RowE (B : Nat) (S : Nat → Prop) (W : World) (v : Value) (l : List Ev) : Prop := RowG Ev.cells Ev.V 15 57 B S (fun t x => x.Same (nth l t) ∧ x.ok) W v l.length
theorem RowE.nil (B : Nat) (S : Nat → Prop) (W : World) : RowE B S W (.slice none 0 0) [] := RowG.nil
theorem RowE.congr {B : Nat} {S : Nat → Prop} {W : World} {v : Value} {l m : List Ev} (h : RowE B S W v l) (hs : SameL l m) : RowE B S W v m := by
  obtain ⟨f, ho, hf⟩ := h
  unfold RowE
  rw [← hs.length]
  refine ⟨f, ho, fun i hi => ⟨(hf i hi).1, (hf i hi).2.1, (hf i hi).2.2.1.trans ?_, (hf i hi).2.2.2⟩⟩
  have h1 : l[i]? = some l[i] := List.getElem?_eq_getElem hi
  have h2 : m[i]? = some (m[i]'(by rw [← hs.length]; exact hi)) := List.getElem?_eq_getElem _
  rw [nth_get h1, nth_get h2]
  exact hs.get h1 h2
/-- One more event. -/
theorem RowE.push {B : Nat} {S : Nat → Prop} {W1 W3 : World} {v v' : Value} {l : List Ev} {x y : Ev} {f : Nat → Ev} (ho : W1.ownsRow B 57 15 v l.length (catN (fun i => (f i).cells) l.length))
    (hf : ∀ i, i < l.length → (f i).V.In W1 W1.heap.size ∧ (f i).V.Off (fun b => S b ∧ some b ≠ v.ownBlock) ∧ (f i).Same (nth l i) ∧ (f i).ok) (hx : x.V.In W1 W1.heap.size) (hS : x.V.Off S) (hxo : ∀ g, v.ownBlock = some g → x.V.Off (· ≠ g)) (hxy : x.Same y) (hxk : x.ok)
    (ho3 : W3.ownsRow B 57 15 v' (l.length + 1) (catN (fun i => (f i).cells) l.length ++ x.cells.toList)) (hg : W1.grownBy W3 v.ownBlock) (hv : v'.ownBlock = v.ownBlock ∨ v'.ownBlock = some W1.heap.size) :
    RowE B S W3 v' (l ++ [y]) := by
  unfold RowE
  rw [List.length_append]
  refine RowG.push (q := fun t z => z.Same (nth (l ++ [y]) t) ∧ z.ok) (x := x) ho (fun i hi => ⟨(hf i hi).1, (hf i hi).2.1, ?_⟩) hx hS hxo ?_ ho3 hg hv
  · rw [nth_left hi]; exact (hf i hi).2.2
  · rw [nth_last]; exact ⟨hxy, hxk⟩
theorem RowE.below {B : Nat} {S : Nat → Prop} {W W' : World} {v : Value} {l : List Ev} (h : RowE B S W v l) (hb : Below W.heap.size W W') : RowE B S W' v l := RowG.below h hb
theorem RowE.sl {B : Nat} {S : Nat → Prop} {W : World} {v : Value} {l : List Ev} (h : RowE B S W v l) : ∃ a c, v = .slice a l.length c := by
  obtain ⟨f, ⟨_, h⟩, _⟩ := h
  rcases h with ⟨rfl, h1⟩ | ⟨g, cap, cur, rfl, _⟩
  · rw [h1]; exact ⟨_, _, rfl⟩
  · exact ⟨_, _, rfl⟩
/-- A finished row is a list of events. -/
theorem RowE.evs {B : Nat} {S : Nat → Prop} {W : World} {v : Value} {l : List Ev} (h : RowE B S W v l) (hn : l.length ≤ 1048576) :
    ∃ p : Evs, v = .slice p.a p.n p.c ∧ p.In W W.heap.size ∧ SameL ((List.range p.n).map p.S) l ∧ (0 < p.n → B ≤ p.b) ∧ ∀ i, i < p.n → (p.S i).V.Off S := by
  obtain ⟨f, a, c, b, rfl, hcc, ha, hrows⟩ := RowG.done (cs := Ev.cells) (fun x : Ev => evc_size x.k x.key x.V.h) h
  refine ⟨⟨a, l.length, c, b, 0, f⟩, rfl, ⟨fun q => ⟨(ha q).1, (ha q).2.2⟩, ⟨hn, hcc⟩, fun i hi => ⟨by simpa using (hrows i hi).1, (hrows i hi).2.2.2.2, (hrows i hi).2.1⟩⟩, ?_, fun q => (ha q).2.1, fun i hi => (hrows i hi).2.2.1⟩
  refine SameL.of_get (by simp) fun i x y h1 h2 => ?_
  have hi : i < l.length := (List.getElem?_eq_some_iff.1 h2).1
  have hx : x = f i := by
    simp [hi] at h1
    exact h1.symm
  rw [hx, ← nth_get h2]
  exact (hrows i hi).2.2.2.1
/-- How many events a value has. -/
theorem evs_len (T : Vt) : (evs T).length + 1 ≤ 3 * T.size := by
  induction T with
  | nil => decide
  | mk h Y L K F ihL ihF =>
    have hs : ∀ (f g : Nat → Nat) (n : Nat), (∀ i, f i + 1 ≤ 3 * g i) → sumN f n ≤ 3 * sumN g n := by
      intro f g n hfg
      induction n with
      | zero => exact Nat.le_refl _
      | succ n ih =>
        show sumN f n + f n ≤ 3 * (sumN g n + g n)
        have := hfg n
        omega
    by_cases k6 : h.k = 6
    · have e1 : evs (.mk h Y L K F) = evM 2 :: (catL (fun i => evs (L i)) h.ln ++ [evM 3]) := if_pos k6
      have e2 : (Vt.mk h Y L K F).size = 1 + sumN (fun i => (L i).size) h.ln := by show 1 + (if h.k = 7 then _ else _) = _; rw [if_neg (by omega)]
      rw [e1, e2, List.length_cons, List.length_append, catL_len]
      have := hs (fun i => (evs (L i)).length) (fun i => (L i).size) h.ln ihL
      simp only [List.length_singleton]
      omega
    by_cases k7 : h.k = 7
    · have e1 : evs (.mk h Y L K F) = evM 4 :: (catL (fun i => evK (K i) :: evs (F i)) h.fn ++ [evM 5]) := by show (if h.k = 6 then _ else _) = _; rw [if_neg k6, if_pos k7]
      have e2 : (Vt.mk h Y L K F).size = 1 + sumN (fun i => (F i).size) h.fn := by show 1 + (if h.k = 7 then _ else _) = _; rw [if_pos k7]
      rw [e1, e2, List.length_cons, List.length_append, catL_len]
      have hs2 : ∀ (f g : Nat → Nat) (n : Nat), (∀ i, f i ≤ 3 * g i) → sumN f n ≤ 3 * sumN g n := by
        intro f g n hfg
        induction n with
        | zero => exact Nat.le_refl _
        | succ n ih =>
          show sumN f n + f n ≤ 3 * (sumN g n + g n)
          have := hfg n
          omega
      have := hs2 (fun i => (evK (K i) :: evs (F i)).length) (fun i => (F i).size) h.fn (fun i => ihF i)
      simp only [List.length_singleton]
      omega
    · have e1 : evs (.mk h Y L K F) = [evS (.mk h Y L K F)] := by show (if h.k = 6 then _ else _) = _; rw [if_neg k6, if_neg k7]
      have e2 : 0 < (Vt.mk h Y L K F).size := by show 0 < 1 + _; omega
      rw [e1]
      simp only [List.length_singleton]
      omega
end Go.Proofs.YtpcbhneaaibfiaaDoor
/- The events of which 'lives' asks: plain. -/
namespace Go.Proofs.YtpcbhneaaibfiaaDoor
open Go.RowKit
set_option linter.unusedSimpArgs false
set_option linter.unusedVariables false

theorem utfB_a : utfB ⟨#[97]⟩ = true := by
  obtain ⟨rs, hs⟩ := Utf.left_split ⟨#[97]⟩
  have h1 := hs.eq
  have h3 := hs.bad
  unfold utfB
  generalize Utf.left ⟨#[97]⟩ = r at *
  apply decide_eq_true
  cases rs with
  | nil =>
    have e : r = [97] := h1.symm
    rw [e] at h3
    exact absurd h3 (by decide)
  | cons x rs =>
    have h4 := congrArg List.length h1
    rw [Utf.encs_cons, List.length_append, List.length_append, Utf.enc_length] at h4
    have h5 : 1 ≤ Utf.wid x := by
      unfold Utf.wid
      split
      · exact Nat.le_refl _
      split
      · decide
      split <;> decide
    simp at h4
    omega
def lvH : Vh := { Vh.zero with k := 1, b := true }
def lvS : Vt := .mk lvH (fun _ => 0) (fun _ => .nil) (fun _ => ⟨#[]⟩) (fun _ => .nil)
def lvT : Vt := .mk { Vh.zero with k := 7, fn := 1 } (fun _ => 0) (fun _ => .nil) (fun _ => ⟨#[97]⟩) (fun _ => lvS)
def lvE (i : Nat) : Ev := if i = 0 then evM 4 else if i = 1 then evK ⟨#[97]⟩ else if i = 2 then evS lvS else evM 5
def lvP (b : Nat) : Evs := ⟨some ⟨b, 0, none⟩, 4, 4, b, 0, lvE⟩
theorem lv_evs : evs lvT = [evM 4, evK ⟨#[97]⟩, evS lvS, evM 5] := rfl
theorem lv_list (b : Nat) : (lvP b).list = [evM 4, evK ⟨#[97]⟩, evS lvS, evM 5] := rfl
theorem lv_whole : lvT.whole := ⟨fun i hi => absurd hi (Nat.not_lt_zero _), fun i hi => ⟨fun i hi => absurd hi (Nat.not_lt_zero _), fun i hi => absurd hi (Nat.not_lt_zero _)⟩⟩
theorem lv_same (b : Nat) : SameL (lvP b).list (evs lvT) := by
  rw [lv_list, lv_evs]
  exact .cons (evM_same 4) (.cons (evK_same _) (.cons ⟨rfl, rfl, Vt.Same.rfl' (lv_whole.2 0 Nat.one_pos)⟩ (.cons (evM_same 5) .nil)))
theorem ba_nil_l : (⟨#[]⟩ : ByteArray).toList = [] := by rw [Lib.toList_data]
theorem lv_oneS : oneE lvS = 0 := by
  have ho : lvS.h.own = true := by simp [lvS, lvH, Vt.h, Vh.zero, Vh.own, ownB, Vh.nz, Vh.tz0, ba_nil_l]
  unfold oneE
  rw [if_neg (by rw [ho]; decide), if_neg (by
    rintro (q | ⟨q, -⟩)
    · exact q (vd_zero rfl)
    · exact absurd q (by decide)), if_neg (by rw [show lvS.h.x = ⟨#[]⟩ from rfl, utfB_nil rfl]; decide), if_neg (by
    rintro (q | q)
    · exact absurd q (Nat.not_lt_zero _)
    · exact absurd q (Nat.not_lt_zero _))]
  rfl
theorem lv_oneT : oneE lvT = 0 := by
  have ho : lvT.h.own = true := by simp [lvT, Vt.h, Vh.zero, Vh.own, ownB, Vh.nz, Vh.tz0, ba_nil_l]
  unfold oneE
  rw [if_neg (by rw [ho]; decide), if_neg (by
    rintro (q | ⟨q, -⟩)
    · exact q (vd_zero rfl)
    · exact absurd q (by decide)), if_neg (by rw [show lvT.h.x = ⟨#[]⟩ from rfl, utfB_nil rfl]; decide), if_neg (by
    rintro (q | q)
    · exact absurd q (Nat.not_lt_zero _)
    · exact absurd q (Nat.not_lt_zero _))]
  show keysE (fun _ => ⟨#[97]⟩) 1 = 0
  refine keysE_next rfl ?_
  unfold keyE
  rw [if_neg (by rw [utfB_a]; decide), if_neg (by show ¬ 1024 < 1; omega), if_neg (by rintro ⟨k, hk, -⟩; omega)]
theorem lv_look : (lvT.look 1 0).2 = 0 := by
  have hS : ∀ t : Int, t < 65536 → (lvS.look 2 t).2 = 0 := fun t ht => by
    rw [Vt.look_eq (by intro e; cases e), if_neg (by omega), if_neg (by omega), if_neg (by simp [lv_oneS])]
    rfl
  rw [Vt.look_eq (by intro e; cases e), if_neg (by omega), if_neg (by omega), if_neg (by simp [lv_oneT])]
  show (foldE (fun i t => lvS.look 2 t) 1 1).2 = 0
  rw [foldE_succ (by rfl)]
  exact hS 1 (by omega)
theorem lv_runs (b : Nat) : (runN (lvP b) 4).2 = 0 ∧ (runN (lvP b) 4).1.dn = true ∧ (runN (lvP b) 4).1.out.Same lvT := by
  obtain ⟨T', h1, h2, h3, h4⟩ := run_value lv_whole lv_look (lv_same b)
  have e : runN (lvP b) 4 = runL (Bst.zero, 0) (lvP b).list := runN_all (lvP b)
  rw [e, h4]
  exact ⟨h2, h3, h1⟩
theorem lv_valE (b : Nat) : valE (lvP b) = 0 := by
  obtain ⟨h1, h2, h3⟩ := lv_runs b
  rw [valE_end h1, show (runN (lvP b) (lvP b).n).1.dn = true from h2, if_pos rfl]
theorem lv_valT (b : Nat) : (valT (lvP b)).Same lvT := by
  unfold valT
  rw [if_pos (lv_valE b)]
  exact (lv_runs b).2.2
theorem lv_whE (b : Nat) : whE (lvP b) 2 = (0, [stK ⟨#[97]⟩]) := by
  have h4 := (lv_runs b).1
  have hz : ∀ j, j ≤ 4 → (runN (lvP b) j).2 = 0 := fun j hj => Classical.byContradiction fun q => q (by rw [← runN_bad q hj]; exact h4)
  have r1 := runN_succ (p := lvP b) (j := 0) (show 0 < 4 by decide) (hz 0 (by omega))
  have r2 := runN_succ (p := lvP b) (j := 1) (show 1 < 4 by decide) (hz 1 (by omega))
  have r3 := runN_succ (p := lvP b) (j := 2) (show 2 < 4 by decide) (hz 2 (by omega))
  have e1 : addE Bst.zero (evM 4) = 0 := by have := hz 1 (by omega); rw [r1] at this; exact this
  have s1 : (runN (lvP b) 1).1 = pushS { Bst.zero with nd := Bst.zero.nd + 1 } true := by
    rw [r1]
    show addS Bst.zero (evM 4) = _
    rw [addS_ok e1]
    rfl
  have e2 : addE (runN (lvP b) 1).1 (evK ⟨#[97]⟩) = 0 := by have := hz 2 (by omega); rw [r2] at this; exact this
  have s2 : (runN (lvP b) 2).1 = keyS (pushS { Bst.zero with nd := Bst.zero.nd + 1 } true) ⟨#[97]⟩ := by
    rw [r2]
    show addS (runN (lvP b) 1).1 (evK ⟨#[97]⟩) = _
    rw [addS_ok e2, s1]
    rfl
  have e3 : addE (runN (lvP b) 2).1 (evS lvS) = 0 := by have := hz 3 (by omega); rw [r3] at this; exact this
  have hw : whereS (runN (lvP b) 2).1 (evS lvS) = [stK ⟨#[97]⟩] := by
    unfold whereS
    rw [if_neg (by decide), if_neg (by decide), s2]
    rfl
  unfold whE
  rw [if_neg (by
    rintro (q | q)
    · exact absurd q (by decide)
    · exact absurd q (by show ¬ ((4 : Nat) : Int) ≤ 2; decide))]
  show (if (runN (lvP b) 2).2 ≠ 0 then _ else (addE (runN (lvP b) 2).1 (evS lvS), if addE (runN (lvP b) 2).1 (evS lvS) = 0 then whereS (runN (lvP b) 2).1 (evS lvS) else [])) = _
  rw [if_neg (by simp [hz 2 (by omega)]), e3, if_pos rfl, hw]
theorem lvS_in (W : World) (top : Nat) : lvS.In W top := by
  refine ⟨⟨?_, ?_, ?_, ?_, ?_, ?_, ?_, ?_, ?_, ?_, ?_, ?_, ?_⟩, fun h => absurd h (Nat.lt_irrefl _), fun i h => absurd h (Nat.not_lt_zero _), fun h => absurd h (Nat.lt_irrefl _), fun i h => absurd h (Nat.not_lt_zero _), fun h => absurd h (Nat.lt_irrefl _), fun i h => absurd h (Nat.not_lt_zero _)⟩ <;> simp [lvH, Vh.zero, w64, ByteArray.size]
def lvC : Array Value := #[.int .i64 4, .string ⟨#[]⟩, .int .i64 0, .bool false, .bool false, .string ⟨#[]⟩, .int .i64 0, .int .i64 0, .int .i64 0, .int .i64 0, .int .i64 0, .string ⟨#[]⟩, .slice none 0 0, .slice none 0 0, .slice none 0 0, .int .i64 6, .string ⟨#[97]⟩, .int .i64 0, .bool false, .bool false, .string ⟨#[]⟩, .int .i64 0, .int .i64 0, .int .i64 0, .int .i64 0, .int .i64 0, .string ⟨#[]⟩, .slice none 0 0, .slice none 0 0, .slice none 0 0, .int .i64 1, .string ⟨#[]⟩, .int .i64 1, .bool true, .bool false, .string ⟨#[]⟩, .int .i64 0, .int .i64 0, .int .i64 0, .int .i64 0, .int .i64 0, .string ⟨#[]⟩, .slice none 0 0, .slice none 0 0, .slice none 0 0, .int .i64 5, .string ⟨#[]⟩, .int .i64 0, .bool false, .bool false, .string ⟨#[]⟩, .int .i64 0, .int .i64 0, .int .i64 0, .int .i64 0, .int .i64 0, .string ⟨#[]⟩, .slice none 0 0, .slice none 0 0, .slice none 0 0]
theorem lv_in {W : World} {b : Nat} (P : Whole W b 57 lvC) : (lvP b).In W W.heap.size := by
  refine ⟨fun _ => ⟨rfl, P.lt⟩, ⟨by show 4 ≤ 1048576; omega, Nat.le_refl _, by show 4 ≤ maxLen; unfold maxLen; omega⟩, fun i hi => ?_⟩
  have hi4 : i = 0 ∨ i = 1 ∨ i = 2 ∨ i = 3 := by have : i < 4 := hi; omega
  rcases hi4 with rfl | rfl | rfl | rfl
  · refine ⟨fun j hj => ?_, ⟨(show w64 (evM 4).k from ⟨by decide, by decide⟩), (show (evM 4).key.size ≤ 1048576 from by decide)⟩, Vt.z_in _ _⟩
    have hj15 : j < 15 := hj
    show W.cell? ⟨b, 0 + 0 * 15 + j, none⟩ = _
    rw [P.cell]
    have hj' : j = 0 ∨ j = 1 ∨ j = 2 ∨ j = 3 ∨ j = 4 ∨ j = 5 ∨ j = 6 ∨ j = 7 ∨ j = 8 ∨ j = 9 ∨ j = 10 ∨ j = 11 ∨ j = 12 ∨ j = 13 ∨ j = 14 := by omega
    rcases hj' with rfl | rfl | rfl | rfl | rfl | rfl | rfl | rfl | rfl | rfl | rfl | rfl | rfl | rfl | rfl <;> rfl
  · refine ⟨fun j hj => ?_, ⟨(show w64 (evK ⟨#[97]⟩).k from ⟨by decide, by decide⟩), (show (evK ⟨#[97]⟩).key.size ≤ 1048576 from by decide)⟩, Vt.z_in _ _⟩
    have hj15 : j < 15 := hj
    show W.cell? ⟨b, 0 + 1 * 15 + j, none⟩ = _
    rw [P.cell]
    have hj' : j = 0 ∨ j = 1 ∨ j = 2 ∨ j = 3 ∨ j = 4 ∨ j = 5 ∨ j = 6 ∨ j = 7 ∨ j = 8 ∨ j = 9 ∨ j = 10 ∨ j = 11 ∨ j = 12 ∨ j = 13 ∨ j = 14 := by omega
    rcases hj' with rfl | rfl | rfl | rfl | rfl | rfl | rfl | rfl | rfl | rfl | rfl | rfl | rfl | rfl | rfl <;> rfl
  · refine ⟨fun j hj => ?_, ⟨(show w64 (evS lvS).k from ⟨by decide, by decide⟩), (show (evS lvS).key.size ≤ 1048576 from by decide)⟩, lvS_in _ _⟩
    have hj15 : j < 15 := hj
    show W.cell? ⟨b, 0 + 2 * 15 + j, none⟩ = _
    rw [P.cell]
    have hj' : j = 0 ∨ j = 1 ∨ j = 2 ∨ j = 3 ∨ j = 4 ∨ j = 5 ∨ j = 6 ∨ j = 7 ∨ j = 8 ∨ j = 9 ∨ j = 10 ∨ j = 11 ∨ j = 12 ∨ j = 13 ∨ j = 14 := by omega
    rcases hj' with rfl | rfl | rfl | rfl | rfl | rfl | rfl | rfl | rfl | rfl | rfl | rfl | rfl | rfl | rfl <;> rfl
  · refine ⟨fun j hj => ?_, ⟨(show w64 (evM 5).k from ⟨by decide, by decide⟩), (show (evM 5).key.size ≤ 1048576 from by decide)⟩, Vt.z_in _ _⟩
    have hj15 : j < 15 := hj
    show W.cell? ⟨b, 0 + 3 * 15 + j, none⟩ = _
    rw [P.cell]
    have hj' : j = 0 ∨ j = 1 ∨ j = 2 ∨ j = 3 ∨ j = 4 ∨ j = 5 ∨ j = 6 ∨ j = 7 ∨ j = 8 ∨ j = 9 ∨ j = 10 ∨ j = 11 ∨ j = 12 ∨ j = 13 ∨ j = 14 := by omega
    rcases hj' with rfl | rfl | rfl | rfl | rfl | rfl | rfl | rfl | rfl | rfl | rfl | rfl | rfl | rfl | rfl <;> rfl
end Go.Proofs.YtpcbhneaaibfiaaDoor
/- The events of a value, appended to others: event.of. -/
namespace Go.Proofs.YtpcbhneaaibfiaaDoor
open Go.RowKit
set_option linter.unusedSimpArgs false
set_option linter.unusedVariables false

/-- What of answers. -/
def OfOut (B : Nat) (v : Value) (l : List Ev) (w : World) (e : Ending) (w' : World) : Prop := ∃ (a : Option Addr) (c : Nat), e = .returned (.slice a l.length c) ∧ RowE B (B ≤ ·) w' (.slice a l.length c) l ∧ Kept (fun b => v.ownBlock = some b) w w' ∧ ∀ b, (Value.slice a l.length c).ownBlock = some b → v.ownBlock = some b ∨ w.heap.size ≤ b
def OfIs (T : Vt) : Prop := ∀ (l : List Ev) (a : Option Addr) (c top B : Nat) (w : World), T.In w top → top ≤ B → B ≤ w.heap.size → RowE B (B ≤ ·) w (.slice a l.length c) l → l.length + (evs T).length ≤ 1000000 → T.upto 65536 →
    Calls Tryd.prog 38 #[.slice a l.length c, .agg T.h.cells] w (OfOut B (.slice a l.length c) (l ++ evs T) w)
theorem kept_app {W W1 W2 : World} {v : Value} (hb : Below W.heap.size W W1) (hg : W1.grownBy W2 v.ownBlock) : Kept (fun b => v.ownBlock = some b) W W2 := (Kept.of hb).trans (kept_grown (X := fun b => v.ownBlock = some b) hg (fun g hg => hg)) (fun b q => .inl q)
theorem own_app {W W1 : World} {v v' : Value} (hb : W.heap.size ≤ W1.heap.size) (hv : v'.ownBlock = v.ownBlock ∨ v'.ownBlock = some W1.heap.size) : ∀ b, v'.ownBlock = some b → v.ownBlock = some b ∨ W.heap.size ≤ b := fun b q => by
  rcases hv with hv | hv
  · rw [hv] at q; exact .inl q
  · rw [hv] at q; cases q; exact .inr hb
theorem evM_ok {k : Int} (hk : w64 k) : (evM k).ok := ⟨hk, Nat.zero_le _⟩
theorem off_z (S : Nat → Prop) : Vt.z.Off S := ⟨fun q => absurd q (Nat.lt_irrefl _), fun q => absurd q (Nat.lt_irrefl _), fun i hi => absurd hi (Nat.not_lt_zero _), fun q => absurd q (Nat.lt_irrefl _), fun i hi => absurd hi (Nat.not_lt_zero _)⟩
/-- A mark more. -/
theorem RowE.mark {B : Nat} {W1 W3 : World} {v v' : Value} {l : List Ev} {k : Int} {key : ByteArray} {f : Nat → Ev} (hk : w64 k) (hkey : key.size ≤ 1048576) (ho : W1.ownsRow B 57 15 v l.length (catN (fun i => (f i).cells) l.length))
    (hf : ∀ i, i < l.length → (f i).V.In W1 W1.heap.size ∧ (f i).V.Off (fun b => B ≤ b ∧ some b ≠ v.ownBlock) ∧ (f i).Same (nth l i) ∧ (f i).ok)
    (ho3 : W3.ownsRow B 57 15 v' (l.length + 1) (catN (fun i => (f i).cells) l.length ++ (Ev.mk k key Vt.z).cells.toList)) (hg : W1.grownBy W3 v.ownBlock) (hv : v'.ownBlock = v.ownBlock ∨ v'.ownBlock = some W1.heap.size) :
    RowE B (B ≤ ·) W3 v' (l ++ [Ev.mk k key Vt.z]) :=
  RowE.push (x := ⟨k, key, Vt.z⟩) ho hf (Vt.z_in _ _) (off_z _) (fun g hg => off_z _) ⟨rfl, rfl, Vt.z_same⟩ ⟨hk, hkey⟩ ho3 hg hv
set_option maxHeartbeats 8000000 in
set_option maxRecDepth 100000 in
theorem of_sca {h : Vh} {Y : Nat → Int} {L : Nat → Vt} {K : Nat → ByteArray} {F : Nat → Vt} (k6 : h.k ≠ 6) (k7 : h.k ≠ 7) : OfIs (.mk h Y L K F) := by
  intro l va vc top B w hT ht hB hR hlen hup
  have hb0 := (Below.refl w.heap.size w).alloc (Nat.le_refl _) (.cells h.cells 30)
  have P := Whole.new w 30 h.cells
  have hR0 := hR.below hb0
  have HR0 := Lib.hid hR0
  have hT0 := Vt.In.below (hb0.mono (Nat.le_trans ht hB)) hT
  have hw0 : (w.alloc (.cells h.cells 30)).heap.size = w.heap.size + 1 := World.size_alloc _ _
  have hvo : Hid (∀ g, (Value.slice va l.length vc).ownBlock = some g → B ≤ g ∧ g < w.heap.size) := Lib.hid (by
    obtain ⟨f, ho, -⟩ := hR
    exact fun g hg => own_lt ho hg)
  obtain ⟨i0, hi0, hz0, hz1, hz2⟩ := info_parts Tryd.infoEvt
  have he : evs (.mk h Y L K F) = [evS (.mk h Y L K F)] := by show (if h.k = 6 then _ else _) = _; rw [if_neg k6, if_neg k7]
  have HC := Lib.hid (copy_any (T := .mk h Y L K F) (w := w.alloc (.cells h.cells 30)) hT0 (by omega) hup)
  rw [he] at hlen ⊢
  simp only [List.length_singleton] at hlen
  have HEnd : Hid (∀ (X : Vt) (w1 w2 w3 : World) (v' : Value) (f : Nat → Ev), X.In w1 w1.heap.size → X.Off (w.heap.size + 1 ≤ ·) → X.Same (.mk h Y L K F) → Below w.heap.size w w1 → Below w1.heap.size w1 w2 → w2.ownsRow B 57 15 (.slice va l.length vc) l.length (catN (fun i => (f i).cells) l.length) →
      (∀ i, i < l.length → (f i).V.In w2 w2.heap.size ∧ (f i).V.Off (fun b => B ≤ b ∧ some b ≠ (Value.slice va l.length vc).ownBlock) ∧ (f i).Same (nth l i) ∧ (f i).ok) →
      w3.ownsRow B 57 15 v' (l.length + 1) (catN (fun i => (f i).cells) l.length ++ (Ev.mk 1 ⟨#[]⟩ X).cells.toList) → w2.grownBy w3 (Value.slice va l.length vc).ownBlock → (v'.ownBlock = (Value.slice va l.length vc).ownBlock ∨ v'.ownBlock = some w2.heap.size) →
      OfOut B (.slice va l.length vc) (l ++ [evS (.mk h Y L K F)]) w (.returned v') w3) := Lib.hid (fun X w1 w2 w3 v' f hX hXo hXs hb1 hb2 ho hf ho3 hg hv => by
    have hr := RowE.push (x := ⟨1, ⟨#[]⟩, X⟩) (y := evS (.mk h Y L K F)) ho hf (hX.later hb2) (hXo.mono fun b q => by omega) (fun g hg => hXo.mono fun b q => by have := (hvo.out g hg).2; omega) ⟨rfl, rfl, hXs⟩ ⟨(show w64 1 from ⟨by decide, by decide⟩), Nat.zero_le _⟩ ho3 hg hv
    obtain ⟨a, c, rfl⟩ := hr.sl
    exact ⟨a, c, rfl, hr, kept_app (below_then hb1 hb2) hg, own_app (Nat.le_trans hb1.size hb2.size) hv⟩)
  have d6 : (h.k == 6) = false := beq_eq_false_iff_ne.2 k6
  have d7 : (h.k == 7) = false := beq_eq_false_iff_ne.2 k7
  obtain ⟨c0, c1, c2, c3, c4, c5, c6, c7, c8, c9, c10, c11, c12⟩ := Whole.c13 (h := h) P
  clear hT hR hT0 hup he hR0 hvo k6 k7 P
  simp only [Vt.h, Vh.cells] at HC hb0 HR0 hw0 c0 c1 c2 c3 c4 c5 c6 c7 c8 c9 c10 c11 c12 ⊢
  go_enter Tryd.func38, Tryd.ntmps38
  go_wp2_with fail
  refine HC.out.mono ?_; rintro _ w1 ⟨X, rfl, hX, hXo, hXs, hb1⟩
  have g1 := below_then hb0 hb1
  have HR1 := Lib.hid (HR0.out.below hb1)
  rw [hw0] at hXo
  have HX := Lib.hid (And.intro hX (And.intro hXo hXs))
  have hw1 := hb1.size
  clear HC hX hXo hXs hb1 c0 c1 c2 c3 c4 c5 c6 c7 c8 c9 c10 c11 c12 HR0 hb0
  obtain ⟨f, hown, hf⟩ := HR1.out.below ((Below.refl w1.heap.size w1).alloc (Nat.le_refl _) (.cells #[.int .i64 1, .string ⟨#[]⟩, .int .i64 X.h.k, .bool X.h.b, .bool X.h.n, .string X.h.d, .int .i64 X.h.e, .int .i64 X.h.tk, .int .i64 X.h.td, .int .i64 X.h.tn, .int .i64 X.h.tz, .string X.h.x, .slice X.h.ba X.h.bn X.h.bc, .slice X.h.la X.h.ln X.h.lc, .slice X.h.fa X.h.fn X.h.fc] 57))
  have Hf := Lib.hid hf
  have HOwn := Lib.hid hown
  have s1 := Lib.hid (cells_new w1 57 #[.int .i64 1, .string ⟨#[]⟩, .int .i64 X.h.k, .bool X.h.b, .bool X.h.n, .string X.h.d, .int .i64 X.h.e, .int .i64 X.h.tk, .int .i64 X.h.td, .int .i64 X.h.tn, .int .i64 X.h.tz, .string X.h.x, .slice X.h.ba X.h.bn X.h.bc, .slice X.h.la X.h.ln X.h.lc, .slice X.h.fa X.h.fn X.h.fc])
  have s2 : Hid (∀ u ∈ (#[.int .i64 1, .string ⟨#[]⟩, .int .i64 X.h.k, .bool X.h.b, .bool X.h.n, .string X.h.d, .int .i64 X.h.e, .int .i64 X.h.tk, .int .i64 X.h.td, .int .i64 X.h.tn, .int .i64 X.h.tz, .string X.h.x, .slice X.h.ba X.h.bn X.h.bc, .slice X.h.la X.h.ln X.h.lc, .slice X.h.fa X.h.fn X.h.fc] : Array Value).toList, u.oneCell' = true) := Lib.hid (by simp [Value.oneCell'])
  have s3 : Hid (l.length + 1 ≤ maxLen) := Lib.hid (by unfold maxLen; omega)
  have s4 : Hid ((l.length + 1) * 192 ≤ 140737488355328) := Lib.hid (by omega)
  have s5 : Hid (B ≤ (w1.alloc (.cells #[.int .i64 1, .string ⟨#[]⟩, .int .i64 X.h.k, .bool X.h.b, .bool X.h.n, .string X.h.d, .int .i64 X.h.e, .int .i64 X.h.tk, .int .i64 X.h.td, .int .i64 X.h.tn, .int .i64 X.h.tz, .string X.h.x, .slice X.h.ba X.h.bn X.h.bc, .slice X.h.la X.h.ln X.h.lc, .slice X.h.fa X.h.fn X.h.fc] 57)).heap.size) := Lib.hid (by rw [World.size_alloc]; omega)
  clear hf
  go_wp2_with (first | (at_builtin; refine wpList_append_told _ rfl _ _ 34 rfl B 57 i0 _ 15 192 Tryd.underlying34 hi0 hz0 hz1 hz2 rfl (by decide) _ _ _ rfl hown ⟨w1.heap.size, 0, none⟩ 1 1 (#[.int .i64 1, .string ⟨#[]⟩, .int .i64 X.h.k, .bool X.h.b, .bool X.h.n, .string X.h.d, .int .i64 X.h.e, .int .i64 X.h.tk, .int .i64 X.h.td, .int .i64 X.h.tn, .int .i64 X.h.tz, .string X.h.x, .slice X.h.ba X.h.bn X.h.bc, .slice X.h.la X.h.ln X.h.lc, .slice X.h.fa X.h.fn X.h.fc] : Array Value).toList rfl rfl (by simpa using s1.out) s2.out s3.out s4.out s5.out Nat.one_pos ?_))
  clear s1 s2 s3 s4 s5 hown
  intro v2 w3 ho2 hg2 hv2
  have HE := Lib.hid (HEnd.out X w1 _ w3 v2 f HX.out.1 HX.out.2.1 HX.out.2.2 g1 ((Below.refl _ _).alloc (Nat.le_refl _) _) HOwn.out Hf.out ho2 hg2 (by rw [World.size_alloc]; exact hv2))
  clear HEnd HX HOwn Hf ho2 hg2 hv2 HR1 g1
  go_wp2
  (first | exact HE.out | (go_ret; exact HE.out))
end Go.Proofs.YtpcbhneaaibfiaaDoor
