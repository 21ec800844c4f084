/- Laid together for a claim: EvModel, EvTrace. -/
import Derived.Test.YtpcbhneaaibfiaaDoorQB19
import Derived.Test.YtpcbhneaaibfiaaDoorQB08
/- What each event does to a builder, and of which events it is made: plain. -/
namespace Go.Proofs.YtpcbhneaaibfiaaDoor
open Go.RowKit
set_option linter.unusedVariables false
set_option linter.unusedSimpArgs false

/-! ### the model -/
def Bst.zero : Bst := ⟨0, fun _ => default, false, .nil, 0, false⟩
/-- An event at which a value begins. -/
def begE (x : Ev) : Prop := x.k = 1 ∨ x.k = 2 ∨ x.k = 4
instance (x : Ev) : Decidable (begE x) := by unfold begE; exact inferInstance
/-- What is wrong with an event that is added; 0: nothing. -/
noncomputable def addE (s : Bst) (x : Ev) : Int :=
  if s.bad = true then 29
  else if shapeE x ≠ 0 then shapeE x
  else if followE s x ≠ 0 then followE s x
  else if begE x ∧ 48 ≤ s.d then 9
  else if begE x ∧ 65536 ≤ s.nd then 10
  else 0
def fr0 (mp : Bool) : Fr := ⟨mp, 0, fun _ => ⟨#[]⟩, fun _ => .nil, ⟨#[]⟩, false⟩
def pushS (s : Bst) (mp : Bool) : Bst := { s with d := s.d + 1, fr := upd s.fr s.d (fr0 mp) }
def keyF (f : Fr) (key : ByteArray) : Fr := ⟨f.mp, f.n, f.K, f.M, key, true⟩
def keyS (s : Bst) (key : ByteArray) : Bst := { s with fr := upd s.fr (s.d - 1) (keyF (s.fr (s.d - 1)) key) }
def popS (s : Bst) : Bst := putS { s with d := s.d - 1 } (frV (s.fr (s.d - 1)))
def stepS (s : Bst) (x : Ev) : Bst :=
  if x.k = 1 then putS { s with nd := s.nd + 1 } x.V
  else if x.k = 6 then keyS s x.key
  else if x.k = 2 then pushS { s with nd := s.nd + 1 } false
  else if x.k = 4 then pushS { s with nd := s.nd + 1 } true
  else popS s
noncomputable def addS (s : Bst) (x : Ev) : Bst :=
  if s.bad = true then s else if addE s x = 0 then stepS s x else { s with bad := true }
theorem addE_ok {s : Bst} {x : Ev} (h : addE s x = 0) : s.bad = false ∧ shapeE x = 0 ∧ followE s x = 0 ∧ (begE x → s.d < 48 ∧ s.nd < 65536) := by
  unfold addE at h
  split at h
  · omega
  rename_i h1
  split at h
  · rename_i q; exact absurd h q
  rename_i h2
  split at h
  · rename_i q; exact absurd h q
  rename_i h3
  split at h
  · omega
  rename_i h4
  split at h
  · omega
  rename_i h5
  exact ⟨by simpa using h1, Classical.byContradiction h2, Classical.byContradiction h3, fun hb => ⟨by
    by_cases q : 48 ≤ s.d
    · exact absurd ⟨hb, q⟩ h4
    · omega, by
    by_cases q : 65536 ≤ s.nd
    · exact absurd ⟨hb, q⟩ h5
    · omega⟩⟩
theorem addS_ok {s : Bst} {x : Ev} (h : addE s x = 0) : addS s x = stepS s x := by
  unfold addS
  rw [if_neg (by rw [(addE_ok h).1]; decide), if_pos h]
theorem addS_bad {s : Bst} {x : Ev} (hb : s.bad = false) (h : addE s x ≠ 0) : addS s x = { s with bad := true } := by
  unfold addS
  rw [if_neg (by rw [hb]; decide), if_neg h]
/-- What a well-shaped event is. -/
theorem shapeE_ok {x : Ev} (h : shapeE x = 0) : (x.k = 1 ∨ x.k = 2 ∨ x.k = 3 ∨ x.k = 4 ∨ x.k = 5 ∨ x.k = 6) ∧ (x.k ≠ 6 → x.key = ⟨#[]⟩) ∧ (x.k ≠ 1 → x.V.h.plain = true) ∧ (x.k = 1 → 0 ≤ x.V.h.k ∧ x.V.h.k < 6 ∧ (x.V.look 1 0).2 = 0) ∧ (x.k ≠ 1 → utfB x.key = true ∧ x.key.size ≤ 1024) := by
  unfold shapeE at h
  split at h
  · omega
  rename_i h1
  simp only [not_or, not_and, decide_eq_true_eq, Bool.not_eq_false] at h1
  obtain ⟨a, b, c, d⟩ := h1
  have hk : x.key.toList == [] → x.key = ⟨#[]⟩ := fun q => ba_emp.1 (by
    cases e : x.key.toList with
    | nil => rfl
    | cons y l => rw [e] at q; simp at q)
  refine ⟨by omega, fun q => hk (c (beq_eq_false_iff_ne.2 q)), fun q => d (beq_eq_false_iff_ne.2 q), fun q => ?_, fun q => ?_⟩
  · rw [if_pos (by rw [q]; rfl)] at h
    split at h
    · omega
    · rename_i e
      exact ⟨by omega, by omega, h⟩
  · rw [if_neg (by simpa using q)] at h
    split at h
    · omega
    rename_i e1
    split at h
    · omega
    exact ⟨by simpa using e1, by omega⟩
/-- A scalar that is right. -/
structure Vt.sca (T : Vt) : Prop where
  lt : T.h.k < 6
  ge : 0 ≤ T.h.k
  good : T.good
  one : oneE T = 0
  ln : T.h.ln = 0
  fn : T.h.fn = 0
theorem look_one {T : Vt} (hT : T ≠ .nil) (h : (T.look 1 0).2 = 0) : oneE T = 0 := by
  rw [Vt.look_eq hT, if_neg (by omega), if_neg (by omega)] at h
  split at h
  · rename_i q; exact absurd h q
  · rename_i q; exact Classical.byContradiction q
theorem sca_of {T : Vt} (hw : T.whole) (h0 : 0 ≤ T.h.k) (h6 : T.h.k < 6) (h : (T.look 1 0).2 = 0) : T.sca := by
  have hT : T ≠ .nil := by rintro rfl; exact hw
  have h1 := look_one hT h
  have ow := Vh.own_parts (oneE_own h1)
  exact ⟨h6, h0, (Vt.look_ok (d := 1) (s := 0) hw h).1, h1, ow.2.2.2.2.2.2.2.1 (by omega), ow.2.2.2.2.2.2.2.2 (by omega)⟩
theorem Vt.sca.upto {T : Vt} (h : T.sca) {d : Nat} (hd : 0 < d) : T.upto d := by
  cases T with
  | nil => trivial
  | mk g Y L K F =>
    refine ⟨hd, fun i hi => ?_, fun i hi => ?_⟩
    · have := h.ln; simp only [Vt.h] at this; omega
    · have := h.fn; simp only [Vt.h] at this; omega

/-! ### lists that lie one behind another -/
def catL {α : Type} (f : Nat → List α) : Nat → List α
  | 0 => []
  | n + 1 => catL f n ++ f n
theorem catL_congr {α : Type} {f g : Nat → List α} : ∀ {n : Nat}, (∀ i, i < n → f i = g i) → catL f n = catL g n := by
  intro n
  induction n with
  | zero => intro _; rfl
  | succ n ih =>
    intro h
    show catL f n ++ f n = catL g n ++ g n
    rw [ih (fun i hi => h i (by omega)), h n (by omega)]
theorem catL_len {α : Type} {f : Nat → List α} : ∀ {n : Nat}, (catL f n).length = sumN (fun i => (f i).length) n := by
  intro n
  induction n with
  | zero => rfl
  | succ n ih => show (catL f n ++ f n).length = _ + _; rw [List.length_append, ih]

/-! ### the events of a value -/
def evS (V : Vt) : Ev := ⟨1, ⟨#[]⟩, V⟩
def evM (k : Int) : Ev := ⟨k, ⟨#[]⟩, Vt.z⟩
def evK (key : ByteArray) : Ev := ⟨6, key, Vt.z⟩
def evs : Vt → List Ev
  | .nil => []
  | .mk h Y L K F =>
    if h.k = 6 then evM 2 :: (catL (fun i => evs (L i)) h.ln ++ [evM 3])
    else if h.k = 7 then evM 4 :: (catL (fun i => evK (K i) :: evs (F i)) h.fn ++ [evM 5])
    else [evS (.mk h Y L K F)]
theorem evs_sca {T : Vt} (hT : T ≠ .nil) (h6 : T.h.k < 6) : evs T = [evS T] := by
  cases T with
  | nil => exact absurd rfl hT
  | mk h Y L K F =>
    simp only [Vt.h] at h6
    show (if h.k = 6 then _ else _) = _
    rw [if_neg (by omega), if_neg (by omega)]
theorem evs_lst {T : Vt} (hT : T ≠ .nil) (h6 : T.h.k = 6) : evs T = evM 2 :: (catL (fun i => evs (T.L i)) T.h.ln ++ [evM 3]) := by
  cases T with
  | nil => exact absurd rfl hT
  | mk h Y L K F =>
    simp only [Vt.h] at h6
    show (if h.k = 6 then _ else _) = _
    rw [if_pos h6]
    rfl
theorem evs_map {T : Vt} (hT : T ≠ .nil) (h7 : T.h.k = 7) : evs T = evM 4 :: (catL (fun i => evK (T.K i) :: evs (T.F i)) T.h.fn ++ [evM 5]) := by
  cases T with
  | nil => exact absurd rfl hT
  | mk h Y L K F =>
    simp only [Vt.h] at h7
    show (if h.k = 6 then _ else _) = _
    rw [if_neg (by omega), if_pos h7]
    rfl
/-- The same event, whatever the addresses. -/
structure Ev.Same (x y : Ev) : Prop where
  k : x.k = y.k
  key : x.key = y.key
  V : x.V.Same y.V
theorem Ev.Same.symm {x y : Ev} (h : x.Same y) : y.Same x := ⟨h.k.symm, h.key.symm, h.V.symm⟩
theorem Ev.Same.trans {x y z : Ev} (h : x.Same y) (g : y.Same z) : x.Same z := ⟨h.k.trans g.k, h.key.trans g.key, h.V.trans g.V⟩
/-- The same events. -/
inductive SameL : List Ev → List Ev → Prop
  | nil : SameL [] []
  | cons {x y : Ev} {a b : List Ev} : x.Same y → SameL a b → SameL (x :: a) (y :: b)
theorem SameL.symm {a b : List Ev} (h : SameL a b) : SameL b a := by
  induction h with
  | nil => exact .nil
  | cons h _ ih => exact .cons h.symm ih
theorem SameL.trans {a b c : List Ev} (h : SameL a b) : SameL b c → SameL a c := by
  induction h generalizing c with
  | nil => intro g; exact g
  | cons h _ ih =>
    intro g
    cases g with
    | cons g1 g2 => exact .cons (h.trans g1) (ih g2)
theorem SameL.length {a b : List Ev} (h : SameL a b) : a.length = b.length := by
  induction h with
  | nil => rfl
  | cons _ _ ih => simp [ih]
theorem SameL.append {a b c d : List Ev} (h : SameL a b) (g : SameL c d) : SameL (a ++ c) (b ++ d) := by
  induction h with
  | nil => exact g
  | cons h _ ih => exact .cons h ih
theorem SameL.split {c d : List Ev} : ∀ {a b : List Ev}, SameL (a ++ c) (b ++ d) → a.length = b.length → SameL a b ∧ SameL c d := by
  intro a
  induction a with
  | nil => intro b h e; cases b with
    | nil => exact ⟨.nil, h⟩
    | cons y b => simp at e
  | cons x a ih => intro b h e; cases b with
    | nil => simp at e
    | cons y b =>
      cases h with
      | cons h1 h2 =>
        obtain ⟨p, q⟩ := ih h2 (by simpa using e)
        exact ⟨.cons h1 p, q⟩
theorem SameL.get {a b : List Ev} (h : SameL a b) : ∀ {i : Nat} {x y : Ev}, a[i]? = some x → b[i]? = some y → x.Same y := by
  induction h with
  | nil => intro i x y h; simp at h
  | cons h _ ih =>
    intro i x y
    cases i with
    | zero => intro e1 e2; simp at e1 e2; rw [← e1, ← e2]; exact h
    | succ i => intro e1 e2; simp at e1 e2; exact ih e1 e2
theorem SameL.of_get : ∀ {a b : List Ev}, a.length = b.length → (∀ (i : Nat) (x y : Ev), a[i]? = some x → b[i]? = some y → x.Same y) → SameL a b := by
  intro a
  induction a with
  | nil => intro b e h; cases b with
    | nil => exact .nil
    | cons y b => simp at e
  | cons x a ih => intro b e h; cases b with
    | nil => simp at e
    | cons y b => exact .cons (h 0 x y rfl rfl) (ih (by simpa using e) fun i u v h1 h2 => h (i + 1) u v (by rw [List.getElem?_cons_succ]; exact h1) (by rw [List.getElem?_cons_succ]; exact h2))
theorem SameL.rfl' {a : List Ev} (h : ∀ x, x ∈ a → x.V.whole) : SameL a a := by
  induction a with
  | nil => exact .nil
  | cons x a ih => exact .cons ⟨rfl, rfl, Vt.Same.rfl' (h x (by simp))⟩ (ih fun y hy => h y (by simp [hy]))
theorem catL_same {f g : Nat → List Ev} : ∀ {n : Nat}, (∀ i, i < n → SameL (f i) (g i)) → SameL (catL f n) (catL g n) := by
  intro n
  induction n with
  | zero => intro _; exact .nil
  | succ n ih => intro h; exact SameL.append (ih fun i hi => h i (by omega)) (h n (by omega))
theorem evM_same (k : Int) : (evM k).Same (evM k) := ⟨rfl, rfl, Vt.z_same⟩
theorem evK_same (key : ByteArray) : (evK key).Same (evK key) := ⟨rfl, rfl, Vt.z_same⟩
/-- Same values have the same events. -/
theorem evs_same : ∀ {T U : Vt}, T.Same U → SameL (evs T) (evs U) := by
  intro T
  induction T with
  | nil => intro U h; exact h.elim
  | mk h Y L K F ihL ihF =>
    intro U hs
    have hT : Vt.mk h Y L K F ≠ .nil := by intro e; cases e
    have hU := hs.right
    have hk : (Vt.mk h Y L K F).h.k = U.h.k := hs.flat.k
    have hl : (Vt.mk h Y L K F).h.ln = U.h.ln := hs.flat.ln
    have hf : (Vt.mk h Y L K F).h.fn = U.h.fn := hs.flat.fn
    by_cases k6 : (Vt.mk h Y L K F).h.k = 6
    · rw [evs_lst hT k6, evs_lst hU (by rw [← hk]; exact k6), ← hl]
      exact .cons (evM_same 2) ((catL_same fun i hi => ihL i (hs.L hi)).append (.cons (evM_same 3) .nil))
    by_cases k7 : (Vt.mk h Y L K F).h.k = 7
    · rw [evs_map hT k7, evs_map hU (by rw [← hk]; exact k7), ← hf]
      refine .cons (evM_same 4) ((catL_same fun i hi => ?_).append (.cons (evM_same 5) .nil))
      rw [← hs.K hi]
      exact .cons (evK_same _) (ihF i (hs.F hi))
    · have e : evs U = [evS U] := by
        cases U with
        | nil => exact absurd rfl hU
        | mk g Y' L' K' F' =>
          simp only [Vt.h] at hk k6 k7
          show (if g.k = 6 then _ else _) = _
          rw [if_neg (by rw [← hk]; exact k6), if_neg (by rw [← hk]; exact k7)]
      have e' : evs (.mk h Y L K F) = [evS (.mk h Y L K F)] := by
        simp only [Vt.h] at k6 k7
        show (if h.k = 6 then _ else _) = _
        rw [if_neg k6, if_neg k7]
      rw [e, e']
      exact .cons ⟨rfl, rfl, hs⟩ .nil
end Go.Proofs.YtpcbhneaaibfiaaDoor
/- Of which events a builder is made, and what holds of it: plain. -/
namespace Go.Proofs.YtpcbhneaaibfiaaDoor
open Go.RowKit
set_option linter.unusedVariables false
set_option linter.unusedSimpArgs false

/-- The events of a frame. -/
def frT (f : Fr) : List Ev :=
  if f.mp = true then evM 4 :: (catL (fun j => evK (f.K j) :: evs (f.M j)) f.n ++ (if f.kd = true then [evK f.key] else []))
  else evM 2 :: catL (fun j => evs (f.M j)) f.n
/-- The events of which a builder is made. -/
def trace (s : Bst) : List Ev := if s.dn = true then evs s.out else catL (fun i => frT (s.fr i)) s.d
/-- What holds of a builder that has taken events. -/
structure Bst.inv (s : Bst) : Prop where
  ok : s.ok
  dn : s.dn = true → s.d = 0
  cnt : ∀ i, i < s.d → (s.fr i).n + (s.d - i) ≤ s.nd
  keyed : ∀ i, i + 1 < s.d → (s.fr i).mp = (s.fr i).kd
  lst : ∀ i, i < s.d → (s.fr i).mp = false → (s.fr i).kd = false ∧ (s.fr i).key = ⟨#[]⟩
  val : ∀ i, i < s.d → ∀ j, j < (s.fr i).n → ((s.fr i).M j).whole
  out : s.dn = true → s.out.whole
theorem catL_upd {f : Nat → Fr} {i : Nat} {g : Fr} : catL (fun j => frT (upd f i g j)) (i + 1) = catL (fun j => frT (f j)) i ++ frT g := by
  show catL (fun j => frT (upd f i g j)) i ++ frT (upd f i g i) = _
  rw [upd_same, catL_congr (g := fun j => frT (f j)) fun j hj => by rw [upd_other (by omega)]]
theorem frT_push (mp : Bool) : frT (fr0 mp) = [evM (if mp = true then 4 else 2)] := by
  cases mp <;> rfl
theorem frT_key {f : Fr} {key : ByteArray} (hm : f.mp = true) (hk : f.kd = false) : frT (keyF f key) = frT f ++ [evK key] := by
  obtain ⟨mp, n, K, M, k, kd⟩ := f
  dsimp only at hm hk
  subst hm hk
  simp [frT, keyF]
theorem frT_putM {f : Fr} {V : Vt} (hm : f.mp = true) (hk : f.kd = true) : frT ⟨true, f.n + 1, upd f.K f.n f.key, upd f.M f.n V, ⟨#[]⟩, false⟩ = frT f ++ evs V := by
  obtain ⟨mp, n, K, M, k, kd⟩ := f
  dsimp only at hm hk
  subst hm hk
  have e : catL (fun j => evK (upd K n k j) :: evs (upd M n V j)) (n + 1) = catL (fun j => evK (K j) :: evs (M j)) n ++ (evK k :: evs V) := by
    show catL (fun j => evK (upd K n k j) :: evs (upd M n V j)) n ++ (evK (upd K n k n) :: evs (upd M n V n)) = _
    rw [upd_same, upd_same, catL_congr (g := fun j => evK (K j) :: evs (M j)) fun j hj => by rw [upd_other (by omega), upd_other (by omega)]]
  simp [frT, e]
theorem frT_putL {f : Fr} {V : Vt} (hm : f.mp = false) : frT ⟨false, f.n + 1, upd f.K f.n ⟨#[]⟩, upd f.M f.n V, f.key, f.kd⟩ = frT f ++ evs V := by
  obtain ⟨mp, n, K, M, k, kd⟩ := f
  dsimp only at hm
  subst hm
  have e : catL (fun j => evs (upd M n V j)) (n + 1) = catL (fun j => evs (M j)) n ++ evs V := by
    show catL (fun j => evs (upd M n V j)) n ++ evs (upd M n V n) = _
    rw [upd_same, catL_congr (g := fun j => evs (M j)) fun j hj => by rw [upd_other (by omega)]]
  simp [frT, e]
theorem frT_end {f : Fr} (hk : f.mp = true → f.kd = false) : evs (frV f) = frT f ++ [evM (if f.mp = true then 5 else 3)] := by
  obtain ⟨mp, n, K, M, k, kd⟩ := f
  cases mp
  · simp [frV, evs, frT, Vh.lst]
  · have hk := hk rfl
    dsimp only at hk
    subst hk
    simp [frV, evs, frT, Vh.fld]
theorem frV_whole {f : Fr} (h : ∀ j, j < f.n → (f.M j).whole) : (frV f).whole := by
  obtain ⟨mp, n, K, M, k, kd⟩ := f
  cases mp
  · exact ⟨h, fun i hi => absurd hi (Nat.not_lt_zero _)⟩
  · exact ⟨fun i hi => absurd hi (Nat.not_lt_zero _), h⟩
theorem frV_upto {f : Fr} {e : Nat} (h : ∀ j, j < f.n → (f.M j).upto e) : (frV f).upto (e + 1) := by
  obtain ⟨mp, n, K, M, k, kd⟩ := f
  cases mp
  · exact ⟨Nat.succ_pos _, h, fun i hi => absurd hi (Nat.not_lt_zero _)⟩
  · exact ⟨Nat.succ_pos _, fun i hi => absurd hi (Nat.not_lt_zero _), h⟩
/-- A complete value goes in. -/
theorem put_inv {s : Bst} {V : Vt} (h : s.inv) (hd : s.dn = false) (ht : 0 < s.d → (s.fr (s.d - 1)).n + 2 ≤ s.nd ∧ (s.fr (s.d - 1)).mp = (s.fr (s.d - 1)).kd) (hw : V.whole) (hu : V.upto (49 - s.d)) :
    (putS s V).inv ∧ trace (putS s V) = trace s ++ evs V := by
  have htr : trace s = catL (fun i => frT (s.fr i)) s.d := by unfold trace; rw [if_neg (by rw [hd]; decide)]
  by_cases h0 : s.d = 0
  · unfold putS
    rw [if_pos h0]
    refine ⟨⟨⟨h.ok.d, h.ok.nd, h.ok.fr, fun _ => by rw [h0] at hu; exact hu⟩, fun _ => h0, h.cnt, h.keyed, h.lst, h.val, fun _ => hw⟩, ?_⟩
    rw [htr, h0]
    show (if true = true then evs V else _) = _
    rw [if_pos rfl]
    rfl
  · obtain ⟨i, hi⟩ : ∃ i, s.d = i + 1 := ⟨s.d - 1, by omega⟩
    obtain ⟨t1, t2⟩ := ht (by omega)
    have hd48 := h.ok.d
    rw [show s.d - 1 = i by omega] at t1 t2
    have hok := h.ok.fr i (by omega)
    have hu' : V.upto (48 - i) := by rw [show 48 - i = 49 - s.d by omega]; exact hu
    cases hm : (s.fr i).mp with
    | true =>
      have e : putS s V = { s with fr := upd s.fr i ⟨true, (s.fr i).n + 1, upd (s.fr i).K (s.fr i).n (s.fr i).key, upd (s.fr i).M (s.fr i).n V, ⟨#[]⟩, false⟩ } := by
        unfold putS
        rw [if_neg h0, show s.d - 1 = i by omega, if_pos hm]
      rw [e]
      refine ⟨⟨⟨h.ok.d, h.ok.nd, fun j hj => ?_, h.ok.out⟩, h.dn, fun j hj => ?_, fun j hj => ?_, fun j hj hmj => ?_, fun j hj t ht => ?_, h.out⟩, ?_⟩
      · by_cases q : j = i
        · subst q
          simp only [upd_same]
          refine ⟨by omega, Nat.zero_le _, fun t ht => ?_⟩
          by_cases z : t = (s.fr j).n
          · subst z; rw [upd_same, upd_same]; exact ⟨hok.2.1, hu'⟩
          · rw [upd_other z, upd_other z]; exact hok.2.2 t (by omega)
        · simp only [upd_other q]; exact h.ok.fr j hj
      · by_cases q : j = i
        · subst q; simp only [upd_same]; omega
        · simp only [upd_other q]; exact h.cnt j hj
      · have hj' : j + 1 < s.d := hj
        simp only [upd_other (show j ≠ i by omega)]; exact h.keyed j hj
      · by_cases q : j = i
        · subst q; simp only [upd_same] at hmj; cases hmj
        · simp only [upd_other q] at hmj ⊢; exact h.lst j hj hmj
      · by_cases q : j = i
        · subst q
          simp only [upd_same] at ht ⊢
          by_cases z : t = (s.fr j).n
          · subst z; rw [upd_same]; exact hw
          · rw [upd_other z]; exact h.val j hj t (by omega)
        · simp only [upd_other q] at ht ⊢; exact h.val j hj t ht
      · rw [htr]
        show (if s.dn = true then _ else catL (fun j => frT (upd s.fr i _ j)) s.d) = _
        rw [if_neg (by rw [hd]; decide), hi, catL_upd, frT_putM hm (by rw [← t2]; exact hm), ← List.append_assoc]
        rfl
    | false =>
      have e : putS s V = { s with fr := upd s.fr i ⟨false, (s.fr i).n + 1, upd (s.fr i).K (s.fr i).n ⟨#[]⟩, upd (s.fr i).M (s.fr i).n V, (s.fr i).key, (s.fr i).kd⟩ } := by
        unfold putS
        rw [if_neg h0, show s.d - 1 = i by omega, if_neg (by rw [hm]; decide)]
      rw [e]
      refine ⟨⟨⟨h.ok.d, h.ok.nd, fun j hj => ?_, h.ok.out⟩, h.dn, fun j hj => ?_, fun j hj => ?_, fun j hj hmj => ?_, fun j hj t ht => ?_, h.out⟩, ?_⟩
      · by_cases q : j = i
        · subst q
          simp only [upd_same]
          refine ⟨by omega, hok.2.1, fun t ht => ?_⟩
          by_cases z : t = (s.fr j).n
          · subst z; rw [upd_same, upd_same]; exact ⟨Nat.zero_le _, hu'⟩
          · rw [upd_other z, upd_other z]; exact hok.2.2 t (by omega)
        · simp only [upd_other q]; exact h.ok.fr j hj
      · by_cases q : j = i
        · subst q; simp only [upd_same]; omega
        · simp only [upd_other q]; exact h.cnt j hj
      · have hj' : j + 1 < s.d := hj
        simp only [upd_other (show j ≠ i by omega)]; exact h.keyed j hj
      · by_cases q : j = i
        · subst q; simp only [upd_same]; exact h.lst j hj hm
        · simp only [upd_other q] at hmj ⊢; exact h.lst j hj hmj
      · by_cases q : j = i
        · subst q
          simp only [upd_same] at ht ⊢
          by_cases z : t = (s.fr j).n
          · subst z; rw [upd_same]; exact hw
          · rw [upd_other z]; exact h.val j hj t (by omega)
        · simp only [upd_other q] at ht ⊢; exact h.val j hj t ht
      · rw [htr]
        show (if s.dn = true then _ else catL (fun j => frT (upd s.fr i _ j)) s.d) = _
        rw [if_neg (by rw [hd]; decide), hi, catL_upd, frT_putL hm, ← List.append_assoc]
        rfl
theorem inv_nd {s : Bst} (h : s.inv) (hn : s.nd < 65536) : Bst.inv { s with nd := s.nd + 1 } :=
  ⟨⟨h.ok.d, hn, fun i hi => ⟨Nat.le_succ_of_le (h.ok.fr i hi).1, (h.ok.fr i hi).2⟩, h.ok.out⟩, h.dn, fun i hi => Nat.le_succ_of_le (h.cnt i hi), h.keyed, h.lst, h.val, h.out⟩
theorem inv_less {s : Bst} {i : Nat} (h : s.inv) (hi : s.d = i + 1) : Bst.inv { s with d := i } :=
  ⟨⟨by have := h.ok.d; show i ≤ 48; omega, h.ok.nd, fun j hj => (by have hj' : j < i := hj; exact h.ok.fr j (by omega)), h.ok.out⟩, fun q => (by have := h.dn q; omega), fun j hj => (by have hj' : j < i := hj; have h1 := h.cnt j (by omega); show (s.fr j).n + (i - j) ≤ s.nd; omega), fun j hj => (by have hj' : j + 1 < i := hj; exact h.keyed j (by omega)), fun j hj => (by have hj' : j < i := hj; exact h.lst j (by omega)), fun j hj => (by have hj' : j < i := hj; exact h.val j (by omega)), h.out⟩
theorem push_inv {s : Bst} {mp : Bool} (h : s.inv) (hd : s.dn = false) (h48 : s.d < 48) (ht : ∀ i, i < s.d → (s.fr i).n + (s.d - i) + 1 ≤ s.nd) (hn : 0 < s.nd) (hk : 0 < s.d → (s.fr (s.d - 1)).mp = (s.fr (s.d - 1)).kd) :
    (pushS s mp).inv ∧ trace (pushS s mp) = trace s ++ [evM (if mp = true then 4 else 2)] := by
  have htr : trace s = catL (fun i => frT (s.fr i)) s.d := by unfold trace; rw [if_neg (by rw [hd]; decide)]
  unfold pushS
  refine ⟨⟨⟨h48, h.ok.nd, fun j hj => ?_, h.ok.out⟩, fun q => (by rw [hd] at q; cases q), fun j hj => ?_, fun j hj => ?_, fun j hj hmj => ?_, fun j hj t ht => ?_, h.out⟩, ?_⟩
  · by_cases q : j = s.d
    · subst q
      simp only [upd_same]
      exact ⟨Nat.zero_le _, Nat.zero_le _, fun t ht => absurd ht (Nat.not_lt_zero _)⟩
    · simp only [upd_other q]; exact h.ok.fr j (by have hj' : j < s.d + 1 := hj; omega)
  · by_cases q : j = s.d
    · subst q
      simp only [upd_same]
      show 0 + (s.d + 1 - s.d) ≤ s.nd
      omega
    · have hj' : j < s.d + 1 := hj
      simp only [upd_other q]
      have := ht j (by omega)
      show (s.fr j).n + (s.d + 1 - j) ≤ s.nd
      omega
  · have hj' : j + 1 < s.d + 1 := hj
    simp only [upd_other (show j ≠ s.d by omega)]
    by_cases q : j + 1 = s.d
    · have := hk (by omega)
      rw [show s.d - 1 = j by omega] at this
      exact this
    · exact h.keyed j (by omega)
  · by_cases q : j = s.d
    · subst q
      simp only [upd_same]
      exact ⟨rfl, rfl⟩
    · simp only [upd_other q] at hmj ⊢; exact h.lst j (by have hj' : j < s.d + 1 := hj; omega) hmj
  · by_cases q : j = s.d
    · subst q
      simp only [upd_same] at ht
      exact absurd ht (Nat.not_lt_zero _)
    · simp only [upd_other q] at ht ⊢; exact h.val j (by have hj' : j < s.d + 1 := hj; omega) t ht
  · rw [htr]
    show (if s.dn = true then _ else catL (fun j => frT (upd s.fr s.d _ j)) (s.d + 1)) = _
    rw [if_neg (by rw [hd]; decide), catL_upd, frT_push]
theorem key_inv {s : Bst} {i : Nat} {key : ByteArray} (h : s.inv) (hd : s.dn = false) (hi : s.d = i + 1) (hm : (s.fr i).mp = true) (hk : (s.fr i).kd = false) (hs : key.size ≤ 1048576) :
    (keyS s key).inv ∧ trace (keyS s key) = trace s ++ [evK key] := by
  have htr : trace s = catL (fun i => frT (s.fr i)) s.d := by unfold trace; rw [if_neg (by rw [hd]; decide)]
  unfold keyS
  rw [show s.d - 1 = i by omega]
  refine ⟨⟨⟨h.ok.d, h.ok.nd, fun j hj => ?_, h.ok.out⟩, h.dn, fun j hj => ?_, fun j hj => ?_, fun j hj hmj => ?_, fun j hj t ht => ?_, h.out⟩, ?_⟩
  · by_cases q : j = i
    · subst q
      simp only [upd_same]
      exact ⟨(h.ok.fr j hj).1, hs, (h.ok.fr j hj).2.2⟩
    · simp only [upd_other q]; exact h.ok.fr j hj
  · by_cases q : j = i
    · subst q; simp only [upd_same]; exact h.cnt j hj
    · simp only [upd_other q]; exact h.cnt j hj
  · have hj' : j + 1 < s.d := hj
    simp only [upd_other (show j ≠ i by omega)]; exact h.keyed j hj
  · by_cases q : j = i
    · subst q; simp only [upd_same] at hmj; rw [show (keyF (s.fr j) key).mp = (s.fr j).mp from rfl, hm] at hmj; cases hmj
    · simp only [upd_other q] at hmj ⊢; exact h.lst j hj hmj
  · by_cases q : j = i
    · subst q; simp only [upd_same] at ht ⊢; exact h.val j hj t ht
    · simp only [upd_other q] at ht ⊢; exact h.val j hj t ht
  · rw [htr]
    show (if s.dn = true then _ else catL (fun j => frT (upd s.fr i _ j)) s.d) = _
    rw [if_neg (by rw [hd]; decide), hi, catL_upd, frT_key hm hk, ← List.append_assoc]
    rfl
/-- What an event asks that may follow. -/
theorem followE_ok {s : Bst} {x : Ev} (h : followE s x = 0) : s.dn = false ∧ (s.d = 0 → x.k ≠ 6 ∧ x.k ≠ 3 ∧ x.k ≠ 5) ∧ (0 < s.d →
    (x.k = 6 → (s.fr (s.d - 1)).mp = true ∧ (s.fr (s.d - 1)).kd = false ∧ ¬ fidx (s.fr (s.d - 1)).K x.key (s.fr (s.d - 1)).n < (s.fr (s.d - 1)).n) ∧ (x.k = 3 → (s.fr (s.d - 1)).mp = false) ∧ (x.k = 5 → (s.fr (s.d - 1)).mp = true ∧ (s.fr (s.d - 1)).kd = false) ∧
    (x.k ≠ 6 → x.k ≠ 3 → x.k ≠ 5 → (s.fr (s.d - 1)).mp = true → (s.fr (s.d - 1)).kd = true)) := by
  unfold followE at h
  split at h
  · omega
  rename_i h1
  refine ⟨by simpa using h1, fun q => ?_, fun q => ?_⟩
  · rw [if_pos q] at h
    split at h
    · omega
    · rename_i z; simp only [not_or] at z; exact z
  · rw [if_neg (by omega)] at h
    refine ⟨fun e => ?_, fun e => ?_, fun e => ?_, fun e6 e3 e5 hm => ?_⟩
    · rw [if_pos e] at h
      split at h
      · omega
      rename_i z
      simp only [not_or, Bool.not_eq_false, Bool.not_eq_true] at z
      split at h
      · omega
      rename_i z2
      exact ⟨z.1, z.2, z2⟩
    · rw [if_neg (by omega), if_pos e] at h
      split at h
      · omega
      rename_i z
      simpa using z
    · rw [if_neg (by omega), if_neg (by omega), if_pos e] at h
      split at h
      · omega
      rename_i z
      simp only [not_or, Bool.not_eq_false, Bool.not_eq_true] at z
      exact z
    · rw [if_neg e6, if_neg e3, if_neg e5] at h
      split at h
      · omega
      rename_i z
      cases hk : (s.fr (s.d - 1)).kd with
      | true => rfl
      | false => exact absurd ⟨hm, hk⟩ z
theorem frT_refl {f : Fr} (h : ∀ j, j < f.n → (f.M j).whole) : SameL (frT f) (frT f) := by
  unfold frT
  split
  · refine .cons (evM_same 4) ((catL_same fun j hj => .cons (evK_same _) (evs_same (Vt.Same.rfl' (h j hj)))).append ?_)
    split
    · exact .cons (evK_same _) .nil
    · exact .nil
  · exact .cons (evM_same 2) (catL_same fun j hj => evs_same (Vt.Same.rfl' (h j hj)))
theorem trace_refl {s : Bst} (h : s.inv) : SameL (trace s) (trace s) := by
  unfold trace
  split
  · rename_i q; exact evs_same (Vt.Same.rfl' (h.out q))
  · exact catL_same fun i hi => frT_refl (h.val i hi)
/-- An event that may be added. -/
theorem step_inv {s : Bst} {x : Ev} (h : s.inv) (hx : x.ok) (hw : x.V.whole) (ha : addE s x = 0) : (stepS s x).inv ∧ SameL (trace (stepS s x)) (trace s ++ [x]) ∧ (trace s).length + 1 = (trace (stepS s x)).length := by
  obtain ⟨a1, a2, a3, a4⟩ := addE_ok ha
  obtain ⟨b1, b2, b3, b4, b5⟩ := shapeE_ok a2
  obtain ⟨c1, c2, c3⟩ := followE_ok a3
  have hV : x.V ≠ .nil := by intro e; rw [e] at hw; exact hw
  have hbeg : x.k = 1 ∨ x.k = 2 ∨ x.k = 4 → 0 < s.d → (s.fr (s.d - 1)).mp = (s.fr (s.d - 1)).kd := fun q hd => by
    have q1 := (c3 hd).2.2.2 (by omega) (by omega) (by omega)
    cases hm : (s.fr (s.d - 1)).mp with
    | true => exact (q1 hm).symm
    | false => exact (h.lst _ (by omega) hm).1.symm
  have key : (stepS s x).inv ∧ ∃ y : Ev, y.Same x ∧ trace (stepS s x) = trace s ++ [y] := by
    unfold stepS
    rcases b1 with e | e | e | e | e | e
    · rw [if_pos e]
      obtain ⟨d1, d2⟩ := a4 (.inl e)
      obtain ⟨f1, f2, f3⟩ := b4 e
      have hsc := sca_of hw f1 f2 f3
      obtain ⟨g1, g2⟩ := put_inv (s := { s with nd := s.nd + 1 }) (V := x.V) (inv_nd h d2) c1 (fun q => ⟨by have := h.cnt (s.d - 1) (by simp only at q; omega); show _ ≤ s.nd + 1; simp only at q ⊢; omega, hbeg (.inl e) q⟩) hw (hsc.upto (by show 0 < 49 - s.d; omega))
      refine ⟨g1, evS x.V, ⟨e.symm, (b2 (by omega)).symm, Vt.Same.rfl' hw⟩, ?_⟩
      rw [g2, evs_sca hV hsc.lt]
      rfl
    · rw [if_neg (by omega), if_neg (by omega), if_pos e]
      obtain ⟨d1, d2⟩ := a4 (.inr (.inl e))
      obtain ⟨g1, g2⟩ := push_inv (s := { s with nd := s.nd + 1 }) (mp := false) (inv_nd h d2) c1 d1 (fun i hi => Nat.succ_le_succ (h.cnt i hi)) (Nat.succ_pos _) (hbeg (.inr (.inl e)))
      exact ⟨g1, evM 2, ⟨e.symm, (b2 (by omega)).symm, ((plain_same hV).1 (b3 (by omega))).symm⟩, g2⟩
    · rw [if_neg (by omega), if_neg (by omega), if_neg (by omega), if_neg (by omega)]
      have hd : 0 < s.d := Nat.pos_of_ne_zero fun q => (c2 q).2.1 e
      obtain ⟨i, hi⟩ : ∃ i, s.d = i + 1 := ⟨s.d - 1, by omega⟩
      have hm := (c3 hd).2.1 e
      unfold popS
      rw [show s.d - 1 = i by omega] at hm ⊢
      have hd48 := h.ok.d
      obtain ⟨g1, g2⟩ := put_inv (s := { s with d := i }) (V := frV (s.fr i)) (inv_less h hi) c1 (fun q => by
        simp only at q ⊢
        exact ⟨by have := h.cnt (i - 1) (by omega); omega, h.keyed (i - 1) (by omega)⟩) (frV_whole (h.val i (by omega))) (by
        show (frV (s.fr i)).upto (49 - i)
        rw [show 49 - i = (48 - i) + 1 by omega]
        exact frV_upto fun j hj => ((h.ok.fr i (by omega)).2.2 j hj).2)
      refine ⟨g1, evM 3, ⟨e.symm, (b2 (by omega)).symm, ((plain_same hV).1 (b3 (by omega))).symm⟩, ?_⟩
      rw [g2, frT_end (fun q => by rw [hm] at q; cases q), if_neg (by rw [hm]; decide)]
      show (if s.dn = true then _ else catL _ i) ++ _ = (if s.dn = true then _ else catL _ s.d) ++ _
      rw [if_neg (by rw [c1]; decide), if_neg (by rw [c1]; decide), hi, ← List.append_assoc]
      rfl
    · rw [if_neg (by omega), if_neg (by omega), if_neg (by omega), if_pos e]
      obtain ⟨d1, d2⟩ := a4 (.inr (.inr e))
      obtain ⟨g1, g2⟩ := push_inv (s := { s with nd := s.nd + 1 }) (mp := true) (inv_nd h d2) c1 d1 (fun i hi => Nat.succ_le_succ (h.cnt i hi)) (Nat.succ_pos _) (hbeg (.inr (.inr e)))
      exact ⟨g1, evM 4, ⟨e.symm, (b2 (by omega)).symm, ((plain_same hV).1 (b3 (by omega))).symm⟩, g2⟩
    · rw [if_neg (by omega), if_neg (by omega), if_neg (by omega), if_neg (by omega)]
      have hd : 0 < s.d := Nat.pos_of_ne_zero fun q => (c2 q).2.2 e
      obtain ⟨i, hi⟩ : ∃ i, s.d = i + 1 := ⟨s.d - 1, by omega⟩
      obtain ⟨hm, hk⟩ := (c3 hd).2.2.1 e
      unfold popS
      rw [show s.d - 1 = i by omega] at hm hk ⊢
      have hd48 := h.ok.d
      obtain ⟨g1, g2⟩ := put_inv (s := { s with d := i }) (V := frV (s.fr i)) (inv_less h hi) c1 (fun q => by
        simp only at q ⊢
        exact ⟨by have := h.cnt (i - 1) (by omega); omega, h.keyed (i - 1) (by omega)⟩) (frV_whole (h.val i (by omega))) (by
        show (frV (s.fr i)).upto (49 - i)
        rw [show 49 - i = (48 - i) + 1 by omega]
        exact frV_upto fun j hj => ((h.ok.fr i (by omega)).2.2 j hj).2)
      refine ⟨g1, evM 5, ⟨e.symm, (b2 (by omega)).symm, ((plain_same hV).1 (b3 (by omega))).symm⟩, ?_⟩
      rw [g2, frT_end (fun _ => hk), if_pos hm]
      show (if s.dn = true then _ else catL _ i) ++ _ = (if s.dn = true then _ else catL _ s.d) ++ _
      rw [if_neg (by rw [c1]; decide), if_neg (by rw [c1]; decide), hi, ← List.append_assoc]
      rfl
    · rw [if_neg (by omega), if_pos e]
      have hd : 0 < s.d := Nat.pos_of_ne_zero fun q => (c2 q).1 e
      obtain ⟨i, hi⟩ : ∃ i, s.d = i + 1 := ⟨s.d - 1, by omega⟩
      obtain ⟨hm, hk, -⟩ := (c3 hd).1 e
      rw [show s.d - 1 = i by omega] at hm hk
      obtain ⟨g1, g2⟩ := key_inv (key := x.key) h c1 hi hm hk hx.key
      exact ⟨g1, evK x.key, ⟨e.symm, rfl, ((plain_same hV).1 (b3 (by omega))).symm⟩, g2⟩
  obtain ⟨g1, y, hy, g2⟩ := key
  have hwh : SameL (trace s) (trace s) → SameL (trace (stepS s x)) (trace s ++ [x]) := fun q => by rw [g2]; exact q.append (.cons hy .nil)
  exact ⟨g1, hwh (trace_refl h), by rw [g2]; simp⟩
end Go.Proofs.YtpcbhneaaibfiaaDoor
