/- Laid together for a claim: EvRStpM, EvRRowM, EvRAddM. -/
import Derived.Test.YtpcbhneaaibfiaaDoorQR03
import Derived.Test.YtpcbhneaaibfiaaDoorQB09
import Derived.Test.YtpcbhneaaibfiaaDoorQB04
set_option linter.unusedVariables false
set_option linter.unusedSimpArgs false
namespace Go.Proofs.YtpcbhneaaibfiaaDoor
open Go.RowKit
theorem Rst.is.key {r r' : Rst} {s : Bst} {l : List Ev} {x : Ev} {key : ByteArray} (h : r.is s l) (hd : 0 < s.d) (hm : (s.fr (s.d - 1)).mp = true) (hk : (s.fr (s.d - 1)).kd = false)
    (hn : r'.O.n = r.O.n) (hlow : ∀ i, i + 1 < s.d → r'.O.O i = r.O.O i) (h1 : (r'.O.O (s.d - 1)).mp = (r.O.O (s.d - 1)).mp) (h2 : (r'.O.O (s.d - 1)).k.n = (r.O.O (s.d - 1)).k.n + 1)
    (h3 : ∀ j, j < (r.O.O (s.d - 1)).k.n → (r'.O.O (s.d - 1)).k.K j = (r.O.O (s.d - 1)).k.K j) (h4 : (r'.O.O (s.d - 1)).k.K (r.O.O (s.d - 1)).k.n = key) (h5 : (r'.O.O (s.d - 1)).cnt = (r.O.O (s.d - 1)).cnt) (h6 : (r'.O.O (s.d - 1)).due = true)
    (hT : r'.T.list = l ++ [x]) (hnd : r'.nd = r.nd) (hw : r'.wrong = r.wrong) : r'.is (keyS s key) (l ++ [x]) := by
  have hi := h.O (s.d - 1) (by omega)
  rw [decide_eq_true (show s.d - 1 + 1 = s.d by omega)] at hi
  refine ⟨hn.trans h.d, fun i hlt => ?_, hT, hnd.trans h.nd, hw.trans h.wrong, ?_⟩
  · have hlt' : i < s.d := hlt
    show (r'.O.O i).is (upd s.fr (s.d - 1) (keyF (s.fr (s.d - 1)) key) i) (decide (i + 1 = s.d))
    by_cases q : i = s.d - 1
    · subst q
      rw [upd_same, decide_eq_true (show s.d - 1 + 1 = s.d by omega)]
      generalize r'.O.O (s.d - 1) = o' at *
      generalize r.O.O (s.d - 1) = o at *
      generalize s.fr (s.d - 1) = f at *
      have hkn : o.k.n = f.n := by rw [hi.kn, if_pos hm, hk]; rfl
      refine ⟨h1.trans hi.mp, ?_, fun j hj => ?_, h5.trans hi.cnt, ?_⟩
      · show o'.k.n = if f.mp = true then (if true = true then f.n + 1 else f.n) else 0
        rw [if_pos hm, if_pos rfl, h2, hkn]
      · show o'.k.K j = if j < f.n then f.K j else key
        by_cases c : j < f.n
        · rw [if_pos c, h3 j (by omega), hi.K j (by omega), if_pos c]
        · rw [if_neg c, ← h4, hkn]
          have : j = f.n := by omega
          rw [this]
      · show o'.due = true ↔ true = true ∧ f.mp = true ∧ true = true
        rw [h6]
        exact ⟨fun _ => ⟨rfl, hm, rfl⟩, fun _ => rfl⟩
    · rw [upd_other q, hlow i (by omega)]
      exact h.O i hlt'
  · show s.dn = true ↔ 0 < r'.T.n ∧ s.d = 0
    constructor
    · intro q
      have := (h.dn.1 q).2
      omega
    · rintro ⟨-, q⟩
      omega
theorem Rst.is.push {r r' : Rst} {s : Bst} {l : List Ev} {x : Ev} {mp : Bool} (h : r.is s l) (hdn : s.dn = false)
    (hn : r'.O.n = r.O.n + 1) (hlow : ∀ i, i + 1 < s.d → r'.O.O i = r.O.O i) (htop : 0 < s.d → (r'.O.O (s.d - 1)).mp = (r.O.O (s.d - 1)).mp ∧ (r'.O.O (s.d - 1)).k = (r.O.O (s.d - 1)).k ∧ (r'.O.O (s.d - 1)).cnt = (r.O.O (s.d - 1)).cnt + 1 ∧ (r'.O.O (s.d - 1)).due = false)
    (hnew : (r'.O.O s.d).mp = mp ∧ (r'.O.O s.d).k.n = 0 ∧ (r'.O.O s.d).cnt = 0 ∧ (r'.O.O s.d).due = false)
    (hT : r'.T.list = l ++ [x]) (hnd : r'.nd = r.nd + 1) (hw : r'.wrong = r.wrong) : r'.is (pushS { s with nd := s.nd + 1 } mp) (l ++ [x]) := by
  refine ⟨by rw [hn, h.d]; rfl, fun i hlt => ?_, hT, by rw [hnd, h.nd]; rfl, hw.trans h.wrong, ?_⟩
  · have hlt' : i < s.d + 1 := hlt
    show (r'.O.O i).is (upd s.fr s.d (fr0 mp) i) (decide (i + 1 = s.d + 1))
    by_cases q : i = s.d
    · subst q
      rw [upd_same, decide_eq_true rfl]
      obtain ⟨a, b, c, d⟩ := hnew
      refine ⟨a, ?_, fun j hj => by omega, c, ?_⟩
      · rw [b]
        show 0 = if mp = true then (if false = true then 0 + 1 else 0) else 0
        cases mp <;> rfl
      · rw [d]
        exact ⟨fun q => (by cases q), fun q => (by cases q.2.2)⟩
    · rw [upd_other q, decide_eq_false (show ¬ i + 1 = s.d + 1 by omega)]
      have hi := h.O i (by omega)
      by_cases e : i + 1 < s.d
      · rw [hlow i e]
        rw [decide_eq_false (show ¬ i + 1 = s.d by omega)] at hi
        exact hi
      · obtain rfl : i = s.d - 1 := by omega
        rw [decide_eq_true (show s.d - 1 + 1 = s.d by omega)] at hi
        obtain ⟨a, b, c, d⟩ := htop (by omega)
        refine ⟨a.trans hi.mp, by rw [b]; exact hi.kn, fun j hj => by rw [b] at hj ⊢; exact hi.K j hj, ?_, ?_⟩
        · rw [c, hi.cnt]; rfl
        · rw [d]
          exact ⟨fun q => (by cases q), fun q => (by cases q.1)⟩
  · show s.dn = true ↔ 0 < r'.T.n ∧ s.d + 1 = 0
    rw [hdn]
    exact ⟨fun q => (by cases q), fun q => absurd q.2 (Nat.succ_ne_zero _)⟩
def putF (f : Fr) (V : Vt) : Fr := if f.mp = true then ⟨true, f.n + 1, upd f.K f.n f.key, upd f.M f.n V, ⟨#[]⟩, false⟩ else ⟨false, f.n + 1, upd f.K f.n ⟨#[]⟩, upd f.M f.n V, f.key, f.kd⟩
theorem is_put {o : Opn} {f : Fr} {V : Vt} (hm : o.mp = f.mp) (hkn : o.k.n = if f.mp = true then f.n + 1 else 0) (hK : ∀ j, j < o.k.n → o.k.K j = if j < f.n then f.K j else f.key) (hc : o.cnt = f.n + 1) (hd : o.due = false) : o.is (putF f V) true := by
  unfold putF
  cases e : f.mp with
  | true =>
    rw [if_pos rfl]
    rw [if_pos e] at hkn
    refine ⟨hm.trans e, hkn, fun j hj => ?_, hc, ?_⟩
    · show o.k.K j = if j < f.n + 1 then upd f.K f.n f.key j else ⟨#[]⟩
      rw [if_pos (by omega), hK j hj]
      by_cases c : j < f.n
      · rw [if_pos c, upd_other (by omega)]
      · obtain rfl : j = f.n := by omega
        rw [if_neg c, upd_same]
    · rw [hd]
      exact ⟨fun q => (by cases q), fun q => (by cases q.2.2)⟩
  | false =>
    rw [if_neg (by decide)]
    rw [if_neg (by rw [e]; decide)] at hkn
    refine ⟨hm.trans e, hkn, fun j hj => by omega, hc, ?_⟩
    rw [hd]
    exact ⟨fun q => (by cases q), fun q => (by cases q.2.1)⟩
theorem putS_fr {s : Bst} {V : Vt} (hd : 0 < s.d) : putS s V = { s with fr := upd s.fr (s.d - 1) (putF (s.fr (s.d - 1)) V) } := by
  unfold putS putF
  rw [if_neg (by omega)]
  split <;> rfl
theorem Rst.is.put {r' : Rst} {s : Bst} {L : List Ev} {V : Vt} (hn : r'.O.n = s.d) (hlow : ∀ i, i + 1 < s.d → (r'.O.O i).is (s.fr i) false) (htop : 0 < s.d → (r'.O.O (s.d - 1)).is (putF (s.fr (s.d - 1)) V) true)
    (hT : r'.T.list = L) (hne : 0 < r'.T.n) (hnd : r'.nd = s.nd) (hw : r'.wrong = s.bad) (hdn : s.dn = false) : r'.is (putS s V) L := by
  by_cases hd : s.d = 0
  · have e : putS s V = { s with dn := true, out := V } := if_pos hd
    rw [e]
    exact ⟨hn, fun i hlt => (by have hlt' : i < s.d := hlt; omega), hT, hnd, hw, ⟨fun _ => ⟨hne, hd⟩, fun _ => rfl⟩⟩
  · rw [putS_fr (by omega)]
    refine ⟨hn, fun i hlt => ?_, hT, hnd, hw, ?_⟩
    · have hlt' : i < s.d := hlt
      show (r'.O.O i).is (upd s.fr (s.d - 1) (putF (s.fr (s.d - 1)) V) i) (decide (i + 1 = s.d))
      by_cases q : i = s.d - 1
      · subst q
        rw [upd_same, decide_eq_true (show s.d - 1 + 1 = s.d by omega)]
        exact htop (by omega)
      · rw [upd_other q, decide_eq_false (show ¬ i + 1 = s.d by omega)]
        exact hlow i (by omega)
    · show s.dn = true ↔ 0 < r'.T.n ∧ s.d = 0
      rw [hdn]
      exact ⟨fun q => (by cases q), fun q => absurd q.2 hd⟩
theorem Rst.is.bad {r r' : Rst} {s : Bst} {l : List Ev} (h : r.is s l) (hO : r'.O = r.O) (hT : r'.T = r.T) (hnd : r'.nd = r.nd) (hw : r'.wrong = true) : r'.is { s with bad := true } l :=
  ⟨by rw [hO]; exact h.d, fun i hi => by rw [hO]; exact h.O i hi, by rw [hT]; exact h.T, hnd.trans h.nd, hw, by rw [hT]; exact h.dn⟩
theorem Rst.is.zero {r : Rst} (hO : r.O.n = 0) (hT : r.T.n = 0) (hnd : r.nd = 0) (hw : r.wrong = false) : r.is Bst.zero [] :=
  ⟨hO, fun i hi => absurd hi (Nat.not_lt_zero _), by simp [Evs.list, hT], hnd, hw, ⟨fun q => (by cases q), fun q => (by rw [hT] at q; exact absurd q.1 (Nat.lt_irrefl _))⟩⟩
theorem st_row : (Tryd.prog.info? 53).map (·.size) = some 4 := by kernel_rfl
def Ops.Row (W : World) (B : Nat) (p : Ops) : Prop := (0 < p.n → p.a = some ⟨p.b, p.o, none⟩ ∧ B ≤ p.b ∧ p.b < W.heap.size) ∧ (p.n ≤ 48 ∧ p.n ≤ p.c ∧ p.c ≤ maxLen) ∧ ∀ i, i < p.n → LiesAt W p.b (p.o + i * 4) (p.O i).cells
def Sts.Row (W : World) (B : Nat) (p : Sts) : Prop := (0 < p.n → p.a = some ⟨p.b, p.o, none⟩ ∧ B ≤ p.b ∧ p.b < W.heap.size) ∧ (p.n ≤ 1048576 ∧ p.n ≤ p.c ∧ p.c ≤ maxLen) ∧ ∀ i, i < p.n → W.cell? ⟨p.b, p.o + i, none⟩ = some (.string (p.K i))
def Evs.Row (W : World) (B : Nat) (p : Evs) : Prop := (0 < p.n → p.a = some ⟨p.b, p.o, none⟩ ∧ B ≤ p.b ∧ p.b < W.heap.size) ∧ (p.n ≤ 1048576 ∧ p.n ≤ p.c ∧ p.c ≤ maxLen) ∧ ∀ i, i < p.n → LiesAt W p.b (p.o + i * 15) (p.S i).cells
theorem lies_block {W W' : World} {b o : Nat} {cs : Array Value} (h : LiesAt W b o cs) (hb : W'.heap[b]? = W.heap[b]?) : LiesAt W' b o cs := fun j hj => (World.cell?_of_block (a := ⟨b, o + j, none⟩) hb).trans (h j hj)
section
variable {W W' : World} {B : Nat} {S : Nat → Prop}
theorem Ops.Row.kept {p : Ops} (h : p.Row W B) (hk : Kept S W W') (hs : ∀ b, S b → b < B) : p.Row W' B :=
  ⟨fun q => ⟨(h.1 q).1, (h.1 q).2.1, Nat.lt_of_lt_of_le (h.1 q).2.2 hk.size⟩, h.2.1, fun i hi => lies_block (h.2.2 i hi) (hk.block p.b (h.1 (by omega)).2.2 fun e => by have := hs p.b e; have := (h.1 (by omega)).2.1; omega)⟩
theorem Sts.Row.kept {p : Sts} (h : p.Row W B) (hk : Kept S W W') (hs : ∀ b, S b → b < B) : p.Row W' B :=
  ⟨fun q => ⟨(h.1 q).1, (h.1 q).2.1, Nat.lt_of_lt_of_le (h.1 q).2.2 hk.size⟩, h.2.1, fun i hi => (World.cell?_of_block (a := ⟨p.b, p.o + i, none⟩) (hk.block p.b (h.1 (by omega)).2.2 fun e => by have := hs p.b e; have := (h.1 (by omega)).2.1; omega)).trans (h.2.2 i hi)⟩
theorem Evs.Row.kept {p : Evs} (h : p.Row W B) (hk : Kept S W W') (hs : ∀ b, S b → b < B) : p.Row W' B :=
  ⟨fun q => ⟨(h.1 q).1, (h.1 q).2.1, Nat.lt_of_lt_of_le (h.1 q).2.2 hk.size⟩, h.2.1, fun i hi => lies_block (h.2.2 i hi) (hk.block p.b (h.1 (by omega)).2.2 fun e => by have := hs p.b e; have := (h.1 (by omega)).2.1; omega)⟩
theorem Ops.Row.In {p : Ops} (h : p.Row W B) (hk : ∀ i, i < p.n → (p.O i).k.In W W.heap.size) : p.In W W.heap.size := ⟨fun q => ⟨(h.1 q).1, (h.1 q).2.2⟩, h.2.1, fun i hi => ⟨h.2.2 i hi, hk i hi⟩⟩
theorem Sts.Row.In {p : Sts} (h : p.Row W B) (hk : ∀ i, i < p.n → (p.K i).size ≤ 1048576) : p.In W W.heap.size := ⟨fun q => ⟨(h.1 q).1, (h.1 q).2.2⟩, h.2.1, fun i hi => ⟨h.2.2 i hi, hk i hi⟩⟩
theorem Evs.Row.In {p : Evs} (h : p.Row W B) (hk : ∀ i, i < p.n → (p.S i).ok ∧ (p.S i).V.In W W.heap.size) : p.In W W.heap.size := ⟨fun q => ⟨(h.1 q).1, (h.1 q).2.2⟩, h.2.1, fun i hi => ⟨h.2.2 i hi, hk i hi⟩⟩
theorem Ops.Row.low {p : Ops} {B' : Nat} (h : p.Row W B) (hb : B' ≤ B) : p.Row W B' := ⟨fun q => ⟨(h.1 q).1, Nat.le_trans hb (h.1 q).2.1, (h.1 q).2.2⟩, h.2⟩
theorem ops_row {n : Nat} {v : Value} {O : Nat → Opn} (h : W.ownsRow B 90 4 v n (catN (fun i => (O i).cells) n)) (hn : n ≤ 48) :
    ∃ p : Ops, v = .slice p.a p.n p.c ∧ p.n = n ∧ p.O = O ∧ p.Row W B := by
  obtain ⟨a, c, b, rfl, hcc, ha, hl⟩ := own_lies (fun i => (show (O i).cells.size = 4 from rfl)) h
  exact ⟨⟨a, n, c, b, 0, O⟩, rfl, rfl, rfl, fun q => ha q, ⟨hn, hcc⟩, fun i hi => by simpa using hl i hi⟩
theorem sts_row {n : Nat} {v : Value} {K : Nat → ByteArray} (h : W.ownsRow B 9 1 v n (catN (fun i => #[.string (K i)]) n)) (hn : n ≤ 1048576) :
    ∃ p : Sts, v = .slice p.a p.n p.c ∧ p.n = n ∧ p.K = K ∧ p.Row W B := by
  obtain ⟨a, c, b, rfl, hcc, ha, hl⟩ := own_lies (fun i => (show (#[Value.string (K i)] : Array Value).size = 1 from rfl)) h
  refine ⟨⟨a, n, c, b, 0, K⟩, rfl, rfl, rfl, fun q => ha q, ⟨hn, hcc⟩, fun i hi => ?_⟩
  have := hl i hi 0 (by show 0 < 1; omega)
  simpa using this
theorem evs_row {n : Nat} {v : Value} {S : Nat → Ev} (h : W.ownsRow B 57 15 v n (catN (fun i => (S i).cells) n)) (hn : n ≤ 1048576) :
    ∃ p : Evs, v = .slice p.a p.n p.c ∧ p.n = n ∧ p.S = S ∧ p.Row W B := by
  obtain ⟨a, c, b, rfl, hcc, ha, hl⟩ := own_lies (fun i => (show (S i).cells.size = 15 from rfl)) h
  exact ⟨⟨a, n, c, b, 0, S⟩, rfl, rfl, rfl, fun q => ha q, ⟨hn, hcc⟩, fun i hi => by simpa using hl i hi⟩
theorem catN_more {f : Nat → Array Value} {g : Nat → Array Value} {n : Nat} {c : Array Value} (h1 : ∀ i, i < n → f i = g i) (h2 : f n = c) : catN f (n + 1) = catN g n ++ c.toList := by
  show catN f n ++ (f n).toList = _
  rw [catN_congr h1, h2]
theorem kept_setRow (S : Nat → Prop) (W : World) (b : Nat) (cs : Array Value) (hb : S b) : Kept S W (W.setRow b cs) :=
  ⟨rfl, rfl, rfl, by rw [size_setRow]; exact Nat.le_refl _, fun k _ hn => setRow_other _ _ _ _ (fun e => hn (e ▸ hb))⟩
end
noncomputable def Rst.addE (r : Rst) (x : Ev) : Int := if r.wrong = true then 29 else if shapeE x ≠ 0 then shapeE x else r.fol x
theorem shape_kinds {x : Ev} (h : shapeE x = 0) : x.k = 6 ∨ x.k = 3 ∨ x.k = 5 ∨ x.k = 1 ∨ x.k = 2 ∨ x.k = 4 := by
  have := (shapeE_ok h).1
  omega
theorem raddE {r : Rst} {s : Bst} {l : List Ev} {x : Ev} (h : r.is s l) : r.addE x = Proofs.YtpcbhneaaibfiaaDoor.addE s x := by
  unfold Rst.addE Proofs.YtpcbhneaaibfiaaDoor.addE
  rw [h.wrong]
  by_cases hb : s.bad = true
  · rw [if_pos hb, if_pos hb]
  rw [if_neg hb, if_neg hb]
  by_cases hs : shapeE x = 0
  · rw [if_neg (by simp [hs]), if_neg (by simp [hs])]
    exact rfol_eq h (shape_kinds hs)
  · rw [if_pos hs, if_pos hs]
def Opn.bump (o : Opn) : Opn := ⟨o.mp, o.k, o.cnt + 1, false⟩
structure Opn.keyed (o o' : Opn) (key : ByteArray) : Prop where
  mp : o'.mp = o.mp
  n : o'.k.n = o.k.n + 1
  K : ∀ j, j < o.k.n → o'.k.K j = o.k.K j
  key : o'.k.K o.k.n = key
  cnt : o'.cnt = o.cnt
  due : o'.due = true
structure Nxt (r : Rst) (x : Ev) (r' : Rst) : Prop where
  T : r'.T.list = r.T.list ++ [x]
  ne : 0 < r'.T.n
  wrong : r'.wrong = r.wrong
  low : ∀ i, i + 1 < r.O.n → r'.O.O i = r.O.O i
  nd : r'.nd = if x.k = 1 ∨ x.k = 2 ∨ x.k = 4 then r.nd + 1 else r.nd
  n : r'.O.n = if x.k = 3 ∨ x.k = 5 then r.O.n - 1 else if x.k = 2 ∨ x.k = 4 then r.O.n + 1 else r.O.n
  keyed : x.k = 6 → (r.O.O (r.O.n - 1)).keyed (r'.O.O (r.O.n - 1)) x.key
  bump : x.k = 1 ∨ x.k = 2 ∨ x.k = 4 → 0 < r.O.n → r'.O.O (r.O.n - 1) = (r.O.O (r.O.n - 1)).bump
  new : x.k = 2 ∨ x.k = 4 → (r'.O.O r.O.n).mp = decide (x.k = 4) ∧ (r'.O.O r.O.n).k.n = 0 ∧ (r'.O.O r.O.n).cnt = 0 ∧ (r'.O.O r.O.n).due = false
theorem nxt_is {r r' : Rst} {s : Bst} {l : List Ev} {x : Ev} (h : r.is s l) (hi : s.inv) (h0 : addE s x = 0) (hn : Nxt r x r') : r'.is (addS s x) (l ++ [x]) := by
  obtain ⟨hb, hs, hf, hbeg⟩ := addE_ok h0
  rw [addS_ok h0]
  have hT : r'.T.list = l ++ [x] := by rw [hn.T, h.T]
  have hw : r'.wrong = s.bad := by rw [hn.wrong, h.wrong]
  have hd := h.d
  obtain ⟨fdn, f0, f1⟩ := followE_ok hf
  have hnd := hn.nd
  have hnn := hn.n
  have hlow := hn.low
  rw [hd] at hlow
  rcases shape_kinds hs with k | k | k | k | k | k
  · -- a key
    have e : stepS s x = keyS s x.key := by unfold stepS; rw [if_neg (by omega), if_pos k]
    rw [e]
    have hd0 : 0 < s.d := by
      rcases Nat.eq_zero_or_pos s.d with q | q
      · exact absurd k (f0 q).1
      · exact q
    obtain ⟨m1, m2, -⟩ := (f1 hd0).1 k
    have hk := hn.keyed k
    rw [hd] at hk
    rw [if_neg (by omega)] at hnd
    rw [if_neg (by omega), if_neg (by omega)] at hnn
    exact h.key hd0 m1 m2 hnn hlow hk.mp hk.n hk.K hk.key hk.cnt hk.due hT hnd hn.wrong
  · -- an end
    have e : stepS s x = popS s := by unfold stepS; rw [if_neg (by omega), if_neg (by omega), if_neg (by omega), if_neg (by omega)]
    rw [e]
    have hd0 : 0 < s.d := by
      rcases Nat.eq_zero_or_pos s.d with q | q
      · exact absurd k (f0 q).2.1
      · exact q
    rw [if_neg (by omega)] at hnd
    rw [if_pos (.inl k), hd] at hnn
    refine Rst.is.put (s := { s with d := s.d - 1 }) hnn (fun i hlt => ?_) (fun hlt => ?_) hT hn.ne (hnd.trans h.nd) hw fdn
    · have hlt' : i + 1 < s.d - 1 := hlt
      show (r'.O.O i).is (s.fr i) false
      rw [hlow i (by omega)]
      have := h.O i (by omega)
      rw [decide_eq_false (by omega)] at this
      exact this
    · have hlt' : 0 < s.d - 1 := hlt
      show (r'.O.O (s.d - 1 - 1)).is (putF (s.fr (s.d - 1 - 1)) _) true
      rw [hlow (s.d - 1 - 1) (by omega)]
      have q := h.O (s.d - 1 - 1) (by omega)
      rw [decide_eq_false (by omega)] at q
      have hkk := hi.keyed (s.d - 1 - 1) (by omega)
      refine is_put q.mp ?_ q.K (by rw [q.cnt]; rfl) ?_
      · rw [q.kn]
        cases e1 : (s.fr (s.d - 1 - 1)).mp with
        | true => rw [if_pos rfl, if_pos rfl, if_pos (by rw [← hkk]; exact e1)]
        | false => rw [if_neg (by decide), if_neg (by decide)]
      · cases e1 : (r.O.O (s.d - 1 - 1)).due with
        | false => rfl
        | true => have := (q.due.1 e1).1; cases this
  · have e : stepS s x = popS s := by unfold stepS; rw [if_neg (by omega), if_neg (by omega), if_neg (by omega), if_neg (by omega)]
    rw [e]
    have hd0 : 0 < s.d := by
      rcases Nat.eq_zero_or_pos s.d with q | q
      · exact absurd k (f0 q).2.2
      · exact q
    rw [if_neg (by omega)] at hnd
    rw [if_pos (.inr k), hd] at hnn
    refine Rst.is.put (s := { s with d := s.d - 1 }) hnn (fun i hlt => ?_) (fun hlt => ?_) hT hn.ne (hnd.trans h.nd) hw fdn
    · have hlt' : i + 1 < s.d - 1 := hlt
      show (r'.O.O i).is (s.fr i) false
      rw [hlow i (by omega)]
      have := h.O i (by omega)
      rw [decide_eq_false (by omega)] at this
      exact this
    · have hlt' : 0 < s.d - 1 := hlt
      show (r'.O.O (s.d - 1 - 1)).is (putF (s.fr (s.d - 1 - 1)) _) true
      rw [hlow (s.d - 1 - 1) (by omega)]
      have q := h.O (s.d - 1 - 1) (by omega)
      rw [decide_eq_false (by omega)] at q
      have hkk := hi.keyed (s.d - 1 - 1) (by omega)
      refine is_put q.mp ?_ q.K (by rw [q.cnt]; rfl) ?_
      · rw [q.kn]
        cases e1 : (s.fr (s.d - 1 - 1)).mp with
        | true => rw [if_pos rfl, if_pos rfl, if_pos (by rw [← hkk]; exact e1)]
        | false => rw [if_neg (by decide), if_neg (by decide)]
      · cases e1 : (r.O.O (s.d - 1 - 1)).due with
        | false => rfl
        | true => have := (q.due.1 e1).1; cases this
  · -- a scalar
    have e : stepS s x = putS { s with nd := s.nd + 1 } x.V := by unfold stepS; rw [if_pos k]
    rw [e]
    rw [if_pos (.inl k)] at hnd
    rw [if_neg (by omega), if_neg (by omega), hd] at hnn
    have hbu := hn.bump (.inl k)
    rw [hd] at hbu
    refine Rst.is.put (s := { s with nd := s.nd + 1 }) hnn (fun i hlt => ?_) (fun hlt => ?_) hT hn.ne (by rw [hnd, h.nd]) hw fdn
    · have hlt' : i + 1 < s.d := hlt
      show (r'.O.O i).is (s.fr i) false
      rw [hlow i hlt']
      have := h.O i (by omega)
      rw [decide_eq_false (by omega)] at this
      exact this
    · have hlt' : 0 < s.d := hlt
      show (r'.O.O (s.d - 1)).is (putF (s.fr (s.d - 1)) _) true
      rw [hbu hlt']
      have q := h.O (s.d - 1) (by omega)
      rw [decide_eq_true (show s.d - 1 + 1 = s.d by omega)] at q
      have hkk := (f1 hlt').2.2.2 (by omega) (by omega) (by omega)
      refine is_put (o := (r.O.O (s.d - 1)).bump) q.mp ?_ q.K (by show _ + 1 = _; rw [q.cnt]; rfl) rfl
      show (r.O.O (s.d - 1)).k.n = _
      rw [q.kn]
      cases e1 : (s.fr (s.d - 1)).mp with
      | true => rw [if_pos rfl, if_pos rfl, if_pos (hkk e1)]
      | false => rw [if_neg (by decide), if_neg (by decide)]
  · -- a list begins
    have e : stepS s x = pushS { s with nd := s.nd + 1 } false := by unfold stepS; rw [if_neg (by omega), if_neg (by omega), if_pos k]
    rw [e]
    rw [if_pos (.inr (.inl k))] at hnd
    rw [if_neg (by omega), if_pos (.inl k)] at hnn
    have hbu := hn.bump (.inr (.inl k))
    have hnw := hn.new (.inl k)
    rw [hd] at hbu hnw
    rw [decide_eq_false (show ¬ x.k = 4 by omega)] at hnw
    exact h.push fdn hnn hlow (fun q => by rw [hbu q]; exact ⟨rfl, rfl, rfl, rfl⟩) hnw hT hnd hn.wrong
  · -- a map begins
    have e : stepS s x = pushS { s with nd := s.nd + 1 } true := by unfold stepS; rw [if_neg (by omega), if_neg (by omega), if_neg (by omega), if_pos k]
    rw [e]
    rw [if_pos (.inr (.inr k))] at hnd
    rw [if_neg (by omega), if_pos (.inr k)] at hnn
    have hbu := hn.bump (.inr (.inr k))
    have hnw := hn.new (.inr k)
    rw [hd] at hbu hnw
    rw [decide_eq_true (show x.k = 4 from k)] at hnw
    exact h.push fdn hnn hlow (fun q => by rw [hbu q]; exact ⟨rfl, rfl, rfl, rfl⟩) hnw hT hnd hn.wrong
def Rst.Off (S : Nat → Prop) (r : Rst) : Prop := (0 < r.O.n → S r.O.b) ∧ (∀ i, i < r.O.n → 0 < (r.O.O i).k.n → S (r.O.O i).k.b) ∧ (0 < r.T.n → S r.T.b) ∧ ∀ i, i < r.T.n → (r.T.S i).V.Off S
theorem Rst.In.off {W : World} {top : Nat} {r : Rst} (h : r.In W top) : r.Off (· < top) :=
  ⟨fun q => (h.1.1 q).2, fun i hi q => ((h.1.2.2 i hi).2.1 q).2, fun q => (h.2.1 q).2, fun i hi => (h.2.2.2 i hi).2.2.off⟩
theorem Rst.Off.mono {S S' : Nat → Prop} {r : Rst} (h : r.Off S) (hs : ∀ b, S b → S' b) : r.Off S' :=
  ⟨fun q => hs _ (h.1 q), fun i hi q => hs _ (h.2.1 i hi q), fun q => hs _ (h.2.2.1 q), fun i hi => (h.2.2.2 i hi).mono hs⟩
theorem Rst.Off.and {S S' : Nat → Prop} {r : Rst} (h : r.Off S) (g : r.Off S') : r.Off (fun b => S b ∧ S' b) :=
  ⟨fun q => ⟨h.1 q, g.1 q⟩, fun i hi q => ⟨h.2.1 i hi q, g.2.1 i hi q⟩, fun q => ⟨h.2.2.1 q, g.2.2.1 q⟩, fun i hi => (h.2.2.2 i hi).and (g.2.2.2 i hi)⟩
theorem Rst.In.kept {W W' : World} {A : Nat → Prop} {r : Rst} (h : r.In W W.heap.size) (ho : r.Off (fun b => ¬ A b)) (hk : Kept A W W') : r.In W' W'.heap.size := by
  have hb : ∀ b, ¬ A b → b < W.heap.size → W'.heap[b]? = W.heap[b]? := fun b h1 h2 => hk.block b h2 h1
  refine ⟨⟨fun q => ⟨(h.1.1 q).1, Nat.lt_of_lt_of_le (h.1.1 q).2 hk.size⟩, h.1.2.1, fun i hi => ⟨lies_block (h.1.2.2 i hi).1 (hb _ (ho.1 (by omega)) (h.1.1 (by omega)).2), ?_⟩⟩, ⟨fun q => ⟨(h.2.1 q).1, Nat.lt_of_lt_of_le (h.2.1 q).2 hk.size⟩, h.2.2.1, fun i hi => ⟨lies_block (h.2.2.2 i hi).1 (hb _ (ho.2.2.1 (by omega)) (h.2.1 (by omega)).2), (h.2.2.2 i hi).2.1, ?_⟩⟩⟩
  · have q := (h.1.2.2 i hi).2
    exact ⟨fun z => ⟨(q.1 z).1, Nat.lt_of_lt_of_le (q.1 z).2 hk.size⟩, q.2.1, fun j hj => ⟨(World.cell?_of_block (a := ⟨(r.O.O i).k.b, (r.O.O i).k.o + j, none⟩) (hb (r.O.O i).k.b (ho.2.1 i hi (by omega)) (q.1 (by omega)).2)).trans (q.2.2 j hj).1, (q.2.2 j hj).2⟩⟩
  · exact Vt.In.turn (S := fun b => ¬ A b) (fun b h1 hlt => ⟨hb b h1 hlt, Nat.lt_of_lt_of_le hlt hk.size⟩) (h.2.2.2 i hi).2.2 (ho.2.2.2 i hi)
def RAddOut (r : Rst) (x : Ev) (w : World) (e : Ending) (w' : World) : Prop := ∃ r' : Rst, e = .returned (.tuple #[.agg r'.cells, .int .i64 (r.addE x)]) ∧ r'.In w' w'.heap.size ∧ (r.addE x = 0 → Nxt r x r') ∧ (r.addE x ≠ 0 → r' = ⟨r.O, r.T, r.nd, true⟩) ∧ Below w.heap.size w w' ∧ ∀ S : Nat → Prop, r.Off S → x.V.Off S → (∀ b, w.heap.size ≤ b → S b) → r'.Off S
theorem radd_zero {r : Rst} {x : Ev} (h0 : r.addE x = 0) : r.wrong = false ∧ shapeE x = 0 ∧ r.fol x = 0 := by
  unfold Rst.addE at h0
  split at h0
  · omega
  rename_i h1
  split at h0
  · rename_i h2; exact absurd h0 h2
  rename_i h2
  exact ⟨by simpa using h1, Classical.byContradiction h2, h0⟩
theorem rfol_end {r : Rst} {x : Ev} (h : r.fol x = 0) (hk : x.k = 6 ∨ x.k = 3 ∨ x.k = 5) : 0 < r.O.n := by
  unfold Rst.fol at h
  by_cases q : 0 < r.O.n
  · exact q
  · rw [decide_eq_false q] at h
    rcases hk with k | k | k <;> rw [k] at h <;> simp [folN] at h
theorem rfol_beg {r : Rst} {x : Ev} (h : r.fol x = 0) (hk : x.k = 1 ∨ x.k = 2 ∨ x.k = 4) : r.O.n < 48 ∧ r.nd < 65536 := by
  have e : ∀ (b : Bool) (d : Int), (if b = true then (29 : Int) else d) = 0 → d = 0 := fun b d h => by cases b <;> simp at h; exact h
  unfold Rst.fol folN at h
  have h1 := e _ _ h
  rw [if_neg (by omega), if_pos hk] at h1
  split at h1
  · omega
  split at h1
  · omega
  · omega
theorem topO_pos {r : Rst} (h : 0 < r.O.n) : r.topO = r.O.O (r.O.n - 1) := if_neg (by omega)
theorem topO_zero {r : Rst} (h : r.O.n = 0) : r.topO = Opn.zero := if_pos h
structure NxtO (r : Rst) (x : Ev) (O : Ops) (nd : Nat) : Prop where
  low : ∀ i, i + 1 < r.O.n → O.O i = r.O.O i
  nd : nd = if x.k = 1 ∨ x.k = 2 ∨ x.k = 4 then r.nd + 1 else r.nd
  n : O.n = if x.k = 3 ∨ x.k = 5 then r.O.n - 1 else if x.k = 2 ∨ x.k = 4 then r.O.n + 1 else r.O.n
  keyed : x.k = 6 → (r.O.O (r.O.n - 1)).keyed (O.O (r.O.n - 1)) x.key
  bump : x.k = 1 ∨ x.k = 2 ∨ x.k = 4 → 0 < r.O.n → O.O (r.O.n - 1) = (r.O.O (r.O.n - 1)).bump
  new : x.k = 2 ∨ x.k = 4 → (O.O r.O.n).mp = decide (x.k = 4) ∧ (O.O r.O.n).k.n = 0 ∧ (O.O r.O.n).cnt = 0 ∧ (O.O r.O.n).due = false
theorem evs_ok {r : Rst} {x : Ev} {top B : Nat} {w W' : World} {T' : Evs} (hr : r.In w top) (hx : x.ok) (hV : x.V.In w top) (ht : top ≤ w.heap.size) (hb : Below w.heap.size w W') (hT : T'.Row W' B) (hTn : T'.n = r.T.n + 1) (hTS : T'.S = fun i => if i < r.T.n then r.T.S i else x) : T'.In W' W'.heap.size :=
  hT.In fun i hi => by
    rw [hTS]
    by_cases q : i < r.T.n
    · simp only [if_pos q]
      exact ⟨(hr.2.2.2 i q).2.1, ((hr.2.2.2 i q).2.2.below (hb.mono ht)).up (Nat.le_trans ht hb.size)⟩
    · simp only [if_neg q]
      exact ⟨hx, (Vt.In.below (hb.mono ht) hV).up (Nat.le_trans ht hb.size)⟩
theorem radd_out {r : Rst} {x : Ev} {top B nd : Nat} {w W' : World} {O' : Ops} {T' : Evs} (hr : r.In w top) (hx : x.ok) (hV : x.V.In w top) (ht : top ≤ w.heap.size) (h0 : r.addE x = 0) (hb : Below w.heap.size w W')
    (hO : O'.In W' W'.heap.size) (hC : w.heap.size ≤ B) (hOo : ∀ S : Nat → Prop, r.Off S → (∀ b, w.heap.size ≤ b → S b) → (0 < O'.n → S O'.b) ∧ ∀ i, i < O'.n → 0 < (O'.O i).k.n → S (O'.O i).k.b) (hT : T'.Row W' B) (hTn : T'.n = r.T.n + 1) (hTS : T'.S = fun i => if i < r.T.n then r.T.S i else x) (hN : NxtO r x O' nd) : RAddOut r x w (.returned (.tuple #[.agg #[.slice O'.a O'.n O'.c, .slice T'.a T'.n T'.c, .int .i64 nd, .bool false], .int .i64 0])) W' := by
  refine ⟨⟨O', T', nd, false⟩, by rw [h0]; rfl, ⟨hO, evs_ok hr hx hV ht hb hT hTn hTS⟩, fun _ => ⟨?_, ?_, (radd_zero h0).1.symm, hN.low, hN.nd, hN.n, hN.keyed, hN.bump, hN.new⟩, fun q => absurd h0 q, hb, fun S h1 h2 h3 => ⟨(hOo S h1 h3).1, (hOo S h1 h3).2, fun q => h3 _ (Nat.le_trans hC (hT.1 q).2.1), fun i hi => ?_⟩⟩
  rotate_left
  rotate_left
  · have hi' : i < T'.n := hi
    show (T'.S i).V.Off S
    rw [hTS]
    dsimp only
    split
    · exact h1.2.2.2 i (by assumption)
    · exact h2
  · show (List.range T'.n).map T'.S = (List.range r.T.n).map r.T.S ++ [x]
    rw [hTn, hTS, List.range_succ, List.map_append]
    congr 1
    · refine List.map_congr_left fun i hi => ?_
      rw [if_pos (List.mem_range.1 hi)]
    · simp
  · show 0 < T'.n
    omega
theorem radd_bad {r : Rst} {x : Ev} {top : Nat} {w W' : World} {E : Int} (hr : r.In w top) (ht : top ≤ w.heap.size) (h0 : r.addE x ≠ 0) (hE : r.addE x = E) (hb : Below w.heap.size w W') : RAddOut r x w (.returned (.tuple #[.agg #[.slice r.O.a r.O.n r.O.c, .slice r.T.a r.T.n r.T.c, .int .i64 r.nd, .bool true], .int .i64 E])) W' :=
  ⟨⟨r.O, r.T, r.nd, true⟩, by rw [hE]; rfl, ((Rst.In.below (r := r) hr (hb.mono ht)).up (Nat.le_trans ht hb.size)), fun q => absurd q h0, fun _ => rfl, hb, fun S h1 _ _ => h1⟩
theorem ops_push {mp : Bool} {n : Nat} (hn : n < 48) (p : Ops) (W1 : World) (B : Nat) (hp : p.Row W1 B) (hpn : p.n = n) : ∃ newo, newo.length = n * 4 ∧ (∀ u ∈ newo, u.oneCell' = true) ∧ (∀ w1, Kept (fun b => b < B) W1 w1 → 0 < n → ∃ ad, p.a = some ad ∧ ∀ (j : Nat) (u : Value), newo[j]? = some u → w1.cell? (ad.add j) = some u) ∧
    ∀ (a2 : Option Addr) (c2 : Nat) (B2 : Nat) (w' : World), w'.ownsRow B2 90 4 (.slice a2 (n + 1) c2) (n + 1) (([] ++ newo) ++ (#[.bool mp, .slice none 0 0, .int .i64 0, .bool false] : Array Value).toList) → ∃ p2 : Ops, Value.slice a2 (n + 1) c2 = .slice p2.a p2.n p2.c ∧ p2.n = n + 1 ∧ (∀ i, i < n → p2.O i = p.O i) ∧ p2.O n = ⟨mp, ⟨none, 0, 0, 0, 0, fun _ => ⟨#[]⟩⟩, 0, false⟩ ∧ p2.Row w' B2 := by
  subst hpn
  refine ⟨catN (fun i => (p.O i).cells) p.n, catN_len (fun j => (show (p.O j).cells.size = 4 from rfl)) p.n, catN_one (fun j u hu => by simp only [Opn.cells, List.mem_cons, List.not_mem_nil, or_false] at hu; rcases hu with rfl | rfl | rfl | rfl <;> rfl) p.n, fun w1 hk h0 => ⟨⟨p.b, p.o, none⟩, (hp.1 h0).1, rowL_src (fun j => (show (p.O j).cells.size = 4 from rfl)) (fun j hj => (hp.kept hk (fun b hb => hb)).2.2 j hj)⟩, fun a2 c2 B2 w' ho => ?_⟩
  obtain ⟨p2, e1, e2, e3, e4⟩ := ops_row (n := p.n + 1) (O := fun i => if i < p.n then p.O i else ⟨mp, ⟨none, 0, 0, 0, 0, fun _ => ⟨#[]⟩⟩, 0, false⟩) (v := .slice a2 (p.n + 1) c2) (W := w') (B := B2) (by
    have e : catN (fun i => (if i < p.n then p.O i else ⟨mp, ⟨none, 0, 0, 0, 0, fun _ => ⟨#[]⟩⟩, 0, false⟩ : Opn).cells) (p.n + 1) = catN (fun i => (p.O i).cells) p.n ++ (#[.bool mp, .slice none 0 0, .int .i64 0, .bool false] : Array Value).toList :=
      catN_more (fun i hi => by rw [if_pos hi]) (by rw [if_neg (Nat.lt_irrefl _)]; rfl)
    rw [e]
    exact ho) hn
  exact ⟨p2, e1, e2, fun i hi => by rw [e3]; exact if_pos hi, by rw [e3]; exact if_neg (Nat.lt_irrefl _), e4⟩
theorem ops_one {mp : Bool} (a2 : Option Addr) (c2 : Nat) (B2 : Nat) (w' : World) (ho : w'.ownsRow B2 90 4 (.slice a2 1 c2) 1 (([] ++ []) ++ (#[.bool mp, .slice none 0 0, .int .i64 0, .bool false] : Array Value).toList)) : ∃ p2 : Ops, Value.slice a2 1 c2 = .slice p2.a p2.n p2.c ∧ p2.n = 1 ∧ p2.O 0 = ⟨mp, ⟨none, 0, 0, 0, 0, fun _ => ⟨#[]⟩⟩, 0, false⟩ ∧ p2.Row w' B2 := by
  obtain ⟨p2, e1, e2, e3, e4⟩ := ops_row (n := 1) (O := fun i => ⟨mp, ⟨none, 0, 0, 0, 0, fun _ => ⟨#[]⟩⟩, 0, false⟩) (v := .slice a2 1 c2) (W := w') (B := B2) ho (by decide)
  exact ⟨p2, e1, e2, by rw [e3], e4⟩
section
variable {r : Rst} {x : Ev} {top : Nat} {w : World}
def OutS (r : Rst) (x : Ev) (w : World) (p : Ops) (T' : Evs) (N' : Int) (W' : World) : Prop := RAddOut r x w (.returned (.tuple #[.agg #[.slice p.a p.n p.c, .slice T'.a T'.n T'.c, .int .i64 N', .bool false], .int .i64 0])) W'
theorem in_old (hr : r.In w top) (ht : top ≤ w.heap.size) {W' : World} (hb : Below w.heap.size w W') {i : Nat} (hi : i < r.O.n) : (r.O.O i).k.In W' W'.heap.size := ((hr.1.2.2 i hi).2.below (hb.mono ht)).up (Nat.le_trans ht hb.size)
theorem out_key (hr : r.In w top) (hx : x.ok) (hV : x.V.In w top) (ht : top ≤ w.heap.size) (h0 : r.addE x = 0) (hk : x.k = 6) (hn : 0 < r.O.n) (T' : Evs) (K' : Sts) (p : Ops) (N' : Int) (B C : Nat) (W' : World) (hN : N' = r.nd) (hC : w.heap.size ≤ C) (hT : T'.Row W' C) (h1 : T'.n = r.T.n + 1) (h2 : T'.S = fun i => if i < r.T.n then r.T.S i else x) (hBC : w.heap.size ≤ B) (hK : K'.Row W' B) (k1 : K'.n = (r.O.O (r.O.n - 1)).k.n + 1)
    (k2 : K'.K = fun j => if j < (r.O.O (r.O.n - 1)).k.n then (r.O.O (r.O.n - 1)).k.K j else x.key) (hp : p.Row W' w.heap.size) (p1 : p.n = r.O.n) (p2 : ∀ i, i + 1 < r.O.n → p.O i = r.O.O i) (p3 : p.O (r.O.n - 1) = ⟨(r.O.O (r.O.n - 1)).mp, K', (r.O.O (r.O.n - 1)).cnt, true⟩) (hb : Below w.heap.size w W') : OutS r x w p T' N' W' := by
  subst hN
  refine radd_out hr hx hV ht h0 hb (hp.In fun i hi => ?_) hC (fun S h1 h3 => ⟨fun q => h3 _ (hp.1 q).2.1, fun i hi q => (by
    by_cases z : i + 1 < r.O.n
    · rw [p2 i z] at q ⊢; exact h1.2.1 i (by omega) q
    · obtain rfl : i = r.O.n - 1 := by omega
      rw [p3] at q ⊢; exact h3 _ (Nat.le_trans hBC (hK.1 q).2.1))⟩) hT h1 h2 ⟨p2, by rw [if_neg (by omega)], by rw [if_neg (by omega), if_neg (by omega)]; exact p1, fun _ => ?_, fun q => by omega, fun q => by omega⟩
  · by_cases q : i + 1 < r.O.n
    · rw [p2 i q]
      exact in_old hr ht hb (by omega)
    · obtain rfl : i = r.O.n - 1 := by omega
      rw [p3]
      refine hK.In fun j hj => ?_
      rw [k2]
      dsimp only
      split
      · exact ((hr.1.2.2 (r.O.n - 1) (by omega)).2.2.2 j (by assumption)).2
      · exact hx.key
  · rw [p3]
    exact ⟨rfl, k1, fun j hj => by dsimp only; rw [k2]; exact if_pos hj, by dsimp only; rw [k2]; exact if_neg (Nat.lt_irrefl _), rfl, rfl⟩
theorem out_end (hr : r.In w top) (hx : x.ok) (hV : x.V.In w top) (ht : top ≤ w.heap.size) (h0 : r.addE x = 0) (hk : x.k = 3 ∨ x.k = 5) (T' : Evs) (p : Ops) (N' : Int) (C : Nat) (W' : World) (hN : N' = r.nd) (hC : w.heap.size ≤ C) (hT : T'.Row W' C) (h1 : T'.n = r.T.n + 1) (h2 : T'.S = fun i => if i < r.T.n then r.T.S i else x) (hp : p.Row W' w.heap.size) (p1 : p.n = r.O.n - 1) (p2 : p.O = r.O.O) (hb : Below w.heap.size w W') : OutS r x w p T' N' W' := by
  subst hN
  refine radd_out hr hx hV ht h0 hb (hp.In fun i hi => ?_) hC (fun S h1 h3 => ⟨fun q => h3 _ (hp.1 q).2.1, fun i hi q => (by rw [p2] at q ⊢; exact h1.2.1 i (by omega) q)⟩) hT h1 h2 ⟨fun i _ => by rw [p2], by rw [if_neg (by omega)], by rw [if_pos (by omega)]; exact p1, fun q => by omega, fun q => by omega, fun q => by omega⟩
  rw [p2]
  exact in_old hr ht hb (by omega)
theorem out_sca (hr : r.In w top) (hx : x.ok) (hV : x.V.In w top) (ht : top ≤ w.heap.size) (h0 : r.addE x = 0) (hk : x.k = 1) (hn : 0 < r.O.n) (T' : Evs) (p : Ops) (N' : Int) (C : Nat) (W' : World) (hN : N' = (r.nd : Int) + 1) (hC : w.heap.size ≤ C) (hT : T'.Row W' C) (h1 : T'.n = r.T.n + 1) (h2 : T'.S = fun i => if i < r.T.n then r.T.S i else x) (hp : p.Row W' w.heap.size) (p1 : p.n = r.O.n) (p2 : ∀ i, i + 1 < r.O.n → p.O i = r.O.O i) (p3 : p.O (r.O.n - 1) = (r.O.O (r.O.n - 1)).bump) (hb : Below w.heap.size w W') : OutS r x w p T' N' W' := by
  subst hN
  refine radd_out (nd := r.nd + 1) hr hx hV ht h0 hb (hp.In fun i hi => ?_) hC (fun S h1 h3 => ⟨fun q => h3 _ (hp.1 q).2.1, fun i hi q => (by
    by_cases z : i + 1 < r.O.n
    · rw [p2 i z] at q ⊢; exact h1.2.1 i (by omega) q
    · obtain rfl : i = r.O.n - 1 := by omega
      rw [p3] at q ⊢; exact h1.2.1 (r.O.n - 1) (by omega) q)⟩) hT h1 h2 ⟨p2, by rw [if_pos (by omega)], by rw [if_neg (by omega), if_neg (by omega)]; exact p1, fun q => by omega, fun _ _ => p3, fun q => by omega⟩
  by_cases q : i + 1 < r.O.n
  · rw [p2 i q]
    exact in_old hr ht hb (by omega)
  · obtain rfl : i = r.O.n - 1 := by omega
    rw [p3]
    exact in_old hr ht hb (by omega)
theorem out_sca0 (hr : r.In w top) (hx : x.ok) (hV : x.V.In w top) (ht : top ≤ w.heap.size) (h0 : r.addE x = 0) (hk : x.k = 1) (hn : r.O.n = 0) (T' : Evs) (N' : Int) (C : Nat) (W' : World) (hN : N' = (r.nd : Int) + 1) (hC : w.heap.size ≤ C) (hT : T'.Row W' C) (h1 : T'.n = r.T.n + 1) (h2 : T'.S = fun i => if i < r.T.n then r.T.S i else x) (hb : Below w.heap.size w W') : OutS r x w r.O T' N' W' := by
  subst hN
  exact radd_out (O' := r.O) (nd := r.nd + 1) hr hx hV ht h0 hb (hr.1.below (hb.mono ht) |>.up (Nat.le_trans ht hb.size)) hC (fun S h1 _ => ⟨h1.1, h1.2.1⟩) hT h1 h2 ⟨fun _ _ => rfl, by rw [if_pos (by omega)], by rw [if_neg (by omega), if_neg (by omega)], fun q => by omega, fun _ q => by omega, fun q => by omega⟩
theorem out_beg (hr : r.In w top) (hx : x.ok) (hV : x.V.In w top) (ht : top ≤ w.heap.size) (h0 : r.addE x = 0) (hk : x.k = 2 ∨ x.k = 4) (T' : Evs) (p : Ops) (N' : Int) (C : Nat) (W' : World) (hN : N' = (r.nd : Int) + 1) (hC : w.heap.size ≤ C) (hT : T'.Row W' C) (h1 : T'.n = r.T.n + 1) (h2 : T'.S = fun i => if i < r.T.n then r.T.S i else x) (hp : p.Row W' w.heap.size) (p1 : p.n = r.O.n + 1) (p2 : ∀ i, i + 1 < r.O.n → p.O i = r.O.O i) (p3 : 0 < r.O.n → p.O (r.O.n - 1) = (r.O.O (r.O.n - 1)).bump) (p4 : p.O r.O.n = ⟨x.k == 4, ⟨none, 0, 0, 0, 0, fun _ => ⟨#[]⟩⟩, 0, false⟩) (hb : Below w.heap.size w W') : OutS r x w p T' N' W' := by
  subst hN
  refine radd_out (nd := r.nd + 1) hr hx hV ht h0 hb (hp.In fun i hi => ?_) hC (fun S h1 h3 => ⟨fun q => h3 _ (hp.1 q).2.1, fun i hi q => (by
    by_cases z : i + 1 < r.O.n
    · rw [p2 i z] at q ⊢; exact h1.2.1 i (by omega) q
    by_cases z2 : i + 1 = r.O.n
    · obtain rfl : i = r.O.n - 1 := by omega
      rw [p3 (by omega)] at q ⊢; exact h1.2.1 (r.O.n - 1) (by omega) q
    obtain rfl : i = r.O.n := by omega
    rw [p4] at q; exact absurd q (Nat.lt_irrefl _))⟩) hT h1 h2 ⟨p2, by rw [if_pos (by omega)], by rw [if_neg (by omega), if_pos (by omega)]; exact p1, fun q => by omega, fun _ q => p3 q, fun _ => by rw [p4]; exact ⟨rfl, rfl, rfl, rfl⟩⟩
  by_cases q : i + 1 < r.O.n
  · rw [p2 i q]
    exact in_old hr ht hb (by omega)
  by_cases q2 : i + 1 = r.O.n
  · obtain rfl : i = r.O.n - 1 := by omega
    rw [p3 (by omega)]
    exact in_old hr ht hb (by omega)
  obtain rfl : i = r.O.n := by omega
  rw [p4]
  exact ⟨fun q => absurd q (Nat.lt_irrefl _), ⟨Nat.zero_le _, Nat.le_refl _, Nat.zero_le _⟩, fun i q => absurd q (Nat.not_lt_zero _)⟩
end
end Go.Proofs.YtpcbhneaaibfiaaDoor
