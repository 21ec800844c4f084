/- Laid together. -/
import Derived.Test.YtpcbhneaaibfiaaDoorPB34
import Derived.Test.YtpcbhneaaibfiaaDoorPB01
import Derived.OrdersHeld
import Derived.ProofKit
import Derived.Deep.RegionHeld
set_option linter.unusedVariables false
set_option linter.unusedSimpArgs false
set_option maxHeartbeats 16000000
set_option maxRecDepth 100000
namespace Go.Proofs.YtpcbhneaaibfiaaDoor
open Go.RowKit
noncomputable def Rst.addE (r : Rst) (x : Ev) : Int:=if r.wrong = true then 29 else if shapeE x ≠ 0 then shapeE x else r.fol x
theorem shape_kinds {x : Ev} (h : shapeE x = 0) : x.k = 6 ∨ x.k = 3 ∨ x.k = 5 ∨ x.k = 1 ∨ x.k = 2 ∨ x.k = 4:=by
 have:=(shapeE_ok h).1
 omega
theorem raddE {r : Rst} {s : Bst} {l : List Ev} {x : Ev} (h : r.is s l) : r.addE x = Proofs.YtpcbhneaaibfiaaDoor.addE s x:=by
 unfold Rst.addE Proofs.YtpcbhneaaibfiaaDoor.addE
 rw [h.wrong]
 by_cases hb : s.bad = true
 ·rw [if_pos hb,if_pos hb]
 rw [if_neg hb,if_neg hb]
 by_cases hs : shapeE x = 0
 ·rw [if_neg (by simp [hs]),if_neg (by simp [hs])]
  exact rfol_eq h (shape_kinds hs)
 ·rw [if_pos hs,if_pos hs]
def Opn.bump (o : Opn) : Opn:=⟨o.mp,o.k,o.cnt + 1,false⟩
structure Opn.keyed (o o' : Opn) (key : ByteArray) : Prop where
 mp : o'.mp = o.mp
 n : o'.k.n = o.k.n + 1
 K : ∀ j,j < o.k.n -> o'.k.K j = o.k.K j
 key : o'.k.K o.k.n = key
 cnt : o'.cnt = o.cnt
 due : o'.due = true
structure Nxt (r : Rst) (x : Ev) (r' : Rst) : Prop where
 T : r'.T.list = r.T.list ++ [x]
 ne : 0 < r'.T.n
 wrong : r'.wrong = r.wrong
 low : ∀ i,i + 1 < r.O.n -> r'.O.O i = r.O.O i
 nd : r'.nd = if x.k = 1 ∨ x.k = 2 ∨ x.k = 4 then r.nd + 1 else r.nd
 n : r'.O.n = if x.k = 3 ∨ x.k = 5 then r.O.n - 1 else if x.k = 2 ∨ x.k = 4 then r.O.n + 1 else r.O.n
 keyed : x.k = 6 -> (r.O.O (r.O.n - 1)).keyed (r'.O.O (r.O.n - 1)) x.key
 bump : x.k = 1 ∨ x.k = 2 ∨ x.k = 4 -> 0 < r.O.n -> r'.O.O (r.O.n - 1) = (r.O.O (r.O.n - 1)).bump
 new : x.k = 2 ∨ x.k = 4 -> (r'.O.O r.O.n).mp = decide (x.k = 4) /\ (r'.O.O r.O.n).k.n = 0 /\ (r'.O.O r.O.n).cnt = 0 /\ (r'.O.O r.O.n).due = false
theorem nxt_is {r r' : Rst} {s : Bst} {l : List Ev} {x : Ev} (h : r.is s l) (hi : s.inv) (h0 : addE s x = 0) (hn : Nxt r x r') : r'.is (addS s x) (l ++ [x]):=by
 obtain ⟨hb,hs,hf,hbeg⟩:=addE_ok h0
 rw [addS_ok h0]
 have hT : r'.T.list = l ++ [x]:=by rw [hn.T,h.T]
 have hw : r'.wrong = s.bad:=by rw [hn.wrong,h.wrong]
 have hd:=h.d
 obtain ⟨fdn,f0,f1⟩:=followE_ok hf
 have hnd:=hn.nd
 have hnn:=hn.n
 have hlow:=hn.low
 rw [hd] at hlow
 rcases shape_kinds hs with k | k | k | k | k | k
 · -- a key
  have e : stepS s x = keyS s x.key:=by unfold stepS;rw [if_neg (by omega),if_pos k]
  rw [e]
  have hd0 : 0 < s.d:=by
   rcases Nat.eq_zero_or_pos s.d with q | q
   ·exact absurd k (f0 q).1
   ·exact q
  obtain ⟨m1,m2,-⟩:=(f1 hd0).1 k
  have hk:=hn.keyed k
  rw [hd] at hk
  rw [if_neg (by omega)] at hnd
  rw [if_neg (by omega),if_neg (by omega)] at hnn
  exact h.key hd0 m1 m2 hnn hlow hk.mp hk.n hk.K hk.key hk.cnt hk.due hT hnd hn.wrong
 · -- an end
  have e : stepS s x = popS s:=by unfold stepS;rw [if_neg (by omega),if_neg (by omega),if_neg (by omega),if_neg (by omega)]
  rw [e]
  have hd0 : 0 < s.d:=by
   rcases Nat.eq_zero_or_pos s.d with q | q
   ·exact absurd k (f0 q).2.1
   ·exact q
  rw [if_neg (by omega)] at hnd
  rw [if_pos (.inl k),hd] at hnn
  refine Rst.is.put (s:={ s with d:=s.d - 1 }) hnn (fun i hlt => ?_) (fun hlt => ?_) hT hn.ne (hnd.trans h.nd) hw fdn
  ·have hlt' : i + 1 < s.d - 1:=hlt
   show (r'.O.O i).is (s.fr i) false
   rw [hlow i (by omega)]
   have:=h.O i (by omega)
   rw [decide_eq_false (by omega)] at this
   exact this
  ·have hlt' : 0 < s.d - 1:=hlt
   show (r'.O.O (s.d - 1 - 1)).is (putF (s.fr (s.d - 1 - 1)) _) true
   rw [hlow (s.d - 1 - 1) (by omega)]
   have q:=h.O (s.d - 1 - 1) (by omega)
   rw [decide_eq_false (by omega)] at q
   have hkk:=hi.keyed (s.d - 1 - 1) (by omega)
   refine is_put q.mp ?_ q.K (by rw [q.cnt];rfl) ?_
   ·rw [q.kn]
    cases e1 : (s.fr (s.d - 1 - 1)).mp with
    | true => rw [if_pos rfl,if_pos rfl,if_pos (by rw [<- hkk];exact e1)]
    | false => rw [if_neg (by decide),if_neg (by decide)]
   ·cases e1 : (r.O.O (s.d - 1 - 1)).due with
    | false => rfl
    | true => have:=(q.due.1 e1).1;cases this
 ·have e : stepS s x = popS s:=by unfold stepS;rw [if_neg (by omega),if_neg (by omega),if_neg (by omega),if_neg (by omega)]
  rw [e]
  have hd0 : 0 < s.d:=by
   rcases Nat.eq_zero_or_pos s.d with q | q
   ·exact absurd k (f0 q).2.2
   ·exact q
  rw [if_neg (by omega)] at hnd
  rw [if_pos (.inr k),hd] at hnn
  refine Rst.is.put (s:={ s with d:=s.d - 1 }) hnn (fun i hlt => ?_) (fun hlt => ?_) hT hn.ne (hnd.trans h.nd) hw fdn
  ·have hlt' : i + 1 < s.d - 1:=hlt
   show (r'.O.O i).is (s.fr i) false
   rw [hlow i (by omega)]
   have:=h.O i (by omega)
   rw [decide_eq_false (by omega)] at this
   exact this
  ·have hlt' : 0 < s.d - 1:=hlt
   show (r'.O.O (s.d - 1 - 1)).is (putF (s.fr (s.d - 1 - 1)) _) true
   rw [hlow (s.d - 1 - 1) (by omega)]
   have q:=h.O (s.d - 1 - 1) (by omega)
   rw [decide_eq_false (by omega)] at q
   have hkk:=hi.keyed (s.d - 1 - 1) (by omega)
   refine is_put q.mp ?_ q.K (by rw [q.cnt];rfl) ?_
   ·rw [q.kn]
    cases e1 : (s.fr (s.d - 1 - 1)).mp with
    | true => rw [if_pos rfl,if_pos rfl,if_pos (by rw [<- hkk];exact e1)]
    | false => rw [if_neg (by decide),if_neg (by decide)]
   ·cases e1 : (r.O.O (s.d - 1 - 1)).due with
    | false => rfl
    | true => have:=(q.due.1 e1).1;cases this
 · -- a scalar
  have e : stepS s x = putS { s with nd:=s.nd + 1 } x.V:=by unfold stepS;rw [if_pos k]
  rw [e]
  rw [if_pos (.inl k)] at hnd
  rw [if_neg (by omega),if_neg (by omega),hd] at hnn
  have hbu:=hn.bump (.inl k)
  rw [hd] at hbu
  refine Rst.is.put (s:={ s with nd:=s.nd + 1 }) hnn (fun i hlt => ?_) (fun hlt => ?_) hT hn.ne (by rw [hnd,h.nd]) hw fdn
  ·have hlt' : i + 1 < s.d:=hlt
   show (r'.O.O i).is (s.fr i) false
   rw [hlow i hlt']
   have:=h.O i (by omega)
   rw [decide_eq_false (by omega)] at this
   exact this
  ·have hlt' : 0 < s.d:=hlt
   show (r'.O.O (s.d - 1)).is (putF (s.fr (s.d - 1)) _) true
   rw [hbu hlt']
   have q:=h.O (s.d - 1) (by omega)
   rw [decide_eq_true (show s.d - 1 + 1 = s.d by omega)] at q
   have hkk:=(f1 hlt').2.2.2 (by omega) (by omega) (by omega)
   refine is_put (o:=(r.O.O (s.d - 1)).bump) q.mp ?_ q.K (by show _ + 1 = _;rw [q.cnt];rfl) rfl
   show (r.O.O (s.d - 1)).k.n = _
   rw [q.kn]
   cases e1 : (s.fr (s.d - 1)).mp with
   | true => rw [if_pos rfl,if_pos rfl,if_pos (hkk e1)]
   | false => rw [if_neg (by decide),if_neg (by decide)]
 · -- a list begins
  have e : stepS s x = pushS { s with nd:=s.nd + 1 } false:=by unfold stepS;rw [if_neg (by omega),if_neg (by omega),if_pos k]
  rw [e]
  rw [if_pos (.inr (.inl k))] at hnd
  rw [if_neg (by omega),if_pos (.inl k)] at hnn
  have hbu:=hn.bump (.inr (.inl k))
  have hnw:=hn.new (.inl k)
  rw [hd] at hbu hnw
  rw [decide_eq_false (show ¬ x.k = 4 by omega)] at hnw
  exact h.push fdn hnn hlow (fun q => by rw [hbu q];exact ⟨rfl,rfl,rfl,rfl⟩) hnw hT hnd hn.wrong
 · -- a map begins
  have e : stepS s x = pushS { s with nd:=s.nd + 1 } true:=by unfold stepS;rw [if_neg (by omega),if_neg (by omega),if_neg (by omega),if_pos k]
  rw [e]
  rw [if_pos (.inr (.inr k))] at hnd
  rw [if_neg (by omega),if_pos (.inr k)] at hnn
  have hbu:=hn.bump (.inr (.inr k))
  have hnw:=hn.new (.inr k)
  rw [hd] at hbu hnw
  rw [decide_eq_true (show x.k = 4 from k)] at hnw
  exact h.push fdn hnn hlow (fun q => by rw [hbu q];exact ⟨rfl,rfl,rfl,rfl⟩) hnw hT hnd hn.wrong
def Rst.Off (S : Nat -> Prop) (r : Rst) : Prop:=(0 < r.O.n -> S r.O.b) /\ (∀ i,i < r.O.n -> 0 < (r.O.O i).k.n -> S (r.O.O i).k.b) /\ (0 < r.T.n -> S r.T.b) /\ ∀ i,i < r.T.n -> (r.T.S i).V.Off S
theorem Rst.In.off {W : World} {top : Nat} {r : Rst} (h : r.In W top) : r.Off (· < top) :=
 ⟨fun q => (h.1.1 q).2,fun i hi q => ((h.1.2.2 i hi).2.1 q).2,fun q => (h.2.1 q).2,fun i hi => (h.2.2.2 i hi).2.2.off⟩
theorem Rst.Off.mono {S S' : Nat -> Prop} {r : Rst} (h : r.Off S) (hs : ∀ b,S b -> S' b) : r.Off S' :=
 ⟨fun q => hs _ (h.1 q),fun i hi q => hs _ (h.2.1 i hi q),fun q => hs _ (h.2.2.1 q),fun i hi => (h.2.2.2 i hi).mono hs⟩
theorem Rst.Off.and {S S' : Nat -> Prop} {r : Rst} (h : r.Off S) (g : r.Off S') : r.Off (fun b => S b /\ S' b) :=
 ⟨fun q => ⟨h.1 q,g.1 q⟩,fun i hi q => ⟨h.2.1 i hi q,g.2.1 i hi q⟩,fun q => ⟨h.2.2.1 q,g.2.2.1 q⟩,fun i hi => (h.2.2.2 i hi).and (g.2.2.2 i hi)⟩
theorem Rst.In.kept {W W' : World} {A : Nat -> Prop} {r : Rst} (h : r.In W W.heap.size) (ho : r.Off (fun b => ¬ A b)) (hk : Kept A W W') : r.In W' W'.heap.size:=by
 have hb : ∀ b,¬ A b -> b < W.heap.size -> W'.heap[b]? = W.heap[b]?:=fun b h1 h2 => hk.block b h2 h1
 refine ⟨⟨fun q => ⟨(h.1.1 q).1,Nat.lt_of_lt_of_le (h.1.1 q).2 hk.size⟩,h.1.2.1,fun i hi => ⟨lies_block (h.1.2.2 i hi).1 (hb _ (ho.1 (by omega)) (h.1.1 (by omega)).2),?_⟩⟩,⟨fun q => ⟨(h.2.1 q).1,Nat.lt_of_lt_of_le (h.2.1 q).2 hk.size⟩,h.2.2.1,fun i hi => ⟨lies_block (h.2.2.2 i hi).1 (hb _ (ho.2.2.1 (by omega)) (h.2.1 (by omega)).2),(h.2.2.2 i hi).2.1,?_⟩⟩⟩
 ·have q:=(h.1.2.2 i hi).2
  exact ⟨fun z => ⟨(q.1 z).1,Nat.lt_of_lt_of_le (q.1 z).2 hk.size⟩,q.2.1,fun j hj => ⟨(World.cell?_of_block (a:=⟨(r.O.O i).k.b,(r.O.O i).k.o + j,none⟩) (hb (r.O.O i).k.b (ho.2.1 i hi (by omega)) (q.1 (by omega)).2)).trans (q.2.2 j hj).1,(q.2.2 j hj).2⟩⟩
 ·exact Vt.In.turn (S:=fun b => ¬ A b) (fun b h1 hlt => ⟨hb b h1 hlt,Nat.lt_of_lt_of_le hlt hk.size⟩) (h.2.2.2 i hi).2.2 (ho.2.2.2 i hi)
def RAddOut (r : Rst) (x : Ev) (w : World) (e : Ending) (w' : World) : Prop:=∃ r' : Rst,e = .returned (.tuple #[.agg r'.cells,.int .i64 (r.addE x)]) /\ r'.In w' w'.heap.size /\ (r.addE x = 0 -> Nxt r x r') /\ (r.addE x ≠ 0 -> r' = ⟨r.O,r.T,r.nd,true⟩) /\ Below w.heap.size w w' /\ ∀ S : Nat -> Prop,r.Off S -> x.V.Off S -> (∀ b,w.heap.size <= b -> S b) -> r'.Off S
theorem radd_zero {r : Rst} {x : Ev} (h0 : r.addE x = 0) : r.wrong = false /\ shapeE x = 0 /\ r.fol x = 0:=by
 unfold Rst.addE at h0
 split at h0
 ·omega
 rename_i h1
 split at h0
 ·rename_i h2;exact absurd h0 h2
 rename_i h2
 exact ⟨by simpa using h1,Classical.byContradiction h2,h0⟩
theorem rfol_end {r : Rst} {x : Ev} (h : r.fol x = 0) (hk : x.k = 6 ∨ x.k = 3 ∨ x.k = 5) : 0 < r.O.n:=by
 unfold Rst.fol at h
 by_cases q : 0 < r.O.n
 ·exact q
 ·rw [decide_eq_false q] at h
  rcases hk with k | k | k <;> rw [k] at h <;> simp [folN] at h
theorem rfol_beg {r : Rst} {x : Ev} (h : r.fol x = 0) (hk : x.k = 1 ∨ x.k = 2 ∨ x.k = 4) : r.O.n < 48 /\ r.nd < 65536:=by
 have e : ∀ (b : Bool) (d : Int),(if b = true then (29 : Int) else d) = 0 -> d = 0:=fun b d h => by cases b <;> simp at h;exact h
 unfold Rst.fol folN at h
 have h1:=e _ _ h
 rw [if_neg (by omega),if_pos hk] at h1
 split at h1
 ·omega
 split at h1
 ·omega
 ·omega
theorem topO_pos {r : Rst} (h : 0 < r.O.n) : r.topO = r.O.O (r.O.n - 1):=if_neg (by omega)
theorem topO_zero {r : Rst} (h : r.O.n = 0) : r.topO = Opn.zero:=if_pos h
structure NxtO (r : Rst) (x : Ev) (O : Ops) (nd : Nat) : Prop where
 low : ∀ i,i + 1 < r.O.n -> O.O i = r.O.O i
 nd : nd = if x.k = 1 ∨ x.k = 2 ∨ x.k = 4 then r.nd + 1 else r.nd
 n : O.n = if x.k = 3 ∨ x.k = 5 then r.O.n - 1 else if x.k = 2 ∨ x.k = 4 then r.O.n + 1 else r.O.n
 keyed : x.k = 6 -> (r.O.O (r.O.n - 1)).keyed (O.O (r.O.n - 1)) x.key
 bump : x.k = 1 ∨ x.k = 2 ∨ x.k = 4 -> 0 < r.O.n -> O.O (r.O.n - 1) = (r.O.O (r.O.n - 1)).bump
 new : x.k = 2 ∨ x.k = 4 -> (O.O r.O.n).mp = decide (x.k = 4) /\ (O.O r.O.n).k.n = 0 /\ (O.O r.O.n).cnt = 0 /\ (O.O r.O.n).due = false
theorem evs_ok {r : Rst} {x : Ev} {top B : Nat} {w W' : World} {T' : Evs} (hr : r.In w top) (hx : x.ok) (hV : x.V.In w top) (ht : top <= w.heap.size) (hb : Below w.heap.size w W') (hT : T'.Row W' B) (hTn : T'.n = r.T.n + 1) (hTS : T'.S = fun i => if i < r.T.n then r.T.S i else x) : T'.In W' W'.heap.size :=
 hT.In fun i hi => by
  rw [hTS]
  by_cases q : i < r.T.n
  ·simp only [if_pos q]
   exact ⟨(hr.2.2.2 i q).2.1,((hr.2.2.2 i q).2.2.below (hb.mono ht)).up (Nat.le_trans ht hb.size)⟩
  ·simp only [if_neg q]
   exact ⟨hx,(Vt.In.below (hb.mono ht) hV).up (Nat.le_trans ht hb.size)⟩
theorem radd_out {r : Rst} {x : Ev} {top B nd : Nat} {w W' : World} {O' : Ops} {T' : Evs} (hr : r.In w top) (hx : x.ok) (hV : x.V.In w top) (ht : top <= w.heap.size) (h0 : r.addE x = 0) (hb : Below w.heap.size w W')
 (hO : O'.In W' W'.heap.size) (hC : w.heap.size <= B) (hOo : ∀ S : Nat -> Prop,r.Off S -> (∀ b,w.heap.size <= b -> S b) -> (0 < O'.n -> S O'.b) /\ ∀ i,i < O'.n -> 0 < (O'.O i).k.n -> S (O'.O i).k.b) (hT : T'.Row W' B) (hTn : T'.n = r.T.n + 1) (hTS : T'.S = fun i => if i < r.T.n then r.T.S i else x) (hN : NxtO r x O' nd) : RAddOut r x w (.returned (.tuple #[.agg #[.slice O'.a O'.n O'.c,.slice T'.a T'.n T'.c,.int .i64 nd,.bool false],.int .i64 0])) W':=by
 refine ⟨⟨O',T',nd,false⟩,by rw [h0];rfl,⟨hO,evs_ok hr hx hV ht hb hT hTn hTS⟩,fun _ => ⟨?_,?_,(radd_zero h0).1.symm,hN.low,hN.nd,hN.n,hN.keyed,hN.bump,hN.new⟩,fun q => absurd h0 q,hb,fun S h1 h2 h3 => ⟨(hOo S h1 h3).1,(hOo S h1 h3).2,fun q => h3 _ (Nat.le_trans hC (hT.1 q).2.1),fun i hi => ?_⟩⟩
 rotate_left
 rotate_left
 ·have hi' : i < T'.n:=hi
  show (T'.S i).V.Off S
  rw [hTS]
  dsimp only
  split
  ·exact h1.2.2.2 i (by assumption)
  ·exact h2
 ·show (List.range T'.n).map T'.S = (List.range r.T.n).map r.T.S ++ [x]
  rw [hTn,hTS,List.range_succ,List.map_append]
  congr 1
  ·refine List.map_congr_left fun i hi => ?_
   rw [if_pos (List.mem_range.1 hi)]
  ·simp
 ·show 0 < T'.n
  omega
theorem radd_bad {r : Rst} {x : Ev} {top : Nat} {w W' : World} {E : Int} (hr : r.In w top) (ht : top <= w.heap.size) (h0 : r.addE x ≠ 0) (hE : r.addE x = E) (hb : Below w.heap.size w W') : RAddOut r x w (.returned (.tuple #[.agg #[.slice r.O.a r.O.n r.O.c,.slice r.T.a r.T.n r.T.c,.int .i64 r.nd,.bool true],.int .i64 E])) W' :=
 ⟨⟨r.O,r.T,r.nd,true⟩,by rw [hE];rfl,((Rst.In.below (r:=r) hr (hb.mono ht)).up (Nat.le_trans ht hb.size)),fun q => absurd q h0,fun _ => rfl,hb,fun S h1 _ _ => h1⟩
theorem ops_push {mp : Bool} {n : Nat} (hn : n < 48) (p : Ops) (W1 : World) (B : Nat) (hp : p.Row W1 B) (hpn : p.n = n) : ∃ newo,newo.length = n * 4 /\ (∀ u ∈ newo,u.oneCell' = true) /\ (∀ w1,Kept (fun b => b < B) W1 w1 -> 0 < n -> ∃ ad,p.a = some ad /\ ∀ (j : Nat) (u : Value),newo[j]? = some u -> w1.cell? (ad.add j) = some u) /\
 ∀ (a2 : Option Addr) (c2 : Nat) (B2 : Nat) (w' : World),w'.ownsRow B2 90 4 (.slice a2 (n + 1) c2) (n + 1) (([] ++ newo) ++ (#[.bool mp,.slice none 0 0,.int .i64 0,.bool false] : Array Value).toList) -> ∃ p2 : Ops,Value.slice a2 (n + 1) c2 = .slice p2.a p2.n p2.c /\ p2.n = n + 1 /\ (∀ i,i < n -> p2.O i = p.O i) /\ p2.O n = ⟨mp,⟨none,0,0,0,0,fun _ => ⟨#[]⟩⟩,0,false⟩ /\ p2.Row w' B2:=by
 subst hpn
 refine ⟨catN (fun i => (p.O i).cells) p.n,catN_len (fun j => (show (p.O j).cells.size = 4 from rfl)) p.n,catN_one (fun j u hu => by simp only [Opn.cells,List.mem_cons,List.not_mem_nil,or_false] at hu;rcases hu with rfl | rfl | rfl | rfl <;> rfl) p.n,fun w1 hk h0 => ⟨⟨p.b,p.o,none⟩,(hp.1 h0).1,rowL_src (fun j => (show (p.O j).cells.size = 4 from rfl)) (fun j hj => (hp.kept hk (fun b hb => hb)).2.2 j hj)⟩,fun a2 c2 B2 w' ho => ?_⟩
 obtain ⟨p2,e1,e2,e3,e4⟩:=ops_row (n:=p.n + 1) (O:=fun i => if i < p.n then p.O i else ⟨mp,⟨none,0,0,0,0,fun _ => ⟨#[]⟩⟩,0,false⟩) (v:=.slice a2 (p.n + 1) c2) (W:=w') (B:=B2) (by
  have e : catN (fun i => (if i < p.n then p.O i else ⟨mp,⟨none,0,0,0,0,fun _ => ⟨#[]⟩⟩,0,false⟩ : Opn).cells) (p.n + 1) = catN (fun i => (p.O i).cells) p.n ++ (#[.bool mp,.slice none 0 0,.int .i64 0,.bool false] : Array Value).toList :=
   catN_more (fun i hi => by rw [if_pos hi]) (by rw [if_neg (Nat.lt_irrefl _)];rfl)
  rw [e]
  exact ho) hn
 exact ⟨p2,e1,e2,fun i hi => by rw [e3];exact if_pos hi,by rw [e3];exact if_neg (Nat.lt_irrefl _),e4⟩
theorem ops_one {mp : Bool} (a2 : Option Addr) (c2 : Nat) (B2 : Nat) (w' : World) (ho : w'.ownsRow B2 90 4 (.slice a2 1 c2) 1 (([] ++ []) ++ (#[.bool mp,.slice none 0 0,.int .i64 0,.bool false] : Array Value).toList)) : ∃ p2 : Ops,Value.slice a2 1 c2 = .slice p2.a p2.n p2.c /\ p2.n = 1 /\ p2.O 0 = ⟨mp,⟨none,0,0,0,0,fun _ => ⟨#[]⟩⟩,0,false⟩ /\ p2.Row w' B2:=by
 obtain ⟨p2,e1,e2,e3,e4⟩:=ops_row (n:=1) (O:=fun i => ⟨mp,⟨none,0,0,0,0,fun _ => ⟨#[]⟩⟩,0,false⟩) (v:=.slice a2 1 c2) (W:=w') (B:=B2) ho (by decide)
 exact ⟨p2,e1,e2,by rw [e3],e4⟩
section
variable {r : Rst} {x : Ev} {top : Nat} {w : World}
def OutS (r : Rst) (x : Ev) (w : World) (p : Ops) (T' : Evs) (N' : Int) (W' : World) : Prop:=RAddOut r x w (.returned (.tuple #[.agg #[.slice p.a p.n p.c,.slice T'.a T'.n T'.c,.int .i64 N',.bool false],.int .i64 0])) W'
theorem in_old (hr : r.In w top) (ht : top <= w.heap.size) {W' : World} (hb : Below w.heap.size w W') {i : Nat} (hi : i < r.O.n) : (r.O.O i).k.In W' W'.heap.size:=((hr.1.2.2 i hi).2.below (hb.mono ht)).up (Nat.le_trans ht hb.size)
theorem out_key (hr : r.In w top) (hx : x.ok) (hV : x.V.In w top) (ht : top <= w.heap.size) (h0 : r.addE x = 0) (hk : x.k = 6) (hn : 0 < r.O.n) (T' : Evs) (K' : Sts) (p : Ops) (N' : Int) (B C : Nat) (W' : World) (hN : N' = r.nd) (hC : w.heap.size <= C) (hT : T'.Row W' C) (h1 : T'.n = r.T.n + 1) (h2 : T'.S = fun i => if i < r.T.n then r.T.S i else x) (hBC : w.heap.size <= B) (hK : K'.Row W' B) (k1 : K'.n = (r.O.O (r.O.n - 1)).k.n + 1)
 (k2 : K'.K = fun j => if j < (r.O.O (r.O.n - 1)).k.n then (r.O.O (r.O.n - 1)).k.K j else x.key) (hp : p.Row W' w.heap.size) (p1 : p.n = r.O.n) (p2 : ∀ i,i + 1 < r.O.n -> p.O i = r.O.O i) (p3 : p.O (r.O.n - 1) = ⟨(r.O.O (r.O.n - 1)).mp,K',(r.O.O (r.O.n - 1)).cnt,true⟩) (hb : Below w.heap.size w W') : OutS r x w p T' N' W':=by
 subst hN
 refine radd_out hr hx hV ht h0 hb (hp.In fun i hi => ?_) hC (fun S h1 h3 => ⟨fun q => h3 _ (hp.1 q).2.1,fun i hi q => (by
  by_cases z : i + 1 < r.O.n
  ·rw [p2 i z] at q ⊢;exact h1.2.1 i (by omega) q
  ·obtain rfl : i = r.O.n - 1:=by omega
   rw [p3] at q ⊢;exact h3 _ (Nat.le_trans hBC (hK.1 q).2.1))⟩) hT h1 h2 ⟨p2,by rw [if_neg (by omega)],by rw [if_neg (by omega),if_neg (by omega)];exact p1,fun _ => ?_,fun q => by omega,fun q => by omega⟩
 ·by_cases q : i + 1 < r.O.n
  ·rw [p2 i q]
   exact in_old hr ht hb (by omega)
  ·obtain rfl : i = r.O.n - 1:=by omega
   rw [p3]
   refine hK.In fun j hj => ?_
   rw [k2]
   dsimp only
   split
   ·exact ((hr.1.2.2 (r.O.n - 1) (by omega)).2.2.2 j (by assumption)).2
   ·exact hx.key
 ·rw [p3]
  exact ⟨rfl,k1,fun j hj => by dsimp only;rw [k2];exact if_pos hj,by dsimp only;rw [k2];exact if_neg (Nat.lt_irrefl _),rfl,rfl⟩
theorem out_end (hr : r.In w top) (hx : x.ok) (hV : x.V.In w top) (ht : top <= w.heap.size) (h0 : r.addE x = 0) (hk : x.k = 3 ∨ x.k = 5) (T' : Evs) (p : Ops) (N' : Int) (C : Nat) (W' : World) (hN : N' = r.nd) (hC : w.heap.size <= C) (hT : T'.Row W' C) (h1 : T'.n = r.T.n + 1) (h2 : T'.S = fun i => if i < r.T.n then r.T.S i else x) (hp : p.Row W' w.heap.size) (p1 : p.n = r.O.n - 1) (p2 : p.O = r.O.O) (hb : Below w.heap.size w W') : OutS r x w p T' N' W':=by
 subst hN
 refine radd_out hr hx hV ht h0 hb (hp.In fun i hi => ?_) hC (fun S h1 h3 => ⟨fun q => h3 _ (hp.1 q).2.1,fun i hi q => (by rw [p2] at q ⊢;exact h1.2.1 i (by omega) q)⟩) hT h1 h2 ⟨fun i _ => by rw [p2],by rw [if_neg (by omega)],by rw [if_pos (by omega)];exact p1,fun q => by omega,fun q => by omega,fun q => by omega⟩
 rw [p2]
 exact in_old hr ht hb (by omega)
theorem out_sca (hr : r.In w top) (hx : x.ok) (hV : x.V.In w top) (ht : top <= w.heap.size) (h0 : r.addE x = 0) (hk : x.k = 1) (hn : 0 < r.O.n) (T' : Evs) (p : Ops) (N' : Int) (C : Nat) (W' : World) (hN : N' = (r.nd : Int) + 1) (hC : w.heap.size <= C) (hT : T'.Row W' C) (h1 : T'.n = r.T.n + 1) (h2 : T'.S = fun i => if i < r.T.n then r.T.S i else x) (hp : p.Row W' w.heap.size) (p1 : p.n = r.O.n) (p2 : ∀ i,i + 1 < r.O.n -> p.O i = r.O.O i) (p3 : p.O (r.O.n - 1) = (r.O.O (r.O.n - 1)).bump) (hb : Below w.heap.size w W') : OutS r x w p T' N' W':=by
 subst hN
 refine radd_out (nd:=r.nd + 1) hr hx hV ht h0 hb (hp.In fun i hi => ?_) hC (fun S h1 h3 => ⟨fun q => h3 _ (hp.1 q).2.1,fun i hi q => (by
  by_cases z : i + 1 < r.O.n
  ·rw [p2 i z] at q ⊢;exact h1.2.1 i (by omega) q
  ·obtain rfl : i = r.O.n - 1:=by omega
   rw [p3] at q ⊢;exact h1.2.1 (r.O.n - 1) (by omega) q)⟩) hT h1 h2 ⟨p2,by rw [if_pos (by omega)],by rw [if_neg (by omega),if_neg (by omega)];exact p1,fun q => by omega,fun _ _ => p3,fun q => by omega⟩
 by_cases q : i + 1 < r.O.n
 ·rw [p2 i q]
  exact in_old hr ht hb (by omega)
 ·obtain rfl : i = r.O.n - 1:=by omega
  rw [p3]
  exact in_old hr ht hb (by omega)
theorem out_sca0 (hr : r.In w top) (hx : x.ok) (hV : x.V.In w top) (ht : top <= w.heap.size) (h0 : r.addE x = 0) (hk : x.k = 1) (hn : r.O.n = 0) (T' : Evs) (N' : Int) (C : Nat) (W' : World) (hN : N' = (r.nd : Int) + 1) (hC : w.heap.size <= C) (hT : T'.Row W' C) (h1 : T'.n = r.T.n + 1) (h2 : T'.S = fun i => if i < r.T.n then r.T.S i else x) (hb : Below w.heap.size w W') : OutS r x w r.O T' N' W':=by
 subst hN
 exact radd_out (O':=r.O) (nd:=r.nd + 1) hr hx hV ht h0 hb (hr.1.below (hb.mono ht) |>.up (Nat.le_trans ht hb.size)) hC (fun S h1 _ => ⟨h1.1,h1.2.1⟩) hT h1 h2 ⟨fun _ _ => rfl,by rw [if_pos (by omega)],by rw [if_neg (by omega),if_neg (by omega)],fun q => by omega,fun _ q => by omega,fun q => by omega⟩
theorem out_beg (hr : r.In w top) (hx : x.ok) (hV : x.V.In w top) (ht : top <= w.heap.size) (h0 : r.addE x = 0) (hk : x.k = 2 ∨ x.k = 4) (T' : Evs) (p : Ops) (N' : Int) (C : Nat) (W' : World) (hN : N' = (r.nd : Int) + 1) (hC : w.heap.size <= C) (hT : T'.Row W' C) (h1 : T'.n = r.T.n + 1) (h2 : T'.S = fun i => if i < r.T.n then r.T.S i else x) (hp : p.Row W' w.heap.size) (p1 : p.n = r.O.n + 1) (p2 : ∀ i,i + 1 < r.O.n -> p.O i = r.O.O i) (p3 : 0 < r.O.n -> p.O (r.O.n - 1) = (r.O.O (r.O.n - 1)).bump) (p4 : p.O r.O.n = ⟨x.k == 4,⟨none,0,0,0,0,fun _ => ⟨#[]⟩⟩,0,false⟩) (hb : Below w.heap.size w W') : OutS r x w p T' N' W':=by
 subst hN
 refine radd_out (nd:=r.nd + 1) hr hx hV ht h0 hb (hp.In fun i hi => ?_) hC (fun S h1 h3 => ⟨fun q => h3 _ (hp.1 q).2.1,fun i hi q => (by
  by_cases z : i + 1 < r.O.n
  ·rw [p2 i z] at q ⊢;exact h1.2.1 i (by omega) q
  by_cases z2 : i + 1 = r.O.n
  ·obtain rfl : i = r.O.n - 1:=by omega
   rw [p3 (by omega)] at q ⊢;exact h1.2.1 (r.O.n - 1) (by omega) q
  obtain rfl : i = r.O.n:=by omega
  rw [p4] at q;exact absurd q (Nat.lt_irrefl _))⟩) hT h1 h2 ⟨p2,by rw [if_pos (by omega)],by rw [if_neg (by omega),if_pos (by omega)];exact p1,fun q => by omega,fun _ q => p3 q,fun _ => by rw [p4];exact ⟨rfl,rfl,rfl,rfl⟩⟩
 by_cases q : i + 1 < r.O.n
 ·rw [p2 i q]
  exact in_old hr ht hb (by omega)
 by_cases q2 : i + 1 = r.O.n
 ·obtain rfl : i = r.O.n - 1:=by omega
  rw [p3 (by omega)]
  exact in_old hr ht hb (by omega)
 obtain rfl : i = r.O.n:=by omega
 rw [p4]
 exact ⟨fun q => absurd q (Nat.lt_irrefl _),⟨Nat.zero_le _,Nat.le_refl _,Nat.zero_le _⟩,fun i q => absurd q (Nat.not_lt_zero _)⟩
end
end Go.Proofs.YtpcbhneaaibfiaaDoor
namespace Go.Proofs.YtpcbhneaaibfiaaDoor
open Go
section
variable {P : Program} {ops : Array Oper} {Q : Exit -> Act -> World -> Prop} {md : Region.Mode} {S : World -> Prop} {L : List Nat}
def wpAnyT (P : Program) (md : Region.Mode) (ops : Array Oper) (Q : Exit -> Act -> World -> Prop) (S : World -> Prop) (L : List Nat) : Nat -> Array Bool -> Act -> World -> Prop
 | 0,listed,a,w => Region.ready md ops listed = [] /\ Q .normal a w
 | fuel + 1,listed,a,w => (Region.ready md ops listed = [] -> Q .normal a w) /\ ∀ i ∈ Region.ready md ops listed,wpOp P ops Q i (fun a' w' => (i ∈ L ∨ S w') /\ wpAnyT P md ops Q S L fuel (listed.setIfInBounds i true) a' w') a w
theorem wpAny_of_T : ∀ (fuel : Nat) (listed : Array Bool) (a : Act) (w : World),wpAnyT P md ops Q S L fuel listed a w -> wpAny P md ops Q fuel listed a w
 | 0,_,_,_,h => h
 | fuel + 1,_,_,_,h => ⟨h.1,fun i hi => wpOp_mono (fun a' w' h' => wpAny_of_T fuel _ a' w' h'.2) (h.2 i hi)⟩
def Closed (md : Region.Mode) (ops : Array Oper) (listed : Array Bool) : Prop:=∀ (j : Nat) (o : Oper),ops[j]? = some o -> listed.getD j false = true -> ∀ e ∈ o.after,Region.binds md e = true -> listed.getD e.on false = true
theorem Closed.next {listed : Array Bool} {i : Nat} (h : Closed md ops listed) (hi : i ∈ Region.ready md ops listed) : Closed md ops (listed.setIfInBounds i true):=by
 intro j o ho hl e he hb
 by_cases c : i = j
 ·subst c
  obtain ⟨-,o',ho',hall⟩:=mem_ready.1 hi
  have : o' = o:=Option.some.inj (ho'.symm.trans ho)
  subst this
  exact getD_set_true (hall e he hb)
 ·rw [getD_set_ne false c] at hl
  exact getD_set_true (h j o ho hl e he hb)
def closedB (md : Region.Mode) (ops : Array Oper) (listed : Array Bool) : Bool:=(List.range ops.size).all fun j => !listed.getD j false || ((ops[j]?).map (·.after.all fun e => !Region.binds md e || listed.getD e.on false)).getD true
theorem closed_of {listed : Array Bool} (h : closedB md ops listed = true) : Closed md ops listed:=by
 intro j o ho hl e he hb
 have hj : j < ops.size:=(Array.getElem?_eq_some_iff.1 ho).1
 have h1:=List.all_eq_true.1 h j (List.mem_range.2 hj)
 rw [hl,ho] at h1
 simp only [Bool.not_true,Bool.false_or,Option.map_some,Option.getD_some] at h1
 have h2:=Array.all_eq_true_iff_forall_mem.1 h1 e he
 rw [hb] at h2
 simpa using h2
def chainB (md : Region.Mode) (ops : Array Oper) : List Nat -> Bool
 | [] => true
 | [_] => true
 | x :: y :: l => ((ops[y]?).map (·.after.toList.any fun e => Region.binds md e && e.on == x)).getD false && chainB md ops (y :: l)
theorem chain_listed {listed : Array Bool} (hc : Closed md ops listed) : ∀ (l : List Nat) (x : Nat),chainB md ops (x :: l) = true -> l ≠ [] -> (∀ z,(x :: l).getLast? = some z -> z ∈ Region.ready md ops listed ∨ listed.getD z false = true) -> listed.getD x false = true:=by
 intro l
 induction l with
 | nil => intro x _ h;exact absurd rfl h
 | cons y l ih =>
  intro x hch _ hz
  have h1:=hch
  unfold chainB at h1
  rw [Bool.and_eq_true] at h1
  cases ho : ops[y]? with
  | none => rw [ho] at h1;exact absurd h1.1 (by simp)
  | some o =>
   rw [ho] at h1
   simp only [Option.map_some,Option.getD_some] at h1
   obtain ⟨⟨e,he',hb⟩,h2⟩:=And.intro (List.any_eq_true.1 h1.1) h1.2
   have he : e ∈ o.after:=by simpa using he'
   rw [Bool.and_eq_true] at hb
   have hx : e.on = x:=by simpa using hb.2
   have hy : y ∈ Region.ready md ops listed ∨ listed.getD y false = true:=by
    by_cases hl : l = []
    ·subst hl;exact hz y rfl
    ·exact .inr (ih y h2 hl fun z h => hz z (by rw [List.getLast?_cons_cons];exact h))
   rw [<- hx]
   rcases hy with hy | hy
   ·obtain ⟨-,o',ho',hall⟩:=mem_ready.1 hy
    have : o' = o:=Option.some.inj (ho'.symm.trans ho)
    subst this
    exact hall e he hb.1
   ·exact hc y o ho hy e he hb.1
theorem wpAnyT_first {i : Nat} {oi : Oper} {v : Value} (hi : ops[i]? = some oi) (hsel : ∀ (j : Nat) (o : Oper) cs b,ops[j]? = some o -> o.op ≠ .select cs b)
 (hQ : ∀ c a w,Q (.panic c) (a.put oi.dst v) w -> Q (.panic c) a w) (hw : ∀ (listed : Array Bool),Closed md ops listed -> ∀ e ∈ L,e ∈ Region.ready md ops listed -> listed.getD i false = true) :
 ∀ (fuel : Nat) (listed : Array Bool) (a : Act) (w : World),Closed md ops listed ->
  (∀ j oj,ops[j]? = some oj -> j ≠ i -> listed.getD j true = false -> (∀ e ∈ oj.after,Region.binds md e = true -> e.on ≠ i) -> oi.apart ops oj = true) ->
  i ∈ Region.ready md ops listed -> YieldsIf P ops S oi v a -> S w ->
  wpAnyT P md ops Q S L fuel (listed.setIfInBounds i true) (a.put oi.dst v) w -> wpAnyT P md ops Q S L (fuel + 1) listed a w:=by
 intro fuel
 induction fuel with
 | zero =>
  intro listed a w _ _ hr hy hS H
  refine ⟨fun h => (by rw [h] at hr;cases hr),fun j hj => ?_⟩
  by_cases hji : j = i
  ·subst hji;exact hy.wpOp hi hS ⟨.inr hS,H⟩
  ·have:=ready_mono hj hji
   rw [H.1] at this
   cases this
 | succ fuel ih =>
  intro listed a w hcl hfree hr hy hS H
  refine ⟨fun h => (by rw [h] at hr;cases hr),fun j hj => ?_⟩
  by_cases hji : j = i
  ·subst hji;exact hy.wpOp hi hS ⟨.inr hS,H⟩
  have hni : listed.getD i false = false:=by
   have h0:=(mem_ready.1 hr).1
   rcases Nat.lt_or_ge i listed.size with h' | h'
   ·simp [h'] at h0 ⊢;exact h0
   ·simp [Array.getElem?_eq_none h']
  have hjL : j ∉ L:=fun q => by
   have:=hw listed hcl j q hj
   rw [hni] at this
   cases this
  obtain ⟨hjun,oj,hoj,hall⟩:=mem_ready.1 hj
  have hnot : ∀ e ∈ oj.after,Region.binds md e = true -> e.on ≠ i:=fun e he hb heq => by
   have h1:=hall e he hb
   rw [heq,hni] at h1
   cases h1
  have h2:=wpOp_putIf hoj (hfree j oj hoj hji hjun hnot) (fun cs b => hsel i oi cs b hi) (fun cs b => hsel j oj cs b hoj) hQ hy (H.2 j (ready_mono hj hji))
  have hfree' : ∀ k ok,ops[k]? = some ok -> k ≠ i -> (listed.setIfInBounds j true).getD k true = false -> (∀ e ∈ ok.after,Region.binds md e = true -> e.on ≠ i) -> oi.apart ops ok = true:=fun k ok hk hki hun hno => by
   refine hfree k ok hk hki ?_ hno
   by_cases hjk : j = k
   ·subst hjk;exact hjun
   ·rw [getD_set_ne true hjk] at hun;exact hun
  refine wpOp_mono (fun a' w' h3 => ?_) h2
  obtain ⟨h4,h5,h6⟩:=h3
  have hS' : S w':=h5.resolve_left hjL
  refine ⟨.inr hS',ih (listed.setIfInBounds j true) a' w' (hcl.next hj) hfree' (ready_mono hr (Ne.symm hji)) h4 hS' ?_⟩
  rw [Array.setIfInBounds_comm _ _ hji]
  exact h6
def waitsB (md : Region.Mode) (ops : Array Oper) (i : Nat) (L : List Nat) (paths : List (List Nat)) : Bool:=L.all fun e => paths.any fun p => chainB md ops (i :: p) && p.getLast? == some e
theorem waits_of {i : Nat} {paths : List (List Nat)} (h : waitsB md ops i L paths = true) : ∀ (listed : Array Bool),Closed md ops listed -> ∀ e ∈ L,e ∈ Region.ready md ops listed -> listed.getD i false = true:=by
 intro listed hc e he hr
 obtain ⟨p,hp,h1⟩:=List.any_eq_true.1 (List.all_eq_true.1 h e he)
 rw [Bool.and_eq_true] at h1
 have h2 : p.getLast? = some e:=by simpa using h1.2
 cases p with
 | nil => cases h2
 | cons y l =>
  refine chain_listed hc (y :: l) i h1.1 (by simp) fun z hz => ?_
  rw [List.getLast?_cons_cons,h2] at hz
  cases hz
  exact .inl hr
theorem wpAnyT_take {i : Nat} {oi : Oper} {v : Value} {fuel : Nat} {listed : Array Bool} {a : Act} {w : World} (paths : List (List Nat)) (hi : ops[i]? = some oi)
 (hs : Region.noSelect ops = true) (hf : Region.free md ops listed i = true) (hr : (Region.ready md ops listed).contains i = true) (hc : closedB md ops listed = true) (hw : waitsB md ops i L paths = true)
 (hQ : ∀ c a w,Q (.panic c) (a.put oi.dst v) w -> Q (.panic c) a w) (hy : YieldsIf P ops S oi v a) (hS : S w)
 (h : wpAnyT P md ops Q S L fuel (listed.setIfInBounds i true) (a.put oi.dst v) w) : wpAnyT P md ops Q S L (fuel + 1) listed a w :=
 wpAnyT_first hi (Region.noSelect_spec hs) hQ (waits_of hw) fuel listed a w (closed_of hc) (Region.free_spec hi hf) (by simpa using hr) hy hS h
def okB (md : Region.Mode) (ops : Array Oper) (L : List Nat) (listed : Array Bool) (i : Nat) : Bool :=
 Region.noSelect ops && (Region.free md ops listed i && ((Region.ready md ops listed).contains i && (closedB md ops listed && waitsB md ops i L (L.map fun e => [e]))))
theorem tk {i : Nat} {oi : Oper} {v : Value} {fuel : Nat} {listed : Array Bool} {a : Act} {w : World} (hi : ops[i]? = some oi) (hc : okB md ops L listed i = true) (hw : Region.wanted oi (yielded ops a.tmps) = true)
 (hQ : ∀ c a w,Q (.panic c) (a.put oi.dst v) w -> Q (.panic c) a w) (hS : S w) (hv : ∀ w,S w -> (execOp a.eval oi).run P w = .ok (.value v) w)
 (h : wpAnyT P md ops Q S L fuel (listed.setIfInBounds i true) (a.put oi.dst v) w) : wpAnyT P md ops Q S L (fuel + 1) listed a w:=by
 unfold okB at hc
 rw [Bool.and_eq_true,Bool.and_eq_true,Bool.and_eq_true,Bool.and_eq_true] at hc
 exact wpAnyT_take (L.map fun e => [e]) hi hc.1 hc.2.1 hc.2.2.1 hc.2.2.2.1 hc.2.2.2.2 hQ (Or.inl ⟨hw,hv⟩) hS h
def AllT (P : Program) (md : Region.Mode) (ops : Array Oper) (Q : Exit -> Act -> World -> Prop) (S : World -> Prop) (L : List Nat) (fuel : Nat) (listed : Array Bool) (a : Act) (w : World) (rs : List Nat) : Prop :=
 ∀ i ∈ rs,wpOp P ops Q i (fun a' w' => (i ∈ L ∨ S w') /\ wpAnyT P md ops Q S L fuel (listed.setIfInBounds i true) a' w') a w
theorem AllT.nil {fuel : Nat} {listed : Array Bool} {a : Act} {w : World} : AllT P md ops Q S L fuel listed a w []:=fun _ h => by cases h
theorem AllT.cons {fuel : Nat} {listed : Array Bool} {a : Act} {w : World} {i : Nat} {o : Oper} {rs : List Nat} (ho : ops[i]? = some o)
 (h : ∀ K' : Act -> World -> Prop,Shut (∀ a w,(i ∈ L ∨ S w) -> wpAnyT P md ops Q S L fuel (listed.setIfInBounds i true) a w -> K' a w) -> if Region.wanted o (yielded ops a.tmps) = true then Oper.wp P o a w K' Q else K' (a.put o.dst undef) w)
 (hs : AllT P md ops Q S L fuel listed a w rs) : AllT P md ops Q S L fuel listed a w (i :: rs):=fun j hj => by
 rcases List.mem_cons.1 hj with rfl | hj
 ·exact wpOp_step ho (fun K' hK => h K' (fun a w hS hW => hK a w ⟨hS,hW⟩))
 ·exact hs j hj
theorem wpAnyT_ready {rs : List Nat} {fuel : Nat} {listed : Array Bool} {a : Act} {w : World} (hr : Region.ready md ops listed = rs) (hne : rs ≠ []) (h : AllT P md ops Q S L fuel listed a w rs) : wpAnyT P md ops Q S L (fuel + 1) listed a w :=
 ⟨fun h0 => absurd (hr ▸ h0) hne,hr ▸ h⟩
theorem wpAnyT_done {listed : Array Bool} {a : Act} {w : World} (hr : Region.ready md ops listed = []) (h : Q .normal a w) : ∀ fuel,wpAnyT P md ops Q S L fuel listed a w
 | 0 => ⟨hr,h⟩
 | _ + 1 => ⟨fun _ => h,by rw [hr];simp⟩
theorem wp_region_T (S : World -> Prop) (L : List Nat) {id : Nat} {a : Act} {w : World} (hm : P.follows .mixedOrders = true) (h : wpAnyT P .any ops Q S L ops.size (Array.replicate ops.size false) a w.drew) : (Code.region id ops true).wp P Q a w :=
 wp_region_any hm (wpAny_of_T _ _ _ _ h)
end
end Go.Proofs.YtpcbhneaaibfiaaDoor
