/- Laid together. -/
import Derived.Test.YtpcbhneaaibfiaaDoorPB33
import Derived.Test.YtpcbhneaaibfiaaDoorPB29
import Derived.Test.YtpcbhneaaibfiaaDoorPB25
import Derived.Test.YtpcbhneaaibfiaaDoorPB09
import Derived.Test.YtpcbhneaaibfiaaDoorPB05
set_option linter.unusedVariables false
set_option linter.unusedSimpArgs false
set_option maxHeartbeats 16000000
set_option maxRecDepth 100000
namespace Go.Proofs.YtpcbhneaaibfiaaDoor
open Go.RowKit
theorem Rst.is.key {r r' : Rst} {s : Bst} {l : List Ev} {x : Ev} {key : ByteArray} (h : r.is s l) (hd : 0 < s.d) (hm : (s.fr (s.d - 1)).mp = true) (hk : (s.fr (s.d - 1)).kd = false)
 (hn : r'.O.n = r.O.n) (hlow : ∀ i,i + 1 < s.d -> r'.O.O i = r.O.O i) (h1 : (r'.O.O (s.d - 1)).mp = (r.O.O (s.d - 1)).mp) (h2 : (r'.O.O (s.d - 1)).k.n = (r.O.O (s.d - 1)).k.n + 1)
 (h3 : ∀ j,j < (r.O.O (s.d - 1)).k.n -> (r'.O.O (s.d - 1)).k.K j = (r.O.O (s.d - 1)).k.K j) (h4 : (r'.O.O (s.d - 1)).k.K (r.O.O (s.d - 1)).k.n = key) (h5 : (r'.O.O (s.d - 1)).cnt = (r.O.O (s.d - 1)).cnt) (h6 : (r'.O.O (s.d - 1)).due = true)
 (hT : r'.T.list = l ++ [x]) (hnd : r'.nd = r.nd) (hw : r'.wrong = r.wrong) : r'.is (keyS s key) (l ++ [x]):=by
 have hi:=h.O (s.d - 1) (by omega)
 rw [decide_eq_true (show s.d - 1 + 1 = s.d by omega)] at hi
 refine ⟨hn.trans h.d,fun i hlt => ?_,hT,hnd.trans h.nd,hw.trans h.wrong,?_⟩
 ·have hlt' : i < s.d:=hlt
  show (r'.O.O i).is (upd s.fr (s.d - 1) (keyF (s.fr (s.d - 1)) key) i) (decide (i + 1 = s.d))
  by_cases q : i = s.d - 1
  ·subst q
   rw [upd_same,decide_eq_true (show s.d - 1 + 1 = s.d by omega)]
   generalize r'.O.O (s.d - 1) = o' at *
   generalize r.O.O (s.d - 1) = o at *
   generalize s.fr (s.d - 1) = f at *
   have hkn : o.k.n = f.n:=by rw [hi.kn,if_pos hm,hk];rfl
   refine ⟨h1.trans hi.mp,?_,fun j hj => ?_,h5.trans hi.cnt,?_⟩
   ·show o'.k.n = if f.mp = true then (if true = true then f.n + 1 else f.n) else 0
    rw [if_pos hm,if_pos rfl,h2,hkn]
   ·show o'.k.K j = if j < f.n then f.K j else key
    by_cases c : j < f.n
    ·rw [if_pos c,h3 j (by omega),hi.K j (by omega),if_pos c]
    ·rw [if_neg c,<- h4,hkn]
     have : j = f.n:=by omega
     rw [this]
   ·show o'.due = true ↔ true = true /\ f.mp = true /\ true = true
    rw [h6]
    exact ⟨fun _ => ⟨rfl,hm,rfl⟩,fun _ => rfl⟩
  ·rw [upd_other q,hlow i (by omega)]
   exact h.O i hlt'
 ·show s.dn = true ↔ 0 < r'.T.n /\ s.d = 0
  constructor
  ·intro q
   have:=(h.dn.1 q).2
   omega
  ·rintro ⟨-,q⟩
   omega
theorem Rst.is.push {r r' : Rst} {s : Bst} {l : List Ev} {x : Ev} {mp : Bool} (h : r.is s l) (hdn : s.dn = false)
 (hn : r'.O.n = r.O.n + 1) (hlow : ∀ i,i + 1 < s.d -> r'.O.O i = r.O.O i) (htop : 0 < s.d -> (r'.O.O (s.d - 1)).mp = (r.O.O (s.d - 1)).mp /\ (r'.O.O (s.d - 1)).k = (r.O.O (s.d - 1)).k /\ (r'.O.O (s.d - 1)).cnt = (r.O.O (s.d - 1)).cnt + 1 /\ (r'.O.O (s.d - 1)).due = false)
 (hnew : (r'.O.O s.d).mp = mp /\ (r'.O.O s.d).k.n = 0 /\ (r'.O.O s.d).cnt = 0 /\ (r'.O.O s.d).due = false)
 (hT : r'.T.list = l ++ [x]) (hnd : r'.nd = r.nd + 1) (hw : r'.wrong = r.wrong) : r'.is (pushS { s with nd:=s.nd + 1 } mp) (l ++ [x]):=by
 refine ⟨by rw [hn,h.d];rfl,fun i hlt => ?_,hT,by rw [hnd,h.nd];rfl,hw.trans h.wrong,?_⟩
 ·have hlt' : i < s.d + 1:=hlt
  show (r'.O.O i).is (upd s.fr s.d (fr0 mp) i) (decide (i + 1 = s.d + 1))
  by_cases q : i = s.d
  ·subst q
   rw [upd_same,decide_eq_true rfl]
   obtain ⟨a,b,c,d⟩:=hnew
   refine ⟨a,?_,fun j hj => by omega,c,?_⟩
   ·rw [b]
    show 0 = if mp = true then (if false = true then 0 + 1 else 0) else 0
    cases mp <;> rfl
   ·rw [d]
    exact ⟨fun q => (by cases q),fun q => (by cases q.2.2)⟩
  ·rw [upd_other q,decide_eq_false (show ¬ i + 1 = s.d + 1 by omega)]
   have hi:=h.O i (by omega)
   by_cases e : i + 1 < s.d
   ·rw [hlow i e]
    rw [decide_eq_false (show ¬ i + 1 = s.d by omega)] at hi
    exact hi
   ·obtain rfl : i = s.d - 1:=by omega
    rw [decide_eq_true (show s.d - 1 + 1 = s.d by omega)] at hi
    obtain ⟨a,b,c,d⟩:=htop (by omega)
    refine ⟨a.trans hi.mp,by rw [b];exact hi.kn,fun j hj => by rw [b] at hj ⊢;exact hi.K j hj,?_,?_⟩
    ·rw [c,hi.cnt];rfl
    ·rw [d]
     exact ⟨fun q => (by cases q),fun q => (by cases q.1)⟩
 ·show s.dn = true ↔ 0 < r'.T.n /\ s.d + 1 = 0
  rw [hdn]
  exact ⟨fun q => (by cases q),fun q => absurd q.2 (Nat.succ_ne_zero _)⟩
def putF (f : Fr) (V : Vt) : Fr:=if f.mp = true then ⟨true,f.n + 1,upd f.K f.n f.key,upd f.M f.n V,⟨#[]⟩,false⟩ else ⟨false,f.n + 1,upd f.K f.n ⟨#[]⟩,upd f.M f.n V,f.key,f.kd⟩
theorem is_put {o : Opn} {f : Fr} {V : Vt} (hm : o.mp = f.mp) (hkn : o.k.n = if f.mp = true then f.n + 1 else 0) (hK : ∀ j,j < o.k.n -> o.k.K j = if j < f.n then f.K j else f.key) (hc : o.cnt = f.n + 1) (hd : o.due = false) : o.is (putF f V) true:=by
 unfold putF
 cases e : f.mp with
 | true =>
  rw [if_pos rfl]
  rw [if_pos e] at hkn
  refine ⟨hm.trans e,hkn,fun j hj => ?_,hc,?_⟩
  ·show o.k.K j = if j < f.n + 1 then upd f.K f.n f.key j else ⟨#[]⟩
   rw [if_pos (by omega),hK j hj]
   by_cases c : j < f.n
   ·rw [if_pos c,upd_other (by omega)]
   ·obtain rfl : j = f.n:=by omega
    rw [if_neg c,upd_same]
  ·rw [hd]
   exact ⟨fun q => (by cases q),fun q => (by cases q.2.2)⟩
 | false =>
  rw [if_neg (by decide)]
  rw [if_neg (by rw [e];decide)] at hkn
  refine ⟨hm.trans e,hkn,fun j hj => by omega,hc,?_⟩
  rw [hd]
  exact ⟨fun q => (by cases q),fun q => (by cases q.2.1)⟩
theorem putS_fr {s : Bst} {V : Vt} (hd : 0 < s.d) : putS s V = { s with fr:=upd s.fr (s.d - 1) (putF (s.fr (s.d - 1)) V) }:=by
 unfold putS putF
 rw [if_neg (by omega)]
 split <;> rfl
theorem Rst.is.put {r' : Rst} {s : Bst} {L : List Ev} {V : Vt} (hn : r'.O.n = s.d) (hlow : ∀ i,i + 1 < s.d -> (r'.O.O i).is (s.fr i) false) (htop : 0 < s.d -> (r'.O.O (s.d - 1)).is (putF (s.fr (s.d - 1)) V) true)
 (hT : r'.T.list = L) (hne : 0 < r'.T.n) (hnd : r'.nd = s.nd) (hw : r'.wrong = s.bad) (hdn : s.dn = false) : r'.is (putS s V) L:=by
 by_cases hd : s.d = 0
 ·have e : putS s V = { s with dn:=true,out:=V }:=if_pos hd
  rw [e]
  exact ⟨hn,fun i hlt => (by have hlt' : i < s.d:=hlt;omega),hT,hnd,hw,⟨fun _ => ⟨hne,hd⟩,fun _ => rfl⟩⟩
 ·rw [putS_fr (by omega)]
  refine ⟨hn,fun i hlt => ?_,hT,hnd,hw,?_⟩
  ·have hlt' : i < s.d:=hlt
   show (r'.O.O i).is (upd s.fr (s.d - 1) (putF (s.fr (s.d - 1)) V) i) (decide (i + 1 = s.d))
   by_cases q : i = s.d - 1
   ·subst q
    rw [upd_same,decide_eq_true (show s.d - 1 + 1 = s.d by omega)]
    exact htop (by omega)
   ·rw [upd_other q,decide_eq_false (show ¬ i + 1 = s.d by omega)]
    exact hlow i (by omega)
  ·show s.dn = true ↔ 0 < r'.T.n /\ s.d = 0
   rw [hdn]
   exact ⟨fun q => (by cases q),fun q => absurd q.2 hd⟩
theorem Rst.is.bad {r r' : Rst} {s : Bst} {l : List Ev} (h : r.is s l) (hO : r'.O = r.O) (hT : r'.T = r.T) (hnd : r'.nd = r.nd) (hw : r'.wrong = true) : r'.is { s with bad:=true } l :=
 ⟨by rw [hO];exact h.d,fun i hi => by rw [hO];exact h.O i hi,by rw [hT];exact h.T,hnd.trans h.nd,hw,by rw [hT];exact h.dn⟩
theorem Rst.is.zero {r : Rst} (hO : r.O.n = 0) (hT : r.T.n = 0) (hnd : r.nd = 0) (hw : r.wrong = false) : r.is Bst.zero [] :=
 ⟨hO,fun i hi => absurd hi (Nat.not_lt_zero _),by simp [Evs.list,hT],hnd,hw,⟨fun q => (by cases q),fun q => (by rw [hT] at q;exact absurd q.1 (Nat.lt_irrefl _))⟩⟩
theorem trace_runs {W : World} {top : Nat} {p : Evs} (hp : p.In W top) : ∀ j,j <= p.n -> (runN p j).2 = 0 -> SameL (trace (runN p j).1) (p.list.take j):=by
 intro j
 induction j with
 | zero => intro _ _;exact .nil
 | succ j ih =>
  intro hj h0
  have hz : (runN p j).2 = 0:=Classical.byContradiction fun q => q (by rw [<- runN_bad q (Nat.le_succ j)];exact h0)
  have hs:=runN_succ hj hz
  rw [hs] at h0 ⊢
  obtain ⟨q1,q2,q3⟩:=hp.2.2 j hj
  have hst:=step_inv (runN_inv hp j (by omega)) q2 q3.whole h0
  show SameL (trace (addS (runN p j).1 (p.S j))) _
  rw [addS_ok h0]
  have hg : p.list[j]'(by rw [Evs.list_len];exact hj) = p.S j:=Evs.list_get hj
  rw [<- List.take_append_getElem (by rw [Evs.list_len];exact hj),hg]
  refine hst.2.1.trans ((ih (by omega) hz).append (.cons ⟨rfl,rfl,Vt.Same.rfl' q3.whole⟩ .nil))
def Bst.cln (s : Bst) : Prop:=(∀ i,i < s.d -> ∀ m,m < (s.fr i).n -> ((s.fr i).M m).cln) /\ (s.dn = true -> s.out.cln)
theorem sca_cln {T : Vt} (hT : T.whole) (h6 : T.h.k < 6) : T.cln:=by
 cases T with
 | nil => exact hT.elim
 | mk h Y L K F =>
  have h6' : h.k < 6:=h6
  unfold Vt.cln
  rw [if_neg (by omega),if_neg (by omega)]
  trivial
theorem frV_cln {f : Fr} (hn : f.n <= 1048576) (hk : ∀ m,m < f.n -> (f.K m).size <= 1048576) (hm : ∀ m,m < f.n -> (f.M m).cln) : (frV f).cln:=by
 unfold frV
 split
 ·unfold Vt.cln
  rw [if_neg (by show ¬ (7 : Int) = 6;decide),if_pos (by rfl)]
  exact ⟨hn,fun a c b N M h => ⟨(fun e => by cases e),⟨rfl,rfl,rfl,rfl,rfl,rfl,rfl,rfl,rfl,rfl,rfl,rfl,rfl⟩,fun _ _ => rfl,fun i hi => absurd hi (Nat.not_lt_zero _),h⟩,fun i hi => ⟨hk i hi,hm i hi⟩⟩
 ·unfold Vt.cln
  rw [if_pos (by rfl)]
  exact ⟨hn,fun a c b M h => ⟨(fun e => by cases e),⟨rfl,rfl,rfl,rfl,rfl,rfl,rfl,rfl,rfl,rfl,rfl,rfl,rfl⟩,fun _ _ => rfl,h,fun i hi => absurd hi (Nat.not_lt_zero _)⟩,hm⟩
theorem put_cln {s : Bst} {V : Vt} (h : s.cln) (hV : V.cln) : (putS s V).cln:=by
 by_cases h0 : s.d = 0
 ·unfold putS
  rw [if_pos h0]
  exact ⟨h.1,fun _ => hV⟩
 ·rw [putS_fr (by omega)]
  refine ⟨fun i hi m hm => ?_,h.2⟩
  have hi' : i < s.d:=hi
  by_cases q : i = s.d - 1
  ·subst q
   simp only [upd_same] at hm ⊢
   have key : ∀ (M : Nat -> Vt),M = upd (s.fr (s.d - 1)).M (s.fr (s.d - 1)).n V -> m < (s.fr (s.d - 1)).n + 1 -> (M m).cln:=fun M e hm => by
    rw [e]
    by_cases z : m = (s.fr (s.d - 1)).n
    ·rw [z,upd_same];exact hV
    ·rw [upd_other z];exact h.1 _ hi' m (by omega)
   unfold putF at hm ⊢
   split at hm
   ·rename_i c
    rw [if_pos c]
    exact key _ rfl hm
   ·rename_i c
    rw [if_neg c]
    exact key _ rfl hm
  ·simp only [upd_other q] at hm ⊢
   exact h.1 i hi' m hm
theorem add_cln {s : Bst} {x : Ev} (hx : x.V.whole) (hi : s.inv) (h : s.cln) : (addS s x).cln:=by
 by_cases h0 : addE s x = 0
 ·obtain ⟨hb,hs,hf,hbeg⟩:=addE_ok h0
  rw [addS_ok h0]
  obtain ⟨fdn,f0,f1⟩:=followE_ok hf
  unfold stepS
  split
  ·rename_i k
   exact put_cln (s:={ s with nd:=s.nd + 1 }) ⟨h.1,h.2⟩ (sca_cln hx ((shapeE_ok hs).2.2.2.1 k).2.1)
  split
  ·rename_i k6
   refine ⟨fun i hi' m hm => ?_,h.2⟩
   have hi2 : i < s.d:=hi'
   have hfr : ((keyS s x.key).fr i).M = (s.fr i).M /\ ((keyS s x.key).fr i).n = (s.fr i).n:=by
    show (upd s.fr (s.d - 1) (keyF (s.fr (s.d - 1)) x.key) i).M = _ /\ (upd s.fr (s.d - 1) (keyF (s.fr (s.d - 1)) x.key) i).n = _
    by_cases q : i = s.d - 1
    ·subst q;rw [upd_same];exact ⟨rfl,rfl⟩
    ·rw [upd_other q];exact ⟨rfl,rfl⟩
   rw [hfr.2] at hm
   rw [hfr.1]
   exact h.1 i hi2 m hm
  have push : ∀ mp,(pushS { s with nd:=s.nd + 1 } mp).cln:=fun mp => by
   refine ⟨fun i hi' m hm => ?_,fun q => h.2 q⟩
   have hi2 : i < s.d + 1:=hi'
   have hfr : (pushS { s with nd:=s.nd + 1 } mp).fr i = upd s.fr s.d (fr0 mp) i:=rfl
   rw [hfr] at hm ⊢
   by_cases q : i = s.d
   ·subst q;rw [upd_same] at hm;exact absurd hm (Nat.not_lt_zero _)
   ·rw [upd_other q] at hm ⊢;exact h.1 i (by omega) m hm
  split
  ·exact push false
  split
  ·exact push true
  ·rename_i k1 k6 k2 k4
   have hd0 : 0 < s.d:=by
    rcases Nat.eq_zero_or_pos s.d with q | q
    ·have hk:=(shapeE_ok hs).1
     have:=f0 q
     omega
    ·exact q
   have hok:=hi.ok.fr (s.d - 1) (by omega)
   have hnd:=hi.ok.nd
   exact put_cln (s:={ s with d:=s.d - 1 }) ⟨fun i hi' m hm => h.1 i (by have : i < s.d - 1:=hi';omega) m hm,h.2⟩ (frV_cln (by omega) (fun m hm => (hok.2.2 m hm).1) (fun m hm => h.1 _ (by omega) m hm))
 ·unfold addS
  split
  ·exact h
  ·exact h
theorem runN_cln {W : World} {top : Nat} {p : Evs} (hp : p.In W top) : ∀ j,j <= p.n -> (runN p j).1.cln:=by
 intro j
 induction j with
 | zero => intro _;exact ⟨fun i hi => absurd hi (Nat.not_lt_zero _),fun q => by cases q⟩
 | succ j ih =>
  intro hj
  by_cases q : (runN p j).2 = 0
  ·rw [runN_succ hj q]
   exact add_cln (hp.2.2 j hj).2.2.whole (runN_inv hp j (by omega)) (ih (by omega))
  ·rw [runN_bad q (Nat.le_succ j)]
   exact ih (by omega)
theorem st_row : (Tryd.prog.info? 53).map (·.size) = some 4:=by kernel_rfl
def Ops.Row (W : World) (B : Nat) (p : Ops) : Prop:=(0 < p.n -> p.a = some ⟨p.b,p.o,none⟩ /\ B <= p.b /\ p.b < W.heap.size) /\ (p.n <= 48 /\ p.n <= p.c /\ p.c <= maxLen) /\ ∀ i,i < p.n -> LiesAt W p.b (p.o + i * 4) (p.O i).cells
def Sts.Row (W : World) (B : Nat) (p : Sts) : Prop:=(0 < p.n -> p.a = some ⟨p.b,p.o,none⟩ /\ B <= p.b /\ p.b < W.heap.size) /\ (p.n <= 1048576 /\ p.n <= p.c /\ p.c <= maxLen) /\ ∀ i,i < p.n -> W.cell? ⟨p.b,p.o + i,none⟩ = some (.string (p.K i))
def Evs.Row (W : World) (B : Nat) (p : Evs) : Prop:=(0 < p.n -> p.a = some ⟨p.b,p.o,none⟩ /\ B <= p.b /\ p.b < W.heap.size) /\ (p.n <= 1048576 /\ p.n <= p.c /\ p.c <= maxLen) /\ ∀ i,i < p.n -> LiesAt W p.b (p.o + i * 15) (p.S i).cells
theorem lies_block {W W' : World} {b o : Nat} {cs : Array Value} (h : LiesAt W b o cs) (hb : W'.heap[b]? = W.heap[b]?) : LiesAt W' b o cs:=fun j hj => (World.cell?_of_block (a:=⟨b,o + j,none⟩) hb).trans (h j hj)
section
variable {W W' : World} {B : Nat} {S : Nat -> Prop}
theorem Ops.Row.kept {p : Ops} (h : p.Row W B) (hk : Kept S W W') (hs : ∀ b,S b -> b < B) : p.Row W' B :=
 ⟨fun q => ⟨(h.1 q).1,(h.1 q).2.1,Nat.lt_of_lt_of_le (h.1 q).2.2 hk.size⟩,h.2.1,fun i hi => lies_block (h.2.2 i hi) (hk.block p.b (h.1 (by omega)).2.2 fun e => by have:=hs p.b e;have:=(h.1 (by omega)).2.1;omega)⟩
theorem Sts.Row.kept {p : Sts} (h : p.Row W B) (hk : Kept S W W') (hs : ∀ b,S b -> b < B) : p.Row W' B :=
 ⟨fun q => ⟨(h.1 q).1,(h.1 q).2.1,Nat.lt_of_lt_of_le (h.1 q).2.2 hk.size⟩,h.2.1,fun i hi => (World.cell?_of_block (a:=⟨p.b,p.o + i,none⟩) (hk.block p.b (h.1 (by omega)).2.2 fun e => by have:=hs p.b e;have:=(h.1 (by omega)).2.1;omega)).trans (h.2.2 i hi)⟩
theorem Evs.Row.kept {p : Evs} (h : p.Row W B) (hk : Kept S W W') (hs : ∀ b,S b -> b < B) : p.Row W' B :=
 ⟨fun q => ⟨(h.1 q).1,(h.1 q).2.1,Nat.lt_of_lt_of_le (h.1 q).2.2 hk.size⟩,h.2.1,fun i hi => lies_block (h.2.2 i hi) (hk.block p.b (h.1 (by omega)).2.2 fun e => by have:=hs p.b e;have:=(h.1 (by omega)).2.1;omega)⟩
theorem Ops.Row.In {p : Ops} (h : p.Row W B) (hk : ∀ i,i < p.n -> (p.O i).k.In W W.heap.size) : p.In W W.heap.size:=⟨fun q => ⟨(h.1 q).1,(h.1 q).2.2⟩,h.2.1,fun i hi => ⟨h.2.2 i hi,hk i hi⟩⟩
theorem Sts.Row.In {p : Sts} (h : p.Row W B) (hk : ∀ i,i < p.n -> (p.K i).size <= 1048576) : p.In W W.heap.size:=⟨fun q => ⟨(h.1 q).1,(h.1 q).2.2⟩,h.2.1,fun i hi => ⟨h.2.2 i hi,hk i hi⟩⟩
theorem Evs.Row.In {p : Evs} (h : p.Row W B) (hk : ∀ i,i < p.n -> (p.S i).ok /\ (p.S i).V.In W W.heap.size) : p.In W W.heap.size:=⟨fun q => ⟨(h.1 q).1,(h.1 q).2.2⟩,h.2.1,fun i hi => ⟨h.2.2 i hi,hk i hi⟩⟩
theorem Ops.Row.low {p : Ops} {B' : Nat} (h : p.Row W B) (hb : B' <= B) : p.Row W B':=⟨fun q => ⟨(h.1 q).1,Nat.le_trans hb (h.1 q).2.1,(h.1 q).2.2⟩,h.2⟩
theorem ops_row {n : Nat} {v : Value} {O : Nat -> Opn} (h : W.ownsRow B 90 4 v n (catN (fun i => (O i).cells) n)) (hn : n <= 48) :
 ∃ p : Ops,v = .slice p.a p.n p.c /\ p.n = n /\ p.O = O /\ p.Row W B:=by
 obtain ⟨a,c,b,rfl,hcc,ha,hl⟩:=own_lies (fun i => (show (O i).cells.size = 4 from rfl)) h
 exact ⟨⟨a,n,c,b,0,O⟩,rfl,rfl,rfl,fun q => ha q,⟨hn,hcc⟩,fun i hi => by simpa using hl i hi⟩
theorem sts_row {n : Nat} {v : Value} {K : Nat -> ByteArray} (h : W.ownsRow B 9 1 v n (catN (fun i => #[.string (K i)]) n)) (hn : n <= 1048576) :
 ∃ p : Sts,v = .slice p.a p.n p.c /\ p.n = n /\ p.K = K /\ p.Row W B:=by
 obtain ⟨a,c,b,rfl,hcc,ha,hl⟩:=own_lies (fun i => (show (#[Value.string (K i)] : Array Value).size = 1 from rfl)) h
 refine ⟨⟨a,n,c,b,0,K⟩,rfl,rfl,rfl,fun q => ha q,⟨hn,hcc⟩,fun i hi => ?_⟩
 have:=hl i hi 0 (by show 0 < 1;omega)
 simpa using this
theorem evs_row {n : Nat} {v : Value} {S : Nat -> Ev} (h : W.ownsRow B 57 15 v n (catN (fun i => (S i).cells) n)) (hn : n <= 1048576) :
 ∃ p : Evs,v = .slice p.a p.n p.c /\ p.n = n /\ p.S = S /\ p.Row W B:=by
 obtain ⟨a,c,b,rfl,hcc,ha,hl⟩:=own_lies (fun i => (show (S i).cells.size = 15 from rfl)) h
 exact ⟨⟨a,n,c,b,0,S⟩,rfl,rfl,rfl,fun q => ha q,⟨hn,hcc⟩,fun i hi => by simpa using hl i hi⟩
theorem catN_more {f : Nat -> Array Value} {g : Nat -> Array Value} {n : Nat} {c : Array Value} (h1 : ∀ i,i < n -> f i = g i) (h2 : f n = c) : catN f (n + 1) = catN g n ++ c.toList:=by
 show catN f n ++ (f n).toList = _
 rw [catN_congr h1,h2]
theorem kept_setRow (S : Nat -> Prop) (W : World) (b : Nat) (cs : Array Value) (hb : S b) : Kept S W (W.setRow b cs) :=
 ⟨rfl,rfl,rfl,by rw [size_setRow];exact Nat.le_refl _,fun k _ hn => setRow_other _ _ _ _ (fun e => hn (e ▸ hb))⟩
end
end Go.Proofs.YtpcbhneaaibfiaaDoor
