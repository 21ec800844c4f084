/- Laid together. -/
import Derived.Test.YtpcbhneaaibfiaaDoorPB40
import Derived.Test.YtpcbhneaaibfiaaDoorPB25
import Derived.Test.YtpcbhneaaibfiaaDoorPB26
import Derived.Test.YtpcbhneaaibfiaaDoorPB24
import Derived.Test.YtpcbhneaaibfiaaDoorPB05
import Derived.Test.YtpcbhneaaibfiaaDoorPB23
set_option linter.unusedVariables false
set_option linter.unusedSimpArgs false
set_option maxHeartbeats 16000000
set_option maxRecDepth 100000
namespace Go.Proofs.YtpcbhneaaibfiaaDoor
open Go.RowKit
theorem step_d {s : Bst} {x : Ev} (ha : addE s x = 0) : (stepS s x).d = if x.k = 2 ∨ x.k = 4 then s.d + 1 else if x.k = 3 ∨ x.k = 5 then s.d - 1 else s.d:=by
 have hk:=(shapeE_ok (addE_ok ha).2.1).1
 unfold stepS
 rcases hk with k | k | k | k | k | k
 ·rw [if_pos k,if_neg (by omega),if_neg (by omega)];exact (putS_d _ _).1
 ·rw [if_neg (by omega),if_neg (by omega),if_pos k,if_pos (by omega)];rfl
 ·rw [if_neg (by omega),if_neg (by omega),if_neg (by omega),if_neg (by omega),if_neg (by omega),if_pos (by omega)];exact (putS_d _ _).1
 ·rw [if_neg (by omega),if_neg (by omega),if_neg (by omega),if_pos k,if_pos (by omega)];rfl
 ·rw [if_neg (by omega),if_neg (by omega),if_neg (by omega),if_neg (by omega),if_neg (by omega),if_pos (by omega)];exact (putS_d _ _).1
 ·rw [if_neg (by omega),if_pos k,if_neg (by omega),if_neg (by omega)];rfl
theorem put_at (u : Bst) (V : Vt) (t : Nat) (h : t < u.d) : (t + 1 = u.d /\ (putS u V).fr t = putF (u.fr t) V) ∨ (t + 1 ≠ u.d /\ (putS u V).fr t = u.fr t):=by
 rw [putS_fr (by omega)]
 by_cases q : t = u.d - 1
 ·subst q
  exact .inl ⟨by omega,upd_same _ _ _⟩
 ·exact .inr ⟨by omega,upd_other q⟩
theorem step_fr {s : Bst} {x : Ev} (ha : addE s x = 0) {t : Nat} (ht : t < (stepS s x).d) : ((stepS s x).fr t = s.fr t /\ t < s.d) ∨ (x.k = 1 /\ t + 1 = s.d /\ (stepS s x).fr t = putF (s.fr t) x.V) ∨ (x.k = 6 /\ t + 1 = s.d /\ (stepS s x).fr t = keyF (s.fr t) x.key) ∨
 ((x.k = 2 ∨ x.k = 4) /\ t = s.d /\ ∃ mp,(stepS s x).fr t = fr0 mp) ∨ ((x.k = 3 ∨ x.k = 5) /\ t + 2 = s.d /\ (stepS s x).fr t = putF (s.fr t) (frV (s.fr (s.d - 1)))):=by
 have hd:=step_d ha
 rw [hd] at ht
 have hk:=(shapeE_ok (addE_ok ha).2.1).1
 have push : ∀ mp,stepS s x = pushS { s with nd:=s.nd + 1 } mp -> t < s.d + 1 -> ((stepS s x).fr t = s.fr t /\ t < s.d) ∨ (t = s.d /\ ∃ mp,(stepS s x).fr t = fr0 mp):=fun mp e h => by
  rw [e]
  by_cases q : t = s.d
  ·subst q;exact .inr ⟨rfl,mp,upd_same _ _ _⟩
  ·exact .inl ⟨upd_other q,by omega⟩
 have pop : stepS s x = popS s -> t < s.d - 1 -> ((stepS s x).fr t = s.fr t /\ t < s.d) ∨ (t + 2 = s.d /\ (stepS s x).fr t = putF (s.fr t) (frV (s.fr (s.d - 1)))):=fun e h => by
  rw [e]
  rcases put_at { s with d:=s.d - 1 } (frV (s.fr (s.d - 1))) t h with ⟨q,h2⟩ | ⟨q,h2⟩
  ·replace q : t + 1 = s.d - 1:=q
   exact .inr ⟨by omega,h2⟩
  ·exact .inl ⟨h2,by omega⟩
 rcases hk with k | k | k | k | k | k
 ·rw [if_neg (by omega),if_neg (by omega)] at ht
  have e : stepS s x = putS { s with nd:=s.nd + 1 } x.V:=by unfold stepS;rw [if_pos k]
  rw [e]
  rcases put_at { s with nd:=s.nd + 1 } x.V t ht with ⟨q,h2⟩ | ⟨q,h2⟩
  ·exact .inr (.inl ⟨k,q,h2⟩)
  ·exact .inl ⟨h2,ht⟩
 ·rw [if_pos (by omega)] at ht
  rcases push false (by unfold stepS;rw [if_neg (by omega),if_neg (by omega),if_pos k]) ht with q | q
  ·exact .inl q
  ·exact .inr (.inr (.inr (.inl ⟨.inl k,q⟩)))
 ·rw [if_neg (by omega),if_pos (by omega)] at ht
  rcases pop (by unfold stepS;rw [if_neg (by omega),if_neg (by omega),if_neg (by omega),if_neg (by omega)]) ht with q | q
  ·exact .inl q
  ·exact .inr (.inr (.inr (.inr ⟨.inl k,q⟩)))
 ·rw [if_pos (by omega)] at ht
  rcases push true (by unfold stepS;rw [if_neg (by omega),if_neg (by omega),if_neg (by omega),if_pos k]) ht with q | q
  ·exact .inl q
  ·exact .inr (.inr (.inr (.inl ⟨.inr k,q⟩)))
 ·rw [if_neg (by omega),if_pos (by omega)] at ht
  rcases pop (by unfold stepS;rw [if_neg (by omega),if_neg (by omega),if_neg (by omega),if_neg (by omega)]) ht with q | q
  ·exact .inl q
  ·exact .inr (.inr (.inr (.inr ⟨.inr k,q⟩)))
 ·rw [if_neg (by omega),if_neg (by omega)] at ht
  have e : stepS s x = keyS s x.key:=by unfold stepS;rw [if_neg (by omega),if_pos k]
  rw [e]
  by_cases q : t = s.d - 1
  ·subst q;exact .inr (.inr (.inl ⟨k,by omega,upd_same _ _ _⟩))
  ·exact .inl ⟨upd_other q,ht⟩
theorem fr_kept {s : Bst} {x : Ev} (ha : addE s x = 0) {t : Nat} (h1 : t + 1 < s.d) (h2 : t + 1 < (stepS s x).d) : (stepS s x).fr t = s.fr t:=by
 have hd:=step_d ha
 rcases step_fr ha (show t < (stepS s x).d by omega) with q | q | q | q | q
 ·exact q.1
 ·omega
 ·omega
 ·omega
 ·rw [hd,if_neg (by omega),if_pos q.1] at h2
  omega
theorem fr_push {s : Bst} {x : Ev} (ha : addE s x = 0) (hk : x.k = 2 ∨ x.k = 4) {t : Nat} (h : t < s.d) : (stepS s x).fr t = s.fr t:=by
 have hd:=step_d ha
 rw [if_pos hk] at hd
 rcases step_fr ha (show t < (stepS s x).d by omega) with q | q | q | q | q
 ·exact q.1
 ·omega
 ·omega
 ·omega
 ·omega
theorem pathN_eq {f g : Nat -> Fr} {d : Nat} (h : ∀ i,i < d -> f i = g i) : pathN f d = pathN g d:=catL_congr fun i hi => by rw [h i hi]
theorem pathN_succ (f : Nat -> Fr) (d : Nat) : pathN f (d + 1) = pathN f d ++ pathF (f d):=rfl
theorem pathF_one {f : Fr} (h : f.mp = true -> f.kd = true) : (pathF f).length = 1:=by
 unfold pathF
 split
 ·rename_i q;rw [if_pos (h q)];rfl
 ·rfl
theorem pathN_full {s : Bst} (hi : s.inv) : ∀ t,t < s.d -> (pathN s.fr t).length = t:=by
 intro t
 induction t with
 | zero => intro _;rfl
 | succ t ih =>
  intro h
  rw [pathN_succ,List.length_append,ih (by omega),pathF_one fun q => by rw [<- hi.keyed t h];exact q]
theorem pathS_top {s : Bst} (hd : 0 < s.d) : pathS s = pathN s.fr (s.d - 1) ++ pathF (s.fr (s.d - 1)):=by
 obtain ⟨m,hm⟩ : ∃ m,s.d = m + 1:=⟨s.d - 1,by omega⟩
 unfold pathS
 rw [hm]
 rfl
theorem at_close {s : Bst} {x : Ev} (ha : addE s x = 0) (hk : x.k = 3 ∨ x.k = 5) : 0 < s.d /\ whereS s x = pathN s.fr (s.d - 1):=by
 obtain ⟨-,hs,hf,-⟩:=addE_ok ha
 obtain ⟨fdn,f0,f1⟩:=followE_ok hf
 have hd : 0 < s.d:=by
  rcases Nat.eq_zero_or_pos s.d with q | q
  ·have:=f0 q;omega
  ·exact q
 refine ⟨hd,?_⟩
 obtain ⟨g6,g3,g5,gb⟩:=f1 hd
 unfold whereS
 rw [if_neg (by omega),pathS_top hd]
 rcases hk with k | k
 ·have e : pathF (s.fr (s.d - 1)) = [stI (s.fr (s.d - 1)).n]:=by unfold pathF;rw [if_neg (by rw [g3 k];decide)]
  rw [if_pos k,e,List.dropLast_concat]
 ·have e : pathF (s.fr (s.d - 1)) = []:=by unfold pathF;rw [if_pos (g5 k).1,if_neg (by rw [(g5 k).2];decide)]
  rw [if_neg (by omega),e,List.append_nil]
theorem at_deep {s : Bst} {x : Ev} (hi : s.inv) (ha : addE s x = 0) (hk : x.k = 1 ∨ x.k = 6) (hd : 0 < s.d) : (whereS s x).length = s.d:=by
 obtain ⟨-,hs,hf,-⟩:=addE_ok ha
 obtain ⟨fdn,f0,f1⟩:=followE_ok hf
 obtain ⟨g6,g3,g5,gb⟩:=f1 hd
 have hl:=pathN_full hi (s.d - 1) (by omega)
 unfold whereS
 rcases hk with k | k
 ·rw [if_neg (by omega),if_neg (by omega),pathS_top hd,List.length_append,hl,pathF_one (gb (by omega) (by omega) (by omega))]
  omega
 ·have e : addS s x = keyS s x.key:=by rw [addS_ok ha];unfold stepS;rw [if_neg (by omega),if_pos k]
  have e2 : pathS (keyS s x.key) = pathN (keyS s x.key).fr (s.d - 1) ++ pathF ((keyS s x.key).fr (s.d - 1)):=pathS_top (s:=keyS s x.key) hd
  have e3 : (keyS s x.key).fr (s.d - 1) = keyF (s.fr (s.d - 1)) x.key:=upd_same _ _ _
  have e4 : pathN (keyS s x.key).fr (s.d - 1) = pathN s.fr (s.d - 1):=pathN_eq fun i h => upd_other (by omega)
  rw [if_pos k,e,e2,e3,e4,List.length_append,hl,pathF_one (fun _ => rfl)]
  omega
theorem at_open {s : Bst} {x : Ev} (hk : x.k = 1 ∨ x.k = 2 ∨ x.k = 4) : whereS s x = pathS s:=by
 unfold whereS
 rw [if_neg (by omega),if_neg (by omega)]
theorem run_ok {p : Evs} (hv : valE p = 0) {j : Nat} (hj : j <= p.n) : (runN p j).2 = 0:=Classical.byContradiction fun q => q (by rw [<- valE_bad hj q];exact hv)
theorem run_step {p : Evs} (hv : valE p = 0) {j : Nat} (hj : j < p.n) : addE (runN p j).1 (p.S j) = 0 /\ (runN p (j + 1)).1 = stepS (runN p j).1 (p.S j):=by
 have h:=runN_succ hj (run_ok hv (Nat.le_of_lt hj))
 have h2:=run_ok hv (j:=j + 1) hj
 rw [h] at h2 ⊢
 exact ⟨h2,addS_ok h2⟩
theorem run_dn {p : Evs} (hv : valE p = 0) : (runN p p.n).1.dn = true:=by
 have h:=valE_end (run_ok hv (Nat.le_refl _))
 rw [hv] at h
 split at h
 ·assumption
 ·omega
noncomputable def atE (p : Evs) (i : Nat) : List Stp:=whereS (runN p i).1 (p.S i)
theorem whE_at {p : Evs} (hv : valE p = 0) {i : Nat} (hi : i < p.n) : whE p (i : Int) = (0,atE p i):=by
 obtain ⟨ha,-⟩:=run_step hv hi
 unfold whE
 rw [if_neg (by omega),Int.toNat_natCast,if_neg (by simp [run_ok hv (Nat.le_of_lt hi)]),ha,if_pos rfl]
 rfl
def Fr.fit (f : Fr) : Prop:=(∀ m,m < f.n -> (f.M m).owd) /\ (f.kd = true -> utfB f.key = true /\ f.key.size <= 1024)
theorem frV_owd {f : Fr} (h : ∀ m,m < f.n -> (f.M m).owd) : (frV f).owd:=by
 unfold frV
 split
 ·exact ⟨own_fld _ _ _ _,fun i hi => absurd hi (Nat.not_lt_zero _),h⟩
 ·exact ⟨own_lst _ _ _ _,h,fun i hi => absurd hi (Nat.not_lt_zero _)⟩
theorem putF_fit {f : Fr} {V : Vt} (h : f.fit) (hV : V.owd) : (putF f V).fit:=by
 have key : ∀ m,m < f.n + 1 -> (upd f.M f.n V m).owd:=fun m hm => by
  by_cases q : m = f.n
  ·subst q;rw [upd_same];exact hV
  ·rw [upd_other q];exact h.1 m (by omega)
 unfold putF
 split
 ·exact ⟨key,fun q => by cases q⟩
 ·exact ⟨key,h.2⟩
theorem run_fit {W : World} {top : Nat} {p : Evs} (hp : p.In W top) (hv : valE p = 0) : ∀ j,j <= p.n -> ∀ t,t < (runN p j).1.d -> ((runN p j).1.fr t).fit:=by
 intro j
 induction j with
 | zero => intro _ t ht;exact absurd ht (Nat.not_lt_zero _)
 | succ j ih =>
  intro hj t ht
  obtain ⟨ha,hs⟩:=run_step hv (show j < p.n by omega)
  rw [hs] at ht ⊢
  have h0:=ih (by omega)
  have hsh:=shapeE_ok (addE_ok ha).2.1
  rcases step_fr ha ht with ⟨q,q2⟩ | ⟨q,q2,q3⟩ | ⟨q,q2,q3⟩ | ⟨q,q2,mp,q3⟩ | ⟨q,q2,q3⟩
  ·rw [q];exact h0 t q2
  ·rw [q3]
   have hx:=hsh.2.2.2.1 q
   exact putF_fit (h0 t (by omega)) (Vt.good.owd (sca_of (hp.2.2 j (by omega)).2.2.whole hx.1 hx.2.1 hx.2.2).good)
  ·rw [q3]
   exact ⟨(h0 t (by omega)).1,fun _ => hsh.2.2.2.2 (by omega)⟩
  ·rw [q3]
   exact ⟨fun m hm => absurd hm (Nat.not_lt_zero _),fun q => by cases q⟩
  ·rw [q3]
   exact putF_fit (h0 t (by omega)) (frV_owd (h0 _ (by omega)).1)
theorem open_at {p : Evs} (hv : valE p = 0) : ∀ j,j <= p.n -> ∀ t,t < (runN p j).1.d -> ∃ m,m < j /\ ((p.S m).k = 2 ∨ (p.S m).k = 4) /\ pathS (runN p m).1 = pathN (runN p j).1.fr t:=by
 intro j
 induction j with
 | zero => intro _ t ht;exact absurd ht (Nat.not_lt_zero _)
 | succ j ih =>
  intro hj t ht
  obtain ⟨ha,hs⟩:=run_step hv (show j < p.n by omega)
  rw [hs] at ht ⊢
  have hd:=step_d ha
  by_cases c : ((p.S j).k = 2 ∨ (p.S j).k = 4) /\ t = (runN p j).1.d
  ·obtain ⟨c1,c2⟩:=c
   refine ⟨j,by omega,c1,?_⟩
   rw [c2]
   exact pathN_eq fun i hi => (fr_push ha c1 hi).symm
  ·have h2 : t < (runN p j).1.d:=by
    rcases step_fr ha ht with q | q | q | q | q
    ·exact q.2
    ·omega
    ·omega
    ·exact absurd ⟨q.1,q.2.1⟩ c
    ·omega
   obtain ⟨m,h3,h4,h5⟩:=ih (by omega) t h2
   exact ⟨m,by omega,h4,h5.trans (pathN_eq fun i hi => (fr_kept ha (by omega) (by omega)).symm)⟩
structure FI (p : Evs) (P : List Stp) (i : Nat) : Prop where
 lt : i < p.n
 k : (p.S i).k ≠ 6
 eq : atE p i = P
 fst : ∀ m,m < i -> (p.S m).k = 6 ∨ atE p m ≠ P
def EndAt (p : Evs) (P : List Stp) (j : Nat) : Prop:=(runN p (j + 1)).1.d <= (runN p j).1.d /\ atE p j = P
theorem FI.beg {p : Evs} {P : List Stp} {i : Nat} (hv : valE p = 0) (h : FI p P i) : (p.S i).k = 1 ∨ (p.S i).k = 2 ∨ (p.S i).k = 4:=by
 obtain ⟨ha,-⟩:=run_step hv h.lt
 have hk:=(shapeE_ok (addE_ok ha).2.1).1
 have h6:=h.k
 by_cases c : (p.S i).k = 3 ∨ (p.S i).k = 5
 ·obtain ⟨hd,e⟩:=at_close ha c
  obtain ⟨m,m1,m2,m3⟩:=open_at hv i (Nat.le_of_lt h.lt) ((runN p i).1.d - 1) (by omega)
  rcases h.fst m m1 with q | q
  ·omega
  ·exact absurd (((at_open (by omega)).trans (m3.trans e.symm)).trans h.eq) q
 ·omega
theorem list_seg {p : Evs} {i j : Nat} (hi : i <= j) (hj : j < p.n) : (p.list.take (j + 1)).drop i = (p.list.take j).drop i ++ [p.S j]:=by
 rw [<- List.take_append_getElem (by rw [Evs.list_len];exact hj),Evs.list_get hj,List.drop_append_of_le_length (by rw [List.length_take,Evs.list_len];omega)]
theorem first_le {f : Nat -> Nat} {d i : Nat} : ∀ n,i < n -> d < f (i + 1) -> f n <= d -> ∃ j,i < j /\ j < n /\ f (j + 1) <= d /\ ∀ k,i < k -> k <= j -> d < f k:=by
 intro n
 induction n with
 | zero => intro h;exact absurd h (Nat.not_lt_zero _)
 | succ n ih =>
  intro h h1 h2
  by_cases c : ∃ m,i < m /\ m <= n /\ f m <= d
  ·obtain ⟨m,m1,m2,m3⟩:=c
   by_cases q : f n <= d
   ·obtain ⟨j,j1,j2,j3⟩:=ih (by omega) h1 q
    exact ⟨j,j1,by omega,j3⟩
   ·have key : ∀ b,∀ m,i < m -> m <= b -> f m <= d -> ∃ j,i < j /\ j < b /\ f (j + 1) <= d /\ ∀ k,i < k -> k <= j -> d < f k:=by
     intro b
     induction b with
     | zero => intro m a1 a2;omega
     | succ b ihb =>
      intro m a1 a2 a3
      by_cases z : ∃ m,i < m /\ m <= b /\ f m <= d
      ·obtain ⟨m',z1,z2,z3⟩:=z
       obtain ⟨j,j1,j2,j3⟩:=ihb m' z1 z2 z3
       exact ⟨j,j1,by omega,j3⟩
      ·obtain rfl : m = b + 1:=by
        rcases Nat.lt_or_ge b m with q | q
        ·omega
        ·exact absurd ⟨m,a1,q,a3⟩ z
       have hb : i ≠ b:=fun e => by subst e;omega
       exact ⟨b,by omega,by omega,a3,fun k k1 k2 => Nat.lt_of_not_le fun q => z ⟨k,k1,k2,q⟩⟩
    obtain ⟨j,j1,j2,j3⟩:=key n m m1 m2 m3
    exact ⟨j,j1,by omega,j3⟩
  ·have hn : i ≠ n:=fun e => by subst e;omega
   exact ⟨n,by omega,by omega,h2,fun k k1 k2 => Nat.lt_of_not_le fun q => c ⟨k,k1,k2,q⟩⟩
theorem take_end {W : World} {top i : Nat} {p : Evs} {P : List Stp} (hp : p.In W top) (hv : valE p = 0) (h : FI p P i) : ∃ (j : Nat) (T : Vt),i <= j /\ j < p.n /\ EndAt p P j /\ (∀ k,i <= k -> k < j -> ¬ EndAt p P k) /\ T.cln /\ T.owd /\ SameL ((p.list.take (j + 1)).drop i) (evs T):=by
 have hin:=h.lt
 obtain ⟨ha,hs⟩:=run_step hv h.lt
 have hsh:=shapeE_ok (addE_ok ha).2.1
 have hd:=step_d ha
 have hx:=hp.2.2 i h.lt
 rw [<- hs] at hd
 rcases h.beg hv with k | k
 ·rw [if_neg (by omega),if_neg (by omega)] at hd
  have hc:=hsh.2.2.2.1 k
  have hsc:=sca_of hx.2.2.whole hc.1 hc.2.1 hc.2.2
  have hne : (p.S i).V ≠ .nil:=fun e => by have:=hx.2.2.whole;rw [e] at this;exact this
  refine ⟨i,(p.S i).V,Nat.le_refl _,h.lt,⟨by omega,h.eq⟩,fun k k1 k2 => by omega,sca_cln hx.2.2.whole hc.2.1,Vt.good.owd hsc.good,?_⟩
  rw [list_seg (Nat.le_refl _) h.lt,evs_sca hne hc.2.1,List.drop_of_length_le (by rw [List.length_take,Evs.list_len];omega)]
  exact .cons ⟨k,hsh.2.1 (by omega),Vt.Same.rfl' hx.2.2.whole⟩ .nil
 ·rw [if_pos k] at hd
  have hend : (runN p p.n).1.d = 0:=(runN_inv hp p.n (Nat.le_refl _)).dn (run_dn hv)
  obtain ⟨j,j1,j2,j3,j4⟩:=first_le (f:=fun m => (runN p m).1.d) (d:=(runN p i).1.d) p.n h.lt (by show (runN p i).1.d < (runN p (i + 1)).1.d;omega) (by show (runN p p.n).1.d <= _;omega)
  replace j3 : (runN p (j + 1)).1.d <= (runN p i).1.d:=j3
  replace j4 : ∀ k,i < k -> k <= j -> (runN p i).1.d < (runN p k).1.d:=j4
  have keep : ∀ m,i < m -> m <= j -> ∀ t,t < (runN p i).1.d -> (runN p m).1.fr t = (runN p i).1.fr t:=by
   intro m
   induction m with
   | zero => intro m1;exact absurd m1 (Nat.not_lt_zero _)
   | succ m ih =>
    intro m1 m2 t ht
    obtain ⟨a1,a2⟩:=run_step hv (show m < p.n by omega)
    have d2:=j4 (m + 1) m1 m2
    rw [a2] at d2 ⊢
    by_cases q : m = i
    ·subst q;exact fr_push a1 k ht
    ·have d1:=j4 m (by omega) (by omega)
     exact (fr_kept a1 (by omega) (by omega)).trans (ih (by omega) (by omega) t ht)
  obtain ⟨ja,js⟩:=run_step hv j2
  have jsh:=shapeE_ok (addE_ok ja).2.1
  have jd:=step_d ja
  have d1:=j4 j j1 (Nat.le_refl _)
  rw [<- js] at jd
  have jk : ((p.S j).k = 3 ∨ (p.S j).k = 5) /\ (runN p j).1.d = (runN p i).1.d + 1:=by
   by_cases c : (p.S j).k = 2 ∨ (p.S j).k = 4
   ·rw [if_pos c] at jd;omega
   ·rw [if_neg c] at jd
    by_cases c2 : (p.S j).k = 3 ∨ (p.S j).k = 5
    ·rw [if_pos c2] at jd;exact ⟨c2,by omega⟩
    ·rw [if_neg c2] at jd;omega
  obtain ⟨jk,jdd⟩:=jk
  have ie : atE p i = pathS (runN p i).1:=at_open (.inr k)
  have je : atE p j = P:=by
   have:=(at_close ja jk).2
   rw [jdd,Nat.add_sub_cancel,pathN_eq (g:=(runN p i).1.fr) (fun t ht => keep j j1 (Nat.le_refl _) t ht)] at this
   exact this.trans (ie.symm.trans h.eq)
  have hPl : P.length <= (runN p i).1.d:=by rw [<- h.eq,ie];exact pathN_len _ _
  obtain ⟨-,jsh0,jf,-⟩:=addE_ok ja
  obtain ⟨jdn,j0f,j1f⟩:=followE_ok jf
  obtain ⟨g6,g3,g5,gb⟩:=j1f (by omega)
  have hok:=(runN_inv hp j (by omega)).ok
  have hfr:=hok.fr (runN p i).1.d (by omega)
  have hfit:=run_fit hp hv j (by omega) (runN p i).1.d (by omega)
  rw [show (runN p j).1.d - 1 = (runN p i).1.d by omega] at g3 g5
  have hnd:=hok.nd
  refine ⟨j,frV ((runN p j).1.fr (runN p i).1.d),by omega,j2,⟨by omega,je⟩,fun m m1 m2 hE => ?_,frV_cln (by omega) (fun m hm => (hfr.2.2 m hm).1) (fun m hm => (runN_cln hp j (by omega)).1 _ (by omega) m hm),frV_owd hfit.1,?_⟩
  ·obtain ⟨e1,e2⟩:=hE
   by_cases q : m = i
   ·subst q;omega
   ·have dm:=j4 m (by omega) (by omega)
    have dm1:=j4 (m + 1) (by omega) (by omega)
    obtain ⟨ma,ms⟩:=run_step hv (show m < p.n by omega)
    have md:=step_d ma
    rw [<- ms] at md
    have mi:=runN_inv hp m (by omega)
    by_cases c : (p.S m).k = 2 ∨ (p.S m).k = 4
    ·rw [if_pos c] at md;omega
    ·rw [if_neg c] at md
     by_cases c2 : (p.S m).k = 3 ∨ (p.S m).k = 5
     ·rw [if_pos c2] at md
      have z:=(at_close ma c2).2
      have zl:=pathN_full mi ((runN p m).1.d - 1) (by omega)
      rw [<- z] at zl
      unfold atE at e2
      rw [e2] at zl
      omega
     ·have mk:=(shapeE_ok (addE_ok ma).2.1).1
      have zl:=at_deep mi ma (by omega) (by omega)
      unfold atE at e2
      rw [e2] at zl
      omega
  ·have hti:=trace_runs hp i (by omega) (run_ok hv (by omega))
   have htj:=trace_runs hp j (by omega) (run_ok hv (by omega))
   have idn : (runN p i).1.dn = false:=(followE_ok (addE_ok ha).2.2.1).1
   have il:=hti.length
   rw [List.length_take,Evs.list_len] at il
   have ei : trace (runN p i).1 = catL (fun t => frT ((runN p i).1.fr t)) (runN p i).1.d:=by unfold trace;rw [if_neg (by rw [idn];decide)]
   have ej : trace (runN p j).1 = catL (fun t => frT ((runN p i).1.fr t)) (runN p i).1.d ++ frT ((runN p j).1.fr (runN p i).1.d):=by
    unfold trace
    rw [if_neg (by rw [jdn];decide),jdd]
    show catL _ _ ++ frT _ = _
    rw [catL_congr fun t ht => by rw [keep j j1 (Nat.le_refl _) t ht]]
   rw [ei] at il
   rw [ej,<- List.take_append_drop i (p.list.take j)] at htj
   have hsp:=(htj.split (by rw [il,List.length_take,List.length_take,Evs.list_len];omega)).2
   have hxj:=hp.2.2 j j2
   have hnj : (p.S j).V ≠ .nil:=fun e => by have:=hxj.2.2.whole;rw [e] at this;exact this
   have hkf : ((runN p j).1.fr (runN p i).1.d).mp = true -> ((runN p j).1.fr (runN p i).1.d).kd = false:=fun q => by
    rcases jk with z | z
    ·rw [g3 z] at q;cases q
    ·exact (g5 z).2
   rw [list_seg (by omega) j2,frT_end hkf]
   refine hsp.symm.append (.cons ⟨?_,jsh.2.1 (by omega),(plain_same hnj).1 (jsh.2.2.1 (by omega))⟩ .nil)
   show (p.S j).k = if _ then (5 : Int) else 3
   rcases jk with z | z
   ·rw [if_neg (by rw [g3 z];decide)];exact z
   ·rw [if_pos (g5 z).1];exact z
theorem at_valid {W : World} {top i : Nat} {p : Evs} (hp : p.In W top) (hv : valE p = 0) (hi : i < p.n) : (atE p i).length <= 48 /\ ∀ st,st ∈ atE p i -> stepOk st:=by
 obtain ⟨ha,hs⟩:=run_step hv hi
 have hN : ∀ j,j <= p.n -> ∀ d,d <= (runN p j).1.d -> (pathN (runN p j).1.fr d).length <= 48 /\ ∀ st,st ∈ pathN (runN p j).1.fr d -> stepOk st:=fun j hj d hd => by
  have hok:=(runN_inv hp j hj).ok
  have h48:=hok.d
  have hnd:=hok.nd
  refine ⟨Nat.le_trans (pathN_len _ _) (by omega),fun st hst => ?_⟩
  obtain ⟨t,ht,hx⟩:=catL_mem hst
  have hft:=run_fit hp hv j hj t (by omega)
  have hfr:=hok.fr t (by omega)
  unfold pathF at hx
  unfold stepOk
  split at hx
  ·split at hx
   ·rename_i c
    obtain rfl:=List.mem_singleton.1 hx
    rw [if_neg (show ¬ ((stK ((runN p j).1.fr t).key).ix = true) from fun q => by cases q)]
    exact ⟨rfl,(hft.2 c).2,(hft.2 c).1⟩
   ·cases hx
  ·obtain rfl:=List.mem_singleton.1 hx
   rw [if_pos (show (stI ((runN p j).1.fr t).n).ix = true from rfl)]
   exact ⟨by rw [Lib.toList_data];rfl,Int.natCast_nonneg _,by show ((((runN p j).1.fr t).n : Nat) : Int) <= 65536;omega⟩
 unfold atE whereS
 split
 ·rw [addS_ok ha,<- hs]
  exact hN (i + 1) (by omega) _ (Nat.le_refl _)
 split
 ·rename_i k6 k3
  have e:=(at_close ha (.inl k3)).2
  unfold whereS at e
  rw [if_neg k6,if_pos k3] at e
  rw [e]
  exact hN i (by omega) _ (Nat.sub_le _ _)
 ·exact hN i (by omega) _ (Nat.le_refl _)
theorem RowE.lower {B B' : Nat} {S S' : Nat -> Prop} {W : World} {v : Value} {l : List Ev} (h : RowE B S W v l) (hB : B' <= B) (hS : ∀ b,S b -> S' b) : RowE B' S' W v l:=by
 obtain ⟨f,ho,hf⟩:=h
 refine ⟨f,?_,fun i hi => ⟨(hf i hi).1,(hf i hi).2.1.mono fun b hb => ⟨hS b hb.1,hb.2⟩,(hf i hi).2.2⟩⟩
 obtain ⟨hl,ho⟩:=ho
 refine ⟨hl,?_⟩
 rcases ho with ho | ⟨g,cap,cur,e,hb,r⟩
 ·exact .inl ho
 ·exact .inr ⟨g,cap,cur,e,Nat.le_trans hB hb,r⟩
theorem RowE.join {B : Nat} {S : Nat -> Prop} {W1 W3 : World} {v v' u : Value} {l m : List Ev} {f g : Nat -> Ev} (ho : W1.ownsRow B 57 15 v l.length (catN (fun i => (f i).cells) l.length))
 (hf : ∀ i,i < l.length -> (f i).V.In W1 W1.heap.size /\ (f i).V.Off (fun b => S b /\ some b ≠ v.ownBlock) /\ (f i).Same (nth l i) /\ (f i).ok)
 (hg : ∀ i,i < m.length -> (g i).V.In W1 W1.heap.size /\ (g i).V.Off (fun b => S b /\ some b ≠ u.ownBlock) /\ (g i).Same (nth m i) /\ (g i).ok) (hS : ∀ b,S b -> some b ≠ v.ownBlock)
 (ho3 : W3.ownsRow B 57 15 v' (l.length + m.length) (catN (fun i => (f i).cells) l.length ++ catN (fun i => (g i).cells) m.length)) (hgr : W1.grownBy W3 v.ownBlock) (hv : v'.ownBlock = v.ownBlock ∨ v'.ownBlock = some W1.heap.size) (hSl : ∀ b,S b -> b < W1.heap.size) :
 RowE B S W3 v' (l ++ m):=by
 unfold RowE
 rw [List.length_append]
 have hSv : ∀ b,S b -> some b ≠ v'.ownBlock:=fun b hb e => by
  rcases hv with hv | hv
  ·rw [hv] at e;exact hS b hb e
  ·rw [hv] at e
   have:=hSl b hb
   cases e
   exact absurd this (Nat.lt_irrefl _)
 have key : ∀ {x : Ev},x.V.In W1 W1.heap.size -> x.V.Off S -> x.V.In W3 W3.heap.size /\ x.V.Off (fun b => S b /\ some b ≠ v'.ownBlock):=fun h1 h2 =>
  ⟨h1.grown (h2.mono fun b hb => hS b hb) hgr,h2.mono fun b hb => ⟨hb,hSv b hb⟩⟩
 refine ⟨fun i => if i < l.length then f i else g (i - l.length),?_,fun i hi => ?_⟩
 ·have e : catN (fun i => (if i < l.length then f i else g (i - l.length)).cells) (l.length + m.length) = catN (fun i => (f i).cells) l.length ++ catN (fun i => (g i).cells) m.length:=by
   rw [catN_append]
   rw [catN_congr (f:=fun i => (if i < l.length then f i else g (i - l.length)).cells) (g:=fun i => (f i).cells) (fun i hi => by rw [if_pos hi])]
   rw [catN_congr (f:=fun i => (if l.length + i < l.length then f (l.length + i) else g (l.length + i - l.length)).cells) (g:=fun i => (g i).cells) (fun i hi => by rw [if_neg (by omega),Nat.add_sub_cancel_left])]
  rw [e]
  exact ho3
 ·dsimp only
  by_cases q : i < l.length
  ·rw [if_pos q,nth_left q]
   obtain ⟨a,b,c⟩:=hf i q
   obtain ⟨k1,k2⟩:=key a (b.mono fun b hb => hb.1)
   exact ⟨k1,k2,c⟩
  ·rw [if_neg q]
   obtain ⟨a,b,c⟩:=hg (i - l.length) (by omega)
   obtain ⟨k1,k2⟩:=key a (b.mono fun b hb => hb.1)
   have e : nth (l ++ m) i = nth m (i - l.length):=by
    unfold nth
    rw [List.getD_eq_getElem?_getD,List.getD_eq_getElem?_getD,List.getElem?_append_right (by omega)]
   rw [e]
   exact ⟨k1,k2,c⟩
theorem RowE.one {B : Nat} {S : Nat -> Prop} {W : World} {b : Nat} {x y : Ev} (P : Whole W b 57 x.cells) (hB : B <= b) (hx : x.V.In W W.heap.size) (hS : x.V.Off S) (hb : ∀ c,S c -> c ≠ b) (hxy : x.Same y) (hk : x.ok) : RowE B S W (.slice (some ⟨b,0,none⟩) 1 1) [y]:=by
 refine ⟨fun _ => x,?_,fun i hi => ⟨hx,hS.mono fun c hc => ⟨hc,fun e => hb c hc (by cases e;rfl)⟩,?_,hk⟩⟩
 ·have h:=own_shut (n:=1) (C:=15) P hB (Nat.le_refl _) (by unfold maxLen;omega) rfl
  have e : x.cells.toList.take (1 * 15) = catN (fun _ => x.cells) 1:=by
   show _ = [] ++ x.cells.toList
   rw [List.nil_append]
   exact List.take_of_length_le (by simp [Ev.cells,evc])
  rw [e] at h
  exact h
 ·have hi0 : i = 0:=by have : i < 1:=hi;omega
  subst hi0
  exact hxy
end Go.Proofs.YtpcbhneaaibfiaaDoor
