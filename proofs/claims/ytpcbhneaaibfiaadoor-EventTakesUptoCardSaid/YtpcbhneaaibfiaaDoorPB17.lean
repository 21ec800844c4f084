/- Laid together. -/
import Derived.Test.YtpcbhneaaibfiaaDoorPB16
set_option linter.unusedVariables false
set_option linter.unusedSimpArgs false
set_option maxHeartbeats 16000000
set_option maxRecDepth 100000
namespace Go.Proofs.YtpcbhneaaibfiaaDoor
open Go.RowKit
def frT (f : Fr) : List Ev :=
 if f.mp = true then evM 4 :: (catL (fun j => evK (f.K j) :: evs (f.M j)) f.n ++ (if f.kd = true then [evK f.key] else []))
 else evM 2 :: catL (fun j => evs (f.M j)) f.n
def trace (s : Bst) : List Ev:=if s.dn = true then evs s.out else catL (fun i => frT (s.fr i)) s.d
structure Bst.inv (s : Bst) : Prop where
 ok : s.ok
 dn : s.dn = true -> s.d = 0
 cnt : ∀ i,i < s.d -> (s.fr i).n + (s.d - i) <= s.nd
 keyed : ∀ i,i + 1 < s.d -> (s.fr i).mp = (s.fr i).kd
 lst : ∀ i,i < s.d -> (s.fr i).mp = false -> (s.fr i).kd = false /\ (s.fr i).key = ⟨#[]⟩
 val : ∀ i,i < s.d -> ∀ j,j < (s.fr i).n -> ((s.fr i).M j).whole
 out : s.dn = true -> s.out.whole
theorem catL_upd {f : Nat -> Fr} {i : Nat} {g : Fr} : catL (fun j => frT (upd f i g j)) (i + 1) = catL (fun j => frT (f j)) i ++ frT g:=by
 show catL (fun j => frT (upd f i g j)) i ++ frT (upd f i g i) = _
 rw [upd_same,catL_congr (g:=fun j => frT (f j)) fun j hj => by rw [upd_other (by omega)]]
theorem frT_push (mp : Bool) : frT (fr0 mp) = [evM (if mp = true then 4 else 2)]:=by
 cases mp <;> rfl
theorem frT_key {f : Fr} {key : ByteArray} (hm : f.mp = true) (hk : f.kd = false) : frT (keyF f key) = frT f ++ [evK key]:=by
 obtain ⟨mp,n,K,M,k,kd⟩:=f
 dsimp only at hm hk
 subst hm hk
 simp [frT,keyF]
theorem frT_putM {f : Fr} {V : Vt} (hm : f.mp = true) (hk : f.kd = true) : frT ⟨true,f.n + 1,upd f.K f.n f.key,upd f.M f.n V,⟨#[]⟩,false⟩ = frT f ++ evs V:=by
 obtain ⟨mp,n,K,M,k,kd⟩:=f
 dsimp only at hm hk
 subst hm hk
 have e : catL (fun j => evK (upd K n k j) :: evs (upd M n V j)) (n + 1) = catL (fun j => evK (K j) :: evs (M j)) n ++ (evK k :: evs V):=by
  show catL (fun j => evK (upd K n k j) :: evs (upd M n V j)) n ++ (evK (upd K n k n) :: evs (upd M n V n)) = _
  rw [upd_same,upd_same,catL_congr (g:=fun j => evK (K j) :: evs (M j)) fun j hj => by rw [upd_other (by omega),upd_other (by omega)]]
 simp [frT,e]
theorem frT_putL {f : Fr} {V : Vt} (hm : f.mp = false) : frT ⟨false,f.n + 1,upd f.K f.n ⟨#[]⟩,upd f.M f.n V,f.key,f.kd⟩ = frT f ++ evs V:=by
 obtain ⟨mp,n,K,M,k,kd⟩:=f
 dsimp only at hm
 subst hm
 have e : catL (fun j => evs (upd M n V j)) (n + 1) = catL (fun j => evs (M j)) n ++ evs V:=by
  show catL (fun j => evs (upd M n V j)) n ++ evs (upd M n V n) = _
  rw [upd_same,catL_congr (g:=fun j => evs (M j)) fun j hj => by rw [upd_other (by omega)]]
 simp [frT,e]
theorem frT_end {f : Fr} (hk : f.mp = true -> f.kd = false) : evs (frV f) = frT f ++ [evM (if f.mp = true then 5 else 3)]:=by
 obtain ⟨mp,n,K,M,k,kd⟩:=f
 cases mp
 ·simp [frV,evs,frT,Vh.lst]
 ·have hk:=hk rfl
  dsimp only at hk
  subst hk
  simp [frV,evs,frT,Vh.fld]
theorem frV_whole {f : Fr} (h : ∀ j,j < f.n -> (f.M j).whole) : (frV f).whole:=by
 obtain ⟨mp,n,K,M,k,kd⟩:=f
 cases mp
 ·exact ⟨h,fun i hi => absurd hi (Nat.not_lt_zero _)⟩
 ·exact ⟨fun i hi => absurd hi (Nat.not_lt_zero _),h⟩
theorem frV_upto {f : Fr} {e : Nat} (h : ∀ j,j < f.n -> (f.M j).upto e) : (frV f).upto (e + 1):=by
 obtain ⟨mp,n,K,M,k,kd⟩:=f
 cases mp
 ·exact ⟨Nat.succ_pos _,h,fun i hi => absurd hi (Nat.not_lt_zero _)⟩
 ·exact ⟨Nat.succ_pos _,fun i hi => absurd hi (Nat.not_lt_zero _),h⟩
theorem put_inv {s : Bst} {V : Vt} (h : s.inv) (hd : s.dn = false) (ht : 0 < s.d -> (s.fr (s.d - 1)).n + 2 <= s.nd /\ (s.fr (s.d - 1)).mp = (s.fr (s.d - 1)).kd) (hw : V.whole) (hu : V.upto (49 - s.d)) :
 (putS s V).inv /\ trace (putS s V) = trace s ++ evs V:=by
 have htr : trace s = catL (fun i => frT (s.fr i)) s.d:=by unfold trace;rw [if_neg (by rw [hd];decide)]
 by_cases h0 : s.d = 0
 ·unfold putS
  rw [if_pos h0]
  refine ⟨⟨⟨h.ok.d,h.ok.nd,h.ok.fr,fun _ => by rw [h0] at hu;exact hu⟩,fun _ => h0,h.cnt,h.keyed,h.lst,h.val,fun _ => hw⟩,?_⟩
  rw [htr,h0]
  show (if true = true then evs V else _) = _
  rw [if_pos rfl]
  rfl
 ·obtain ⟨i,hi⟩ : ∃ i,s.d = i + 1:=⟨s.d - 1,by omega⟩
  obtain ⟨t1,t2⟩:=ht (by omega)
  have hd48:=h.ok.d
  rw [show s.d - 1 = i by omega] at t1 t2
  have hok:=h.ok.fr i (by omega)
  have hu' : V.upto (48 - i):=by rw [show 48 - i = 49 - s.d by omega];exact hu
  cases hm : (s.fr i).mp with
  | true =>
   have e : putS s V = { s with fr:=upd s.fr i ⟨true,(s.fr i).n + 1,upd (s.fr i).K (s.fr i).n (s.fr i).key,upd (s.fr i).M (s.fr i).n V,⟨#[]⟩,false⟩ }:=by
    unfold putS
    rw [if_neg h0,show s.d - 1 = i by omega,if_pos hm]
   rw [e]
   refine ⟨⟨⟨h.ok.d,h.ok.nd,fun j hj => ?_,h.ok.out⟩,h.dn,fun j hj => ?_,fun j hj => ?_,fun j hj hmj => ?_,fun j hj t ht => ?_,h.out⟩,?_⟩
   ·by_cases q : j = i
    ·subst q
     simp only [upd_same]
     refine ⟨by omega,Nat.zero_le _,fun t ht => ?_⟩
     by_cases z : t = (s.fr j).n
     ·subst z;rw [upd_same,upd_same];exact ⟨hok.2.1,hu'⟩
     ·rw [upd_other z,upd_other z];exact hok.2.2 t (by omega)
    ·simp only [upd_other q];exact h.ok.fr j hj
   ·by_cases q : j = i
    ·subst q;simp only [upd_same];omega
    ·simp only [upd_other q];exact h.cnt j hj
   ·have hj' : j + 1 < s.d:=hj
    simp only [upd_other (show j ≠ i by omega)];exact h.keyed j hj
   ·by_cases q : j = i
    ·subst q;simp only [upd_same] at hmj;cases hmj
    ·simp only [upd_other q] at hmj ⊢;exact h.lst j hj hmj
   ·by_cases q : j = i
    ·subst q
     simp only [upd_same] at ht ⊢
     by_cases z : t = (s.fr j).n
     ·subst z;rw [upd_same];exact hw
     ·rw [upd_other z];exact h.val j hj t (by omega)
    ·simp only [upd_other q] at ht ⊢;exact h.val j hj t ht
   ·rw [htr]
    show (if s.dn = true then _ else catL (fun j => frT (upd s.fr i _ j)) s.d) = _
    rw [if_neg (by rw [hd];decide),hi,catL_upd,frT_putM hm (by rw [<- t2];exact hm),<- List.append_assoc]
    rfl
  | false =>
   have e : putS s V = { s with fr:=upd s.fr i ⟨false,(s.fr i).n + 1,upd (s.fr i).K (s.fr i).n ⟨#[]⟩,upd (s.fr i).M (s.fr i).n V,(s.fr i).key,(s.fr i).kd⟩ }:=by
    unfold putS
    rw [if_neg h0,show s.d - 1 = i by omega,if_neg (by rw [hm];decide)]
   rw [e]
   refine ⟨⟨⟨h.ok.d,h.ok.nd,fun j hj => ?_,h.ok.out⟩,h.dn,fun j hj => ?_,fun j hj => ?_,fun j hj hmj => ?_,fun j hj t ht => ?_,h.out⟩,?_⟩
   ·by_cases q : j = i
    ·subst q
     simp only [upd_same]
     refine ⟨by omega,hok.2.1,fun t ht => ?_⟩
     by_cases z : t = (s.fr j).n
     ·subst z;rw [upd_same,upd_same];exact ⟨Nat.zero_le _,hu'⟩
     ·rw [upd_other z,upd_other z];exact hok.2.2 t (by omega)
    ·simp only [upd_other q];exact h.ok.fr j hj
   ·by_cases q : j = i
    ·subst q;simp only [upd_same];omega
    ·simp only [upd_other q];exact h.cnt j hj
   ·have hj' : j + 1 < s.d:=hj
    simp only [upd_other (show j ≠ i by omega)];exact h.keyed j hj
   ·by_cases q : j = i
    ·subst q;simp only [upd_same];exact h.lst j hj hm
    ·simp only [upd_other q] at hmj ⊢;exact h.lst j hj hmj
   ·by_cases q : j = i
    ·subst q
     simp only [upd_same] at ht ⊢
     by_cases z : t = (s.fr j).n
     ·subst z;rw [upd_same];exact hw
     ·rw [upd_other z];exact h.val j hj t (by omega)
    ·simp only [upd_other q] at ht ⊢;exact h.val j hj t ht
   ·rw [htr]
    show (if s.dn = true then _ else catL (fun j => frT (upd s.fr i _ j)) s.d) = _
    rw [if_neg (by rw [hd];decide),hi,catL_upd,frT_putL hm,<- List.append_assoc]
    rfl
theorem inv_nd {s : Bst} (h : s.inv) (hn : s.nd < 65536) : Bst.inv { s with nd:=s.nd + 1 } :=
 ⟨⟨h.ok.d,hn,fun i hi => ⟨Nat.le_succ_of_le (h.ok.fr i hi).1,(h.ok.fr i hi).2⟩,h.ok.out⟩,h.dn,fun i hi => Nat.le_succ_of_le (h.cnt i hi),h.keyed,h.lst,h.val,h.out⟩
theorem inv_less {s : Bst} {i : Nat} (h : s.inv) (hi : s.d = i + 1) : Bst.inv { s with d:=i } :=
 ⟨⟨by have:=h.ok.d;show i <= 48;omega,h.ok.nd,fun j hj => (by have hj' : j < i:=hj;exact h.ok.fr j (by omega)),h.ok.out⟩,fun q => (by have:=h.dn q;omega),fun j hj => (by have hj' : j < i:=hj;have h1:=h.cnt j (by omega);show (s.fr j).n + (i - j) <= s.nd;omega),fun j hj => (by have hj' : j + 1 < i:=hj;exact h.keyed j (by omega)),fun j hj => (by have hj' : j < i:=hj;exact h.lst j (by omega)),fun j hj => (by have hj' : j < i:=hj;exact h.val j (by omega)),h.out⟩
theorem push_inv {s : Bst} {mp : Bool} (h : s.inv) (hd : s.dn = false) (h48 : s.d < 48) (ht : ∀ i,i < s.d -> (s.fr i).n + (s.d - i) + 1 <= s.nd) (hn : 0 < s.nd) (hk : 0 < s.d -> (s.fr (s.d - 1)).mp = (s.fr (s.d - 1)).kd) :
 (pushS s mp).inv /\ trace (pushS s mp) = trace s ++ [evM (if mp = true then 4 else 2)]:=by
 have htr : trace s = catL (fun i => frT (s.fr i)) s.d:=by unfold trace;rw [if_neg (by rw [hd];decide)]
 unfold pushS
 refine ⟨⟨⟨h48,h.ok.nd,fun j hj => ?_,h.ok.out⟩,fun q => (by rw [hd] at q;cases q),fun j hj => ?_,fun j hj => ?_,fun j hj hmj => ?_,fun j hj t ht => ?_,h.out⟩,?_⟩
 ·by_cases q : j = s.d
  ·subst q
   simp only [upd_same]
   exact ⟨Nat.zero_le _,Nat.zero_le _,fun t ht => absurd ht (Nat.not_lt_zero _)⟩
  ·simp only [upd_other q];exact h.ok.fr j (by have hj' : j < s.d + 1:=hj;omega)
 ·by_cases q : j = s.d
  ·subst q
   simp only [upd_same]
   show 0 + (s.d + 1 - s.d) <= s.nd
   omega
  ·have hj' : j < s.d + 1:=hj
   simp only [upd_other q]
   have:=ht j (by omega)
   show (s.fr j).n + (s.d + 1 - j) <= s.nd
   omega
 ·have hj' : j + 1 < s.d + 1:=hj
  simp only [upd_other (show j ≠ s.d by omega)]
  by_cases q : j + 1 = s.d
  ·have:=hk (by omega)
   rw [show s.d - 1 = j by omega] at this
   exact this
  ·exact h.keyed j (by omega)
 ·by_cases q : j = s.d
  ·subst q
   simp only [upd_same]
   exact ⟨rfl,rfl⟩
  ·simp only [upd_other q] at hmj ⊢;exact h.lst j (by have hj' : j < s.d + 1:=hj;omega) hmj
 ·by_cases q : j = s.d
  ·subst q
   simp only [upd_same] at ht
   exact absurd ht (Nat.not_lt_zero _)
  ·simp only [upd_other q] at ht ⊢;exact h.val j (by have hj' : j < s.d + 1:=hj;omega) t ht
 ·rw [htr]
  show (if s.dn = true then _ else catL (fun j => frT (upd s.fr s.d _ j)) (s.d + 1)) = _
  rw [if_neg (by rw [hd];decide),catL_upd,frT_push]
theorem key_inv {s : Bst} {i : Nat} {key : ByteArray} (h : s.inv) (hd : s.dn = false) (hi : s.d = i + 1) (hm : (s.fr i).mp = true) (hk : (s.fr i).kd = false) (hs : key.size <= 1048576) :
 (keyS s key).inv /\ trace (keyS s key) = trace s ++ [evK key]:=by
 have htr : trace s = catL (fun i => frT (s.fr i)) s.d:=by unfold trace;rw [if_neg (by rw [hd];decide)]
 unfold keyS
 rw [show s.d - 1 = i by omega]
 refine ⟨⟨⟨h.ok.d,h.ok.nd,fun j hj => ?_,h.ok.out⟩,h.dn,fun j hj => ?_,fun j hj => ?_,fun j hj hmj => ?_,fun j hj t ht => ?_,h.out⟩,?_⟩
 ·by_cases q : j = i
  ·subst q
   simp only [upd_same]
   exact ⟨(h.ok.fr j hj).1,hs,(h.ok.fr j hj).2.2⟩
  ·simp only [upd_other q];exact h.ok.fr j hj
 ·by_cases q : j = i
  ·subst q;simp only [upd_same];exact h.cnt j hj
  ·simp only [upd_other q];exact h.cnt j hj
 ·have hj' : j + 1 < s.d:=hj
  simp only [upd_other (show j ≠ i by omega)];exact h.keyed j hj
 ·by_cases q : j = i
  ·subst q;simp only [upd_same] at hmj;rw [show (keyF (s.fr j) key).mp = (s.fr j).mp from rfl,hm] at hmj;cases hmj
  ·simp only [upd_other q] at hmj ⊢;exact h.lst j hj hmj
 ·by_cases q : j = i
  ·subst q;simp only [upd_same] at ht ⊢;exact h.val j hj t ht
  ·simp only [upd_other q] at ht ⊢;exact h.val j hj t ht
 ·rw [htr]
  show (if s.dn = true then _ else catL (fun j => frT (upd s.fr i _ j)) s.d) = _
  rw [if_neg (by rw [hd];decide),hi,catL_upd,frT_key hm hk,<- List.append_assoc]
  rfl
theorem followE_ok {s : Bst} {x : Ev} (h : followE s x = 0) : s.dn = false /\ (s.d = 0 -> x.k ≠ 6 /\ x.k ≠ 3 /\ x.k ≠ 5) /\ (0 < s.d ->
 (x.k = 6 -> (s.fr (s.d - 1)).mp = true /\ (s.fr (s.d - 1)).kd = false /\ ¬ fidx (s.fr (s.d - 1)).K x.key (s.fr (s.d - 1)).n < (s.fr (s.d - 1)).n) /\ (x.k = 3 -> (s.fr (s.d - 1)).mp = false) /\ (x.k = 5 -> (s.fr (s.d - 1)).mp = true /\ (s.fr (s.d - 1)).kd = false) /\
 (x.k ≠ 6 -> x.k ≠ 3 -> x.k ≠ 5 -> (s.fr (s.d - 1)).mp = true -> (s.fr (s.d - 1)).kd = true)):=by
 unfold followE at h
 split at h
 ·omega
 rename_i h1
 refine ⟨by simpa using h1,fun q => ?_,fun q => ?_⟩
 ·rw [if_pos q] at h
  split at h
  ·omega
  ·rename_i z;simp only [not_or] at z;exact z
 ·rw [if_neg (by omega)] at h
  refine ⟨fun e => ?_,fun e => ?_,fun e => ?_,fun e6 e3 e5 hm => ?_⟩
  ·rw [if_pos e] at h
   split at h
   ·omega
   rename_i z
   simp only [not_or,Bool.not_eq_false,Bool.not_eq_true] at z
   split at h
   ·omega
   rename_i z2
   exact ⟨z.1,z.2,z2⟩
  ·rw [if_neg (by omega),if_pos e] at h
   split at h
   ·omega
   rename_i z
   simpa using z
  ·rw [if_neg (by omega),if_neg (by omega),if_pos e] at h
   split at h
   ·omega
   rename_i z
   simp only [not_or,Bool.not_eq_false,Bool.not_eq_true] at z
   exact z
  ·rw [if_neg e6,if_neg e3,if_neg e5] at h
   split at h
   ·omega
   rename_i z
   cases hk : (s.fr (s.d - 1)).kd with
   | true => rfl
   | false => exact absurd ⟨hm,hk⟩ z
theorem frT_refl {f : Fr} (h : ∀ j,j < f.n -> (f.M j).whole) : SameL (frT f) (frT f):=by
 unfold frT
 split
 ·refine .cons (evM_same 4) ((catL_same fun j hj => .cons (evK_same _) (evs_same (Vt.Same.rfl' (h j hj)))).append ?_)
  split
  ·exact .cons (evK_same _) .nil
  ·exact .nil
 ·exact .cons (evM_same 2) (catL_same fun j hj => evs_same (Vt.Same.rfl' (h j hj)))
theorem trace_refl {s : Bst} (h : s.inv) : SameL (trace s) (trace s):=by
 unfold trace
 split
 ·rename_i q;exact evs_same (Vt.Same.rfl' (h.out q))
 ·exact catL_same fun i hi => frT_refl (h.val i hi)
theorem step_inv {s : Bst} {x : Ev} (h : s.inv) (hx : x.ok) (hw : x.V.whole) (ha : addE s x = 0) : (stepS s x).inv /\ SameL (trace (stepS s x)) (trace s ++ [x]) /\ (trace s).length + 1 = (trace (stepS s x)).length:=by
 obtain ⟨a1,a2,a3,a4⟩:=addE_ok ha
 obtain ⟨b1,b2,b3,b4,b5⟩:=shapeE_ok a2
 obtain ⟨c1,c2,c3⟩:=followE_ok a3
 have hV : x.V ≠ .nil:=by intro e;rw [e] at hw;exact hw
 have hbeg : x.k = 1 ∨ x.k = 2 ∨ x.k = 4 -> 0 < s.d -> (s.fr (s.d - 1)).mp = (s.fr (s.d - 1)).kd:=fun q hd => by
  have q1:=(c3 hd).2.2.2 (by omega) (by omega) (by omega)
  cases hm : (s.fr (s.d - 1)).mp with
  | true => exact (q1 hm).symm
  | false => exact (h.lst _ (by omega) hm).1.symm
 have key : (stepS s x).inv /\ ∃ y : Ev,y.Same x /\ trace (stepS s x) = trace s ++ [y]:=by
  unfold stepS
  rcases b1 with e | e | e | e | e | e
  ·rw [if_pos e]
   obtain ⟨d1,d2⟩:=a4 (.inl e)
   obtain ⟨f1,f2,f3⟩:=b4 e
   have hsc:=sca_of hw f1 f2 f3
   obtain ⟨g1,g2⟩:=put_inv (s:={ s with nd:=s.nd + 1 }) (V:=x.V) (inv_nd h d2) c1 (fun q => ⟨by have:=h.cnt (s.d - 1) (by simp only at q;omega);show _ <= s.nd + 1;simp only at q ⊢;omega,hbeg (.inl e) q⟩) hw (hsc.upto (by show 0 < 49 - s.d;omega))
   refine ⟨g1,evS x.V,⟨e.symm,(b2 (by omega)).symm,Vt.Same.rfl' hw⟩,?_⟩
   rw [g2,evs_sca hV hsc.lt]
   rfl
  ·rw [if_neg (by omega),if_neg (by omega),if_pos e]
   obtain ⟨d1,d2⟩:=a4 (.inr (.inl e))
   obtain ⟨g1,g2⟩:=push_inv (s:={ s with nd:=s.nd + 1 }) (mp:=false) (inv_nd h d2) c1 d1 (fun i hi => Nat.succ_le_succ (h.cnt i hi)) (Nat.succ_pos _) (hbeg (.inr (.inl e)))
   exact ⟨g1,evM 2,⟨e.symm,(b2 (by omega)).symm,((plain_same hV).1 (b3 (by omega))).symm⟩,g2⟩
  ·rw [if_neg (by omega),if_neg (by omega),if_neg (by omega),if_neg (by omega)]
   have hd : 0 < s.d:=Nat.pos_of_ne_zero fun q => (c2 q).2.1 e
   obtain ⟨i,hi⟩ : ∃ i,s.d = i + 1:=⟨s.d - 1,by omega⟩
   have hm:=(c3 hd).2.1 e
   unfold popS
   rw [show s.d - 1 = i by omega] at hm ⊢
   have hd48:=h.ok.d
   obtain ⟨g1,g2⟩:=put_inv (s:={ s with d:=i }) (V:=frV (s.fr i)) (inv_less h hi) c1 (fun q => by
    simp only at q ⊢
    exact ⟨by have:=h.cnt (i - 1) (by omega);omega,h.keyed (i - 1) (by omega)⟩) (frV_whole (h.val i (by omega))) (by
    show (frV (s.fr i)).upto (49 - i)
    rw [show 49 - i = (48 - i) + 1 by omega]
    exact frV_upto fun j hj => ((h.ok.fr i (by omega)).2.2 j hj).2)
   refine ⟨g1,evM 3,⟨e.symm,(b2 (by omega)).symm,((plain_same hV).1 (b3 (by omega))).symm⟩,?_⟩
   rw [g2,frT_end (fun q => by rw [hm] at q;cases q),if_neg (by rw [hm];decide)]
   show (if s.dn = true then _ else catL _ i) ++ _ = (if s.dn = true then _ else catL _ s.d) ++ _
   rw [if_neg (by rw [c1];decide),if_neg (by rw [c1];decide),hi,<- List.append_assoc]
   rfl
  ·rw [if_neg (by omega),if_neg (by omega),if_neg (by omega),if_pos e]
   obtain ⟨d1,d2⟩:=a4 (.inr (.inr e))
   obtain ⟨g1,g2⟩:=push_inv (s:={ s with nd:=s.nd + 1 }) (mp:=true) (inv_nd h d2) c1 d1 (fun i hi => Nat.succ_le_succ (h.cnt i hi)) (Nat.succ_pos _) (hbeg (.inr (.inr e)))
   exact ⟨g1,evM 4,⟨e.symm,(b2 (by omega)).symm,((plain_same hV).1 (b3 (by omega))).symm⟩,g2⟩
  ·rw [if_neg (by omega),if_neg (by omega),if_neg (by omega),if_neg (by omega)]
   have hd : 0 < s.d:=Nat.pos_of_ne_zero fun q => (c2 q).2.2 e
   obtain ⟨i,hi⟩ : ∃ i,s.d = i + 1:=⟨s.d - 1,by omega⟩
   obtain ⟨hm,hk⟩:=(c3 hd).2.2.1 e
   unfold popS
   rw [show s.d - 1 = i by omega] at hm hk ⊢
   have hd48:=h.ok.d
   obtain ⟨g1,g2⟩:=put_inv (s:={ s with d:=i }) (V:=frV (s.fr i)) (inv_less h hi) c1 (fun q => by
    simp only at q ⊢
    exact ⟨by have:=h.cnt (i - 1) (by omega);omega,h.keyed (i - 1) (by omega)⟩) (frV_whole (h.val i (by omega))) (by
    show (frV (s.fr i)).upto (49 - i)
    rw [show 49 - i = (48 - i) + 1 by omega]
    exact frV_upto fun j hj => ((h.ok.fr i (by omega)).2.2 j hj).2)
   refine ⟨g1,evM 5,⟨e.symm,(b2 (by omega)).symm,((plain_same hV).1 (b3 (by omega))).symm⟩,?_⟩
   rw [g2,frT_end (fun _ => hk),if_pos hm]
   show (if s.dn = true then _ else catL _ i) ++ _ = (if s.dn = true then _ else catL _ s.d) ++ _
   rw [if_neg (by rw [c1];decide),if_neg (by rw [c1];decide),hi,<- List.append_assoc]
   rfl
  ·rw [if_neg (by omega),if_pos e]
   have hd : 0 < s.d:=Nat.pos_of_ne_zero fun q => (c2 q).1 e
   obtain ⟨i,hi⟩ : ∃ i,s.d = i + 1:=⟨s.d - 1,by omega⟩
   obtain ⟨hm,hk,-⟩:=(c3 hd).1 e
   rw [show s.d - 1 = i by omega] at hm hk
   obtain ⟨g1,g2⟩:=key_inv (key:=x.key) h c1 hi hm hk hx.key
   exact ⟨g1,evK x.key,⟨e.symm,rfl,((plain_same hV).1 (b3 (by omega))).symm⟩,g2⟩
 obtain ⟨g1,y,hy,g2⟩:=key
 have hwh : SameL (trace s) (trace s) -> SameL (trace (stepS s x)) (trace s ++ [x]):=fun q => by rw [g2];exact q.append (.cons hy .nil)
 exact ⟨g1,hwh (trace_refl h),by rw [g2];simp⟩
theorem Tryd.infoFrm : (Tryd.prog.info? 98).map (fun i => (i.zero,i.size,i.bytes)) = some (some (.agg #[.int .i64 0,.bool false,.bool false,.string ⟨#[]⟩,.int .i64 0,.int .i64 0,.int .i64 0,.int .i64 0,.int .i64 0,.string ⟨#[]⟩,.slice none 0 0,.slice none 0 0,.slice none 0 0,.string ⟨#[]⟩,.bool false]),15,192):=by kernel_rfl
section
variable {B0 bb : Nat} {A O : Nat -> Prop} {W W1 W2 W' : World} {s : Bst} {ov : Value} {us : Nat -> Value} {X V : Vt}
theorem ok_bad (h : s.ok) : Bst.ok { s with bad:=true }:=⟨h.d,h.nd,h.fr,h.out⟩
theorem ok_nd (h : s.ok) (hn : s.nd < 65536) : Bst.ok { s with nd:=s.nd + 1 }:=⟨h.d,hn,fun i hi => ⟨Nat.le_succ_of_le (h.fr i hi).1,(h.fr i hi).2⟩,h.out⟩
theorem bad_end (h : BIn B0 bb A O W s ov us X) (hb : Below W.heap.size W W2) (v : Value) : BOut B0 bb A O W { s with bad:=true } v (.returned v) (W2.setCell ⟨bb,16,none⟩ (.bool true)):=by
 have h2:=h.later hb
 have hk:=kept_set (fun b => b = bb) W2 bb 16 (.bool true) rfl
 refine ⟨rfl,A,O,⟨ov,us,X,h2.rebox (s':={ s with bad:=true }) hk ?_ rfl rfl rfl rfl (ok_bad h.ok)⟩,fun b q => .inl q,fun b q => .inl q,kept_after hb hk (fun b q => .inl (by rw [q];exact h.Obb))⟩
 have e:=h2.box.set 16 (.bool true)
 exact e
theorem same_end (h : BIn B0 bb A O W s ov us X) (hb : Below W.heap.size W W2) (v : Value) : BOut B0 bb A O W s v (.returned v) W2 :=
 ⟨rfl,A,O,⟨ov,us,X,h.later hb⟩,fun b q => .inl q,fun b q => .inl q,Kept.of hb⟩
theorem nd_more (h : BIn B0 bb A O W s ov us X) (hn : s.nd < 65536) (hk : Kept (fun b => b = bb) W W') (hbox : Whole W' bb 86 (bcells ov s.dn X.h (s.nd + 1) s.bad)) : BIn B0 bb A O W' { s with nd:=s.nd + 1 } ov us X :=
 h.rebox (s':={ s with nd:=s.nd + 1 }) hk hbox rfl rfl rfl rfl (ok_nd h.ok hn)
theorem nd_box (h : Whole W bb 86 (bcells ov s.dn X.h s.nd s.bad)) : Whole (W.setCell ⟨bb,15,none⟩ (.int .i64 ((s.nd : Int) + 1))) bb 86 (bcells ov s.dn X.h (s.nd + 1) s.bad):=by
 have e:=h.set 15 (.int .i64 ((s.nd : Int) + 1))
 have c : (((s.nd + 1 : Nat) : Int)) = (s.nd : Int) + 1:=by omega
 unfold bcells at e ⊢
 rw [c]
 exact e
theorem BOut.after {A1 O1 : Nat -> Prop} {s' : Bst} {v v' : Value} {e : Ending} (h : BOut B0 bb A1 O1 W1 s' v' e W') (hk : Kept O W W1) (hA : ∀ b,A1 b -> A b ∨ W.heap.size <= b) (hO : ∀ b,O1 b -> O b ∨ W.heap.size <= b) : BOut B0 bb A O W s' v (.returned v) W':=by
 obtain ⟨-,A',O',h1,h2,h3,h4⟩:=h
 have hsz:=hk.size
 refine ⟨rfl,A',O',h1,fun b q => ?_,fun b q => ?_,hk.trans h4 hO⟩
 ·rcases h2 b q with q | q
  ·exact hA b q
  ·exact .inr (Nat.le_trans hsz q)
 ·rcases h3 b q with q | q
  ·exact hO b q
  ·exact .inr (Nat.le_trans hsz q)
theorem keyF_row {f : Fr} {key : ByteArray} {S : Nat -> Prop} {u : Value} (h : f.row B0 S W u) : (keyF f key).row B0 S W u:=h
theorem key_end {i o c : Nat} {cur : Array Value} {key : ByteArray} (h : BIn B0 bb A O W s ov us X) (hb : Below W.heap.size W W2) (hi : s.d = i + 1) (hm : (s.fr i).mp = true) (hs : key.size <= 1048576) (v : Value)
 (eo : ov = .slice (some ⟨o,0,none⟩) s.d c) (hW : Whole W2 o 98 cur) (hB : B0 <= o) (h1 : s.d <= c) (h2 : c <= maxLen) (h3 : cur.size = c * 15) (hC : ∀ t,t < s.d -> ∀ j,j < 15 -> cur[t * 15 + j]? = ((s.fr t).cells (us t))[j]?) :
 BOut B0 bb A O W (keyS s key) v (.returned v) ((W2.setCell ⟨o,i * 15 + 13,none⟩ (.string key)).setCell ⟨o,i * 15 + 14,none⟩ (.bool true)):=by
 have hi' : i < s.d:=by omega
 have g:=h.later hb
 have hov : ov.ownBlock = some o:=by rw [eo];rfl
 have hk : Kept (fun b => ov.ownBlock = some b) W2 ((W2.setCell ⟨o,i * 15 + 13,none⟩ (.string key)).setCell ⟨o,i * 15 + 14,none⟩ (.bool true)) :=
  (kept_set _ W2 o (i * 15 + 13) (.string key) hov).trans (kept_set _ _ o (i * 15 + 14) (.bool true) hov) (fun b q => .inl q)
 have hk2:=hk.more (O':=fun b => ov.ownBlock = some b ∨ (us i).ownBlock = some b) fun b q => .inl q
 have hW2:=(hW.set (i * 15 + 13) (.string key)).set (i * 15 + 14) (.bool true)
 have e : keyS s key = { s with fr:=upd s.fr i (keyF (s.fr i) key) }:=by unfold keyS;rw [show s.d - 1 = i by omega]
 rw [e]
 have h15 : i * 15 + 15 <= cur.size:=by omega
 have hnew : ∀ b,¬ O b -> ¬ Own bb ov (upd us i (us i)) s.d b:=fun b hn q => by
  rcases q with q | q | ⟨j,hj,q⟩
  ·exact hn (by rw [q];exact h.Obb)
  ·exact hn (h.Oov q)
  ·by_cases z : j = i
   ·subst z;rw [upd_same] at q;exact hn (h.Ous hj q)
   ·rw [upd_other z] at q;exact hn (h.Ous hj q)
 refine ⟨rfl,_,_,⟨ov,_,X,g.top (f':=keyF (s.fr i) key) (u':=us i) hi hk2 ?_ (.inl rfl) ?_ ?_⟩,fun b q => ?_,fun b q => ?_,kept_after hb hk (fun b q => .inl (h.Oov q))⟩
 ·rw [eo]
  refine FrRow.turn (cur:=cur) (i:=i) hW2 hB h1 h2 h3 hC (by rw [Array.size_setIfInBounds,Array.size_setIfInBounds]) (fun j hj => by rw [Array.getElem?_setIfInBounds_ne (by omega),Array.getElem?_setIfInBounds_ne (by omega)]) ?_ (fun t _ hti => by rw [if_neg hti])
  rw [if_pos rfl]
  have e1:=set_one h15 (Fr.cells_size _ _) (hC i hi') 13 (by decide) (.string key)
  have e2:=set_one (by rw [Array.size_setIfInBounds];exact h15) (by rw [Array.size_setIfInBounds];exact Fr.cells_size _ _) e1 14 (by decide) (.bool true)
  intro j hj
  rw [cells_map hm] at e2
  rw [cells_map (f:=keyF (s.fr i) key) hm]
  exact e2 j hj
 ·refine keyF_row (Fr.row_move (g.rows i hi') hk (fun b hb hq => ?_) (fun b hlt hb hne => ⟨fun q => hb.2 (h.Oov q),.inl hb.1,hnew b hb.2⟩))
  have:=(h.sep2 i hi').2 (by rw [hb,hq])
  rw [hb] at this
  cases this
 ·exact ok_upd h.ok ⟨(h.ok.fr i hi').1,hs,(h.ok.fr i hi').2.2⟩
 ·rcases q with q | q
  ·exact .inl q
  ·exact .inl (h.hA b (h.Ous hi' q))
 ·rcases q with q | q | ⟨j,hj,q⟩
  ·exact .inl (by rw [q];exact h.Obb)
  ·exact .inl (h.Oov q)
  ·by_cases z : j = i
   ·subst z;rw [upd_same] at q;exact .inl (h.Ous hj q)
   ·rw [upd_other z] at q;exact .inl (h.Ous hj q)
theorem push_row {d : Nat} {ov' : Value} {xs : List Value} {mp : Bool} {C : Nat -> Array Value} (hl : xs.length = d * 15) (hx : ∀ i,i < d -> ∀ j,j < 15 -> xs[i * 15 + j]? = (C i)[j]?) (ho : W'.ownsRow B0 98 15 ov' (d + 1) (xs ++ ((fr0 mp).cells (.slice none 0 0)).toList)) :
 FrRow B0 W' ov' (d + 1) (fun j => if j = d then (fr0 mp).cells (.slice none 0 0) else C j):=by
 refine ⟨_,ho,fun i hi j hj => ?_⟩
 dsimp only
 by_cases z : i = d
 ·subst z
  rw [if_pos rfl,List.getElem?_append_right (by omega),hl,Nat.add_sub_cancel_left,Array.getElem?_toList]
 ·rw [if_neg z,List.getElem?_append_left (by omega)]
  exact hx i (by omega) j hj
theorem push_end {mp : Bool} {ov' : Value} {xs : List Value} (h : BIn B0 bb A O W1 s ov us X) (h48 : s.d < 48) (hkW : Kept O W W1) (hA : ∀ b,A b -> A b ∨ W.heap.size <= b) (v : Value)
 (hl : xs.length = s.d * 15) (hx : ∀ i,i < s.d -> ∀ j,j < 15 -> xs[i * 15 + j]? = ((s.fr i).cells (us i))[j]?)
 (ho : W2.ownsRow B0 98 15 ov' (s.d + 1) (xs ++ ((fr0 mp).cells (.slice none 0 0)).toList)) (hk : Kept (fun b => ov.ownBlock = some b) W1 W2)
 (hv : ov'.ownBlock = ov.ownBlock ∨ ∀ g,ov'.ownBlock = some g -> W1.heap.size <= g) :
 BOut B0 bb A O W (pushS s mp) v (.returned v) (W2.setCell ⟨bb,0,none⟩ ov'):=by
 have hsz:=hkW.size
 have hbb2 : Whole W2 bb 86 (bcells ov s.dn X.h s.nd s.bad):=(hk.block bb h.box.lt (fun q => h.sep1 q)).trans h.box
 have hbox : Whole (W2.setCell ⟨bb,0,none⟩ ov') bb 86 (bcells ov' s.dn X.h s.nd s.bad):=by
  have e:=hbb2.set 0 ov'
  exact e
 have hne : ov'.ownBlock ≠ some bb:=fun q => by
  rcases hv with hv | hv
  ·rw [hv] at q;exact h.sep1 q
  ·have:=hv bb q;have:=h.box.lt;omega
 have hk' : Kept (fun b => b = bb ∨ ov.ownBlock = some b) W1 (W2.setCell ⟨bb,0,none⟩ ov') :=
  (hk.more (fun b q => .inr q)).trans (kept_set (fun b => b = bb) W2 bb 0 ov' rfl) (fun b q => .inl (.inl q))
 have hrow:=push_row (mp:=mp) hl hx (own_block (W':=W2.setCell ⟨bb,0,none⟩ ov') ho (fun g hg => Below.heap_setCell _ _ _ _ (fun e => hne (by rw [hg];exact congrArg some e))))
 have hok : Bst.ok { s with d:=s.d + 1,fr:=upd s.fr s.d (fr0 mp) }:=⟨h48,h.ok.nd,fun j hj => by
  by_cases q : j = s.d
  ·subst q
   simp only [upd_same]
   exact ⟨Nat.zero_le _,Nat.zero_le _,fun t ht => absurd ht (Nat.not_lt_zero _)⟩
  ·simp only [upd_other q];exact h.ok.fr j (by have hj' : j < s.d + 1:=hj;omega),h.ok.out⟩
 have hb:=h.push (f0:=fr0 mp) hk' hbox hrow hv rfl hok
 refine ⟨rfl,_,_,⟨ov',_,X,hb⟩,fun b q => ?_,fun b q => ?_,hkW.trans hk' (fun b q => ?_)⟩
 ·rcases q with q | q
  ·exact .inl q
  ·rcases hv with hv | hv
   ·rw [hv] at q;exact .inl (h.hA b (h.Oov q))
   ·have:=hv b q;exact .inr (by omega)
 ·rcases q with q | q | ⟨j,hj,q⟩
  ·exact .inl (by rw [q];exact h.Obb)
  ·rcases hv with hv | hv
   ·rw [hv] at q;exact .inl (h.Oov q)
   ·have:=hv b q;exact .inr (by omega)
  ·by_cases z : j = s.d
   ·subst z;rw [upd_same] at q;cases q
   ·rw [upd_other z] at q;exact .inl (h.Ous (by omega) q)
 ·rcases q with q | q
  ·exact .inl (by rw [q];exact h.Obb)
  ·exact .inl (h.Oov q)
end
theorem fol_dn {B0 bb : Nat} {A O : Nat -> Prop} {W : World} {s : Bst} {x : Ev} (h : BInv B0 bb A O W s) (hx : x.ok) (hd : s.dn = true) :
 Calls Tryd.prog 47 #[.pointer (some ⟨bb,0,none⟩),.agg x.cells] W fun r W' => r = .returned (.int .i64 (followE s x)) /\ Below W.heap.size W W':=by
 obtain ⟨ov,us,X,h⟩:=h
 have hb0:=(Below.refl W.heap.size W).alloc (Nat.le_refl _) (.cells x.cells 57)
 have h1:=h.later hb0
 have P:=Whole.new W 57 x.cells
 obtain ⟨R,hR⟩ : ∃ R,followE s x = R:=⟨_,rfl⟩
 rw [hR]
 unfold followE at hR
 have p0:=(h1.box.cell 0)
 have p1:=(h1.box.cell 1)
 simp only [bcells,List.getElem?_toArray,List.getElem?_cons_succ,List.getElem?_cons_zero] at p0 p1
 rw [if_pos hd] at hR
 subst hR
 rw [hd] at p1
 obtain ⟨k,key,V⟩:=x
 obtain ⟨c0,c1,c2,c3,c4,c5,c6,c7,c8,c9,c10,c11,c12,c13,c14⟩:=Whole.e15 P
 simp only [Ev.cells,evc] at hb0 P p0 p1 c0 c1 c2 c3 c4 c5 c6 c7 c8 c9 c10 c11 c12 c13 c14 ⊢
 clear h h1 P hx
 go_enter Tryd.func47,Tryd.ntmps47
 go_wp2
 go_ret
 exact ⟨rfl,hb0⟩
theorem fol_zero {B0 bb : Nat} {A O : Nat -> Prop} {W : World} {s : Bst} {x : Ev} (h : BInv B0 bb A O W s) (hx : x.ok) (hn : s.dn = false) (hd : s.d = 0) :
 Calls Tryd.prog 47 #[.pointer (some ⟨bb,0,none⟩),.agg x.cells] W fun r W' => r = .returned (.int .i64 (followE s x)) /\ Below W.heap.size W W':=by
 obtain ⟨ov,us,X,h⟩:=h
 have hb0:=(Below.refl W.heap.size W).alloc (Nat.le_refl _) (.cells x.cells 57)
 have h1:=h.later hb0
 have P:=Whole.new W 57 x.cells
 obtain ⟨R,hR⟩ : ∃ R,followE s x = R:=⟨_,rfl⟩
 rw [hR]
 unfold followE at hR
 have p0:=(h1.box.cell 0)
 have p1:=(h1.box.cell 1)
 simp only [bcells,List.getElem?_toArray,List.getElem?_cons_succ,List.getElem?_cons_zero] at p0 p1
 rw [if_neg (by rw [hn];decide),if_pos hd] at hR
 rw [hn] at p1
 obtain ⟨a,c,hov⟩:=h.row.slice
 rw [hd] at hov
 rw [hov] at p0
 obtain ⟨k,key,V⟩:=x
 dsimp only at hR
 obtain ⟨c0,c1,c2,c3,c4,c5,c6,c7,c8,c9,c10,c11,c12,c13,c14⟩:=Whole.e15 P
 simp only [Ev.cells,evc] at hb0 P p0 p1 c0 c1 c2 c3 c4 c5 c6 c7 c8 c9 c10 c11 c12 c13 c14 ⊢
 clear h h1 P hx
 by_cases e6 : k = 6
 ·rw [if_pos (.inl e6)] at hR
  subst e6 hR
  go_enter Tryd.func47,Tryd.ntmps47
  go_wp2
  go_ret
  exact ⟨rfl,hb0⟩
 ·have d6 : (k == 6) = false:=beq_eq_false_iff_ne.2 e6
  by_cases e3 : k = 3
  ·rw [if_pos (.inr (.inl e3))] at hR
   subst e3 hR
   go_enter Tryd.func47,Tryd.ntmps47
   go_wp2
   go_ret
   exact ⟨rfl,hb0⟩
  ·have d3 : (k == 3) = false:=beq_eq_false_iff_ne.2 e3
   by_cases e5 : k = 5
   ·rw [if_pos (.inr (.inr e5))] at hR
    subst e5 hR
    go_enter Tryd.func47,Tryd.ntmps47
    go_wp2
    go_ret
    exact ⟨rfl,hb0⟩
   ·have d5 : (k == 5) = false:=beq_eq_false_iff_ne.2 e5
    rw [if_neg (by rintro (q | q | q) <;> contradiction)] at hR
    subst hR
    go_enter Tryd.func47,Tryd.ntmps47
    go_wp2
    go_ret
    exact ⟨rfl,hb0⟩
end Go.Proofs.YtpcbhneaaibfiaaDoor
