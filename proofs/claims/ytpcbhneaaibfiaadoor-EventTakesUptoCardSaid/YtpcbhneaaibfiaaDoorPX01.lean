/- Laid together. -/
import Derived.Test.YtpcbhneaaibfiaaDoorPB40
import Derived.Test.YtpcbhneaaibfiaaDoorPB27
import Derived.Test.YtpcbhneaaibfiaaDoorPB04
import Derived.Lib.Hide
set_option linter.unusedVariables false
set_option linter.unusedSimpArgs false
set_option maxHeartbeats 16000000
set_option maxRecDepth 100000
namespace Go.Proofs.YtpcbhneaaibfiaaDoor
open Go.RowKit
structure BI (s : Bst) (l : List Ev) : Prop where
 inv : s.inv
 cln : s.cln
 tr : SameL (trace s) l
theorem BI.zero : BI Bst.zero []:=⟨inv_zero,⟨fun i hi => absurd hi (Nat.not_lt_zero _),fun q => by cases q⟩,.nil⟩
theorem BI.dn {s : Bst} {l : List Ev} (h : BI s l) (hd : s.dn = true) : SameL l (evs s.out):=by
 have:=h.tr
 unfold trace at this
 rw [if_pos hd] at this
 exact this.symm
theorem Live.shrink {B0 bb : Nat} {A : Nat -> Prop} {W : World} {s : Bst} (h : Live B0 bb A W s) : Live B0 bb (fun b => A b /\ b < W.heap.size) W s:=by
 obtain ⟨h1,O,ov,us,X,h⟩:=h
 refine ⟨h1,O,ov,us,X,{ h with
  hA:=fun b hb => ⟨h.hA b hb,(h.O_lt hb).2⟩
  rows:=fun i hi => Fr.row_weak (h.rows i hi) (fun b hlt _ hb => ⟨⟨hb.1,hlt⟩,hb.2⟩)
  off:=(h.off.and h.inn.off).mono (fun b hb => ⟨⟨hb.1.1,hb.2⟩,hb.1.2⟩) }⟩
theorem pequal_any {p q : Pth} {top : Nat} {w : World} (hp : p.In w top) (hq : q.In w top) (ht : top <= w.heap.size) :
 Calls Tryd.prog 55 #[.slice p.a p.n p.c,.slice q.a q.n q.c] w fun e w' => e = .returned (.bool (eqS p.steps q.steps)) /\ Below w.heap.size w w':=by
 have hpn:=hp.2.1.1
 have hqn:=hq.2.1.1
 have i0 : (0 : Int) <= p.n:=by omega
 have i1 : (p.n : Int) <= 1048576:=by omega
 have i2 : (q.n : Int) <= 1048576:=by omega
 have i3 : (0 : Int) <= q.n:=by omega
 by_cases hn : p.n = q.n
 ·obtain ⟨R,hR⟩ : ∃ R,eqS p.steps q.steps = R:=⟨_,rfl⟩
  have HP:=Lib.hid (fun (w1 : World) (hb : Below w.heap.size w w1) => Pth.In.below hp (hb.mono ht))
  have HQ:=Lib.hid (fun (w1 : World) (hb : Below w.heap.size w w1) => Pth.In.below hq (hb.mono ht))
  have Hyes : Hid ((∀ i,i < p.n -> p.S i = q.S i) -> R = true):=Lib.hid fun h => by rw [<- hR];exact eqS_yes (steps_eq hn h)
  have Hno : Hid (∀ i,i < p.n -> p.S i ≠ q.S i -> R = false):=Lib.hid fun i hi h => by rw [<- hR];exact eqS_no (steps_ne hi (by omega) h)
  rw [hR]
  clear hR hp hq
  obtain ⟨a,n,c,b,o,S⟩:=p
  obtain ⟨a',n',c',b',o',S'⟩:=q
  dsimp only at hn hpn hqn HP HQ Hyes Hno i0 i1 i2 i3 ⊢
  subst hn
  go_enter Tryd.func55,Tryd.ntmps55
  go_wp2_with fail
  go_loopw [13] (fun i wr => ∃ k : Nat,k <= n /\ i = .int .i64 k /\ Hid (∀ j,j < k -> S j = S' j) /\ Below w.heap.size w wr) (fun i _ => n - (intOf i).toNat)
  case atStart => exact ⟨0,by omega,rfl,Lib.hid (fun j hj => absurd hj (Nat.not_lt_zero _)),Below.refl _ _⟩
  case round =>
   obtain ⟨k,hk,rfl,hall,hbr⟩:=hrel
   have hki : (0 : Int) <= k:=by omega
   by_cases hkn : k < n
   ·have hki2 : (k : Int) < n:=by omega
    have h1:=HP.out wr hbr
    have h2:=HQ.out wr hbr
    obtain ⟨e1,-⟩:=h1.1 (show 0 < n by omega)
    obtain ⟨e2,-⟩:=h2.1 (show 0 < n by omega)
    dsimp only at e1 e2
    subst e1 e2
    obtain ⟨l0,l1,l2⟩:=(h1.2.2 k hkn).1.s3
    obtain ⟨m0,m1,m2⟩:=(h2.2.2 k hkn).1.s3
    dsimp only at l0 l1 l2 m0 m1 m2
    clear h1 h2
    by_cases heq : S k = S' k
    ·have hbo:=fun W => stp_same (S' k) W
     rw [heq] at l0 l1 l2
     have Heq:=Lib.hid heq
     simp only [Stp.cells] at hbo
     clear heq
     go_wp2_with fail
     go_quiet (fail)
     go_wp2
     go_roundw
     case rel => exact ⟨k + 1,by omega,by go_num,Lib.hid (fun j hj => by by_cases e : j = k;{ rw [e];exact Heq.out };{ exact hall.out j (by omega) }),below_drewN' hbr _⟩
     case measure => simp [intOf];omega
    ·have hbo:=fun W => stp_diff heq W
     have hf:=Hno.out k hkn heq
     subst hf
     simp only [Stp.cells] at hbo
     clear heq
     go_wp2_with fail
     go_quiet (fail)
     go_wp2
     go_ret
     exact ⟨rfl,below_drewN' hbr _⟩
   ·obtain rfl : k = n:=by omega
    have hf:=Hyes.out hall.out
    subst hf
    go_wp2
    go_ret
    exact ⟨rfl,hbr⟩
 ·have hf : eqS p.steps q.steps = false:=eqS_no fun e => hn (by rw [<- p.steps_len,e,q.steps_len])
  have t1 : ((p.n : Int) != (q.n : Int)) = true:=bne_iff_ne.2 (by omega)
  have t2 : (p.n != q.n) = true:=bne_iff_ne.2 hn
  rw [hf]
  clear hn hp hq hf
  go_enter Tryd.func55,Tryd.ntmps55
  go_wp2
  go_ret
  exact ⟨rfl,Below.refl _ _⟩
theorem pvalid_any {p : Pth} {top : Nat} {w : World} (hp : p.In w top) (ht : top <= w.heap.size) :
 Calls Tryd.prog 54 #[.slice p.a p.n p.c] w fun r w' => r = .returned (.bool (pathB p.S p.n)) /\ Below w.heap.size w w':=by
 obtain ⟨a,n,c,b,o,S⟩:=p
 obtain ⟨ha,⟨hn,_,_⟩,hS⟩:=hp
 dsimp only at ha hn hS ⊢
 have HA : Hid (0 < n -> a = some ⟨b,o,none⟩ /\ b < w.heap.size):=Lib.hid fun q => ⟨(ha q).1,Nat.lt_of_lt_of_le (ha q).2 ht⟩
 have HS:=Lib.hid hS
 clear ha hS
 obtain ⟨R,hR⟩ : ∃ R,pathB S n = R:=⟨_,rfl⟩
 rw [hR]
 have HR:=Lib.hid hR
 clear hR
 have n0 : (0 : Int) <= n:=by omega
 have n1 : (n : Int) <= 1048576:=by omega
 by_cases h48 : 48 < n
 ·have hR : R = false:=by rw [<- HR.out];exact pathB_no fun q => by have:=q.1;omega
  subst hR
  have i48 : (48 : Int) < n:=by omega
  clear HR HS HA
  go_enter Tryd.func54,Tryd.ntmps54
  go_wp2_with fail
  go_ret
  exact ⟨rfl,Below.refl _ _⟩
 have i48 : (n : Int) <= 48:=by omega
 have HN : Hid (∀ i,i < n -> ¬ stepOk (S i) -> R = false):=Lib.hid fun i hi q => by rw [<- HR.out];exact pathB_no fun h => q (h.2 i hi)
 have HY : Hid ((∀ i,i < n -> stepOk (S i)) -> R = true):=Lib.hid fun q => by rw [<- HR.out];exact pathB_yes ⟨by omega,q⟩
 clear HR
 go_enter Tryd.func54,Tryd.ntmps54
 go_wp2_with fail
 go_loopw [10] (fun i wr => ∃ k : Nat,k <= n /\ i = .int .i64 k /\ Hid (∀ t,t < k -> stepOk (S t)) /\ Below w.heap.size w wr) (fun i _ => n - (intOf i).toNat)
 case atStart => exact ⟨0,by omega,rfl,Lib.hid fun t h => absurd h (Nat.not_lt_zero _),Below.refl _ _⟩
 case round =>
  obtain ⟨k,hk,rfl,HK,hbr⟩:=hrel
  have hki : (0 : Int) <= k:=by omega
  by_cases hkn : k < n
  ·obtain ⟨e1,hlt⟩:=HA.out (by omega)
   subst e1
   have hki2 : (k : Int) < n:=by omega
   obtain ⟨hl,hok⟩:=HS.out k hkn
   obtain ⟨l0,l1,l2⟩:=(hl.below hbr hlt).s3
   have hky:=hok.key
   have hn1:=hok.n.1
   have hn2:=hok.n.2
   have HU:=Lib.hid (putf_any hky)
   have HNk:=Lib.hid (HN.out k hkn)
   have HK2 : Hid (stepOk (S k) -> ∀ t,t < k + 1 -> stepOk (S t)):=Lib.hid fun h t ht => by
    by_cases q : t = k
    ·subst q;exact h
    ·exact HK.out t (by omega)
   have hba:=hbr.alloc hbr.size (.cells (S k).cells 78)
   clear hl hok HK
   have hlt2:=Nat.lt_of_lt_of_le hlt hbr.size
   generalize S k = s at *
   obtain ⟨ix,key,m⟩:=s
   dsimp only at l0 l1 l2 hky hn1 hn2 HU HNk HK2 hba
   cases ix
   all_goals simp only [Stp.cells] at hba
   ·by_cases z : m = 0
    case neg =>
     have z1 : (m == 0) = false:=beq_eq_false_iff_ne.2 z
     have z2 : (m != 0) = true:=by simpa using z
     have hR : R = false:=HNk.out fun q => by
      unfold stepOk at q
      rw [if_neg (by simp)] at q
      exact z q.1
     subst hR
     clear HNk HK2 HN HY HS
     clear HU z
     go_wp2_with fail
     go_ret
     exact ⟨rfl,hba⟩
    subst z
    by_cases z : 1024 < key.size
    ·have z1 : decide ((1024 : Int) < key.size) = true:=decide_eq_true (by omega)
     have hR : R = false:=HNk.out fun q => by
      unfold stepOk at q
      rw [if_neg (by simp)] at q
      have q1 : key.size <= 1024:=q.2.1
      omega
     subst hR
     clear HNk HK2 HN HY HS
     clear HU z
     go_wp2_with fail
     go_ret
     exact ⟨rfl,hba⟩
    have z1 : decide ((1024 : Int) < key.size) = false:=decide_eq_false (by omega)
    obtain ⟨u,hu⟩ : ∃ u,utfB key = u:=⟨_,rfl⟩
    rw [hu] at HU
    cases u
    ·have Hu:=Lib.hid hu
     clear hu z
     have hR : R = false:=HNk.out fun q => by
      unfold stepOk at q
      rw [if_neg (by simp)] at q
      exact absurd q.2.2 (by rw [Hu.out];decide)
     subst hR
     clear HNk HK2 HN HY HS
     go_wp2_with fail
     refine (HU.out _).mono ?_;rintro _ w2 ⟨rfl,rfl⟩
     go_wp2_with fail
     go_ret
     exact ⟨rfl,hba⟩
    ·have HKn : Hid (∀ t,t < k + 1 -> stepOk (S t)):=Lib.hid (HK2.out (by unfold stepOk;rw [if_neg (by simp)];exact ⟨rfl,by dsimp only;omega,hu⟩))
     clear hu z HNk HK2
     go_wp2_with fail
     refine (HU.out _).mono ?_;rintro _ w2 ⟨rfl,rfl⟩
     clear l0 l1 l2
     go_wp2_with fail
     go_roundw
     case rel => exact ⟨k + 1,by omega,by go_num,HKn,hba⟩
     case measure => simp [intOf];omega
   ·clear HU
    by_cases z : key.toList = []
    case neg =>
     have z1 : key.toList.isEmpty = false:=by simpa using z
     have hR : R = false:=HNk.out fun q => by
      unfold stepOk at q
      rw [if_pos rfl] at q
      exact z q.1
     subst hR
     clear HNk HK2 HN HY HS
     clear z
     go_wp2_with fail
     go_ret
     exact ⟨rfl,hba⟩
    have z1 : key.toList.isEmpty = true:=by simpa using z
    have HZ:=Lib.hid z
    clear z
    by_cases y : m < 0
    ·have y1 : decide (m < 0) = true:=decide_eq_true y
     have hR : R = false:=HNk.out fun q => by
      unfold stepOk at q
      rw [if_pos rfl] at q
      have q1 : 0 <= m:=q.2.1
      omega
     subst hR
     clear HNk HK2 HN HY HS
     clear y
     go_wp2_with fail
     go_ret
     exact ⟨rfl,hba⟩
    have y1 : decide (m < 0) = false:=decide_eq_false y
    by_cases x : 65536 < m
    ·have x1 : decide (65536 < m) = true:=decide_eq_true x
     have hR : R = false:=HNk.out fun q => by
      unfold stepOk at q
      rw [if_pos rfl] at q
      have q1 : m <= 65536:=q.2.2
      omega
     subst hR
     clear HNk HK2 HN HY HS
     clear x
     go_wp2_with fail
     go_ret
     exact ⟨rfl,hba⟩
    have x1 : decide (65536 < m) = false:=decide_eq_false x
    have HKn : Hid (∀ t,t < k + 1 -> stepOk (S t)):=Lib.hid (HK2.out (by unfold stepOk;rw [if_pos rfl];exact ⟨HZ.out,by dsimp only;omega,by dsimp only;omega⟩))
    clear HNk HK2
    go_wp2_with fail
    go_roundw
    case rel => exact ⟨k + 1,by omega,by go_num,HKn,hba⟩
    case measure => simp [intOf];omega
  ·obtain rfl : k = n:=by omega
   have hR : R = true:=HY.out HK.out
   subst hR
   clear HY HN HK HS hkn
   go_wp2
   go_ret
   exact ⟨rfl,hbr⟩
end Go.Proofs.YtpcbhneaaibfiaaDoor
