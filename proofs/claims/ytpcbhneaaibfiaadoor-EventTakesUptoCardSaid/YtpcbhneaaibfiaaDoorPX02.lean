/- Laid together. -/
import Derived.Test.YtpcbhneaaibfiaaDoorPB44
import Derived.Test.YtpcbhneaaibfiaaDoorPX01
import Derived.Test.YtpcbhneaaibfiaaDoorPB25
import Derived.Test.YtpcbhneaaibfiaaDoorPB08
import Derived.Test.YtpcbhneaaibfiaaDoorPB31
set_option linter.unusedVariables false
set_option linter.unusedSimpArgs false
set_option maxHeartbeats 16000000
set_option maxRecDepth 100000
namespace Go.Proofs.YtpcbhneaaibfiaaDoor
open Go.RowKit
theorem ev_upto {s : Bst} {x : Ev} (ha : addE s x = 0) (hw : x.V.whole) : x.V.upto 65536:=by
 have hsh:=shapeE_ok (addE_ok ha).2.1
 by_cases k : x.k = 1
 ·have h:=hsh.2.2.2.1 k
  exact (sca_of hw h.1 h.2.1 h.2.2).upto (by decide)
 ·have h:=hsh.2.2.1 k
  have hne : x.V ≠ .nil:=fun e => by rw [e] at hw;exact hw
  have hs:=(plain_same hne).1 h
  cases hx : x.V with
  | nil => trivial
  | mk g Y L K F =>
   rw [hx] at hs
   have e1:=hs.flat.ln
   have e2:=hs.flat.fn
   replace e1 : g.ln = 0:=e1
   replace e2 : g.fn = 0:=e2
   exact ⟨by decide,fun i hi => by omega,fun i hi => by omega⟩
theorem path_bad {W : World} {top : Nat} {p : Evs} {q : Pth} (hp : p.In W top) (hv : valE p = 0) (hb : pathB q.S q.n = false) : ∀ m,m < p.n -> (p.S m).k = 6 ∨ atE p m ≠ q.steps:=fun m hm => by
 refine .inr fun e => ?_
 obtain ⟨h1,h2⟩:=at_valid hp hv hm
 rw [e] at h1 h2
 rw [q.steps_len] at h1
 rw [pathB_yes ⟨h1,fun i hi => h2 _ (by simp only [Pth.steps,List.mem_map,List.mem_range];exact ⟨i,hi,rfl⟩)⟩] at hb
 cases hb
theorem setN_evc (k : Int) (key : ByteArray) (g h : Vh) : setN (evc k key g) 2 h.cells.toList = evc k key h:=by simp [setN,evc,Vh.cells]
theorem seg_succ {p : Evs} {i m : Nat} (h : i + m < p.n) : (p.list.drop i).take (m + 1) = (p.list.drop i).take m ++ [p.S (i + m)]:=by
 rw [<- List.take_append_getElem (by rw [List.length_drop,Evs.list_len];omega),List.getElem_drop,Evs.list_get h]
theorem seg_len {p : Evs} {i m : Nat} (h : i + m <= p.n) : ((p.list.drop i).take m).length = m:=by
 rw [List.length_take,List.length_drop,Evs.list_len];omega
theorem seg_all {p : Evs} {i j : Nat} : (p.list.drop i).take (j + 1 - i) = (p.list.take (j + 1)).drop i:=by rw [List.drop_take]
def FSt (p : Evs) (P : List Stp) (j : Nat) (f : Int) : Prop:=(f = -1 /\ ∀ m,m < j -> (p.S m).k = 6 ∨ atE p m ≠ P) ∨ (∃ i : Nat,f = i /\ i < j /\ FI p P i /\ ∀ k,i <= k -> k < j -> ¬ EndAt p P k)
def FSt2 (p : Evs) (P : List Stp) (j : Nat) (f : Int) : Prop:=(f = -1 /\ ∀ m,m < j + 1 -> (p.S m).k = 6 ∨ atE p m ≠ P) ∨ (∃ i : Nat,f = i /\ i <= j /\ FI p P i /\ ∀ k,i <= k -> k < j -> ¬ EndAt p P k)
theorem take_any {p : Evs} {q : Pth} {top : Nat} {w : World} (hp : p.In w top) (hq : q.In w top) (ht : top <= w.heap.size) (hl : p.n <= 1000000) : Calls Tryd.prog 34 #[.slice p.a p.n p.c,.slice q.a q.n q.c] w (TkOut p q.steps w):=by
 have hn1:=hp.2.1.1
 have hcap:=hp.2.1.2.1
 have hnj : ((p.n : Nat) : Int) <= 1048576:=by omega
 have hni : (0 : Int) <= ((p.n : Nat) : Int):=by omega
 obtain ⟨i0,hi0,hz0,hz1,hz2⟩:=info_parts Tryd.infoEvt
 have HCk:=Lib.hid (evcheck_any hp ht)
 have HVa:=Lib.hid (fun (w1 : World) (hb : Below w.heap.size w w1) => pvalid_any (p:=q) (top:=w1.heap.size) (w:=w1) ((Pth.In.below hq (hb.mono ht)).up (Nat.le_trans ht hb.size)) (Nat.le_refl _))
 have HBadP:=Lib.hid (fun (hv : valE p = 0) (hb : pathB q.S q.n = false) => path_bad hp hv hb)
 have HNew:=Lib.hid (fun (w1 : World) (hb : Below w.heap.size w w1) => live_new (B0:=w.heap.size) (W:=w1) hb.size)
 have HPe:=Lib.hid (fun (r : Pth) (w1 : World) (hb : Below w.heap.size w w1) (hr : r.In w1 w1.heap.size) => pequal_any (p:=q) (q:=r) (top:=w1.heap.size) (w:=w1) ((Pth.In.below hq (hb.mono ht)).up (Nat.le_trans ht hb.size)) hr (Nat.le_refl _))
 have HLa:=Lib.hid hp.1
 have HLi:=Lib.hid (fun (j : Nat) (hj : j < p.n) (w1 : World) (hb : Below w.heap.size w w1) => ((hp.2.2 j hj).1.below (hb.mono ht) (hp.1 (by omega)).2))
 have HTe:=Lib.hid (fun (i : Nat) (hv : valE p = 0) (h : FI p q.steps i) => take_end hp hv h)
 have HBl : Hid (∀ (j : Nat),j < p.n -> valE p = 0 -> ∀ (bb : Nat) (A : Nat -> Prop) (w1 : World),Below w.heap.size w w1 -> Live w.heap.size bb A w1 (runN p j).1 -> Calls Tryd.prog 39 #[.pointer (some ⟨bb,0,none⟩),.agg (p.S j).cells] w1 fun e w2 => ∃ r : Pth,e = .returned (.tuple #[.slice r.a r.n r.c,.int .i64 0]) /\ r.In w2 w2.heap.size /\ r.steps = atE p j /\ LiveOut w.heap.size bb A w1 (runN p (j + 1)).1 w2) :=
  Lib.hid fun j hj hv bb A w1 hb hL => (live_bel (x:=p.S j) hL (hp.2.2 j hj).2.1 ((Vt.In.below (hb.mono ht) (hp.2.2 j hj).2.2).up ht) hb.size).mono fun e w2 hr => by
   obtain ⟨r,h1,h2,h3,-,h5⟩:=hr
   obtain ⟨ha,hs⟩:=run_step hv hj
   rw [ha] at h1 h3
   rw [if_pos rfl] at h3
   rw [addS_ok ha,<- hs] at h5
   exact ⟨r,h1,h2,h3,h5⟩
 have HCo : Hid (∀ (j : Nat),j < p.n -> valE p = 0 -> ∀ (w1 : World),Below w.heap.size w w1 -> Calls Tryd.prog 49 #[.agg (p.S j).V.h.cells] w1 (CopyOut (p.S j).V w1)) :=
  Lib.hid fun j hj hv w1 hb => copy_any (T:=(p.S j).V) (top:=w1.heap.size) (w:=w1) ((Vt.In.below (hb.mono ht) (hp.2.2 j hj).2.2).up (Nat.le_trans ht hb.size)) (Nat.le_refl _) (ev_upto (run_step hv hj).1 (hp.2.2 j hj).2.2.whole)
 have HXk:=Lib.hid (fun (j : Nat) (hj : j < p.n) => (hp.2.2 j hj).2.1)
 have HDp:=Lib.hid (fun (bb : Nat) (A : Nat -> Prop) (s : Bst) (w1 : World) (hL : Live w.heap.size bb A w1 s) => live_depth hL)
 have HNil:=Lib.hid (fun (E : Int) (w1 : World) (h : TkIs p q.steps E []) (hb : Below w.heap.size w w1) => tk_nil h hb)
 have HSo : Hid (∀ (r : Evs) (w1 : World),r.In w1 w1.heap.size -> TkIs p q.steps 0 r.list -> Below w.heap.size w w1 -> TkOut p q.steps w (.returned (.tuple #[.slice r.a r.n r.c,.int .i64 0])) w1):=Lib.hid fun r w1 h1 h2 h3 => ⟨r,0,rfl,h1,h2,h3⟩
 have HLL:=Lib.hid hl
 clear hp hq ht hl
 unfold CopyOut at HCo
 generalize TkOut p q.steps w = Z at *
 go_enter Tryd.func34,Tryd.ntmps34
 go_wp2_with fail
 refine HCk.out.mono ?_;rintro _ w1 ⟨rfl,g1⟩
 clear HCk
 by_cases hv : valE p = 0
 rotate_left
 ·have dE : (valE p != 0) = true:=bne_iff_ne.2 hv
  have HF:=Lib.hid (HNil.out _ _ (.bad hv) g1)
  clear hv HVa HBadP HNew HPe HLa HLi HTe HBl HCo HXk HDp HNil HSo g1
  generalize valE p = E at *
  go_wp2
  (first | exact HF.out | (go_ret2;exact HF.out))
 rw [hv]
 have HV:=Lib.hid hv
 clear hv
 go_wp2_with fail
 refine (HVa.out w1 g1).mono ?_;rintro _ w2 ⟨rfl,hb2⟩
 have g2:=below_then g1 hb2
 clear g1 hb2 HVa
 obtain ⟨vb,hvb⟩ : ∃ vb,pathB q.S q.n = vb:=⟨_,rfl⟩
 rw [hvb]
 cases vb
 ·have HF:=Lib.hid (HNil.out _ _ (.none HV.out (HBadP.out HV.out hvb)) g2)
  clear hvb HBadP HNew HPe HLa HLi HTe HBl HCo HXk HDp HNil HSo g2 HV
  go_wp2
  (first | exact HF.out | (go_ret2;exact HF.out))
 clear hvb HBadP
 go_wp2_with fail
 refine (HNew.out w2 g2).mono ?_;rintro _ w3 ⟨bb,rfl,hL,hb3⟩
 have g3:=below_then g2 hb3
 have HL0:=Lib.hid hL.shrink
 have hg2:=g2.size
 have HA0 : Hid (∀ b,(w2.heap.size <= b /\ b < w3.heap.size) -> w.heap.size <= b /\ b < w3.heap.size):=Lib.hid fun b hb => by omega
 clear HNew g2 hb3 hL hg2
 go_wp2_with fail
 go_loopw [8,28] (fun f i wr => ∃ (j : Nat) (A : Nat -> Prop) (fr : Int),j <= p.n /\ i = .int .i64 j /\ f = .int .i64 fr /\ Hid (FSt p q.steps j fr) /\ Hid (Live w.heap.size bb A wr (runN p j).1) /\ Hid (∀ b,A b -> w.heap.size <= b /\ b < wr.heap.size) /\ Below w.heap.size w wr) (fun _ i _ => p.n - (intOf i).toNat)
 case atStart => exact ⟨0,_,-1,by omega,rfl,rfl,Lib.hid (.inl ⟨rfl,fun m hm => absurd hm (Nat.not_lt_zero _)⟩),HL0,HA0,g3⟩
 case round =>
  clear g3 HL0 HA0
  obtain ⟨j,A,fr,hj,rfl,rfl,HFS,HLv,HA,g1⟩:=hrel
  have hji : (0 : Int) <= j:=by omega
  by_cases hjn : j < p.n
  rotate_left
  ·obtain rfl : j = p.n:=by omega
   have hno : ∀ m,m < p.n -> (p.S m).k = 6 ∨ atE p m ≠ q.steps:=by
    rcases HFS.out with ⟨-,h⟩ | ⟨i,-,h1,h2,h3⟩
    ·exact h
    ·obtain ⟨j,T,t1,t2,t3,-⟩:=HTe.out i HV.out h2
     exact absurd t3 (h3 j t1 t2)
   have HF:=Lib.hid (HNil.out _ _ (.none HV.out hno) g1)
   clear hno HFS HLv HA HPe HLa HLi HTe HBl HCo HXk HDp HNil HSo g1 HV
   go_wp2
   (first | exact HF.out | (go_ret2;exact HF.out))
  have hjl : (j : Int) < p.n:=by omega
  have L1:=HLi.out j hjn wr g1
  have HBj:=Lib.hid (HBl.out j hjn HV.out)
  simp only [Ev.cells,evc] at HBj L1
  obtain ⟨x0,x1,x2,x3,x4,x5,x6,x7,x8,x9,x10,x11,x12,x13,x14⟩:=LiesAt.e15 L1
  clear L1
  obtain ⟨ea,-⟩:=HLa.out (by omega)
  rw [ea]
  have HEa:=Lib.hid ea
  clear ea
  obtain ⟨ek,hek⟩ : ∃ ek,(p.S j).k = ek:=⟨_,rfl⟩
  rw [hek] at HBj x0
  have HEK:=Lib.hid hek
  clear hek
  obtain ⟨ey,hey⟩ : ∃ ey,(p.S j).key = ey:=⟨_,rfl⟩
  rw [hey] at HBj x1
  clear hey
  obtain ⟨G,hG⟩ : ∃ G,(p.S j).V.h = G:=⟨_,rfl⟩
  rw [hG] at HBj x2 x3 x4 x5 x6 x7 x8 x9 x10 x11 x12 x13 x14
  clear hG
  have q2:=(Below.refl wr.heap.size wr).alloc (Nat.le_refl _) (.cells #[.int .i64 ek,.string ey,.int .i64 G.k,.bool G.b,.bool G.n,.string G.d,.int .i64 G.e,.int .i64 G.tk,.int .i64 G.td,.int .i64 G.tn,.int .i64 G.tz,.string G.x,.slice G.ba G.bn G.bc,.slice G.la G.ln G.lc,.slice G.fa G.fn G.fc] 57)
  have A2:=Whole.new wr 57 #[.int .i64 ek,.string ey,.int .i64 G.k,.bool G.b,.bool G.n,.string G.d,.int .i64 G.e,.int .i64 G.tk,.int .i64 G.td,.int .i64 G.tn,.int .i64 G.tz,.string G.x,.slice G.ba G.bn G.bc,.slice G.la G.ln G.lc,.slice G.fa G.fn G.fc]
  have g2:=below_then g1 q2
  have HL2:=Lib.hid (HLv.out.later q2)
  have hz2' : (wr.alloc (.cells #[.int .i64 ek,.string ey,.int .i64 G.k,.bool G.b,.bool G.n,.string G.d,.int .i64 G.e,.int .i64 G.tk,.int .i64 G.td,.int .i64 G.tn,.int .i64 G.tz,.string G.x,.slice G.ba G.bn G.bc,.slice G.la G.ln G.lc,.slice G.fa G.fn G.fc] 57)).heap.size = wr.heap.size + 1:=World.size_alloc _ _
  go_upto_region 11 with (fail)
  generalize wr.alloc (.cells #[.int .i64 ek,.string ey,.int .i64 G.k,.bool G.b,.bool G.n,.string G.d,.int .i64 G.e,.int .i64 G.tk,.int .i64 G.td,.int .i64 G.tn,.int .i64 G.tz,.string G.x,.slice G.ba G.bn G.bc,.slice G.la G.ln G.lc,.slice G.fa G.fn G.fc] 57) = w2 at *
  clear x0 x1 x2 x3 x4 x5 x6 x7 x8 x9 x10 x11 x12 x13 x14 g1 q2 HLv
  obtain ⟨D0,hD0⟩ : ∃ D,(runN p j).1.d = D:=⟨_,rfl⟩
  obtain ⟨D1,hD1⟩ : ∃ D,(runN p (j + 1)).1.d = D:=⟨_,rfl⟩
  have HD1:=Lib.hid (fun (A : Nat -> Prop) (w1 : World) (hL : Live w.heap.size bb A w1 (runN p (j + 1)).1) => HDp.out bb A _ w1 hL)
  have HD0:=Lib.hid (HDp.out bb A _ w2 HL2.out)
  rw [hD0] at HD0
  rw [hD1] at HD1
  have HDD:=Lib.hid (And.intro hD0 hD1)
  clear hD0 hD1
  go_wp2_with fail
  refine HD0.out.mono ?_;rintro _ w3 ⟨rfl,hb3⟩
  have g3:=below_then g2 hb3
  have hs3:=hb3.size
  have A3:=Whole.below A2 hb3 (Whole.lt A2)
  have HB3:=Lib.hid (HBj.out bb A w3 g3 (HL2.out.later hb3))
  clear HD0 g2 hb3 A2 HL2 HBj
  obtain ⟨x0,x1,x2,x3,x4,x5,x6,x7,x8,x9,x10,x11,x12,x13,x14⟩:=Whole.e15 (k:=ek) (key:=ey) (g:=G) A3
  go_wp2_with fail
  refine HB3.out.mono ?_;rintro _ w4 ⟨r,rfl,hr,hrs,A',hL4,hA4,hk4⟩
  have hs4:=hk4.size
  have g4 : Below w.heap.size w w4:=g3.trans (hk4.below g3.size (fun b hb q => by have:=(HA.out b q).1;omega))
  have A4 : Whole w4 wr.heap.size 57 #[.int .i64 ek,.string ey,.int .i64 G.k,.bool G.b,.bool G.n,.string G.d,.int .i64 G.e,.int .i64 G.tk,.int .i64 G.td,.int .i64 G.tn,.int .i64 G.tz,.string G.x,.slice G.ba G.bn G.bc,.slice G.la G.ln G.lc,.slice G.fa G.fn G.fc]:=(hk4.block _ (by omega) (fun q => by have:=(HA.out _ q).2;omega)).trans A3
  have HL4:=Lib.hid hL4.shrink
  have hgs:=g3.size
  have HA4 : Hid (∀ b,(A' b /\ b < w4.heap.size) -> w.heap.size <= b /\ b < w4.heap.size):=Lib.hid fun b hb => by
   rcases hA4 b hb.1 with q | q
   ·have:=HA.out b q;omega
   ·omega
  have HR4:=Lib.hid hr
  have HE4 : Hid (∀ (w5 : World),Below w4.heap.size w4 w5 -> Calls Tryd.prog 55 #[.slice q.a q.n q.c,.slice r.a r.n r.c] w5 fun e w' => e = .returned (.bool (eqS q.steps (atE p j))) /\ Below w5.heap.size w5 w'):=Lib.hid fun w5 hb => by
   have h:=HPe.out r w5 (below_then g4 hb) ((hr.below hb).up hb.size)
   rw [hrs] at h
   exact h
  clear HB3 A3 x0 x1 x2 x3 x4 x5 x6 x7 x8 x9 x10 x11 x12 x13 x14 hr hrs hL4 hA4 hk4 g3 HA hgs HPe HR4
  obtain ⟨x0,-⟩:=Whole.e15 (k:=ek) (key:=ey) (g:=G) A4
  clear A4
  obtain ⟨b,hb⟩ : ∃ b,eqS q.steps (atE p j) = b:=⟨_,rfl⟩
  rw [hb] at HE4
  have HB:=Lib.hid hb
  clear hb
  have HEQ : Hid (b = true -> atE p j = q.steps):=Lib.hid fun q => (eqS_iff.1 (HB.out.trans q)).symm
  have HNE : Hid (b = false -> atE p j ≠ q.steps):=Lib.hid fun q e => by
   have:=HB.out
   rw [eqS_yes e.symm,q] at this
   cases this
  go_upto_region 13 with (fail)
  go_cut [52] (fun s wx => ∃ c : Bool,s = .bool c /\ Hid (c = true -> fr = -1 /\ ek ≠ 6 /\ b = true) /\ Hid (c = false -> fr = -1 -> ek = 6 ∨ b = false) /\ Below w4.heap.size w4 wx)
  case first =>
   have h4:=Below.refl w4.heap.size w4
   clear HTe HBl HCo HXk HDp HNil HSo HEQ HNE HD1 HDD HL4 HA4 g4 HLi
   rcases HFS.out with ⟨hfr,-⟩ | ⟨i,hfr,-,-,-⟩
   ·subst hfr
    clear HFS
    by_cases k6 : ek = 6
    ·have d6 : (ek != 6) = false:=by rw [k6];rfl
     have HC:=Lib.hid k6
     clear k6 HE4
     go_wp2_with fail
     go_meet
     exact ⟨false,rfl,Lib.hid (fun q => by cases q),Lib.hid (fun _ _ => Or.inl HC.out),h4⟩
    ·have d6 : (ek != 6) = true:=bne_iff_ne.2 k6
     have HC:=Lib.hid k6
     clear k6
     go_wp2_with fail
     refine (HE4.out w4 h4).mono ?_;rintro _ w5 ⟨rfl,hb5⟩
     clear HE4 h4
     go_wp2_with fail
     go_meet
     exact ⟨b,rfl,Lib.hid (fun q => ⟨by first | trivial | rfl,HC.out,q⟩),Lib.hid (fun q _ => Or.inr q),hb5⟩
   ·subst hfr
    clear HFS HE4
    have hfi : (0 : Int) <= (i : Int):=by omega
    have hfn : ¬ (i : Int) < 0:=by omega
    go_wp2_with fail
    go_meet
    exact ⟨false,rfl,Lib.hid (fun q => by cases q),Lib.hid (fun _ q => by omega),h4⟩
  case rest =>
   obtain ⟨c,rfl,hc1,hc2,h5⟩:=hcut
   generalize wc = w5 at *
   have g5:=below_then g4 h5
   have HFT : Hid (c = true -> FI p q.steps j):=Lib.hid fun z => by
    obtain ⟨e1,e2,e3⟩:=hc1.out z
    refine ⟨hjn,fun e => e2 (HEK.out.symm.trans e),HEQ.out e3,?_⟩
    rcases HFS.out with ⟨-,h⟩ | ⟨i,h,-⟩
    ·exact h
    ·omega
   have HF2 : Hid (c = false -> FSt2 p q.steps j fr):=Lib.hid fun z => by
    rcases HFS.out with ⟨e,h⟩ | ⟨i,e,h1,h2,h3⟩
    ·refine .inl ⟨e,fun m hm => ?_⟩
     by_cases y : m = j
     ·subst y
      rcases hc2.out z e with k6 | hb
      ·exact .inl (HEK.out.trans k6)
      ·exact .inr (HNE.out hb)
     ·exact h m (by omega)
    ·exact .inr ⟨i,e,by omega,h2,h3⟩
   have hs5:=h5.size
   clear hc1 hc2 HFS HNE x0 g4 HEK
   go_upto_if 52 with (fail)
   go_cut [8] (fun f wx => ∃ fr2 : Int,f = .int .i64 fr2 /\ Hid (FSt2 p q.steps j fr2) /\ Below w5.heap.size w5 wx)
   case first =>
    have h6:=Below.refl w5.heap.size w5
    clear HTe HBl HCo HXk HDp HNil HSo HEQ HD1 HDD HL4 HA4 g5 h5 HLi HE4
    cases c
    ·have HH : Hid (FSt2 p q.steps j fr):=Lib.hid (HF2.out (by first | trivial | rfl))
     clear HF2 HFT
     go_wp2_with fail
     go_meet
     exact ⟨fr,rfl,HH,h6⟩
    ·have HH : Hid (FSt2 p q.steps j (j : Int)):=Lib.hid (.inr ⟨j,rfl,Nat.le_refl _,HFT.out (by first | trivial | rfl),fun k k1 k2 => by omega⟩)
     clear HF2 HFT
     go_wp2_with fail
     go_meet
     exact ⟨j,rfl,HH,h6⟩
   case rest =>
    obtain ⟨fr2,rfl,HFS,h6'⟩:=hcut
    generalize wc = w6' at *
    have g6':=below_then g5 h6'
    have hs6':=h6'.size
    have h5':=below_then h5 h6'
    clear h6' g5 h5 HFT HF2
    rcases HFS.out with ⟨hfr,hN⟩ | ⟨i,hfr,hij,hFI,hnE⟩
    ·subst hfr
     have HFn : Hid (FSt p q.steps (j + 1) (-1)):=Lib.hid (.inl ⟨rfl,hN⟩)
     clear hN HFS HTe HBl HCo HXk HDp HNil HSo HE4 HEQ HD1 HDD
     go_wp2_with fail
     try rw [<- HEa.out]
     go_roundw
     case rel => exact ⟨j + 1,_,-1,by omega,by go_num,rfl,HFn,Lib.hid (HL4.out.later h5'),Lib.hid (fun b hb => by have:=HA4.out b hb;omega),g6'⟩
     case measure => simp [intOf];omega
    ·subst hfr
     have HFI:=Lib.hid hFI
     have HnE:=Lib.hid hnE
     clear hFI hnE HFS
     have hfi : (0 : Int) <= (i : Int):=by omega
     have hfn : ¬ (i : Int) < 0:=by omega
     have g5:=g6'
     have h5:=h5'
     clear g6' h5'
     have HD5:=Lib.hid (HD1.out _ w6' (HL4.out.later h5))
     clear HD1
     go_wp2_with fail
     refine HD5.out.mono ?_;rintro _ w6 ⟨rfl,hb6⟩
     have g6:=below_then g5 hb6
     have h6:=below_then h5 hb6
     have hs6:=hb6.size
     clear hb6 g5 h5 HD5
     have HnF : Hid (¬ EndAt p q.steps j -> FSt p q.steps (j + 1) (i : Int)):=Lib.hid fun h => .inr ⟨i,by omega,by omega,HFI.out,fun k k1 k2 => by
      by_cases z : k = j
      ·subst z;exact h
      ·exact HnE.out k (by omega) (by omega)⟩
     by_cases hd : (D1 : Int) <= D0
     rotate_left
     ·have HFn:=Lib.hid (HnF.out (fun h => by
       obtain ⟨h1,h2⟩:=h
       rw [HDD.out.1,HDD.out.2] at h1
       omega))
      clear HnF HTe HBl HCo HXk HDp HNil HSo HE4 HEQ HDD HFI HnE
      go_wp2_with fail
      try rw [<- HEa.out]
      go_roundw
      case rel => exact ⟨j + 1,_,_,by omega,by go_num,rfl,HFn,Lib.hid (HL4.out.later h6),Lib.hid (fun b hb => by have:=HA4.out b hb;omega),g6⟩
      case measure => simp [intOf];omega
     go_wp2_with fail
     refine (HE4.out w6 h6).mono ?_;rintro _ w7 ⟨rfl,hb7⟩
     have g7:=below_then g6 hb7
     have h7:=below_then h6 hb7
     have hs7:=hb7.size
     clear hb7 g6 h6 HE4
     cases b
     ·have HFn:=Lib.hid (HnF.out (fun h => by have e:=HB.out;rw [eqS_yes h.2.symm] at e;cases e))
      clear HnF HTe HBl HCo HXk HDp HNil HSo HEQ HDD HFI HnE
      go_wp2_with fail
      try rw [<- HEa.out]
      go_roundw
      case rel => exact ⟨j + 1,_,_,by omega,by go_num,rfl,HFn,Lib.hid (HL4.out.later h7),Lib.hid (fun b hb => by have:=HA4.out b hb;omega),g7⟩
      case measure => simp [intOf];omega
     have HEn : Hid (EndAt p q.steps j):=Lib.hid ⟨by rw [HDD.out.1,HDD.out.2];omega,HEQ.out (by first | trivial | rfl)⟩
     have HFin:=Lib.hid (fun (L : List Ev) (hL : SameL L ((p.list.take (j + 1)).drop i)) => (TkIs.some HV.out HFI.out hij hjn HEn.out HnE.out hL : TkIs p q.steps 0 L))
     clear HnF HTe HBl HDp HNil HEQ HDD HnE HEn HL4 HA4 h7 hd
     have HRow0:=Lib.hid (RowE.nil w.heap.size (w.heap.size <= ·) w7)
     have HC2:=Lib.hid (fun (m : Nat) (hm : i + m < p.n) (w1 : World) (hb : Below w.heap.size w w1) => HCo.out (i + m) hm HV.out w1 hb)
     have HL2:=Lib.hid (fun (m : Nat) (hm : i + m < p.n) (w1 : World) (hb : Below w.heap.size w w1) => HLi.out (i + m) hm w1 hb)
     have HX2:=Lib.hid (fun (m : Nat) (hm : i + m < p.n) => HXk.out (i + m) hm)
     clear HCo HLi HXk HFI
     have c0 : ¬ p.c = i:=by omega
     have c1 : ¬ i = p.c:=by omega
     have c2 : ((i : Nat) : Int) <= (j : Int) + 1:=by omega
     have c3 : (j : Int) + 1 <= p.c:=by omega
     have c4 : (j : Int) + 1 <= p.n:=by omega
     obtain ⟨ll,hll⟩ : ∃ ll,j + 1 - i = ll:=⟨_,rfl⟩
     have HLn:=Lib.hid hll.symm
     go_wp2_with fail
     try rw [hll]
     clear hll
     go_loopw [14,73] (fun v iv wq => ∃ (m : Nat) (v0 : Value),v0 = v /\ m <= ll /\ iv = .int .i64 m /\ Hid (RowE w.heap.size (w.heap.size <= ·) wq v0 ((p.list.drop i).take m)) /\ Below w.heap.size w wq) (fun _ iv _ => ll - (intOf iv).toNat)
     case atStart => exact ⟨0,_,rfl,by omega,rfl,HRow0,g7⟩
     case round =>
      clear g7 HRow0
      obtain ⟨m,v0,rfl,hm,rfl,HR,g1⟩:=hrel
      have hmi : (0 : Int) <= m:=by omega
      by_cases hml : m < ll
      rotate_left
      ·have HF : Hid (∃ y : Evs,v0 = .slice y.a y.n y.c /\ Z (.returned (.tuple #[.slice y.a y.n y.c,.int .i64 0])) wr):=Lib.hid (by
        obtain ⟨y,hy,hyI,hyS,-,-⟩:=HR.out.evs (by have:=HLn.out;rw [seg_len (by omega)];omega)
        have e : (p.list.drop i).take m = (p.list.take (j + 1)).drop i:=by
         rw [<- seg_all]
         congr 1
         have:=HLn.out
         omega
        rw [e] at hyS
        exact ⟨y,hy,HSo.out y wr hyI (HFin.out _ hyS) g1⟩)
       obtain ⟨y,hy,hZ⟩:=HF.out
       have HZ:=Lib.hid hZ
       subst hy
       obtain rfl : m = ll:=by omega
       clear HF hZ HR HC2 HL2 HX2 HFin HSo g1
       go_wp2
       (first | exact HZ.out | (go_ret2;exact HZ.out))
      have hmn : i + m < p.n:=by have:=HLn.out;omega
      have hmj : (m : Int) < ll:=by omega
      have L1:=HL2.out m hmn wr g1
      rw [show p.o + (i + m) * 15 = p.o + i * 15 + m * 15 by omega] at L1
      have HCm:=Lib.hid (HC2.out m hmn)
      have HXm:=Lib.hid (HX2.out m hmn)
      have HSg:=Lib.hid (seg_succ (p:=p) (i:=i) (m:=m) hmn)
      have hln : ((p.list.drop i).take m).length = m:=seg_len (by omega)
      obtain ⟨x,hx⟩ : ∃ x,p.S (i + m) = x:=⟨_,rfl⟩
      rw [hx] at L1 HCm HXm HSg
      clear hx HC2 HL2 HX2 HFin HSo
      obtain ⟨nk,ny,U⟩:=x
      obtain ⟨l,hl⟩ : ∃ l,(p.list.drop i).take m = l:=⟨_,rfl⟩
      rw [hl] at HSg HR hln
      have HLe : Hid (l.length <= 1000000):=Lib.hid (by have:=HLL.out;omega)
      clear hl hln
      simp only [Ev.cells,evc,Vh.cells] at HCm L1
      obtain ⟨x0,x1,x2,x3,x4,x5,x6,x7,x8,x9,x10,x11,x12,x13,x14⟩:=LiesAt.e15 (k:=nk) (key:=ny) (g:=U.h) L1
      clear L1
      have q2:=(Below.refl wr.heap.size wr).alloc (Nat.le_refl _) (.cells #[.int .i64 nk,.string ny,.int .i64 U.h.k,.bool U.h.b,.bool U.h.n,.string U.h.d,.int .i64 U.h.e,.int .i64 U.h.tk,.int .i64 U.h.td,.int .i64 U.h.tn,.int .i64 U.h.tz,.string U.h.x,.slice U.h.ba U.h.bn U.h.bc,.slice U.h.la U.h.ln U.h.lc,.slice U.h.fa U.h.fn U.h.fc] 57)
      have A2:=Whole.new wr 57 #[.int .i64 nk,.string ny,.int .i64 U.h.k,.bool U.h.b,.bool U.h.n,.string U.h.d,.int .i64 U.h.e,.int .i64 U.h.tk,.int .i64 U.h.td,.int .i64 U.h.tn,.int .i64 U.h.tz,.string U.h.x,.slice U.h.ba U.h.bn U.h.bc,.slice U.h.la U.h.ln U.h.lc,.slice U.h.fa U.h.fn U.h.fc]
      have g2:=below_then g1 q2
      have hz3' : (wr.alloc (.cells #[.int .i64 nk,.string ny,.int .i64 U.h.k,.bool U.h.b,.bool U.h.n,.string U.h.d,.int .i64 U.h.e,.int .i64 U.h.tk,.int .i64 U.h.td,.int .i64 U.h.tn,.int .i64 U.h.tz,.string U.h.x,.slice U.h.ba U.h.bn U.h.bc,.slice U.h.la U.h.ln U.h.lc,.slice U.h.fa U.h.fn U.h.fc] 57)).heap.size = wr.heap.size + 1:=World.size_alloc _ _
      have hgw:=g1.size
      have HOw : Hid (∀ g,v0.ownBlock = some g -> g < wr.heap.size):=Lib.hid fun g hg => by
       obtain ⟨_,ho',_⟩:=HR.out
       exact (own_lt ho' hg).2
      go_upto_region 20 with (fail)
      generalize wr.alloc (.cells #[.int .i64 nk,.string ny,.int .i64 U.h.k,.bool U.h.b,.bool U.h.n,.string U.h.d,.int .i64 U.h.e,.int .i64 U.h.tk,.int .i64 U.h.td,.int .i64 U.h.tn,.int .i64 U.h.tz,.string U.h.x,.slice U.h.ba U.h.bn U.h.bc,.slice U.h.la U.h.ln U.h.lc,.slice U.h.fa U.h.fn U.h.fc] 57) = w8 at *
      clear x0 x1 x2 x3 x4 x5 x6 x7 x8 x9 x10 x11 x12 x13 x14 g1
      obtain ⟨x0,x1,x2,x3,x4,x5,x6,x7,x8,x9,x10,x11,x12,x13,x14⟩:=Whole.e15 (k:=nk) (key:=ny) (g:=U.h) A2
      go_wp2_with fail
      refine (HCm.out w8 g2).mono ?_;rintro _ w9 ⟨X,rfl,hX,hXo,hXs,hb9⟩
      have g9:=below_then g2 hb9
      have h9:=below_then q2 hb9
      have hs9:=hb9.size
      have A9 : Whole w9 wr.heap.size 57 (evc nk ny U.h):=Whole.below A2 hb9 (Whole.lt A2)
      have HTh : Hid (World.there w9 wr.heap.size 2 X.h.cells.size):=Lib.hid (whole_there A9 (by rw [vh_size];show 2 + 13 <= 15;decide))
      have hone:=Lib.hid (vh_all X.h)
      have A10:=Whole.setCells X.h.cells.toList 2 A9
      rw [setN_evc] at A10
      have K10:=kept_cells (fun b => b = wr.heap.size) wr.heap.size rfl X.h.cells.toList w9 2
      have hX10 : X.In (w9.setCells wr.heap.size 2 X.h.cells.toList) (w9.setCells wr.heap.size 2 X.h.cells.toList).heap.size:=hX.stays hXo (fun b hb => heap_setCells (by omega) _ _ _) K10.size
      obtain ⟨w10,hw10⟩ : ∃ w10,w9.setCells wr.heap.size 2 X.h.cells.toList = w10:=⟨_,rfl⟩
      rw [hw10] at A10 K10 hX10
      have HW10:=Lib.hid hw10
      have h10 : Below wr.heap.size wr w10:=h9.trans (K10.below h9.size (fun b hb q => by omega))
      have g10 : Below w.heap.size w w10:=g9.trans (K10.below g9.size (fun b hb q => by omega))
      have hs10:=K10.size
      clear hw10 A9 K10 g9 h9 A2 g2 q2 hX HCm x0 x1 x2 x3 x4 x5 x6 x7 x8 x9 x10 x11 x12 x13 x14
      obtain ⟨x0,x1,x2,x3,x4,x5,x6,x7,x8,x9,x10,x11,x12,x13,x14⟩:=Whole.e15 (k:=nk) (key:=ny) (g:=X.h) A10
      clear A10
      have q11:=(Below.refl w10.heap.size w10).alloc (Nat.le_refl _) (.cells #[.int .i64 nk,.string ny,.int .i64 X.h.k,.bool X.h.b,.bool X.h.n,.string X.h.d,.int .i64 X.h.e,.int .i64 X.h.tk,.int .i64 X.h.td,.int .i64 X.h.tn,.int .i64 X.h.tz,.string X.h.x,.slice X.h.ba X.h.bn X.h.bc,.slice X.h.la X.h.ln X.h.lc,.slice X.h.fa X.h.fn X.h.fc] 57)
      obtain ⟨f,hown,hf⟩:=(HR.out.below h10).below q11
      have Hf:=Lib.hid hf
      have HOwn:=Lib.hid hown
      have HX11:=Lib.hid (hX10.later q11)
      have HXo:=Lib.hid hXo
      have HXs:=Lib.hid hXs
      have g11:=below_then g10 q11
      have s1:=Lib.hid (cells_new w10 57 #[.int .i64 nk,.string ny,.int .i64 X.h.k,.bool X.h.b,.bool X.h.n,.string X.h.d,.int .i64 X.h.e,.int .i64 X.h.tk,.int .i64 X.h.td,.int .i64 X.h.tn,.int .i64 X.h.tz,.string X.h.x,.slice X.h.ba X.h.bn X.h.bc,.slice X.h.la X.h.ln X.h.lc,.slice X.h.fa X.h.fn X.h.fc])
      have s2 : Hid (∀ u ∈ (#[.int .i64 nk,.string ny,.int .i64 X.h.k,.bool X.h.b,.bool X.h.n,.string X.h.d,.int .i64 X.h.e,.int .i64 X.h.tk,.int .i64 X.h.td,.int .i64 X.h.tn,.int .i64 X.h.tz,.string X.h.x,.slice X.h.ba X.h.bn X.h.bc,.slice X.h.la X.h.ln X.h.lc,.slice X.h.fa X.h.fn X.h.fc] : Array Value).toList,u.oneCell' = true):=Lib.hid (by simp [Value.oneCell'])
      have s3 : Hid (l.length + 1 <= maxLen):=Lib.hid (by have:=HLe.out;unfold maxLen;omega)
      have s4 : Hid ((l.length + 1) * 192 <= 140737488355328):=Lib.hid (by have:=HLe.out;omega)
      have s5 : Hid (w.heap.size <= (w10.alloc (.cells #[.int .i64 nk,.string ny,.int .i64 X.h.k,.bool X.h.b,.bool X.h.n,.string X.h.d,.int .i64 X.h.e,.int .i64 X.h.tk,.int .i64 X.h.td,.int .i64 X.h.tn,.int .i64 X.h.tz,.string X.h.x,.slice X.h.ba X.h.bn X.h.bc,.slice X.h.la X.h.ln X.h.lc,.slice X.h.fa X.h.fn X.h.fc] 57)).heap.size):=Lib.hid (by rw [World.size_alloc];have:=g10.size;omega)
      simp only [Vh.cells] at HTh hone HW10
      clear hf hX10 hXo hXs q11 HR h10 g10 hb9
      go_wp2_with (first | (refine wpList_store_mid rfl 30 _ _ rfl wr.heap.size 2 #[.int .i64 X.h.k,.bool X.h.b,.bool X.h.n,.string X.h.d,.int .i64 X.h.e,.int .i64 X.h.tk,.int .i64 X.h.td,.int .i64 X.h.tn,.int .i64 X.h.tz,.string X.h.x,.slice X.h.ba X.h.bn X.h.bc,.slice X.h.la X.h.ln X.h.lc,.slice X.h.fa X.h.fn X.h.fc] rfl rfl HTh.out vh_row hone.out ?_;rw [HW10.out]) | (at_builtin;refine wpList_append_told _ rfl _ _ 34 rfl w.heap.size 57 i0 _ 15 192 Tryd.underlying34 hi0 hz0 hz1 hz2 rfl (by decide) _ _ _ rfl hown ⟨w10.heap.size,0,none⟩ 1 1 (#[.int .i64 nk,.string ny,.int .i64 X.h.k,.bool X.h.b,.bool X.h.n,.string X.h.d,.int .i64 X.h.e,.int .i64 X.h.tk,.int .i64 X.h.td,.int .i64 X.h.tn,.int .i64 X.h.tz,.string X.h.x,.slice X.h.ba X.h.bn X.h.bc,.slice X.h.la X.h.ln X.h.lc,.slice X.h.fa X.h.fn X.h.fc] : Array Value).toList rfl rfl (by simpa using s1.out) s2.out s3.out s4.out s5.out Nat.one_pos ?_))
      clear s1 s2 s3 s4 s5 hown HTh hone HW10 x0 x1 x2 x3 x4 x5 x6 x7 x8 x9 x10 x11 x12 x13 x14
      intro v2 w11 ho2 hg2 hv2
      have HR11 : Hid (RowE w.heap.size (w.heap.size <= ·) w11 v2 (l ++ [⟨nk,ny,U⟩])):=Lib.hid (RowE.push (x:=⟨nk,ny,X⟩) (y:=⟨nk,ny,U⟩) HOwn.out Hf.out HX11.out (HXo.out.mono fun b hb => by omega) (fun g hg => HXo.out.mono fun b hb => by have:=HOw.out g hg;omega) ⟨rfl,rfl,HXs.out⟩ ⟨HXm.out.k,HXm.out.key⟩ ho2 hg2 (by rw [World.size_alloc];exact hv2))
      have g12:=g11.grown hg2 g11.size (fun g hg => (own_lt HOwn.out hg).1)
      rw [<- HSg.out] at HR11
      clear ho2 hg2 hv2 HOwn Hf HX11 HXo HXs g11 HOw HXm HSg HLe
      go_wp2_with fail
      go_roundw
      case rel => exact ⟨m + 1,v2,rfl,by omega,by go_num,HR11,g12⟩
      case measure => simp [intOf];omega
noncomputable def sameL (a b : List Ev) : Bool:=@decide (SameL a b) (Classical.propDecidable _)
theorem sameL_iff {a b : List Ev} : sameL a b = true ↔ SameL a b:=@decide_eq_true_iff _ (Classical.propDecidable _)
theorem sameL_no {a b : List Ev} : sameL a b = false ↔ ¬ SameL a b:=@decide_eq_false_iff_not _ (Classical.propDecidable _)
theorem list_get {p : Evs} {i : Nat} (h : i < p.n) : p.list[i]? = some (p.S i):=by
 rw [List.getElem?_eq_getElem (by rw [Evs.list_len];exact h),Evs.list_get h]
theorem sameL_at {p q : Evs} (h : SameL p.list q.list) {i : Nat} (hi : i < p.n) (hj : i < q.n) : (p.S i).Same (q.S i):=h.get (list_get hi) (list_get hj)
theorem sameL_all {p q : Evs} (hn : p.n = q.n) (h : ∀ i,i < p.n -> (p.S i).Same (q.S i)) : SameL p.list q.list :=
 SameL.of_get (by rw [Evs.list_len,Evs.list_len,hn]) fun i x y h1 h2 => by
  have hi : i < p.n:=by rw [<- Evs.list_len];exact (List.getElem?_eq_some_iff.1 h1).1
  rw [list_get hi] at h1
  rw [list_get (by rw [<- hn];exact hi)] at h2
  cases h1;cases h2
  exact h i hi
theorem rsame_any {p q : Evs} {top : Nat} {w : World} (hp : p.In w top) (hq : q.In w top) (ht : top <= w.heap.size) : Calls Tryd.prog 12 #[.slice p.a p.n p.c,.slice q.a q.n q.c] w fun e w' => e = .returned (.bool (sameL p.list q.list)) /\ Below w.heap.size w w':=by
 obtain ⟨R,hR⟩ : ∃ R,sameL p.list q.list = R:=⟨_,rfl⟩
 rw [hR]
 have hn1:=hp.2.1.1
 have hm1:=hq.2.1.1
 by_cases hn' : p.n ≠ q.n
 ·have hn:=hn'
  have hR0 : R = false:=by rw [<- hR];exact sameL_no.2 fun z => hn (by rw [<- Evs.list_len,<- Evs.list_len,z.length])
  subst hR0
  have hne : ((p.n : Nat) : Int) ≠ (q.n : Int):=by omega
  have hne2 : (((p.n : Nat) : Int) != (q.n : Int)) = true:=bne_iff_ne.2 hne
  clear hp hq hR hn hn'
  go_enter Tryd.func12,Tryd.ntmps12
  go_wp2
  go_ret
  exact ⟨rfl,Below.refl _ _⟩
 have hn:=Classical.not_not.1 hn'
 have HP:=Lib.hid hp
 have HQ:=Lib.hid hq
 have HT:=Lib.hid ht
 have HNo:=Lib.hid (fun (j : Nat) (hj : j < p.n) (h : ¬ (p.S j).Same (q.S j)) => (show R = false from by rw [<- hR];exact sameL_no.2 fun z => h (sameL_at z hj (by omega))))
 have HYes:=Lib.hid (fun (h : ∀ j,j < p.n -> (p.S j).Same (q.S j)) => (show R = true from by rw [<- hR];exact sameL_iff.2 (sameL_all hn h)))
 have HNN:=Lib.hid hn
 clear hp hq hR hn'
 obtain ⟨qn,hqn⟩ : ∃ m,q.n = m:=⟨_,rfl⟩
 obtain ⟨pn,hpn⟩ : ∃ m,p.n = m:=⟨_,rfl⟩
 have hpq : qn = pn:=by omega
 rw [hqn,hpn]
 rw [hpn] at hn1 HNo HYes
 have HPN:=Lib.hid hpn
 have HQN : Hid (q.n = pn):=Lib.hid (by omega)
 subst hpq
 clear hpn hqn hn hm1
 have i1 : (0 : Int) <= (qn : Int):=by omega
 have i2 : (qn : Int) <= 1048576:=by omega
 go_enter Tryd.func12,Tryd.ntmps12
 go_wp2_with fail
 go_loopw [5] (fun i wr => ∃ j : Nat,j <= qn /\ i = .int .i64 j /\ Hid (∀ t,t < j -> (p.S t).Same (q.S t)) /\ Below w.heap.size w wr) (fun i _ => qn - (intOf i).toNat)
 case atStart => exact ⟨0,by omega,rfl,Lib.hid fun t h => absurd h (Nat.not_lt_zero _),Below.refl _ _⟩
 case round =>
  obtain ⟨j,hj,rfl,HJ,hbr⟩:=hrel
  have hji : (0 : Int) <= j:=by omega
  by_cases hjn : j < qn
  ·have hjl : (j : Int) < qn:=by omega
   obtain ⟨ea,elt⟩:=HP.out.1 (by rw [HPN.out];omega)
   obtain ⟨fa,flt⟩:=HQ.out.1 (by rw [HQN.out];omega)
   obtain ⟨a1,a2,a3⟩:=HP.out.2.2 j (by rw [HPN.out];omega)
   obtain ⟨b1,b2,b3⟩:=HQ.out.2.2 j (by rw [HQN.out];omega)
   have hl:=(a1.below (hbr.mono HT.out) elt).e15
   have hm:=(b1.below (hbr.mono HT.out) flt).e15
   obtain ⟨l0,l1,l2,l3,l4,l5,l6,l7,l8,l9,l10,l11,l12,l13,l14⟩:=hl
   obtain ⟨m0,m1,m2,m3,m4,m5,m6,m7,m8,m9,m10,m11,m12,m13,m14⟩:=hm
   have HC:=Lib.hid (same_any (p.S j).V (q.S j).V top wr.drew (Vt.In.below (hbr.drew.mono HT.out) a3) (Vt.In.below (hbr.drew.mono HT.out) b3) (Nat.le_trans HT.out hbr.size))
   rw [ea,fa]
   have HN:=Lib.hid (HNo.out j hjn)
   clear a1 a2 a3 b1 b2 b3 elt flt ea fa
   obtain ⟨x,hx⟩ : ∃ x,p.S j = x:=⟨_,rfl⟩
   obtain ⟨y,hy⟩ : ∃ y,q.S j = y:=⟨_,rfl⟩
   rw [hx] at l0 l1 l2 l3 l4 l5 l6 l7 l8 l9 l10 l11 l12 l13 l14 HC HN
   rw [hy] at m0 m1 m2 m3 m4 m5 m6 m7 m8 m9 m10 m11 m12 m13 m14 HC HN
   have Hx:=Lib.hid hx
   have Hy:=Lib.hid hy
   clear hx hy
   obtain ⟨k,key,V⟩:=x
   obtain ⟨k',key',V'⟩:=y
   dsimp only at l0 l1 l2 l3 l4 l5 l6 l7 l8 l9 l10 l11 l12 l13 l14 m0 m1 m2 m3 m4 m5 m6 m7 m8 m9 m10 m11 m12 m13 m14 HC
   by_cases hk' : k ≠ k'
   ·have hk:=hk'
    have d0 : (k != k') = true:=bne_iff_ne.2 hk
    have hR : R = false:=HN.out fun z => hk z.k
    subst hR
    clear HC HN hk hk'
    go_wp2_with fail
    go_quiet (fail)
    clear l0 l1 l2 l3 l4 l5 l6 l7 l8 l9 l10 l11 l12 l13 l14 m0 m1 m2 m3 m4 m5 m6 m7 m8 m9 m10 m11 m12 m13 m14
    go_wp2
    go_ret
    exact ⟨rfl,below_drewN hbr _⟩
   have hk:=Classical.not_not.1 hk'
   clear hk'
   by_cases hK' : key ≠ key'
   ·have hK:=hK'
    have d1 : (key.toList == key'.toList) = false:=beq_eq_false_iff_ne.2 fun z => hK (ba_eq z)
    have hR : R = false:=HN.out fun z => hK z.key
    subst hR
    subst hk
    clear HC HN hK hK'
    go_wp2_with fail
    go_quiet (fail)
    clear l0 l1 l2 l3 l4 l5 l6 l7 l8 l9 l10 l11 l12 l13 l14 m0 m1 m2 m3 m4 m5 m6 m7 m8 m9 m10 m11 m12 m13 m14
    go_wp2
    go_ret
    exact ⟨rfl,below_drewN hbr _⟩
   subst hk
   have hK:=Classical.not_not.1 hK'
   clear hK'
   have d1 : (key.toList == key'.toList) = true:=by rw [hK];exact beq_self_eq_true _
   have HKK:=Lib.hid hK
   clear hK
   obtain ⟨c,hc⟩ : ∃ c,sameB V V' = c:=⟨_,rfl⟩
   rw [hc] at HC
   have HCc:=Lib.hid hc
   clear hc
   have HS3 : Hid (c = false -> R = false):=Lib.hid fun z => HN.out fun u => sameB_no.1 (HCc.out.trans z) u.V
   have HS4 : Hid (c = true -> ∀ t,t < j + 1 -> (p.S t).Same (q.S t)):=Lib.hid fun z t ht => by
    by_cases e : t = j
    ·subst e;rw [Hx.out,Hy.out];exact ⟨rfl,HKK.out,sameB_iff.1 (HCc.out.trans z)⟩
    ·exact HJ.out t (by omega)
   clear HN HCc HKK Hx Hy
   generalize V.h = G at *
   generalize V'.h = G' at *
   simp only [Vh.cells] at HC
   go_wp2_with fail
   go_still_tail 35,(by kernel_rfl)
   change wpList _ _ _ _ _ wr.drew
   have hb2:=hbr.drew
   clear l0 l1 l2 l3 l4 l5 l6 l7 l8 l9 l10 l11 l12 l13 l14 m0 m1 m2 m3 m4 m5 m6 m7 m8 m9 m10 m11 m12 m13 m14 hbr
   generalize wr.drew = w2 at *
   cases c
   ·have hR : R = false:=HS3.out rfl
    subst hR
    go_wp2_with fail
    refine HC.out.mono ?_;rintro _ w3 ⟨rfl,hb3⟩
    have g3:=below_then hb2 hb3
    clear HC hb2 hb3
    go_wp2
    go_ret
    exact ⟨rfl,g3⟩
   ·have HJ2:=Lib.hid (HS4.out rfl)
    go_wp2_with fail
    refine HC.out.mono ?_;rintro _ w3 ⟨rfl,hb3⟩
    have g3:=below_then hb2 hb3
    clear HC hb2 hb3
    go_wp2
    go_roundw
    case rel => exact ⟨j + 1,by omega,by go_num,HJ2,g3⟩
    case measure => simp [intOf];omega
  ·obtain rfl : j = qn:=by omega
   have hR : R = true:=HYes.out HJ.out
   subst hR
   clear hjn
   go_wp2
   go_ret
   exact ⟨rfl,hbr⟩
end Go.Proofs.YtpcbhneaaibfiaaDoor
