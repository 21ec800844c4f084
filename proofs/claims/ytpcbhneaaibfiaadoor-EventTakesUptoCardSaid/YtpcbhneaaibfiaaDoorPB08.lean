/- Laid together. -/
import Derived.Test.YtpcbhneaaibfiaaDoorPB07
import Derived.Deep.AppendLies
import Derived.Deep.RegionHeld3
import Derived.Deep.Cut
import Derived.OwnWalk
set_option linter.unusedVariables false
set_option linter.unusedSimpArgs false
set_option maxHeartbeats 16000000
set_option maxRecDepth 100000
namespace Go.Proofs.YtpcbhneaaibfiaaDoor
open Go.RowKit
def CopyOut (T : Vt) (w : World) (e : Ending) (w' : World) : Prop:=∃ X : Vt,e = .returned (.agg #[.int .i64 X.h.k,.bool X.h.b,.bool X.h.n,.string X.h.d,.int .i64 X.h.e,.int .i64 X.h.tk,.int .i64 X.h.td,.int .i64 X.h.tn,.int .i64 X.h.tz,.string X.h.x,.slice X.h.ba X.h.bn X.h.bc,.slice X.h.la X.h.ln X.h.lc,.slice X.h.fa X.h.fn X.h.fc]) /\ X.In w' w'.heap.size /\ X.Off (w.heap.size <= ·) /\ X.Same T /\ Below w.heap.size w w'
def CopyIs (T : Vt) : Prop:=∀ (d : Int) (left top : Nat) (w : World),d = left -> T.In w top -> top <= w.heap.size -> T.upto left -> left <= 65536 -> Calls Tryd.prog 64 #[.agg T.h.cells,.int .i64 d] w (CopyOut T w)
theorem lies_fcs {W : World} {b o : Nat} {y : ByteArray} {T : Vt} (h : W.cell? ⟨b,o,none⟩ = some (.string y)) (hl : LiesAt W b (o + 1) T.h.cells) : LiesAt W b o (fcs (y,T)):=by
 intro j hj
 have hj' : j < 14:=hj
 match j,hj' with
 | 0,_ => exact h
 | m + 1,hm =>
  have:=hl m (by have z : T.h.cells.size = 13:=rfl;omega)
  rw [show o + (m + 1) = o + 1 + m by omega,this]
  match m,hm with
  | 0,_ | 1,_ | 2,_ | 3,_ | 4,_ | 5,_ | 6,_ | 7,_ | 8,_ | 9,_ | 10,_ | 11,_ | 12,_ => rfl
def F14 (W : World) (b o : Nat) (y : ByteArray) (h : Vh) : Prop :=
 W.cell? ⟨b,o,none⟩ = some (.string y) /\ W.cell? ⟨b,o + 1,none⟩ = some (.int .i64 h.k) /\ W.cell? ⟨b,o + 2,none⟩ = some (.bool h.b) /\ W.cell? ⟨b,o + 3,none⟩ = some (.bool h.n) /\ W.cell? ⟨b,o + 4,none⟩ = some (.string h.d) /\ W.cell? ⟨b,o + 5,none⟩ = some (.int .i64 h.e) /\
  W.cell? ⟨b,o + 6,none⟩ = some (.int .i64 h.tk) /\ W.cell? ⟨b,o + 7,none⟩ = some (.int .i64 h.td) /\ W.cell? ⟨b,o + 8,none⟩ = some (.int .i64 h.tn) /\ W.cell? ⟨b,o + 9,none⟩ = some (.int .i64 h.tz) /\ W.cell? ⟨b,o + 10,none⟩ = some (.string h.x) /\
  W.cell? ⟨b,o + 11,none⟩ = some (.slice h.ba h.bn h.bc) /\ W.cell? ⟨b,o + 12,none⟩ = some (.slice h.la h.ln h.lc) /\ W.cell? ⟨b,o + 13,none⟩ = some (.slice h.fa h.fn h.fc)
theorem lies_c14 {W : World} {b o : Nat} {y : ByteArray} {T : Vt} (H : LiesAt W b o (fcs (y,T))) : F14 W b o y T.h :=
 have z : (fcs (y,T)).size = 14:=rfl
 ⟨H 0 (by omega),H 1 (by omega),H 2 (by omega),H 3 (by omega),H 4 (by omega),H 5 (by omega),H 6 (by omega),H 7 (by omega),H 8 (by omega),H 9 (by omega),H 10 (by omega),H 11 (by omega),H 12 (by omega),H 13 (by omega)⟩
def fch (y : ByteArray) (h : Vh) : Array Value:=#[.string y,.int .i64 h.k,.bool h.b,.bool h.n,.string h.d,.int .i64 h.e,.int .i64 h.tk,.int .i64 h.td,.int .i64 h.tn,.int .i64 h.tz,.string h.x,.slice h.ba h.bn h.bc,.slice h.la h.ln h.lc,.slice h.fa h.fn h.fc]
theorem fb_of {w W : World} {B : Nat} {y : ByteArray} {h : Vh} (P : Whole W B 76 (fch y h)) (hb : Below w.heap.size w W) : W.cell? ⟨B,0,none⟩ = some (.string y) /\ W.cell? ⟨B,1,none⟩ = some (.int .i64 h.k) /\ W.cell? ⟨B,2,none⟩ = some (.bool h.b) /\ W.cell? ⟨B,3,none⟩ = some (.bool h.n) /\ W.cell? ⟨B,4,none⟩ = some (.string h.d) /\ W.cell? ⟨B,5,none⟩ = some (.int .i64 h.e) /\ W.cell? ⟨B,6,none⟩ = some (.int .i64 h.tk) /\ W.cell? ⟨B,7,none⟩ = some (.int .i64 h.td) /\ W.cell? ⟨B,8,none⟩ = some (.int .i64 h.tn) /\ W.cell? ⟨B,9,none⟩ = some (.int .i64 h.tz) /\ W.cell? ⟨B,10,none⟩ = some (.string h.x) /\ W.cell? ⟨B,11,none⟩ = some (.slice h.ba h.bn h.bc) /\ W.cell? ⟨B,12,none⟩ = some (.slice h.la h.ln h.lc) /\ W.cell? ⟨B,13,none⟩ = some (.slice h.fa h.fn h.fc) /\ Below w.heap.size w W :=
 ⟨P.cell 0,P.cell 1,P.cell 2,P.cell 3,P.cell 4,P.cell 5,P.cell 6,P.cell 7,P.cell 8,P.cell 9,P.cell 10,P.cell 11,P.cell 12,P.cell 13,hb⟩
theorem vh_row : (Tryd.prog.info? 30).map (·.size) = some 13:=by kernel_rfl
theorem Whole.setRow {W : World} {B : Nat} {t : TypeId} {cs : Array Value} (h : Whole W B t cs) (cs' : Array Value) : Whole (W.setRow B cs') B t cs':=setRow_heap W B cs cs' t (0,0) h
theorem Whole.farRow {W : World} {B B' : Nat} {t : TypeId} {cs : Array Value} (h : Whole W B t cs) (hne : B ≠ B') (cs' : Array Value) : Whole (W.setRow B' cs') B t cs:=(setRow_other W B' B cs' hne).trans h
theorem RowG.turnAll {α : Type} {cs : α -> Array Value} {tr : α -> Vt} {C : Nat} {e : TypeId} {B n0 : Nat} {S : Nat -> Prop} {q : Nat -> α -> Prop} {W W' : World} {v : Value} {k : Nat} (h : RowG cs tr C e B S q W v k)
 (hs : ∀ b,n0 <= b -> b < W.heap.size -> W'.heap[b]? = W.heap[b]?) (hz : W.heap.size <= W'.heap.size) (hB : n0 <= B) (hS : ∀ b,S b -> n0 <= b) : RowG cs tr C e B S q W' v k:=by
 obtain ⟨f,ho,hf⟩:=h
 refine ⟨f,⟨ho.1,?_⟩,fun i hi => ⟨Vt.In.turn (S:=S) (fun b hb hlt => ⟨hs b (hS b hb) hlt,by omega⟩) (hf i hi).1 ((hf i hi).2.1.mono fun _ h => h.1),(hf i hi).2⟩⟩
 rcases ho.2 with h0 | ⟨g,cap,cur,h1,h2,h3,h4⟩
 ·exact .inl h0
 ·exact .inr ⟨g,cap,cur,h1,h2,by rw [hs g (by omega) (Array.getElem?_eq_some_iff.1 h3).1];exact h3,h4⟩
theorem copy_end {W w : World} {top : Nat} {h : Vh} {Y : Nat -> Int} {L : Nat -> Vt} {K : Nat -> ByteArray} {F : Nat -> Vt} {V : World} {Bl Bf : Nat} (hT : (Vt.mk h Y L K F).In V top)
 {a' : Option Addr} {c' b' : Nat} (ha : 0 < h.bn -> a' = some ⟨b',0,none⟩ /\ w.heap.size + 1 < b' /\ b' < W.heap.size) (hY : ∀ i,i < h.bn -> W.cell? ⟨b',i,none⟩ = some (.int .u8 (Y i)))
 {vl vf : Value} (hl : RowG (fun x : Vt => x.h.cells) id 13 30 Bl (w.heap.size + 1 < ·) (fun i X => X.Same (L i)) W vl h.ln)
 (hf : RowG fcs Prod.snd 14 76 Bf (w.heap.size + 1 < ·) (fun i x => x.1 = K i /\ x.2.Same (F i)) W vf h.fn) (hBl : w.heap.size <= Bl) (hBf : w.heap.size <= Bf) :
 ∃ X : Vt,Value.agg #[.int .i64 h.k,.bool h.b,.bool h.n,.string h.d,.int .i64 h.e,.int .i64 h.tk,.int .i64 h.td,.int .i64 h.tn,.int .i64 h.tz,.string h.x,.slice a' h.bn c',vl,vf] = .agg X.h.cells /\ X.In W W.heap.size /\ X.Off (w.heap.size <= ·) /\ X.Same (.mk h Y L K F):=by
 obtain ⟨fl,al,cl,bl,rfl,hcl,hal,hfl⟩:=hl.done (fun x : Vt => vh_size x.h)
 obtain ⟨ff,af,cf,bf,rfl,hcf,haf,hff⟩:=hf.done fcs_size
 obtain ⟨h0,_,h2,_,_,_,h6⟩:=hT
 refine ⟨.mk ⟨h.k,h.b,h.n,h.d,h.e,h.tk,h.td,h.tn,h.tz,h.x,a',h.bn,c',al,h.ln,cl,af,h.fn,cf,b',0,bl,0,bf,0⟩ Y fl (fun i => (ff i).1) (fun i => (ff i).2),rfl,?_,?_,?_⟩
 ·refine ⟨⟨h0.k,h0.e,h0.tk,h0.td,h0.tn,h0.tz,h0.d,h0.x,h0.bn,h0.ln,h0.fn,hcl,hcf⟩,fun q => ⟨(ha q).1,(ha q).2.2⟩,fun i hi => ⟨by rw [Nat.zero_add];exact hY i hi,(h2 i hi).2⟩,fun q => ⟨(hal q).1,(hal q).2.2⟩,fun i hi => ⟨by rw [Nat.zero_add];exact (hfl i hi).1,(hfl i hi).2.1⟩,
   fun q => ⟨(haf q).1,(haf q).2.2⟩,fun i hi => ?_⟩
  obtain ⟨g1,g2,_,g3,_⟩:=hff i hi
  obtain ⟨k1,k2⟩:=g1.fcs
  simp only [Nat.zero_add]
  exact ⟨k1,by rw [g3];exact (h6 i hi).2.1,k2,g2⟩
 ·have hm : ∀ b,w.heap.size + 1 < b -> w.heap.size <= b:=fun b hb => by omega
  exact ⟨fun q => hm _ (ha q).2.1,fun q => Nat.le_trans hBl (hal q).2.1,fun i hi => (hfl i hi).2.2.1.mono hm,fun q => Nat.le_trans hBf (haf q).2.1,fun i hi => (hff i hi).2.2.1.mono hm⟩
 ·exact ⟨(fun e => by cases e),⟨rfl,rfl,rfl,rfl,rfl,rfl,rfl,rfl,rfl,rfl,rfl,rfl,rfl⟩,fun _ _ => rfl,fun i hi => (hfl i hi).2.2.2,fun i hi => (hff i hi).2.2.2⟩
theorem copied_any : ∀ T : Vt,CopyIs T:=by
 intro T
 induction T with
 | nil => exact fun _ _ _ _ _ h => h.elim
 | mk h Y L K F ihL ihF =>
 intro d left top w hd hT ht hu hle
 have hb0:=((Below.refl w.heap.size w).alloc (Nat.le_refl _) (.cells h.cells 30)).alloc (by simp) (.cells Vh.zero.cells 30)
 have P:=(Whole.new w 30 h.cells).alloc (.cells Vh.zero.cells 30)
 have Q:=Whole.new (w.alloc (.cells h.cells 30)) 30 Vh.zero.cells
 rw [World.size_alloc] at Q
 obtain ⟨i0,hi,hz0,hz1,hz2⟩:=info_parts Tryd.infoVal
 obtain ⟨j0,hj,hw0,hw1,hw2⟩:=info_parts Tryd.infoFld
 have hd1 : 1 <= d:=by have:=hu.1;omega
 have hd2 : d <= 65536:=by omega
 have HT:=Lib.hid hT
 have HU:=Lib.hid hu
 have HL:=Lib.hid ihL
 have HF:=Lib.hid ihF
 have hbn:=hT.1.bn
 have hln:=hT.1.ln
 have hfn:=hT.1.fn
 have HCl:=Lib.hid (fun (w1 : World) (hb : Below w.heap.size w w1) => clone_any (a:=h.ba) (n:=h.bn) (c:=h.bc) (b:=h.bb) (o:=h.bo) (Y:=Y) hbn w1 (fun q => ⟨(hT.2.1 q).1,Nat.lt_of_lt_of_le (Nat.lt_of_lt_of_le (hT.2.1 q).2 ht) hb.size⟩)
  (fun i hi => (hb.cell (p:=⟨h.bb,h.bo + i,none⟩) (Nat.lt_of_lt_of_le (hT.2.1 (by omega)).2 ht)).trans (hT.2.2.1 i hi).1))
 have HLa : Hid (0 < h.ln -> h.la = some ⟨h.lb,h.lo,none⟩ /\ h.lb < w.heap.size):=Lib.hid fun hp => ⟨(hT.2.2.2.1 hp).1,Nat.lt_of_lt_of_le (hT.2.2.2.1 hp).2 ht⟩
 have HFa : Hid (0 < h.fn -> h.fa = some ⟨h.fb,h.fo,none⟩ /\ h.fb < w.heap.size):=Lib.hid fun hp => ⟨(hT.2.2.2.2.2.1 hp).1,Nat.lt_of_lt_of_le (hT.2.2.2.2.2.1 hp).2 ht⟩
 have HE:=Lib.hid (fun (W : World) (Bl Bf : Nat) (a' : Option Addr) (c' b' : Nat) (vl vf : Value) => copy_end (W:=W) (w:=w) (Bl:=Bl) (Bf:=Bf) (a':=a') (c':=c') (b':=b') (vl:=vl) (vf:=vf) hT)
 clear hT hu ihL ihF
 obtain ⟨k,b,n,dd,e,tk,td,tn,tz,x,ba,bn,bc,la,ln,lc,fa,fn,fc,bb,bo,lb,lo,fb,fo⟩:=h
 dsimp only at HCl HLa HFa hbn hln hfn
 simp only [Vt.h,Vh.cells,Vh.zero] at hb0 P Q ⊢
 have n0 : (0 : Int) <= ln:=by omega
 have n1 : (ln : Int) <= 1048576:=by omega
 have n2 : (0 : Int) <= fn:=by omega
 have n3 : (fn : Int) <= 1048576:=by omega
 have HD:=Lib.hid hd
 clear hd
 go_enter Tryd.func64,Tryd.ntmps64
 go_wp2_with fail
 refine (HCl.out _ hb0).mono ?_;rintro _ w1 ⟨a',c',b',rfl,ha',hY',hb1⟩
 have P1:=P.below hb1 P.lt
 have Q1:=Q.below hb1 Q.lt
 have g1:=below_then hb0 hb1
 have c11:=P1.cell 11
 have c10:=P1.cell 10
 have f10:=P1.frozen 10
 have P2:=P1.set 10 (.slice a' bn c')
 have Q2:=Q1.far (p:=⟨w.heap.size,10,none⟩) (by simp) (.slice a' bn c')
 have g2:=g1.setCell (p:=⟨w.heap.size,10,none⟩) (Nat.le_refl _) (.slice a' bn c')
 have hY2 : Hid (∀ i,i < bn -> (w1.setCell ⟨w.heap.size,10,none⟩ (.slice a' bn c')).cell? ⟨b',i,none⟩ = some (.int .u8 (Y i))):=Lib.hid fun i hi => by
  have:=(ha' (by omega)).2.1
  simp at this
  exact (World.cell?_of_block (a:=⟨b',i,none⟩) (Below.heap_setCell _ _ _ _ (by simp;omega))).trans (hY' i hi)
 have ha2 : Hid (0 < bn -> a' = some ⟨b',0,none⟩ /\ w.heap.size + 1 < b' /\ b' < (w1.setCell ⟨w.heap.size,10,none⟩ (.slice a' bn c')).heap.size):=Lib.hid fun q => by
  obtain ⟨e1,e2,e3⟩:=ha' q
  exact ⟨e1,by simp at e2;omega,by simpa using e3⟩
 simp only [List.getElem?_toArray,List.getElem?_cons_succ,List.getElem?_cons_zero] at c10 c11
 simp only [List.setIfInBounds_toArray,List.set_cons_succ,List.set_cons_zero] at P2
 have w1s : w.heap.size + 1 < w1.heap.size:=Q1.lt
 clear P Q P1 Q1 hb0 hb1 g1 hY' ha' HCl
 go_wp2_with fail
 generalize w1.setCell ⟨w.heap.size,10,none⟩ (.slice a' bn c') = ws at *
 have hws : w.heap.size + 1 < ws.heap.size:=Whole.lt Q2
 have hns : ws.heap.size <= ws.heap.size:=Nat.le_refl _
 clear c10 c11 f10 w1s
 go_loopw [5,23] (fun v i wr => ∃ (k : Nat) (v0 : Value),v0 = v /\ k <= ln /\ i = .int .i64 k /\ RowG (fun x : Vt => x.h.cells) id 13 30 ws.heap.size (w.heap.size + 1 < ·) (fun i X => X.Same (L i)) wr v0 k /\ Below ws.heap.size ws wr) (fun _ i _ => ln - (intOf i).toNat)
 case atStart => exact ⟨0,_,rfl,by omega,rfl,RowG.nil,Below.refl _ _⟩
 case round =>
  obtain ⟨i,v,rfl,hil,rfl,hrow,hbx⟩:=hrel
  have hii : (0 : Int) <= i:=by omega
  have hbr:=g2.trans (hbx.mono g2.size)
  have hwr:=hbx.size
  by_cases hin : i < ln
  ·obtain ⟨e1,hlt⟩:=HLa.out (by omega)
   subst e1
   have hii2 : (i : Int) < ln:=by omega
   have hl:=(HT.out.2.2.2.2.1 i hin).1.below (hbr.mono ht) (HT.out.2.2.2.1 (show 0 < ln by omega)).2
   dsimp only at hl
   obtain ⟨l0,l1,l2,l3,l4,l5,l6,l7,l8,l9,l10,l11,l12⟩:=hl.c13
   have hba:=hbr.alloc (Nat.le_trans (by omega) hbx.size) (.cells (L i).h.cells 30)
   have hrec:=HL.out i (d - 1) (left - 1) top (wr.alloc (.cells (L i).h.cells 30)) (by have:=HD.out;have:=HU.out.1;omega) (Vt.In.below (hba.mono ht) (HT.out.2.2.2.2.1 i hin).2) (Nat.le_trans ht hba.size) (HU.out.2.1 i hin) (by omega)
   have HC:=Lib.hid hrec
   clear hl hrec
   have HLi : Hid (∀ X : Vt,X.Same (L i) -> X.Same (L i)):=Lib.hid fun _ h => h
   generalize hG : (L i).h = G at *
   have HG:=Lib.hid hG
   clear hG
   go_wp2_with fail
   refine HC.out.mono ?_;rintro _ w2 ⟨X,rfl,hX,hXo,hXs,hb2⟩
   obtain ⟨f,ho,hf⟩:=((hrow.alloc (.cells G.cells 30)).below hb2).alloc (.cells X.h.cells 30)
   have hsz2:=hb2.size
   rw [World.size_alloc] at hsz2
   have hown : ∀ g,v.ownBlock = some g -> g < wr.heap.size:=fun g hg => by
    obtain ⟨_,ho',_⟩:=hrow
    exact (ho'.lt g hg).2
   have HOw:=Lib.hid hown
   have HXs : Hid (X.Same (L i)):=Lib.hid hXs
   have HXo:=Lib.hid hXo
   have HX:=Lib.hid hX
   have Hf:=Lib.hid hf
   clear l0 l1 l2 l3 l4 l5 l6 l7 l8 l9 l10 l11 l12 HC hown hXs hXo hX hf hrow HLi
   have s1:=Lib.hid (cells_new w2 30 X.h.cells)
   have s2:=Lib.hid (vh_one X.h)
   have s3 : Hid (i + 1 <= maxLen):=Lib.hid (by unfold maxLen;omega)
   have s4 : Hid ((i + 1) * 168 <= 140737488355328):=Lib.hid (by omega)
   have s5 : Hid (ws.heap.size <= (w2.alloc (.cells X.h.cells 30)).heap.size):=Lib.hid (by simp;omega)
   go_wp2_with (at_builtin;refine wpList_append_told _ rfl _ _ 27 rfl ws.heap.size 30 i0 (.agg Vh.zero.cells) 13 168 Tryd.underlying27 hi hz0 hz1 hz2 rfl (by decide) _ _ _ rfl ho ⟨w2.heap.size,0,none⟩ 1 1 X.h.cells.toList rfl rfl s1.out s2.out s3.out s4.out s5.out Nat.one_pos ?_)
   clear s1 s2 s3 s4 s5
   intro v' w3 hown3 hgrow hat
   have hb2':=hb2.alloc hb2.size (.cells X.h.cells 30)
   have hrow3 : RowG (fun x : Vt => x.h.cells) id 13 30 ws.heap.size (w.heap.size + 1 < ·) (fun i X => X.Same (L i)) w3 v' (i + 1) :=
    RowG.push (x:=X) ho Hf.out ((HX.out.later ((Below.refl _ _).alloc (Nat.le_refl _) _))) (HXo.out.mono fun b hb => by rw [World.size_alloc] at hb;omega)
     (fun g hg => HXo.out.mono fun b hb => by rw [World.size_alloc] at hb;have:=HOw.out g hg;omega) HXs.out hown3 hgrow (by rw [World.size_alloc];exact hat)
   have hb4:=((hbx.alloc hbx.size (.cells G.cells 30)).trans (hb2'.mono (by simp;omega))).grown hgrow (by simp;omega) (fun g hg => by have:=(ho.lt g hg).1;omega)
   clear ho hown3 hgrow hat Hf HX HXo HXs HOw hb2 hb2' hbx hbr
   go_wp2
   go_roundw
   case rel => exact ⟨i + 1,_,rfl,by omega,by go_num,hrow3,hb4⟩
   case measure => simp [intOf];omega
  ·obtain rfl : i = ln:=by omega
   have hrowL:=Lib.hid hrow
   have P3:=P2.below hbx (by omega)
   have Q3:=Q2.below hbx (by omega)
   have hY3 : Hid (∀ t,t < bn -> wr.cell? ⟨b',t,none⟩ = some (.int .u8 (Y t))):=Lib.hid fun t ht => (hbx.cell (p:=⟨b',t,none⟩) (ha2.out (by omega)).2.2).trans (hY2.out t ht)
   have ha3 : Hid (0 < bn -> a' = some ⟨b',0,none⟩ /\ w.heap.size + 1 < b' /\ b' < wr.heap.size):=Lib.hid fun q => by
    obtain ⟨e1,e2,e3⟩:=ha2.out q
    exact ⟨e1,e2,by omega⟩
   have hvL : Hid (∀ g,v.ownBlock = some g -> ws.heap.size <= g /\ g < wr.heap.size):=Lib.hid fun g hg => by
    obtain ⟨_,ho',_⟩:=hrow
    exact ho'.lt g hg
   have c12:=P3.cell 12
   simp only [List.getElem?_toArray,List.getElem?_cons_succ,List.getElem?_cons_zero] at c12
   clear hrow P2 Q2 hY2 ha2 hin hii n0 n1
   go_wp2_with fail
   clear c12
   have hwm : ws.heap.size <= wr.heap.size:=hwr
   obtain ⟨wm,hwmm⟩ : ∃ wm,wr = wm:=⟨_,rfl⟩
   subst hwmm
   go_loopw [8,38] (fun v i wq => ∃ (k : Nat) (v0 : Value),v0 = v /\ k <= fn /\ i = .int .i64 k /\ RowG fcs Prod.snd 14 76 wr.heap.size (w.heap.size + 1 < ·) (fun i x => x.1 = K i /\ x.2.Same (F i)) wq v0 k /\ Below wr.heap.size wr wq) (fun _ i _ => fn - (intOf i).toNat)
   case atStart => exact ⟨0,_,rfl,by omega,rfl,RowG.nil,Below.refl _ _⟩
   case round =>
    obtain ⟨j,u,rfl,hjl,rfl,hrow,hbq⟩:=hrel
    rename World => wq
    have hji : (0 : Int) <= j:=by omega
    have hbz:=hbr.trans (hbq.mono hbr.size)
    have hwq:=hbq.size
    by_cases hjn : j < fn
    ·obtain ⟨e1,hlt⟩:=HFa.out (by omega)
     subst e1
     have hji2 : (j : Int) < fn:=by omega
     obtain ⟨k0,k1,k2,k3⟩:=HT.out.2.2.2.2.2.2 j hjn
     have hfb:=(HT.out.2.2.2.2.2.1 (show 0 < fn by omega)).2
     have hl:=lies_c14 (lies_fcs (((hbz.mono ht).cell (p:=⟨fb,fo + j * 14,none⟩) hfb).trans k0) (k2.below (hbz.mono ht) hfb))
     obtain ⟨l0,l1,l2,l3,l4,l5,l6,l7,l8,l9,l10,l11,l12,l13⟩:=hl
     have hba:=hbz.alloc (Nat.le_trans (by omega) hbq.size) (.cells (fcs (K j,F j)) 76)
     have HC:=Lib.hid (fun (W : World) (hb : Below w.heap.size w W) => HF.out j (d - 1) (left - 1) top W (by have:=HD.out;have:=HU.out.1;omega) (Vt.In.below (hb.mono ht) k3) (Nat.le_trans ht hb.size) (HU.out.2.2 j hjn) (by omega))
     clear k0 k1 k2 k3 hfb
     generalize hG : (F j).h = G at *
     have HG:=Lib.hid hG
     clear hG
     generalize hy : K j = y at *
     have Hy:=Lib.hid hy
     clear hy
     go_wp2_with fail
     have PF:=Whole.new wq 76 (fch y G)
     have hrowA:=hrow.alloc (.cells (fch y G) 76)
     have hbA : Below w.heap.size w (wq.alloc (.cells (fch y G) 76)):=hbz.alloc (by omega) _
     have hbQ : Below wr.heap.size wr (wq.alloc (.cells (fch y G) 76)):=hbq.alloc hwq _
     have hszA : (wq.alloc (.cells (fch y G) 76)).heap.size = wq.heap.size + 1:=by simp
     have HOw : Hid (∀ g,u.ownBlock = some g -> g < wq.heap.size):=Lib.hid fun g hg => by
      obtain ⟨_,ho',_⟩:=hrow
      exact (ho'.lt g hg).2
     clear l0 l1 l2 l3 l4 l5 l6 l7 l8 l9 l10 l11 l12 l13 hrow hbq hba hbz
     simp only [fch] at hszA PF hrowA hbA hbQ
     obtain ⟨wa,hwa⟩ : ∃ wa,wq.alloc (.cells (fch y G) 76) = wa:=⟨_,rfl⟩
     simp only [fch] at hwa
     rw [hwa] at hszA PF hrowA hbA hbQ ⊢
     have HszA:=Lib.hid hszA
     have hwqa : wq.heap.size < wa.heap.size:=by omega
     clear hwa hszA
     have hwrap : IntKind.i64.wrap (d - 1) = d - 1:=by rw [IntKind.wrap_i64];omega
     go_region_held3 (fun W => W.cell? ⟨wq.heap.size,0,none⟩ = some (.string y) /\ W.cell? ⟨wq.heap.size,1,none⟩ = some (.int .i64 G.k) /\ W.cell? ⟨wq.heap.size,2,none⟩ = some (.bool G.b) /\ W.cell? ⟨wq.heap.size,3,none⟩ = some (.bool G.n) /\ W.cell? ⟨wq.heap.size,4,none⟩ = some (.string G.d) /\ W.cell? ⟨wq.heap.size,5,none⟩ = some (.int .i64 G.e) /\ W.cell? ⟨wq.heap.size,6,none⟩ = some (.int .i64 G.tk) /\ W.cell? ⟨wq.heap.size,7,none⟩ = some (.int .i64 G.td) /\ W.cell? ⟨wq.heap.size,8,none⟩ = some (.int .i64 G.tn) /\ W.cell? ⟨wq.heap.size,9,none⟩ = some (.int .i64 G.tz) /\ W.cell? ⟨wq.heap.size,10,none⟩ = some (.string G.x) /\ W.cell? ⟨wq.heap.size,11,none⟩ = some (.slice G.ba G.bn G.bc) /\ W.cell? ⟨wq.heap.size,12,none⟩ = some (.slice G.la G.ln G.lc) /\ W.cell? ⟨wq.heap.size,13,none⟩ = some (.slice G.fa G.fn G.fc) /\ Below w.heap.size w W) (first | exact fb_of (Whole.drew PF) (Below.drew hbA) | exact fb_of PF2 hbA2 | exact fb_of (Whole.alloc PF2 _) (Below.alloc hbA2 hbA2.size _) | exact fb_of PF3 hbA3)
      (first
       | (go_at_call 64
          refine (HC.out _ (Below.drew hbA)).mono ?_
          rintro _ w2 ⟨X,rfl,hX,hXo,hXs,hb2⟩
          have PF2 : Whole w2 wq.heap.size 76 (fch y G):=Whole.below (Whole.drew PF) hb2 hwqa
          have hbA2:=below_then (Below.drew hbA) hb2
          have hbQ2:=(Below.drew hbQ).trans (hb2.mono (by have:=HszA.out;show wr.heap.size <= wa.heap.size;omega))
          have hsz2 : wa.heap.size <= w2.heap.size:=hb2.size
          have hsz3:=HszA.out
          obtain ⟨f,ho,hf⟩:=((RowG.drew hrowA).below hb2).alloc (.cells (fch y X.h) 76)
          have Hf:=Lib.hid hf
          have s1:=Lib.hid (cells_new w2 76 (fch y X.h))
          have s2:=Lib.hid (fcs_one (y,X))
          have s3 : Hid (j + 1 <= maxLen):=Lib.hid (by unfold maxLen;omega)
          have s4 : Hid ((j + 1) * 184 <= 140737488355328):=Lib.hid (by omega)
          have s5 : Hid (wr.heap.size <= (w2.alloc (.cells (fch y X.h) 76)).heap.size):=Lib.hid (by simp;omega)
          have s6 : Hid (∀ g,u.ownBlock = some g -> wq.heap.size ≠ g):=Lib.hid fun g hg => by have:=HOw.out g hg;omega
          clear hf hsz3)
       | (refine step_append_lies _ (by rfl) _ _ _ (by rfl) wr.heap.size 76 j0 _ 14 184 Tryd.underlying28 hj hw0 hw1 hw2 rfl (by omega) u j _ (by rfl) ho ⟨w2.heap.size,0,none⟩ 1 1 (fch y X.h).toList (by rfl) (by rfl) s1.out s2.out (by omega) s3.out s4.out s5.out (w2.heap.size + 1) (by simp) ?_
          intro gg cap w3 hown3 hgrow hat hlt3
          have PF3 : Whole w3 wq.heap.size 76 (fch y G):=(Whole.alloc PF2 _).kept hgrow (fun e => s6.out _ e.symm rfl)
          have hbA3:=(hbA2.alloc hbA2.size (.cells (fch y X.h) 76)).grown hgrow (by simp;omega) (fun g hg => by have:=(ho.lt g hg).1;omega)))
     have hrow3 : RowG fcs Prod.snd 14 76 wr.heap.size (w.heap.size + 1 < ·) (fun i x => x.1 = K i /\ x.2.Same (F i)) w3 (.slice (some ⟨gg,0,none⟩) (j + 1) cap) (j + 1) :=
      RowG.push (x:=(y,X)) ho Hf.out (hX.later ((Below.refl _ _).alloc (Nat.le_refl _) _)) (hXo.mono fun b hb => by have h1:=HszA.out;have h2 : wa.heap.size <= b:=hb;omega)
       (fun g hg => hXo.mono fun b hb => by have h1:=HOw.out g hg;have h2 : wa.heap.size <= b:=hb;omega) ⟨Hy.out.symm,hXs⟩ hown3 hgrow
       (by rcases hat with h | h
           ·exact .inl h.symm
           ·exact .inr (by rw [World.size_alloc,h];rfl))
     have hbQ3:=(hbQ2.alloc (by have h1:=HszA.out;omega) (.cells (fch y X.h) 76)).grown hgrow (by simp;have h1:=HszA.out;omega) (fun g hg => (ho.lt g hg).1)
     clear PF PF2 PF3 hrowA hbA hbA2 hbA3 hbQ hbQ2 hX hXo hXs ho Hf hown3 hgrow hat hlt3 s1 s2 s3 s4 s5 s6 HszA HOw HC hwrap hwqa hb2
     go_wp2
     go_roundw
     case rel => exact ⟨j + 1,_,rfl,by omega,by go_num,hrow3,hbQ3⟩
     case measure => simp [intOf];omega
    ·obtain rfl : j = fn:=by omega
     have hrowF:=Lib.hid hrow
     have hrowL2:=Lib.hid (hrowL.out.below hbq)
     have P4:=P3.below hbq (by omega)
     have Q4:=Q3.below hbq (by omega)
     have hY4 : Hid (∀ t,t < bn -> wq.cell? ⟨b',t,none⟩ = some (.int .u8 (Y t))):=Lib.hid fun t ht => (hbq.cell (p:=⟨b',t,none⟩) (ha3.out (by omega)).2.2).trans (hY3.out t ht)
     obtain ⟨al,cl,rfl⟩ : ∃ a c,v = .slice a i c:=by
      obtain ⟨_,a,c,_,h,_⟩:=hrowL.out.done (fun x : Vt => vh_size x.h)
      exact ⟨a,c,h⟩
     obtain ⟨af,cf,rfl⟩ : ∃ a c,u = .slice a j c:=by
      obtain ⟨_,a,c,_,h,_⟩:=hrow.done fcs_size
      exact ⟨a,c,h⟩
     have f11:=P4.frozen 11
     have f12:=P4.frozen 12
     have c11:=P4.cell 11
     have c12:=P4.cell 12
     simp only [List.getElem?_toArray,List.getElem?_cons_succ,List.getElem?_cons_zero] at c11 c12
     clear hrow hjn hrowL P3 Q3 hY3
     go_upto_region 18 with (fail)
     have P6 : Whole ((wq.setCell ⟨w.heap.size,11,none⟩ (.slice al i cl)).setCell ⟨w.heap.size,12,none⟩ (.slice af j cf)) w.heap.size 30 (Vh.cells ⟨k,b,n,dd,e,tk,td,tn,tz,x,a',bn,c',al,i,cl,af,j,cf,0,0,0,0,0,0⟩):=(P4.set 11 (.slice al i cl)).set 12 (.slice af j cf)
     have Q6 : Whole ((wq.setCell ⟨w.heap.size,11,none⟩ (.slice al i cl)).setCell ⟨w.heap.size,12,none⟩ (.slice af j cf)) (w.heap.size + 1) 30 _:=(Q4.far (p:=⟨w.heap.size,11,none⟩) (by simp) (.slice al i cl)).far (p:=⟨w.heap.size,12,none⟩) (by simp) (.slice af j cf)
     have h6 : Hid (∀ t,w.heap.size + 2 <= t -> ((wq.setCell ⟨w.heap.size,11,none⟩ (.slice al i cl)).setCell ⟨w.heap.size,12,none⟩ (.slice af j cf)).heap[t]? = wq.heap[t]?):=Lib.hid fun t ht => (Below.heap_setCell _ _ _ _ (by simp;omega)).trans (Below.heap_setCell _ _ _ _ (by simp;omega))
     have hz6 : ((wq.setCell ⟨w.heap.size,11,none⟩ (.slice al i cl)).setCell ⟨w.heap.size,12,none⟩ (.slice af j cf)).heap.size = wq.heap.size:=by simp
     have hb6:=(hbz.setCell (p:=⟨w.heap.size,11,none⟩) (Nat.le_refl _) (.slice al i cl)).setCell (p:=⟨w.heap.size,12,none⟩) (Nat.le_refl _) (.slice af j cf)
     have Hz6:=Lib.hid hz6
     clear hz6 P4 Q4 f11 f12 c11 c12 hbz
     generalize (wq.setCell ⟨w.heap.size,11,none⟩ (.slice al i cl)).setCell ⟨w.heap.size,12,none⟩ (.slice af j cf) = w6 at *
     obtain ⟨c0,c1,c2,c3,c4,c5,c6,c7,c8,c9,c10,c11,c12⟩:=Whole.c13 P6
     dsimp only at c0 c1 c2 c3 c4 c5 c6 c7 c8 c9 c10 c11 c12
     have hone:=Lib.hid (show (Array.all (α:=Value) #[.int .i64 k,.bool b,.bool n,.string dd,.int .i64 e,.int .i64 tk,.int .i64 td,.int .i64 tn,.int .i64 tz,.string x,.slice a' bn c',.slice al i cl,.slice af j cf] (·.oneCell')) = true by simp [Value.oneCell'])
     go_wp2_with (refine wpList_store_row rfl 30 _ _ rfl (w.heap.size + 1) #[.int .i64 k,.bool b,.bool n,.string dd,.int .i64 e,.int .i64 tk,.int .i64 td,.int .i64 tn,.int .i64 tz,.string x,.slice a' bn c',.slice al i cl,.slice af j cf] rfl rfl 30 _ Q6 vh_row rfl hone.out ?_)
     have Q7:=Q6.setRow #[.int .i64 k,.bool b,.bool n,.string dd,.int .i64 e,.int .i64 tk,.int .i64 td,.int .i64 tn,.int .i64 tz,.string x,.slice a' bn c',.slice al i cl,.slice af j cf]
     have hb7:=below_setRow hb6 (Nat.le_succ _) #[.int .i64 k,.bool b,.bool n,.string dd,.int .i64 e,.int .i64 tk,.int .i64 td,.int .i64 tn,.int .i64 tz,.string x,.slice a' bn c',.slice al i cl,.slice af j cf]
     have h7 : ∀ t,w.heap.size + 2 <= t -> (w6.setRow (w.heap.size + 1) #[.int .i64 k,.bool b,.bool n,.string dd,.int .i64 e,.int .i64 tk,.int .i64 td,.int .i64 tn,.int .i64 tz,.string x,.slice a' bn c',.slice al i cl,.slice af j cf]).heap[t]? = wq.heap[t]?:=fun t ht => (setRow_other _ _ _ _ (by omega)).trans (h6.out t ht)
     have hz7 : (w6.setRow (w.heap.size + 1) #[.int .i64 k,.bool b,.bool n,.string dd,.int .i64 e,.int .i64 tk,.int .i64 td,.int .i64 tn,.int .i64 tz,.string x,.slice a' bn c',.slice al i cl,.slice af j cf]).heap.size = wq.heap.size:=by rw [size_setRow];exact Hz6.out
     clear c0 c1 c2 c3 c4 c5 c6 c7 c8 c9 c10 c11 c12 P6 Q6
     generalize w6.setRow (w.heap.size + 1) #[.int .i64 k,.bool b,.bool n,.string dd,.int .i64 e,.int .i64 tk,.int .i64 td,.int .i64 tn,.int .i64 tz,.string x,.slice a' bn c',.slice al i cl,.slice af j cf] = w7 at *
     have hY7 : ∀ t,t < bn -> w7.cell? ⟨b',t,none⟩ = some (.int .u8 (Y t)):=fun t ht => by
      have:=(ha3.out (by omega)).2.1
      exact (World.cell?_of_block (a:=⟨b',t,none⟩) (h7 _ (by simp;omega))).trans (hY4.out t ht)
     have ha7 : 0 < bn -> a' = some ⟨b',0,none⟩ /\ w.heap.size + 1 < b' /\ b' < w7.heap.size:=fun q => by
      obtain ⟨e1,e2,e3⟩:=ha3.out q
      exact ⟨e1,e2,by omega⟩
     obtain ⟨X,hX,h1,h2,h3⟩:=HE.out w7 ws.heap.size wr.heap.size a' c' b' _ _ ha7 hY7 (hrowL2.out.turnAll (fun b hb _ => h7 b hb) (by omega) (by omega) (fun b hb => by omega)) (hrowF.out.turnAll (fun b hb _ => h7 b hb) (by omega) (by omega) (fun b hb => by omega)) (by omega) (by omega)
     refine bodyPost_ret (v:=.agg #[.int .i64 k,.bool b,.bool n,.string dd,.int .i64 e,.int .i64 tk,.int .i64 td,.int .i64 tn,.int .i64 tz,.string x,.slice a' bn c',.slice al i cl,.slice af j cf]) (results_cell_row (p:=4) rfl _ _ (w.heap.size + 1) 30 #[.int .i64 k,.bool b,.bool n,.string dd,.int .i64 e,.int .i64 tk,.int .i64 td,.int .i64 tn,.int .i64 tz,.string x,.slice a' bn c',.slice al i cl,.slice af j cf] (0,0) _ rfl Q7 Tryd.underlying30 rfl vh_row) rfl ⟨X,congrArg Ending.returned hX,h1,h2,h3,hb7⟩
end Go.Proofs.YtpcbhneaaibfiaaDoor
namespace Go.Proofs.YtpcbhneaaibfiaaDoor
open Go.ChangeShapes Go.WideShapes Go.Joins Go.Deep Go.RowKit
theorem rowL_src {W : World} {b o n C : Nat} {f : Nat -> Array Value} (hC : ∀ i,(f i).size = C) (hl : ∀ i,i < n -> LiesAt W b (o + i * C) (f i)) : ∀ j v,(catN f n)[j]? = some v -> W.cell? ((⟨b,o,none⟩ : Addr).add j) = some v:=by
 intro j v hv
 have hj : j < n * C:=by
  have:=(List.getElem?_eq_some_iff.1 hv).1
  rwa [catN_len hC] at this
 have hC0 : 0 < C:=by
  rcases Nat.eq_zero_or_pos C with h | h
  ·rw [h,Nat.mul_zero] at hj;omega
  ·exact h
 have hi : j / C < n:=(Nat.div_lt_iff_lt_mul hC0).2 hj
 have hm:=Nat.mod_lt j hC0
 have e : j / C * C + j % C = j:=by rw [Nat.mul_comm];exact Nat.div_add_mod j C
 have h1:=catN_get (f:=f) hC hm hi
 rw [e] at h1
 have h2:=hl _ hi (j % C) (by rw [hC];exact hm)
 rw [add_plain,show o + j = o + j / C * C + j % C by omega,h2,<- h1,hv]
theorem catN_one {f : Nat -> Array Value} (h : ∀ i,∀ u ∈ (f i).toList,u.oneCell' = true) : ∀ n,∀ u ∈ catN f n,u.oneCell' = true:=by
 intro n
 induction n with
 | zero => intro u hu;simp [catN] at hu
 | succ n ih =>
  intro u hu
  rw [catN] at hu
  rcases List.mem_append.1 hu with h1 | h1
  ·exact ih u h1
  ·exact h n u h1
theorem fld_row : (Tryd.prog.info? 76).map (·.size) = some 14:=by kernel_rfl
end Go.Proofs.YtpcbhneaaibfiaaDoor
namespace Go.Proofs.YtpcbhneaaibfiaaDoor
open Go.RowKit
theorem vh_all (h : Vh) : h.cells.all (·.oneCell') = true:=by simp [Vh.cells,Value.oneCell']
theorem ret_val {fn : Func} {p : Tmp} (h : fn.results = #[.cell p 30]) {tmps : Array Value} {W : World} {B : Nat} {g : Vh} (hp : tmps.getD p undef = .pointer (some ⟨B,0,none⟩)) (H : Whole W B 30 g.cells) :
 (results fn tmps).run Tryd.prog W = .ok (.agg g.cells) W :=
 results_cell_row h tmps W B 30 g.cells (0,0) _ hp H Tryd.underlying30 rfl vh_row
theorem ret_val2 {fn : Func} {p q : Tmp} (h : fn.results = #[.cell p 30,.tmp q]) {tmps : Array Value} {W : World} {B : Nat} {g : Vh} (hp : tmps.getD p undef = .pointer (some ⟨B,0,none⟩)) (H : Whole W B 30 g.cells) :
 (results fn tmps).run Tryd.prog W = .ok (.tuple #[.agg g.cells,tmps.getD q undef]) W:=by
 have hp' : tmps[p]?.getD undef = .pointer (some ⟨B,0,none⟩):=by simpa using hp
 simp [results,h,hp',asAddr,run_loadVar_row W B 30 30 g.cells (0,0) _ H Tryd.underlying30 rfl vh_row]
theorem Vt.In.stays {W W' : World} {T : Vt} {S : Nat -> Prop} (h : T.In W W.heap.size) (ho : T.Off S) (hs : ∀ b,S b -> W'.heap[b]? = W.heap[b]?) (hz : W.heap.size <= W'.heap.size) : T.In W' W'.heap.size :=
 Vt.In.turn (S:=S) (fun b hb hlt => ⟨hs b hb,by omega⟩) h ho
theorem copy_any {T : Vt} {top : Nat} {w : World} (hT : T.In w top) (ht : top <= w.heap.size) (hu : T.upto 65536) :
 Calls Tryd.prog 49 #[.agg T.h.cells] w (CopyOut T w):=by
 have hb0:=((Below.refl w.heap.size w).alloc (Nat.le_refl _) (.cells T.h.cells 30)).alloc (by simp) (.cells Vh.zero.cells 30)
 have Q:=Whole.new (w.alloc (.cells T.h.cells 30)) 30 Vh.zero.cells
 rw [World.size_alloc] at Q
 have HC:=Lib.hid (copied_any T 65536 65536 top ((w.alloc (.cells T.h.cells 30)).alloc (.cells Vh.zero.cells 30)) rfl (Vt.In.below (hb0.mono ht) hT) (Nat.le_trans ht hb0.size) hu (Nat.le_refl _))
 clear hT hu
 simp only [Vh.cells,Vh.zero] at HC Q hb0 ⊢
 go_enter Tryd.func49,Tryd.ntmps49
 go_wp2_with fail
 refine HC.out.mono ?_;rintro _ w1 ⟨X,rfl,hX,hXo,hXs,hb1⟩
 have Q1:=Q.below hb1 Q.lt
 have g1:=below_then hb0 hb1
 have hone:=Lib.hid (vh_all X.h)
 have Hs:=Lib.hid hXs
 clear HC Q hb0 hXs
 go_wp2_with (refine wpList_store_row rfl 30 _ _ rfl (w.heap.size + 1) X.h.cells rfl rfl 30 _ Q1 vh_row rfl hone.out ?_)
 have Q2:=Q1.setRow X.h.cells
 have hsz:=Q1.lt
 simp at hXo
 refine bodyPost_ret (v:=.agg X.h.cells) (ret_val (p:=2) rfl rfl Q2) rfl ⟨X,rfl,hX.stays hXo (fun b hb => setRow_other _ _ _ _ (by omega)) (by rw [size_setRow];omega),hXo.mono fun b hb => by omega,Hs.out,below_setRow g1 (by omega) _⟩
def setN (C : Array Value) : Nat -> List Value -> Array Value
 | _,[] => C
 | o,v :: r => setN (C.setIfInBounds o v) (o + 1) r
theorem setN_size : ∀ (vs : List Value) (C : Array Value) (o : Nat),(setN C o vs).size = C.size:=by
 intro vs
 induction vs with
 | nil => intro C o;rfl
 | cons v r ih => intro C o;rw [setN,ih];simp
theorem setN_out : ∀ (vs : List Value) (C : Array Value) (o k : Nat),(k < o ∨ o + vs.length <= k) -> (setN C o vs)[k]? = C[k]?:=by
 intro vs
 induction vs with
 | nil => intro C o k _;rfl
 | cons v r ih =>
  intro C o k h
  simp only [List.length_cons] at h
  rw [setN,ih _ _ _ (by omega),Array.getElem?_setIfInBounds_ne (by omega)]
theorem setN_in : ∀ (vs : List Value) (C : Array Value) (o j : Nat),o + vs.length <= C.size -> j < vs.length -> (setN C o vs)[o + j]? = vs[j]?:=by
 intro vs
 induction vs with
 | nil => intro C o j _ h;exact absurd h (Nat.not_lt_zero _)
 | cons v r ih =>
  intro C o j hl hj
  simp only [List.length_cons] at hl hj
  rw [setN]
  match j,hj with
  | 0,_ =>
   have e:=setN_out r (C.setIfInBounds o v) (o + 1) o (.inl (Nat.lt_succ_self o))
   show (setN (C.setIfInBounds o v) (o + 1) r)[o]? = some v
   rw [e,Array.getElem?_setIfInBounds_self_of_lt (by omega)]
  | j + 1,hj =>
   rw [show o + (j + 1) = o + 1 + j by omega,ih _ _ _ (by simp;omega) (by omega),List.getElem?_cons_succ]
theorem Whole.setCells {g : Nat} {t : TypeId} : ∀ (vs : List Value) {W : World} {C : Array Value} (o : Nat),Whole W g t C -> Whole (W.setCells g o vs) g t (setN C o vs):=by
 intro vs
 induction vs with
 | nil => intro W C o h;exact h
 | cons v r ih => intro W C o h;exact ih (o + 1) (h.set o v)
theorem heap_setCells {g k : Nat} (hk : k ≠ g) : ∀ (vs : List Value) (W : World) (o : Nat),(W.setCells g o vs).heap[k]? = W.heap[k]?:=by
 intro vs
 induction vs with
 | nil => intro W o;rfl
 | cons v r ih => intro W o;rw [World.setCells,ih];exact Below.heap_setCell _ _ _ _ (by simpa using hk)
theorem whole_there {W : World} {g o n : Nat} {t : TypeId} {C : Array Value} (h : Whole W g t C) (hn : o + n <= C.size) : W.there g o n:=fun j hj => by
 refine ⟨?_,h.frozen _⟩
 rw [h.cell,Array.getElem?_eq_getElem (by omega)]
 rfl
theorem stp_size : (Tryd.prog.info? 78).map (·.size) = some 3:=by kernel_rfl
end Go.Proofs.YtpcbhneaaibfiaaDoor
