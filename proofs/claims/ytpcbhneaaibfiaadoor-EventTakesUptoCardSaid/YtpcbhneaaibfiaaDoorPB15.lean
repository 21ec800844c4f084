/- Laid together. -/
import Derived.Test.YtpcbhneaaibfiaaDoorPB13
import Derived.Test.YtpcbhneaaibfiaaDoorPB14
set_option linter.unusedVariables false
set_option linter.unusedSimpArgs false
set_option maxHeartbeats 16000000
set_option maxRecDepth 100000
namespace Go.Proofs.YtpcbhneaaibfiaaDoor
open Go.RowKit
theorem chkL_ok {b n : Bool} {dd : ByteArray} {e tk td tn tz : Int} {x : ByteArray} {ba : Option Addr} {bc : Nat} {la : Option Addr} {ln lc : Nat} {fa : Option Addr} {fc bb bo lb lo fb fo : Nat} {Y : Nat -> Int} {L : Nat -> Vt} {K : Nat -> ByteArray} {F : Nat -> Vt} {d s : Int} {top B : Nat} {w : World} (hT : (Vt.mk ⟨6,b,n,dd,e,tk,td,tn,tz,x,ba,0,bc,la,ln,lc,fa,0,fc,bb,bo,lb,lo,fb,fo⟩ Y L K F).In w top) (ht : top <= B) (hB : Whole w B 3 #[.int .i64 s]) (d0 : 0 <= d) (s0 : 0 <= s) (h : d <= 48) (s1 : s <= 65535) (he : Vh.ext ⟨6,b,n,dd,e,tk,td,tn,tz,x,ba,0,bc,la,ln,lc,fa,0,fc,bb,bo,lb,lo,fb,fo⟩ = false) (ih : ∀ i,i < ln -> ChkIs (L i)) (hx : x.size <= 65536) :
 Calls Tryd.prog 68 #[.agg #[.int .i64 6,.bool b,.bool n,.string dd,.int .i64 e,.int .i64 tk,.int .i64 td,.int .i64 tn,.int .i64 tz,.string x,.slice ba 0 bc,.slice la ln lc,.slice fa 0 fc],.int .i64 d,.pointer (some ⟨B,0,none⟩)] w (ChkOut (foldE (fun i t => (L i).look (d + 1) t) ln (s + 1)) B w):=by
 have hnb : ln <= 1048576:=hT.1.ln
 have hni : (ln : Int) <= 1048576:=by omega
 obtain ⟨f,hf⟩ : ∃ f,(fun i t => (L i).look (d + 1) t) = f:=⟨_,rfl⟩
 rw [hf]
 have HF : Hid (∀ j,s + 1 <= (foldE f j (s + 1)).1 /\ (foldE f j (s + 1)).1 <= 65536):=Lib.hid fun j => foldE_bd (by omega) (fun i t ht => by rw [<- hf];exact Vt.look_bd (L i) (d + 1) t ht) j
 have HI:=Lib.hid ih
 have Hf:=Lib.hid hf
 clear ih hf
 have HX:=Lib.hid (ext_any ⟨6,b,n,dd,e,tk,td,tn,tz,x,ba,0,bc,la,ln,lc,fa,0,fc,bb,bo,lb,lo,fb,fo⟩ ⟨by show (0 : Int) <= 6;decide,by show (6 : Int) <= 7;decide⟩)
 rw [he] at HX
 simp only [Vh.cells] at HX
 clear he
 have hxi : (x.size : Int) <= 65536:=by omega
 have hBl:=hB.lt
 have hz0 : (w.setCell ⟨B,0,none⟩ (.int .i64 (s + 1))).heap.size = w.heap.size:=by simp [World.setCell]
 have P1:=Whole.new (w.setCell ⟨B,0,none⟩ (.int .i64 (s + 1))) 30 #[.int .i64 6,.bool b,.bool n,.string dd,.int .i64 e,.int .i64 tk,.int .i64 td,.int .i64 tn,.int .i64 tz,.string x,.slice ba 0 bc,.slice la ln lc,.slice fa 0 fc]
 rw [hz0] at P1
 have B1:=(hB.s (.int .i64 (s + 1))).alloc (.cells #[.int .i64 6,.bool b,.bool n,.string dd,.int .i64 e,.int .i64 tk,.int .i64 td,.int .i64 tn,.int .i64 tz,.string x,.slice ba 0 bc,.slice la ln lc,.slice fa 0 fc] 30)
 have K1 : Kept (· = B) w ((w.setCell ⟨B,0,none⟩ (.int .i64 (s + 1))).alloc (.cells #[.int .i64 6,.bool b,.bool n,.string dd,.int .i64 e,.int .i64 tk,.int .i64 td,.int .i64 tn,.int .i64 tz,.string x,.slice ba 0 bc,.slice la ln lc,.slice fa 0 fc] 30)):=(Kept.setB w B (.int .i64 (s + 1))).then ((Below.refl _ _).alloc (Nat.le_refl _) _)
 have bc0:=hB.cell 0
 have bf0:=hB.frozen 0
 clear hz0
 simp only [List.getElem?_toArray,List.getElem?_cons_zero] at bc0
 have HTk:=Lib.hid (fun (w1 : World) (h : Kept (· = B) w w1) => Vt.In.below (h.below (Nat.le_of_lt (Nat.lt_of_le_of_lt ht hBl)) (fun c q e => by omega)) hT)
 have HKy:=Lib.hid (fun (w1 : World) (h : Kept (· = B) w w1) => show Calls Tryd.prog 79 #[.slice fa 0 fc] w1 fun r w' => r = .returned (.int .i64 (0)) /\ Below w1.heap.size w1 w' from vkeys_any (T:=(Vt.mk ⟨6,b,n,dd,e,tk,td,tn,tz,x,ba,0,bc,la,ln,lc,fa,0,fc,bb,bo,lb,lo,fb,fo⟩ Y L K F)) (top:=top) (HTk.out w1 h) (by have:=h.size;omega))
 have HAd:=Lib.hid (fun (q : 0 < ln) => hT.2.2.2.1 q)
 have HRw:=Lib.hid (fun (w1 : World) (h : Kept (· = B) w w1) (j : Nat) (hj : j < ln) => (⟨((HTk.out w1 h).2.2.2.2.1 j hj).1,((HTk.out w1 h).2.2.2.2.1 j hj).2⟩ : LiesAt w1 lb (lo + j * 13) (L j).h.cells /\ (L j).In w1 top))
 clear HTk
 clear hT hB
 go_enter Tryd.func68,Tryd.ntmps68
 go_upto_region 2 with (fail)
 have hW : ∃ w1,(w.setCell ⟨B,0,none⟩ (.int .i64 (s + 1))).alloc (.cells #[.int .i64 6,.bool b,.bool n,.string dd,.int .i64 e,.int .i64 tk,.int .i64 td,.int .i64 tn,.int .i64 tz,.string x,.slice ba 0 bc,.slice la ln lc,.slice fa 0 fc] 30) = w1:=⟨_,rfl⟩
 obtain ⟨w1,hw1⟩:=hW
 rw [hw1] at P1 B1 K1 ⊢
 clear hw1 bc0 bf0
 have bc1:=B1.cell 0
 simp only [List.getElem?_toArray,List.getElem?_cons_zero] at bc1
 obtain ⟨c0,c1,c2,c3,c4,c5,c6,c7,c8,c9,c10,c11,c12⟩:=Whole.c13 (h:=⟨6,b,n,dd,e,tk,td,tn,tz,x,ba,0,bc,la,ln,lc,fa,0,fc,bb,bo,lb,lo,fb,fo⟩) P1
 go_wp2_with fail
 refine (HX.out _).mono ?_;rintro _ w2 ⟨rfl,hb2⟩
 have P2:=P1.below hb2 P1.lt
 have B2:=B1.below hb2 B1.lt
 have K2:=K1.then hb2
 clear c0 c1 c2 c3 c4 c5 c6 c7 c8 c9 c10 c11 c12 bc1 P1 B1 K1 hb2
 have bc2:=B2.cell 0
 simp only [List.getElem?_toArray,List.getElem?_cons_zero] at bc2
 obtain ⟨c0,c1,c2,c3,c4,c5,c6,c7,c8,c9,c10,c11,c12⟩:=Whole.c13 (h:=⟨6,b,n,dd,e,tk,td,tn,tz,x,ba,0,bc,la,ln,lc,fa,0,fc,bb,bo,lb,lo,fb,fo⟩) P2
 go_wp2_with fail
 refine (HKy.out _ K2).mono ?_;rintro _ w3 ⟨rfl,hb3⟩
 have P3:=P2.below hb3 P2.lt
 have B3:=B2.below hb3 B2.lt
 have K3:=K2.then hb3
 clear c0 c1 c2 c3 c4 c5 c6 c7 c8 c9 c10 c11 c12 bc2 P2 B2 K2 hb3
 have bc3:=B3.cell 0
 simp only [List.getElem?_toArray,List.getElem?_cons_zero] at bc3
 obtain ⟨c0,c1,c2,c3,c4,c5,c6,c7,c8,c9,c10,c11,c12⟩:=Whole.c13 (h:=⟨6,b,n,dd,e,tk,td,tn,tz,x,ba,0,bc,la,ln,lc,fa,0,fc,bb,bo,lb,lo,fb,fo⟩) P3
 go_wp2_with fail
 go_loopw [91] (fun i wr => ∃ j : Nat,j <= ln /\ i = .int .i64 j /\ (foldE f j (s + 1)).2 = 0 /\ Whole wr B 3 #[.int .i64 (foldE f j (s + 1)).1] /\ Kept (· = B) w wr /\ Whole wr w.heap.size 30 #[.int .i64 6,.bool b,.bool n,.string dd,.int .i64 e,.int .i64 tk,.int .i64 td,.int .i64 tn,.int .i64 tz,.string x,.slice ba 0 bc,.slice la ln lc,.slice fa 0 fc]) (fun i _ => ln - (intOf i).toNat)
 case atStart => exact ⟨0,by omega,rfl,rfl,B3,K3,P3⟩
 case round =>
  clear P3 B3 K3 bc3 c0 c1 c2 c3 c4 c5 c6 c7 c8 c9 c10 c11 c12
  obtain ⟨j,hj,rfl,hj0,Bw,Kw,Pw⟩:=hrel
  have hji : (0 : Int) <= j:=by omega
  obtain ⟨q1,q2⟩:=HF.out j
  have Hst:=Lib.hid (foldE_stays (f:=f) (s:=s + 1) (n:=j + 1))
  have hsucc:=foldE_succ (f:=f) (s:=s + 1) (n:=j) hj0
  obtain ⟨t,ht'⟩ : ∃ t,(foldE f j (s + 1)).1 = t:=⟨_,rfl⟩
  rw [ht'] at q1 q2 hsucc Bw
  by_cases hjn : j < ln
  ·have hji2 : (j : Int) < ln:=by omega
   obtain ⟨hl,hin⟩:=HRw.out wr Kw j hjn
   obtain ⟨e1,-⟩:=HAd.out (by omega)
   subst e1
   obtain ⟨l0,l1,l2,l3,l4,l5,l6,l7,l8,l9,l10,l11,l12⟩:=hl.c13
   have A1:=(Below.refl wr.heap.size wr).alloc (Nat.le_refl _) (.cells #[.int .i64 (L j).h.k,.bool (L j).h.b,.bool (L j).h.n,.string (L j).h.d,.int .i64 (L j).h.e,.int .i64 (L j).h.tk,.int .i64 (L j).h.td,.int .i64 (L j).h.tn,.int .i64 (L j).h.tz,.string (L j).h.x,.slice (L j).h.ba (L j).h.bn (L j).h.bc,.slice (L j).h.la (L j).h.ln (L j).h.lc,.slice (L j).h.fa (L j).h.fn (L j).h.fc] 30)
   have BA:=Bw.alloc (.cells #[.int .i64 (L j).h.k,.bool (L j).h.b,.bool (L j).h.n,.string (L j).h.d,.int .i64 (L j).h.e,.int .i64 (L j).h.tk,.int .i64 (L j).h.td,.int .i64 (L j).h.tn,.int .i64 (L j).h.tz,.string (L j).h.x,.slice (L j).h.ba (L j).h.bn (L j).h.bc,.slice (L j).h.la (L j).h.ln (L j).h.lc,.slice (L j).h.fa (L j).h.fn (L j).h.fc] 30)
   have PA:=Pw.alloc (.cells #[.int .i64 (L j).h.k,.bool (L j).h.b,.bool (L j).h.n,.string (L j).h.d,.int .i64 (L j).h.e,.int .i64 (L j).h.tk,.int .i64 (L j).h.td,.int .i64 (L j).h.tn,.int .i64 (L j).h.tz,.string (L j).h.x,.slice (L j).h.ba (L j).h.bn (L j).h.bc,.slice (L j).h.la (L j).h.ln (L j).h.lc,.slice (L j).h.fa (L j).h.fn (L j).h.fc] 30)
   have KA:=Kw.then A1
   have E1 : Whole (wr.alloc (.cells #[.int .i64 (L j).h.k,.bool (L j).h.b,.bool (L j).h.n,.string (L j).h.d,.int .i64 (L j).h.e,.int .i64 (L j).h.tk,.int .i64 (L j).h.td,.int .i64 (L j).h.tn,.int .i64 (L j).h.tz,.string (L j).h.x,.slice (L j).h.ba (L j).h.bn (L j).h.bc,.slice (L j).h.la (L j).h.ln (L j).h.lc,.slice (L j).h.fa (L j).h.fn (L j).h.fc] 30)) wr.heap.size 30 #[.int .i64 (L j).h.k,.bool (L j).h.b,.bool (L j).h.n,.string (L j).h.d,.int .i64 (L j).h.e,.int .i64 (L j).h.tk,.int .i64 (L j).h.td,.int .i64 (L j).h.tn,.int .i64 (L j).h.tz,.string (L j).h.x,.slice (L j).h.ba (L j).h.bn (L j).h.bc,.slice (L j).h.la (L j).h.ln (L j).h.lc,.slice (L j).h.fa (L j).h.fn (L j).h.fc]:=Whole.new wr _ _
   obtain ⟨e0,e1,e2,e3,e4,e5,e6,e7,e8,e9,e10,e11,e12⟩:=Whole.c13 (h:=(L j).h) E1
   have HC:=Lib.hid (HI.out j hjn (d + 1) t top B _ ((hin.below (A1.mono (by have:=Kw.size;omega)))) ht BA (by omega) (by omega) (by omega) (by omega))
   have hfj : (L j).look (d + 1) t = f j t:=by rw [<- Hf.out]
   rw [hfj] at HC
   clear hfj hin
   obtain ⟨R,hR⟩ : ∃ R,f j t = R:=⟨_,rfl⟩
   rw [hR] at HC hsucc
   clear hR
   obtain ⟨R1,R2⟩:=R
   simp only [Vh.cells] at HC
   have HS:=Lib.hid hsucc
   have H0:=Lib.hid hj0
   have HT':=Lib.hid ht'
   clear hsucc hj0 ht'
   by_cases z : R2 = 0
   ·subst z
    go_wp2_with fail
    refine HC.out.mono ?_;rintro _ w5 ⟨s',rfl,B5,hs',K5⟩
    have es:=hs' rfl
    dsimp only at es
    subst es
    have K6:=KA.trans K5 (fun _ q => .inl q)
    have P6:=PA.keptB K5 (show ¬ w.heap.size = B by omega)
    clear HC hs'
    go_wp2
    go_roundw
    case rel => exact ⟨j + 1,by omega,by go_num,by rw [HS.out],by rw [HS.out];exact B5,K6,P6⟩
    case measure => simp [intOf];omega
   ·have z1 : (R2 == 0) = false:=beq_eq_false_iff_ne.2 z
    have z2 : (R2 != 0) = true:=bne_iff_ne.2 z
    have HR : Hid (foldE f ln (s + 1) = (R1,R2)):=Lib.hid (by rw [Hst.out (by rw [HS.out];exact z) ln (by omega),HS.out])
    have HZ:=Lib.hid z
    rw [HR.out]
    clear z HR
    go_wp2_with fail
    refine HC.out.mono ?_;rintro _ w5 ⟨s',rfl,B5,hs',K5⟩
    have K6:=KA.trans K5 (fun _ q => .inl q)
    clear HC hs'
    go_wp2
    go_ret
    exact ⟨_,rfl,B5,fun q => absurd (show R2 = 0 from q) HZ.out,K6⟩
  ·obtain rfl : j = ln:=by omega
   have HR : Hid (foldE f j (s + 1) = (t,0)):=Lib.hid (Prod.ext ht' hj0)
   clear hsucc hj0 ht'
   obtain ⟨c0,c1,c2,c3,c4,c5,c6,c7,c8,c9,c10,c11,c12⟩:=Whole.c13 (h:=⟨6,b,n,dd,e,tk,td,tn,tz,x,ba,0,bc,la,j,lc,fa,0,fc,bb,bo,lb,lo,fb,fo⟩) Pw
   go_wp2_with fail
   go_loopw [107] (fun i wr' => i = .int .i64 0 /\ wr' = wr) (fun _ _ => 0)
   case atStart => exact ⟨rfl,rfl⟩
   case round =>
    obtain ⟨rfl,rfl⟩:=hrel
    go_wp2
    go_ret
    show ChkOut _ _ _ _ _
    rw [HR.out]
    exact ⟨_,rfl,Bw,fun _ => rfl,Kw⟩
theorem chkF_keys {b n : Bool} {dd : ByteArray} {e tk td tn tz : Int} {x : ByteArray} {ba : Option Addr} {bc : Nat} {la : Option Addr} {lc : Nat} {fa : Option Addr} {fn fc bb bo lb lo fb fo : Nat} {Y : Nat -> Int} {L : Nat -> Vt} {K : Nat -> ByteArray} {F : Nat -> Vt} {d s : Int} {top B : Nat} {w : World} (hT : (Vt.mk ⟨7,b,n,dd,e,tk,td,tn,tz,x,ba,0,bc,la,0,lc,fa,fn,fc,bb,bo,lb,lo,fb,fo⟩ Y L K F).In w top) (ht : top <= B) (hB : Whole w B 3 #[.int .i64 s]) (d0 : 0 <= d) (s0 : 0 <= s) (h : d <= 48) (s1 : s <= 65535) (he : Vh.ext ⟨7,b,n,dd,e,tk,td,tn,tz,x,ba,0,bc,la,0,lc,fa,fn,fc,bb,bo,lb,lo,fb,fo⟩ = false) (hx : x.size <= 65536) (hkk : keysE K fn ≠ 0) :
 Calls Tryd.prog 68 #[.agg #[.int .i64 7,.bool b,.bool n,.string dd,.int .i64 e,.int .i64 tk,.int .i64 td,.int .i64 tn,.int .i64 tz,.string x,.slice ba 0 bc,.slice la 0 lc,.slice fa fn fc],.int .i64 d,.pointer (some ⟨B,0,none⟩)] w (ChkOut (s,keysE K fn) B w):=by
 obtain ⟨E,hE⟩ : ∃ E,keysE K fn = E:=⟨_,rfl⟩
 rw [hE] at hkk ⊢
 have z1 : (E == 0) = false:=beq_eq_false_iff_ne.2 hkk
 have z2 : (E != 0) = true:=bne_iff_ne.2 hkk
 have HX:=Lib.hid (ext_any ⟨7,b,n,dd,e,tk,td,tn,tz,x,ba,0,bc,la,0,lc,fa,fn,fc,bb,bo,lb,lo,fb,fo⟩ ⟨by show (0 : Int) <= 7;decide,by show (7 : Int) <= 7;decide⟩)
 rw [he] at HX
 simp only [Vh.cells] at HX
 clear he
 have hxi : (x.size : Int) <= 65536:=by omega
 have hBl:=hB.lt
 have hz0 : (w.setCell ⟨B,0,none⟩ (.int .i64 (s + 1))).heap.size = w.heap.size:=by simp [World.setCell]
 have P1:=Whole.new (w.setCell ⟨B,0,none⟩ (.int .i64 (s + 1))) 30 #[.int .i64 7,.bool b,.bool n,.string dd,.int .i64 e,.int .i64 tk,.int .i64 td,.int .i64 tn,.int .i64 tz,.string x,.slice ba 0 bc,.slice la 0 lc,.slice fa fn fc]
 rw [hz0] at P1
 have B1:=(hB.s (.int .i64 (s + 1))).alloc (.cells #[.int .i64 7,.bool b,.bool n,.string dd,.int .i64 e,.int .i64 tk,.int .i64 td,.int .i64 tn,.int .i64 tz,.string x,.slice ba 0 bc,.slice la 0 lc,.slice fa fn fc] 30)
 have K1 : Kept (· = B) w ((w.setCell ⟨B,0,none⟩ (.int .i64 (s + 1))).alloc (.cells #[.int .i64 7,.bool b,.bool n,.string dd,.int .i64 e,.int .i64 tk,.int .i64 td,.int .i64 tn,.int .i64 tz,.string x,.slice ba 0 bc,.slice la 0 lc,.slice fa fn fc] 30)):=(Kept.setB w B (.int .i64 (s + 1))).then ((Below.refl _ _).alloc (Nat.le_refl _) _)
 have bc0:=hB.cell 0
 have bf0:=hB.frozen 0
 clear hz0
 simp only [List.getElem?_toArray,List.getElem?_cons_zero] at bc0
 have HTk:=Lib.hid (fun (w1 : World) (h : Kept (· = B) w w1) => Vt.In.below (h.below (Nat.le_of_lt (Nat.lt_of_le_of_lt ht hBl)) (fun c q e => by omega)) hT)
 have HKy:=Lib.hid (fun (w1 : World) (h : Kept (· = B) w w1) => show Calls Tryd.prog 79 #[.slice fa fn fc] w1 fun r w' => r = .returned (.int .i64 (keysE K fn)) /\ Below w1.heap.size w1 w' from vkeys_any (T:=(Vt.mk ⟨7,b,n,dd,e,tk,td,tn,tz,x,ba,0,bc,la,0,lc,fa,fn,fc,bb,bo,lb,lo,fb,fo⟩ Y L K F)) (top:=top) (HTk.out w1 h) (by have:=h.size;omega))
 rw [hE] at HKy
 have HkE:=Lib.hid hkk
 clear HTk hE hkk
 clear hT hB
 go_enter Tryd.func68,Tryd.ntmps68
 go_upto_region 2 with (fail)
 have hW : ∃ w1,(w.setCell ⟨B,0,none⟩ (.int .i64 (s + 1))).alloc (.cells #[.int .i64 7,.bool b,.bool n,.string dd,.int .i64 e,.int .i64 tk,.int .i64 td,.int .i64 tn,.int .i64 tz,.string x,.slice ba 0 bc,.slice la 0 lc,.slice fa fn fc] 30) = w1:=⟨_,rfl⟩
 obtain ⟨w1,hw1⟩:=hW
 rw [hw1] at P1 B1 K1 ⊢
 clear hw1 bc0 bf0
 have bc1:=B1.cell 0
 simp only [List.getElem?_toArray,List.getElem?_cons_zero] at bc1
 obtain ⟨c0,c1,c2,c3,c4,c5,c6,c7,c8,c9,c10,c11,c12⟩:=Whole.c13 (h:=⟨7,b,n,dd,e,tk,td,tn,tz,x,ba,0,bc,la,0,lc,fa,fn,fc,bb,bo,lb,lo,fb,fo⟩) P1
 go_wp2_with fail
 refine (HX.out _).mono ?_;rintro _ w2 ⟨rfl,hb2⟩
 have P2:=P1.below hb2 P1.lt
 have B2:=B1.below hb2 B1.lt
 have K2:=K1.then hb2
 clear c0 c1 c2 c3 c4 c5 c6 c7 c8 c9 c10 c11 c12 bc1 P1 B1 K1 hb2
 have bc2:=B2.cell 0
 simp only [List.getElem?_toArray,List.getElem?_cons_zero] at bc2
 obtain ⟨c0,c1,c2,c3,c4,c5,c6,c7,c8,c9,c10,c11,c12⟩:=Whole.c13 (h:=⟨7,b,n,dd,e,tk,td,tn,tz,x,ba,0,bc,la,0,lc,fa,fn,fc,bb,bo,lb,lo,fb,fo⟩) P2
 go_wp2_with fail
 refine (HKy.out _ K2).mono ?_;rintro _ w3 ⟨rfl,hb3⟩
 have P3:=P2.below hb3 P2.lt
 have B3:=B2.below hb3 B2.lt
 have K3:=K2.then hb3
 clear c0 c1 c2 c3 c4 c5 c6 c7 c8 c9 c10 c11 c12 bc2 P2 B2 K2 hb3
 have bc3:=B3.cell 0
 simp only [List.getElem?_toArray,List.getElem?_cons_zero] at bc3
 obtain ⟨c0,c1,c2,c3,c4,c5,c6,c7,c8,c9,c10,c11,c12⟩:=Whole.c13 (h:=⟨7,b,n,dd,e,tk,td,tn,tz,x,ba,0,bc,la,0,lc,fa,fn,fc,bb,bo,lb,lo,fb,fo⟩) P3
 go_wp2
 go_ret
 exact ⟨_,rfl,B3,fun q => absurd (show E = 0 from q) HkE.out,K3⟩
theorem chkF_ok {b n : Bool} {dd : ByteArray} {e tk td tn tz : Int} {x : ByteArray} {ba : Option Addr} {bc : Nat} {la : Option Addr} {lc : Nat} {fa : Option Addr} {fn fc bb bo lb lo fb fo : Nat} {Y : Nat -> Int} {L : Nat -> Vt} {K : Nat -> ByteArray} {F : Nat -> Vt} {d s : Int} {top B : Nat} {w : World} (hT : (Vt.mk ⟨7,b,n,dd,e,tk,td,tn,tz,x,ba,0,bc,la,0,lc,fa,fn,fc,bb,bo,lb,lo,fb,fo⟩ Y L K F).In w top) (ht : top <= B) (hB : Whole w B 3 #[.int .i64 s]) (d0 : 0 <= d) (s0 : 0 <= s) (h : d <= 48) (s1 : s <= 65535) (he : Vh.ext ⟨7,b,n,dd,e,tk,td,tn,tz,x,ba,0,bc,la,0,lc,fa,fn,fc,bb,bo,lb,lo,fb,fo⟩ = false) (ih : ∀ i,i < fn -> ChkIs (F i)) (hx : x.size <= 65536) (hkk : keysE K fn = 0) :
 Calls Tryd.prog 68 #[.agg #[.int .i64 7,.bool b,.bool n,.string dd,.int .i64 e,.int .i64 tk,.int .i64 td,.int .i64 tn,.int .i64 tz,.string x,.slice ba 0 bc,.slice la 0 lc,.slice fa fn fc],.int .i64 d,.pointer (some ⟨B,0,none⟩)] w (ChkOut (foldE (fun i t => (F i).look (d + 1) t) fn (s + 1)) B w):=by
 have hnb : fn <= 1048576:=hT.1.fn
 have hni : (fn : Int) <= 1048576:=by omega
 obtain ⟨f,hf⟩ : ∃ f,(fun i t => (F i).look (d + 1) t) = f:=⟨_,rfl⟩
 rw [hf]
 have HF : Hid (∀ j,s + 1 <= (foldE f j (s + 1)).1 /\ (foldE f j (s + 1)).1 <= 65536):=Lib.hid fun j => foldE_bd (by omega) (fun i t ht => by rw [<- hf];exact Vt.look_bd (F i) (d + 1) t ht) j
 have HI:=Lib.hid ih
 have Hf:=Lib.hid hf
 clear ih hf
 have HX:=Lib.hid (ext_any ⟨7,b,n,dd,e,tk,td,tn,tz,x,ba,0,bc,la,0,lc,fa,fn,fc,bb,bo,lb,lo,fb,fo⟩ ⟨by show (0 : Int) <= 7;decide,by show (7 : Int) <= 7;decide⟩)
 rw [he] at HX
 simp only [Vh.cells] at HX
 clear he
 have hxi : (x.size : Int) <= 65536:=by omega
 have hBl:=hB.lt
 have hz0 : (w.setCell ⟨B,0,none⟩ (.int .i64 (s + 1))).heap.size = w.heap.size:=by simp [World.setCell]
 have P1:=Whole.new (w.setCell ⟨B,0,none⟩ (.int .i64 (s + 1))) 30 #[.int .i64 7,.bool b,.bool n,.string dd,.int .i64 e,.int .i64 tk,.int .i64 td,.int .i64 tn,.int .i64 tz,.string x,.slice ba 0 bc,.slice la 0 lc,.slice fa fn fc]
 rw [hz0] at P1
 have B1:=(hB.s (.int .i64 (s + 1))).alloc (.cells #[.int .i64 7,.bool b,.bool n,.string dd,.int .i64 e,.int .i64 tk,.int .i64 td,.int .i64 tn,.int .i64 tz,.string x,.slice ba 0 bc,.slice la 0 lc,.slice fa fn fc] 30)
 have K1 : Kept (· = B) w ((w.setCell ⟨B,0,none⟩ (.int .i64 (s + 1))).alloc (.cells #[.int .i64 7,.bool b,.bool n,.string dd,.int .i64 e,.int .i64 tk,.int .i64 td,.int .i64 tn,.int .i64 tz,.string x,.slice ba 0 bc,.slice la 0 lc,.slice fa fn fc] 30)):=(Kept.setB w B (.int .i64 (s + 1))).then ((Below.refl _ _).alloc (Nat.le_refl _) _)
 have bc0:=hB.cell 0
 have bf0:=hB.frozen 0
 clear hz0
 simp only [List.getElem?_toArray,List.getElem?_cons_zero] at bc0
 have HTk:=Lib.hid (fun (w1 : World) (h : Kept (· = B) w w1) => Vt.In.below (h.below (Nat.le_of_lt (Nat.lt_of_le_of_lt ht hBl)) (fun c q e => by omega)) hT)
 have HKy:=Lib.hid (fun (w1 : World) (h : Kept (· = B) w w1) => show Calls Tryd.prog 79 #[.slice fa fn fc] w1 fun r w' => r = .returned (.int .i64 (keysE K fn)) /\ Below w1.heap.size w1 w' from vkeys_any (T:=(Vt.mk ⟨7,b,n,dd,e,tk,td,tn,tz,x,ba,0,bc,la,0,lc,fa,fn,fc,bb,bo,lb,lo,fb,fo⟩ Y L K F)) (top:=top) (HTk.out w1 h) (by have:=h.size;omega))
 have HAd:=Lib.hid (fun (q : 0 < fn) => hT.2.2.2.2.2.1 q)
 have HRw:=Lib.hid (fun (w1 : World) (h : Kept (· = B) w w1) (j : Nat) (hj : j < fn) => (⟨lies_fcs ((HTk.out w1 h).2.2.2.2.2.2 j hj).1 ((HTk.out w1 h).2.2.2.2.2.2 j hj).2.2.1,((HTk.out w1 h).2.2.2.2.2.2 j hj).2.2.2⟩ : LiesAt w1 fb (fo + j * 14) (fcs (K j,F j)) /\ (F j).In w1 top))
 rw [hkk] at HKy
 clear hkk
 clear HTk
 clear hT hB
 go_enter Tryd.func68,Tryd.ntmps68
 go_upto_region 2 with (fail)
 have hW : ∃ w1,(w.setCell ⟨B,0,none⟩ (.int .i64 (s + 1))).alloc (.cells #[.int .i64 7,.bool b,.bool n,.string dd,.int .i64 e,.int .i64 tk,.int .i64 td,.int .i64 tn,.int .i64 tz,.string x,.slice ba 0 bc,.slice la 0 lc,.slice fa fn fc] 30) = w1:=⟨_,rfl⟩
 obtain ⟨w1,hw1⟩:=hW
 rw [hw1] at P1 B1 K1 ⊢
 clear hw1 bc0 bf0
 have bc1:=B1.cell 0
 simp only [List.getElem?_toArray,List.getElem?_cons_zero] at bc1
 obtain ⟨c0,c1,c2,c3,c4,c5,c6,c7,c8,c9,c10,c11,c12⟩:=Whole.c13 (h:=⟨7,b,n,dd,e,tk,td,tn,tz,x,ba,0,bc,la,0,lc,fa,fn,fc,bb,bo,lb,lo,fb,fo⟩) P1
 go_wp2_with fail
 refine (HX.out _).mono ?_;rintro _ w2 ⟨rfl,hb2⟩
 have P2:=P1.below hb2 P1.lt
 have B2:=B1.below hb2 B1.lt
 have K2:=K1.then hb2
 clear c0 c1 c2 c3 c4 c5 c6 c7 c8 c9 c10 c11 c12 bc1 P1 B1 K1 hb2
 have bc2:=B2.cell 0
 simp only [List.getElem?_toArray,List.getElem?_cons_zero] at bc2
 obtain ⟨c0,c1,c2,c3,c4,c5,c6,c7,c8,c9,c10,c11,c12⟩:=Whole.c13 (h:=⟨7,b,n,dd,e,tk,td,tn,tz,x,ba,0,bc,la,0,lc,fa,fn,fc,bb,bo,lb,lo,fb,fo⟩) P2
 go_wp2_with fail
 refine (HKy.out _ K2).mono ?_;rintro _ w3 ⟨rfl,hb3⟩
 have P3:=P2.below hb3 P2.lt
 have B3:=B2.below hb3 B2.lt
 have K3:=K2.then hb3
 clear c0 c1 c2 c3 c4 c5 c6 c7 c8 c9 c10 c11 c12 bc2 P2 B2 K2 hb3
 have bc3:=B3.cell 0
 simp only [List.getElem?_toArray,List.getElem?_cons_zero] at bc3
 obtain ⟨c0,c1,c2,c3,c4,c5,c6,c7,c8,c9,c10,c11,c12⟩:=Whole.c13 (h:=⟨7,b,n,dd,e,tk,td,tn,tz,x,ba,0,bc,la,0,lc,fa,fn,fc,bb,bo,lb,lo,fb,fo⟩) P3
 go_wp2_with fail
 go_loopw [91] (fun i wr => i = .int .i64 0 /\ wr = w3) (fun _ _ => 0)
 case atStart => exact ⟨rfl,rfl⟩
 case round =>
  obtain ⟨rfl,rfl⟩:=hrel
  go_wp2_with fail
  go_loopw [107] (fun i wr => ∃ j : Nat,j <= fn /\ i = .int .i64 j /\ (foldE f j (s + 1)).2 = 0 /\ Whole wr B 3 #[.int .i64 (foldE f j (s + 1)).1] /\ Kept (· = B) w wr /\ Whole wr w.heap.size 30 #[.int .i64 7,.bool b,.bool n,.string dd,.int .i64 e,.int .i64 tk,.int .i64 td,.int .i64 tn,.int .i64 tz,.string x,.slice ba 0 bc,.slice la 0 lc,.slice fa fn fc]) (fun i _ => fn - (intOf i).toNat)
  case atStart => exact ⟨0,by omega,rfl,rfl,B3,K3,P3⟩
  case round =>
   clear P3 B3 K3 bc3 c0 c1 c2 c3 c4 c5 c6 c7 c8 c9 c10 c11 c12
   obtain ⟨j,hj,rfl,hj0,Bw,Kw,Pw⟩:=hrel
   have hji : (0 : Int) <= j:=by omega
   obtain ⟨q1,q2⟩:=HF.out j
   have Hst:=Lib.hid (foldE_stays (f:=f) (s:=s + 1) (n:=j + 1))
   have hsucc:=foldE_succ (f:=f) (s:=s + 1) (n:=j) hj0
   obtain ⟨t,ht'⟩ : ∃ t,(foldE f j (s + 1)).1 = t:=⟨_,rfl⟩
   rw [ht'] at q1 q2 hsucc Bw
   by_cases hjn : j < fn
   ·have hji2 : (j : Int) < fn:=by omega
    obtain ⟨hl,hin⟩:=HRw.out wr Kw j hjn
    obtain ⟨e1,-⟩:=HAd.out (by omega)
    subst e1
    obtain ⟨l0,l1,l2,l3,l4,l5,l6,l7,l8,l9,l10,l11,l12,l13⟩:=lies_c14 hl
    have A1:=(Below.refl wr.heap.size wr).alloc (Nat.le_refl _) (.cells #[.string (K j),.int .i64 (F j).h.k,.bool (F j).h.b,.bool (F j).h.n,.string (F j).h.d,.int .i64 (F j).h.e,.int .i64 (F j).h.tk,.int .i64 (F j).h.td,.int .i64 (F j).h.tn,.int .i64 (F j).h.tz,.string (F j).h.x,.slice (F j).h.ba (F j).h.bn (F j).h.bc,.slice (F j).h.la (F j).h.ln (F j).h.lc,.slice (F j).h.fa (F j).h.fn (F j).h.fc] 76)
    have BA:=Bw.alloc (.cells #[.string (K j),.int .i64 (F j).h.k,.bool (F j).h.b,.bool (F j).h.n,.string (F j).h.d,.int .i64 (F j).h.e,.int .i64 (F j).h.tk,.int .i64 (F j).h.td,.int .i64 (F j).h.tn,.int .i64 (F j).h.tz,.string (F j).h.x,.slice (F j).h.ba (F j).h.bn (F j).h.bc,.slice (F j).h.la (F j).h.ln (F j).h.lc,.slice (F j).h.fa (F j).h.fn (F j).h.fc] 76)
    have PA:=Pw.alloc (.cells #[.string (K j),.int .i64 (F j).h.k,.bool (F j).h.b,.bool (F j).h.n,.string (F j).h.d,.int .i64 (F j).h.e,.int .i64 (F j).h.tk,.int .i64 (F j).h.td,.int .i64 (F j).h.tn,.int .i64 (F j).h.tz,.string (F j).h.x,.slice (F j).h.ba (F j).h.bn (F j).h.bc,.slice (F j).h.la (F j).h.ln (F j).h.lc,.slice (F j).h.fa (F j).h.fn (F j).h.fc] 76)
    have KA:=Kw.then A1
    have E1 : Whole (wr.alloc (.cells #[.string (K j),.int .i64 (F j).h.k,.bool (F j).h.b,.bool (F j).h.n,.string (F j).h.d,.int .i64 (F j).h.e,.int .i64 (F j).h.tk,.int .i64 (F j).h.td,.int .i64 (F j).h.tn,.int .i64 (F j).h.tz,.string (F j).h.x,.slice (F j).h.ba (F j).h.bn (F j).h.bc,.slice (F j).h.la (F j).h.ln (F j).h.lc,.slice (F j).h.fa (F j).h.fn (F j).h.fc] 76)) wr.heap.size 76 #[.string (K j),.int .i64 (F j).h.k,.bool (F j).h.b,.bool (F j).h.n,.string (F j).h.d,.int .i64 (F j).h.e,.int .i64 (F j).h.tk,.int .i64 (F j).h.td,.int .i64 (F j).h.tn,.int .i64 (F j).h.tz,.string (F j).h.x,.slice (F j).h.ba (F j).h.bn (F j).h.bc,.slice (F j).h.la (F j).h.ln (F j).h.lc,.slice (F j).h.fa (F j).h.fn (F j).h.fc]:=Whole.new wr _ _
    obtain ⟨e0,e1,e2,e3,e4,e5,e6,e7,e8,e9,e10,e11,e12,e13,-⟩:=fb_of (y:=K j) (h:=(F j).h) E1 (Below.refl _ _)
    have HC:=Lib.hid (HI.out j hjn (d + 1) t top B _ ((hin.below (A1.mono (by have:=Kw.size;omega)))) ht BA (by omega) (by omega) (by omega) (by omega))
    have hfj : (F j).look (d + 1) t = f j t:=by rw [<- Hf.out]
    rw [hfj] at HC
    clear hfj hin
    obtain ⟨R,hR⟩ : ∃ R,f j t = R:=⟨_,rfl⟩
    rw [hR] at HC hsucc
    clear hR
    obtain ⟨R1,R2⟩:=R
    simp only [Vh.cells] at HC
    have HS:=Lib.hid hsucc
    have H0:=Lib.hid hj0
    have HT':=Lib.hid ht'
    clear hsucc hj0 ht'
    by_cases z : R2 = 0
    ·subst z
     go_wp2_with fail
     refine HC.out.mono ?_;rintro _ w5 ⟨s',rfl,B5,hs',K5⟩
     have es:=hs' rfl
     dsimp only at es
     subst es
     have K6:=KA.trans K5 (fun _ q => .inl q)
     have P6:=PA.keptB K5 (show ¬ w.heap.size = B by omega)
     clear HC hs'
     go_wp2
     go_roundw
     case rel => exact ⟨j + 1,by omega,by go_num,by rw [HS.out],by rw [HS.out];exact B5,K6,P6⟩
     case measure => simp [intOf];omega
    ·have z1 : (R2 == 0) = false:=beq_eq_false_iff_ne.2 z
     have z2 : (R2 != 0) = true:=bne_iff_ne.2 z
     have HR : Hid (foldE f fn (s + 1) = (R1,R2)):=Lib.hid (by rw [Hst.out (by rw [HS.out];exact z) fn (by omega),HS.out])
     have HZ:=Lib.hid z
     rw [HR.out]
     clear z HR
     go_wp2_with fail
     refine HC.out.mono ?_;rintro _ w5 ⟨s',rfl,B5,hs',K5⟩
     have K6:=KA.trans K5 (fun _ q => .inl q)
     clear HC hs'
     go_wp2
     go_ret
     exact ⟨_,rfl,B5,fun q => absurd (show R2 = 0 from q) HZ.out,K6⟩
   ·obtain rfl : j = fn:=by omega
    have HR : Hid (foldE f j (s + 1) = (t,0)):=Lib.hid (Prod.ext ht' hj0)
    clear hsucc hj0 ht'
    go_wp2
    go_ret
    show ChkOut _ _ _ _ _
    rw [HR.out]
    exact ⟨_,rfl,Bw,fun _ => rfl,Kw⟩
theorem utfB_nil {x : ByteArray} (h : x.size = 0) : utfB x = true:=by
 obtain ⟨rs,hs⟩:=Utf.left_split x
 have h1:=Utf.len_split hs
 have h2 : x.data.toList.length = x.size:=by simp
 unfold utfB
 exact decide_eq_true (by omega)
theorem vd_zero {s : ByteArray} (h : s.size = 0) : Dec.vd false s 0:=by
 unfold Dec.vd
 rw [if_pos h]
 exact ⟨rfl,rfl⟩
theorem toList_size {s : ByteArray} (h : s.toList = []) : s.size = 0:=by
 rw [Lib.toList_data] at h
 have h2 : s.data.toList.length = s.size:=by simp
 rw [h] at h2
 exact h2.symm
theorem oneE_when {k : Int} {b n : Bool} {dd : ByteArray} {e tk td tn tz : Int} {x : ByteArray} {ba : Option Addr} {bn bc : Nat} {la : Option Addr} {ln lc : Nat} {fa : Option Addr} {fn fc bb bo lb lo fb fo : Nat} {Y : Nat -> Int} {L : Nat -> Vt} {K : Nat -> ByteArray} {F : Nat -> Vt} (ho : Vh.own ⟨k,b,n,dd,e,tk,td,tn,tz,x,ba,bn,bc,la,ln,lc,fa,fn,fc,bb,bo,lb,lo,fb,fo⟩ = true) :
 oneE (.mk ⟨k,b,n,dd,e,tk,td,tn,tz,x,ba,bn,bc,la,ln,lc,fa,fn,fc,bb,bo,lb,lo,fb,fo⟩ Y L K F) = (if ¬ Dec.vd n dd e ∨ (k = 3 /\ ¬ Mom.Ok tk td tn tz) then 2 else if utfB x = false then 5 else if 65536 < x.size ∨ 65536 < bn then 10 else keysE K fn):=by
 unfold oneE
 exact if_neg (by show ¬ Vh.own ⟨k,b,n,dd,e,tk,td,tn,tz,x,ba,bn,bc,la,ln,lc,fa,fn,fc,bb,bo,lb,lo,fb,fo⟩ = false;rw [ho];decide)
theorem chk_any : ∀ T : Vt,ChkIs T:=by
 intro T
 induction T with
 | nil => intro d s top B w hT;exact hT.elim
 | mk h Y L K F ihL ihF =>
  intro d s top B w hT ht hB d0 d1 s0 s1
  have hok : h.ok:=hT.1
  have ho:=own_ext h
  have hl:=Vt.look_eq (T:=.mk h Y L K F) (by intro e;cases e) d s
  by_cases t1 : 48 < d
  ·rw [hl,if_pos t1]
   obtain ⟨k,b,n,dd,e,tk,td,tn,tz,x,ba,bn,bc,la,ln,lc,fa,fn,fc,bb,bo,lb,lo,fb,fo⟩:=h
   exact chk_deep hT ht hB d0 s0 t1 s1
  rw [if_neg t1] at hl
  by_cases t2 : 65536 <= s
  ·rw [hl,if_pos t2]
   obtain ⟨k,b,n,dd,e,tk,td,tn,tz,x,ba,bn,bc,la,ln,lc,fa,fn,fc,bb,bo,lb,lo,fb,fo⟩:=h
   exact chk_many hT ht hB d0 s0 (by omega) t2 s1
  rw [if_neg t2] at hl
  have t3 : d <= 48:=by omega
  have t4 : s <= 65535:=by omega
  cases hown : h.own with
  | false =>
   have e6 : oneE (.mk h Y L K F) = 6:=by unfold oneE;exact if_pos hown
   rw [hl,e6,if_pos (by decide)]
   rw [hown] at ho
   obtain ⟨k,b,n,dd,e,tk,td,tn,tz,x,ba,bn,bc,la,ln,lc,fa,fn,fc,bb,bo,lb,lo,fb,fo⟩:=h
   dsimp only at ho
   by_cases k0 : k < 0
   ·exact chk_low hT ht hB d0 s0 t3 t4 k0
   by_cases k7 : 7 < k
   ·exact chk_high hT ht hB d0 s0 t3 t4 k7
   have hx : Vh.ext ⟨k,b,n,dd,e,tk,td,tn,tz,x,ba,bn,bc,la,ln,lc,fa,fn,fc,bb,bo,lb,lo,fb,fo⟩ = true:=by
    rw [decide_eq_true (show (0 : Int) <= k by omega),decide_eq_true (show k <= 7 by omega)] at ho
    simpa using ho.symm
   exact chk_ext hT ht hB d0 s0 t3 t4 (Int.not_lt.1 k0) (Int.not_lt.1 k7) hx
  | true =>
   obtain ⟨k0,k7,p1,p2,p3,p4,p5,p6,p7⟩:=Vh.own_parts hown
   rw [hown] at ho
   have hx : h.ext = false:=by
    rw [decide_eq_true k0,decide_eq_true k7] at ho
    simpa using ho.symm
   obtain ⟨k,b,n,dd,e,tk,td,tn,tz,x,ba,bn,bc,la,ln,lc,fa,fn,fc,bb,bo,lb,lo,fb,fo⟩:=h
   have hone:=oneE_when (Y:=Y) (L:=L) (K:=K) (F:=F) hown
   have ok1:=hok.d
   have ok2:=hok.x
   have ok3:=hok.bn
   dsimp only at k0 k7 p1 p2 p3 p4 p5 p6 p7 ok1 ok2 ok3
   have hmx : dd.size <= maxLen:=Nat.le_trans ok1 (by unfold maxLen;omega)
   clear ho hown hok
   by_cases k2 : k = 2
   ·subst k2
    obtain rfl:=p5 (by decide)
    obtain rfl:=p6 (by decide)
    obtain rfl:=p7 (by decide)
    have xz:=toList_size (p4 (by decide))
    have hxs : x.size <= 65536:=by omega
    by_cases v : Dec.vd n dd e
    ·rw [if_neg (by rintro (q | ⟨q,-⟩);{ exact q v };{ exact absurd q (by decide) }),if_neg (by rw [utfB_nil xz];decide),if_neg (by omega)] at hone
     rw [hl,hone,if_neg (fun q => q rfl)]
     exact chk2_ok hT ht hB d0 s0 t3 t4 hx (decide_eq_true v) hmx hxs
    ·rw [if_pos (.inl v)] at hone
     rw [hl,hone,if_pos (by decide)]
     exact chk2_bad hT ht hB d0 s0 t3 t4 hx (decide_eq_false v) hmx
   obtain ⟨rfl,dz,rfl⟩:=p2 k2
   have hv0:=vd_zero (toList_size dz)
   by_cases k3 : k = 3
   ·subst k3
    obtain rfl:=p5 (by decide)
    obtain rfl:=p6 (by decide)
    obtain rfl:=p7 (by decide)
    have xz:=toList_size (p4 (by decide))
    have hxs : x.size <= 65536:=by omega
    by_cases v : Mom.Ok tk td tn tz
    ·rw [if_neg (by rintro (q | ⟨-,q⟩);{ exact q hv0 };{ exact q v }),if_neg (by rw [utfB_nil xz];decide),if_neg (by omega)] at hone
     rw [hl,hone,if_neg (fun q => q rfl)]
     exact chk3_ok hT ht hB d0 s0 t3 t4 hx (decide_eq_true v) hxs
    ·rw [if_pos (.inr ⟨rfl,v⟩)] at hone
     rw [hl,hone,if_pos (by decide)]
     exact chk3_bad hT ht hB d0 s0 t3 t4 hx (decide_eq_false v)
   rw [if_neg (by rintro (q | ⟨q,-⟩);{ exact q hv0 };{ exact k3 q })] at hone
   by_cases k4 : k = 4
   ·subst k4
    obtain rfl:=p5 (by decide)
    obtain rfl:=p6 (by decide)
    obtain rfl:=p7 (by decide)
    cases u : utfB x with
    | false =>
     rw [if_pos u] at hone
     rw [hl,hone,if_pos (by decide)]
     exact chk4_bad hT ht hB d0 s0 t3 t4 hx ok2 u
    | true =>
     rw [if_neg (by rw [u];decide)] at hone
     by_cases z : 65536 < x.size
     ·rw [if_pos (.inl z)] at hone
      rw [hl,hone,if_pos (by decide)]
      exact chk4_big hT ht hB d0 s0 t3 t4 hx ok2 u z
     ·rw [if_neg (by omega)] at hone
      rw [hl,hone,if_neg (fun q => q rfl)]
      exact chk4_ok hT ht hB d0 s0 t3 t4 hx ok2 u (Nat.not_lt.1 z)
   have xz:=toList_size (p4 k4)
   have hxs : x.size <= 65536:=by omega
   rw [if_neg (by rw [utfB_nil xz];decide)] at hone
   by_cases k6 : k = 6
   ·subst k6
    obtain rfl:=p5 (by decide)
    obtain rfl:=p7 (by decide)
    rw [if_neg (by omega)] at hone
    rw [hl,hone,if_neg (fun q => q rfl)]
    exact chkL_ok hT ht hB d0 s0 t3 t4 hx (fun i _ => ihL i) hxs
   by_cases k7' : k = 7
   ·subst k7'
    obtain rfl:=p5 (by decide)
    obtain rfl:=p6 (by decide)
    rw [if_neg (by omega)] at hone
    by_cases v : keysE K fn = 0
    ·rw [v] at hone
     rw [hl,hone,if_neg (fun q => q rfl)]
     exact chkF_ok hT ht hB d0 s0 t3 t4 hx (fun i _ => ihF i) hxs v
    ·rw [hl,hone,if_pos v]
     exact chkF_keys hT ht hB d0 s0 t3 t4 hx hxs v
   obtain rfl:=p6 k6
   obtain rfl:=p7 k7'
   have q2 : (k == 2) = false:=beq_eq_false_iff_ne.2 k2
   have q3 : (k == 3) = false:=beq_eq_false_iff_ne.2 k3
   have q4 : (k == 4) = false:=beq_eq_false_iff_ne.2 k4
   by_cases z : 65536 < bn
   ·rw [if_pos (.inr z)] at hone
    rw [hl,hone,if_pos (by decide)]
    exact chkP_big hT ht hB d0 s0 t3 t4 hx k0 k7 q2 q3 q4 hxs z ok3
   ·rw [if_neg (by omega)] at hone
    rw [hl,hone,if_neg (fun q => q rfl)]
    have e0 : foldE (fun i t => ((Vt.mk ⟨k,b,false,dd,0,tk,td,tn,tz,x,ba,bn,bc,la,0,lc,fa,0,fc,bb,bo,lb,lo,fb,fo⟩ Y L K F).kid i).look (d + 1) t) (Vt.mk ⟨k,b,false,dd,0,tk,td,tn,tz,x,ba,bn,bc,la,0,lc,fa,0,fc,bb,bo,lb,lo,fb,fo⟩ Y L K F).kn (s + 1) = (s + 1,0):=by
     have : (Vt.mk ⟨k,b,false,dd,0,tk,td,tn,tz,x,ba,bn,bc,la,0,lc,fa,0,fc,bb,bo,lb,lo,fb,fo⟩ Y L K F).kn = 0:=by unfold Vt.kn;split <;> rfl
     rw [this]
     rfl
    rw [e0]
    exact chkP_ok hT ht hB d0 s0 t3 t4 hx k0 k7 q2 q3 q4 hxs (Nat.not_lt.1 z)
theorem vcheck_any {T : Vt} {top : Nat} {w : World} (hT : T.In w top) (ht : top <= w.heap.size) :
 Calls Tryd.prog 61 #[.agg T.h.cells] w fun r w' => r = .returned (.int .i64 (T.look 1 0).2) /\ Below w.heap.size w w':=by
 have hb0:=((Below.refl w.heap.size w).alloc (Nat.le_refl _) (.cells T.h.cells 30)).alloc (by simp) (.cells #[.int .i64 0] 3)
 have P:=(Whole.new w 30 T.h.cells).alloc (.cells #[.int .i64 0] 3)
 have B:=Whole.new (w.alloc (.cells T.h.cells 30)) 3 #[.int .i64 0]
 rw [World.size_alloc] at B
 have HC:=Lib.hid (chk_any T 1 0 top (w.heap.size + 1) _ (Vt.In.below (hb0.mono ht) hT) (by omega) B (by decide) (by decide) (by decide) (by decide))
 obtain ⟨R,hR⟩ : ∃ R,T.look 1 0 = R:=⟨_,rfl⟩
 rw [hR] at HC ⊢
 obtain ⟨c0,c1,c2,c3,c4,c5,c6,c7,c8,c9,c10,c11,c12⟩:=Whole.c13 (h:=T.h) P
 clear hT hR B P
 simp only [Vh.cells] at hb0 HC c0 c1 c2 c3 c4 c5 c6 c7 c8 c9 c10 c11 c12 ⊢
 go_enter Tryd.func61,Tryd.ntmps61
 go_wp2_with fail
 refine HC.out.mono ?_;rintro _ w1 ⟨s',rfl,-,-,hk⟩
 have g1:=hb0.trans (hk.below (n:=w.heap.size) (by have:=hb0.size;omega) (fun b q e => by omega))
 clear c0 c1 c2 c3 c4 c5 c6 c7 c8 c9 c10 c11 c12 HC hk hb0
 go_wp2
 go_ret
 exact ⟨rfl,g1⟩
end Go.Proofs.YtpcbhneaaibfiaaDoor
