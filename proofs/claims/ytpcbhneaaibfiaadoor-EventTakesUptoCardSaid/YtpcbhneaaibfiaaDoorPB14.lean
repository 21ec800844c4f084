/- Laid together. -/
import Derived.Test.YtpcbhneaaibfiaaDoorPB13
set_option linter.unusedVariables false
set_option linter.unusedSimpArgs false
set_option maxHeartbeats 16000000
set_option maxRecDepth 100000
namespace Go.Proofs.YtpcbhneaaibfiaaDoor
open Go.RowKit
theorem chk3_bad {b n : Bool} {dd : ByteArray} {e tk td tn tz : Int} {x : ByteArray} {ba : Option Addr} {bc : Nat} {la : Option Addr} {lc : Nat} {fa : Option Addr} {fc bb bo lb lo fb fo : Nat} {Y : Nat -> Int} {L : Nat -> Vt} {K : Nat -> ByteArray} {F : Nat -> Vt} {d s : Int} {top B : Nat} {w : World} (hT : (Vt.mk ⟨3,b,n,dd,e,tk,td,tn,tz,x,ba,0,bc,la,0,lc,fa,0,fc,bb,bo,lb,lo,fb,fo⟩ Y L K F).In w top) (ht : top <= B) (hB : Whole w B 3 #[.int .i64 s]) (d0 : 0 <= d) (s0 : 0 <= s) (h : d <= 48) (s1 : s <= 65535) (he : Vh.ext ⟨3,b,n,dd,e,tk,td,tn,tz,x,ba,0,bc,la,0,lc,fa,0,fc,bb,bo,lb,lo,fb,fo⟩ = false) (hv : decide (Mom.Ok tk td tn tz) = false) :
 Calls Tryd.prog 68 #[.agg #[.int .i64 3,.bool b,.bool n,.string dd,.int .i64 e,.int .i64 tk,.int .i64 td,.int .i64 tn,.int .i64 tz,.string x,.slice ba 0 bc,.slice la 0 lc,.slice fa 0 fc],.int .i64 d,.pointer (some ⟨B,0,none⟩)] w (ChkOut (s,2) B w):=by
 have HX:=Lib.hid (ext_any ⟨3,b,n,dd,e,tk,td,tn,tz,x,ba,0,bc,la,0,lc,fa,0,fc,bb,bo,lb,lo,fb,fo⟩ ⟨by show (0 : Int) <= 3;decide,by show (3 : Int) <= 7;decide⟩)
 rw [he] at HX
 simp only [Vh.cells] at HX
 clear he
 have HD:=Lib.hid (pmom_valid tk td tn tz)
 rw [hv] at HD
 clear hv
 have hBl:=hB.lt
 have hz0 : (w.setCell ⟨B,0,none⟩ (.int .i64 (s + 1))).heap.size = w.heap.size:=by simp [World.setCell]
 have P1:=Whole.new (w.setCell ⟨B,0,none⟩ (.int .i64 (s + 1))) 30 #[.int .i64 3,.bool b,.bool n,.string dd,.int .i64 e,.int .i64 tk,.int .i64 td,.int .i64 tn,.int .i64 tz,.string x,.slice ba 0 bc,.slice la 0 lc,.slice fa 0 fc]
 rw [hz0] at P1
 have B1:=(hB.s (.int .i64 (s + 1))).alloc (.cells #[.int .i64 3,.bool b,.bool n,.string dd,.int .i64 e,.int .i64 tk,.int .i64 td,.int .i64 tn,.int .i64 tz,.string x,.slice ba 0 bc,.slice la 0 lc,.slice fa 0 fc] 30)
 have K1 : Kept (· = B) w ((w.setCell ⟨B,0,none⟩ (.int .i64 (s + 1))).alloc (.cells #[.int .i64 3,.bool b,.bool n,.string dd,.int .i64 e,.int .i64 tk,.int .i64 td,.int .i64 tn,.int .i64 tz,.string x,.slice ba 0 bc,.slice la 0 lc,.slice fa 0 fc] 30)):=(Kept.setB w B (.int .i64 (s + 1))).then ((Below.refl _ _).alloc (Nat.le_refl _) _)
 have bc0:=hB.cell 0
 have bf0:=hB.frozen 0
 clear hz0
 simp only [List.getElem?_toArray,List.getElem?_cons_zero] at bc0
 have HTk:=Lib.hid (fun (w1 : World) (h : Kept (· = B) w w1) => Vt.In.below (h.below (Nat.le_of_lt (Nat.lt_of_le_of_lt ht hBl)) (fun c q e => by omega)) hT)
 clear HTk
 clear hT hB
 go_enter Tryd.func68,Tryd.ntmps68
 go_upto_region 2 with (fail)
 have hW : ∃ w1,(w.setCell ⟨B,0,none⟩ (.int .i64 (s + 1))).alloc (.cells #[.int .i64 3,.bool b,.bool n,.string dd,.int .i64 e,.int .i64 tk,.int .i64 td,.int .i64 tn,.int .i64 tz,.string x,.slice ba 0 bc,.slice la 0 lc,.slice fa 0 fc] 30) = w1:=⟨_,rfl⟩
 obtain ⟨w1,hw1⟩:=hW
 rw [hw1] at P1 B1 K1 ⊢
 clear hw1 bc0 bf0
 have bc1:=B1.cell 0
 simp only [List.getElem?_toArray,List.getElem?_cons_zero] at bc1
 obtain ⟨c0,c1,c2,c3,c4,c5,c6,c7,c8,c9,c10,c11,c12⟩:=Whole.c13 (h:=⟨3,b,n,dd,e,tk,td,tn,tz,x,ba,0,bc,la,0,lc,fa,0,fc,bb,bo,lb,lo,fb,fo⟩) P1
 go_wp2_with fail
 refine (HX.out _).mono ?_;rintro _ w2 ⟨rfl,hb2⟩
 have P2:=P1.below hb2 P1.lt
 have B2:=B1.below hb2 B1.lt
 have K2:=K1.then hb2
 clear c0 c1 c2 c3 c4 c5 c6 c7 c8 c9 c10 c11 c12 bc1 P1 B1 K1 hb2
 have bc2:=B2.cell 0
 simp only [List.getElem?_toArray,List.getElem?_cons_zero] at bc2
 obtain ⟨c0,c1,c2,c3,c4,c5,c6,c7,c8,c9,c10,c11,c12⟩:=Whole.c13 (h:=⟨3,b,n,dd,e,tk,td,tn,tz,x,ba,0,bc,la,0,lc,fa,0,fc,bb,bo,lb,lo,fb,fo⟩) P2
 go_wp2_with fail
 refine (HD.out _).mono ?_;rintro _ w3 ⟨rfl,hb3⟩
 have P3:=P2.below hb3 P2.lt
 have B3:=B2.below hb3 B2.lt
 have K3:=K2.then hb3
 clear c0 c1 c2 c3 c4 c5 c6 c7 c8 c9 c10 c11 c12 bc2 P2 B2 K2 hb3
 have bc3:=B3.cell 0
 simp only [List.getElem?_toArray,List.getElem?_cons_zero] at bc3
 obtain ⟨c0,c1,c2,c3,c4,c5,c6,c7,c8,c9,c10,c11,c12⟩:=Whole.c13 (h:=⟨3,b,n,dd,e,tk,td,tn,tz,x,ba,0,bc,la,0,lc,fa,0,fc,bb,bo,lb,lo,fb,fo⟩) P3
 go_wp2
 go_ret
 exact ⟨_,rfl,B3,fun q => absurd (show (2 : Int) = 0 from q) (by decide),K3⟩
theorem chk3_ok {b n : Bool} {dd : ByteArray} {e tk td tn tz : Int} {x : ByteArray} {ba : Option Addr} {bc : Nat} {la : Option Addr} {lc : Nat} {fa : Option Addr} {fc bb bo lb lo fb fo : Nat} {Y : Nat -> Int} {L : Nat -> Vt} {K : Nat -> ByteArray} {F : Nat -> Vt} {d s : Int} {top B : Nat} {w : World} (hT : (Vt.mk ⟨3,b,n,dd,e,tk,td,tn,tz,x,ba,0,bc,la,0,lc,fa,0,fc,bb,bo,lb,lo,fb,fo⟩ Y L K F).In w top) (ht : top <= B) (hB : Whole w B 3 #[.int .i64 s]) (d0 : 0 <= d) (s0 : 0 <= s) (h : d <= 48) (s1 : s <= 65535) (he : Vh.ext ⟨3,b,n,dd,e,tk,td,tn,tz,x,ba,0,bc,la,0,lc,fa,0,fc,bb,bo,lb,lo,fb,fo⟩ = false) (hv : decide (Mom.Ok tk td tn tz) = true) (hx : x.size <= 65536) :
 Calls Tryd.prog 68 #[.agg #[.int .i64 3,.bool b,.bool n,.string dd,.int .i64 e,.int .i64 tk,.int .i64 td,.int .i64 tn,.int .i64 tz,.string x,.slice ba 0 bc,.slice la 0 lc,.slice fa 0 fc],.int .i64 d,.pointer (some ⟨B,0,none⟩)] w (ChkOut (s + 1,0) B w):=by
 have HX:=Lib.hid (ext_any ⟨3,b,n,dd,e,tk,td,tn,tz,x,ba,0,bc,la,0,lc,fa,0,fc,bb,bo,lb,lo,fb,fo⟩ ⟨by show (0 : Int) <= 3;decide,by show (3 : Int) <= 7;decide⟩)
 rw [he] at HX
 simp only [Vh.cells] at HX
 clear he
 have HD:=Lib.hid (pmom_valid tk td tn tz)
 rw [hv] at HD
 clear hv
 have hBl:=hB.lt
 have hz0 : (w.setCell ⟨B,0,none⟩ (.int .i64 (s + 1))).heap.size = w.heap.size:=by simp [World.setCell]
 have P1:=Whole.new (w.setCell ⟨B,0,none⟩ (.int .i64 (s + 1))) 30 #[.int .i64 3,.bool b,.bool n,.string dd,.int .i64 e,.int .i64 tk,.int .i64 td,.int .i64 tn,.int .i64 tz,.string x,.slice ba 0 bc,.slice la 0 lc,.slice fa 0 fc]
 rw [hz0] at P1
 have B1:=(hB.s (.int .i64 (s + 1))).alloc (.cells #[.int .i64 3,.bool b,.bool n,.string dd,.int .i64 e,.int .i64 tk,.int .i64 td,.int .i64 tn,.int .i64 tz,.string x,.slice ba 0 bc,.slice la 0 lc,.slice fa 0 fc] 30)
 have K1 : Kept (· = B) w ((w.setCell ⟨B,0,none⟩ (.int .i64 (s + 1))).alloc (.cells #[.int .i64 3,.bool b,.bool n,.string dd,.int .i64 e,.int .i64 tk,.int .i64 td,.int .i64 tn,.int .i64 tz,.string x,.slice ba 0 bc,.slice la 0 lc,.slice fa 0 fc] 30)):=(Kept.setB w B (.int .i64 (s + 1))).then ((Below.refl _ _).alloc (Nat.le_refl _) _)
 have bc0:=hB.cell 0
 have bf0:=hB.frozen 0
 clear hz0
 simp only [List.getElem?_toArray,List.getElem?_cons_zero] at bc0
 have HTk:=Lib.hid (fun (w1 : World) (h : Kept (· = B) w w1) => Vt.In.below (h.below (Nat.le_of_lt (Nat.lt_of_le_of_lt ht hBl)) (fun c q e => by omega)) hT)
 have HKy:=Lib.hid (fun (w1 : World) (h : Kept (· = B) w w1) => show Calls Tryd.prog 79 #[.slice fa 0 fc] w1 fun r w' => r = .returned (.int .i64 (0)) /\ Below w1.heap.size w1 w' from vkeys_any (T:=(Vt.mk ⟨3,b,n,dd,e,tk,td,tn,tz,x,ba,0,bc,la,0,lc,fa,0,fc,bb,bo,lb,lo,fb,fo⟩ Y L K F)) (top:=top) (HTk.out w1 h) (by have:=h.size;omega))
 have hxi : (x.size : Int) <= 65536:=by omega
 clear HTk
 clear hT hB
 go_enter Tryd.func68,Tryd.ntmps68
 go_upto_region 2 with (fail)
 have hW : ∃ w1,(w.setCell ⟨B,0,none⟩ (.int .i64 (s + 1))).alloc (.cells #[.int .i64 3,.bool b,.bool n,.string dd,.int .i64 e,.int .i64 tk,.int .i64 td,.int .i64 tn,.int .i64 tz,.string x,.slice ba 0 bc,.slice la 0 lc,.slice fa 0 fc] 30) = w1:=⟨_,rfl⟩
 obtain ⟨w1,hw1⟩:=hW
 rw [hw1] at P1 B1 K1 ⊢
 clear hw1 bc0 bf0
 have bc1:=B1.cell 0
 simp only [List.getElem?_toArray,List.getElem?_cons_zero] at bc1
 obtain ⟨c0,c1,c2,c3,c4,c5,c6,c7,c8,c9,c10,c11,c12⟩:=Whole.c13 (h:=⟨3,b,n,dd,e,tk,td,tn,tz,x,ba,0,bc,la,0,lc,fa,0,fc,bb,bo,lb,lo,fb,fo⟩) P1
 go_wp2_with fail
 refine (HX.out _).mono ?_;rintro _ w2 ⟨rfl,hb2⟩
 have P2:=P1.below hb2 P1.lt
 have B2:=B1.below hb2 B1.lt
 have K2:=K1.then hb2
 clear c0 c1 c2 c3 c4 c5 c6 c7 c8 c9 c10 c11 c12 bc1 P1 B1 K1 hb2
 have bc2:=B2.cell 0
 simp only [List.getElem?_toArray,List.getElem?_cons_zero] at bc2
 obtain ⟨c0,c1,c2,c3,c4,c5,c6,c7,c8,c9,c10,c11,c12⟩:=Whole.c13 (h:=⟨3,b,n,dd,e,tk,td,tn,tz,x,ba,0,bc,la,0,lc,fa,0,fc,bb,bo,lb,lo,fb,fo⟩) P2
 go_wp2_with fail
 refine (HD.out _).mono ?_;rintro _ w3 ⟨rfl,hb3⟩
 have P3:=P2.below hb3 P2.lt
 have B3:=B2.below hb3 B2.lt
 have K3:=K2.then hb3
 clear c0 c1 c2 c3 c4 c5 c6 c7 c8 c9 c10 c11 c12 bc2 P2 B2 K2 hb3
 have bc3:=B3.cell 0
 simp only [List.getElem?_toArray,List.getElem?_cons_zero] at bc3
 obtain ⟨c0,c1,c2,c3,c4,c5,c6,c7,c8,c9,c10,c11,c12⟩:=Whole.c13 (h:=⟨3,b,n,dd,e,tk,td,tn,tz,x,ba,0,bc,la,0,lc,fa,0,fc,bb,bo,lb,lo,fb,fo⟩) P3
 go_wp2_with fail
 refine (HKy.out _ K3).mono ?_;rintro _ w4 ⟨rfl,hb4⟩
 have P4:=P3.below hb4 P3.lt
 have B4:=B3.below hb4 B3.lt
 have K4:=K3.then hb4
 clear c0 c1 c2 c3 c4 c5 c6 c7 c8 c9 c10 c11 c12 bc3 P3 B3 K3 hb4
 have bc4:=B4.cell 0
 simp only [List.getElem?_toArray,List.getElem?_cons_zero] at bc4
 obtain ⟨c0,c1,c2,c3,c4,c5,c6,c7,c8,c9,c10,c11,c12⟩:=Whole.c13 (h:=⟨3,b,n,dd,e,tk,td,tn,tz,x,ba,0,bc,la,0,lc,fa,0,fc,bb,bo,lb,lo,fb,fo⟩) P4
 go_wp2_with fail
 go_loopw [91] (fun i wr => i = .int .i64 0 /\ wr = w4) (fun _ _ => 0)
 case atStart => exact ⟨rfl,rfl⟩
 case round =>
  obtain ⟨rfl,rfl⟩:=hrel
  go_wp2_with fail
  go_loopw [107] (fun i wr' => i = .int .i64 0 /\ wr' = wr) (fun _ _ => 0)
  case atStart => exact ⟨rfl,rfl⟩
  case round =>
   obtain ⟨rfl,rfl⟩:=hrel
   go_wp2
   go_ret
   exact ⟨_,rfl,B4,fun _ => rfl,K4⟩
theorem chk4_bad {b n : Bool} {dd : ByteArray} {e tk td tn tz : Int} {x : ByteArray} {ba : Option Addr} {bc : Nat} {la : Option Addr} {lc : Nat} {fa : Option Addr} {fc bb bo lb lo fb fo : Nat} {Y : Nat -> Int} {L : Nat -> Vt} {K : Nat -> ByteArray} {F : Nat -> Vt} {d s : Int} {top B : Nat} {w : World} (hT : (Vt.mk ⟨4,b,n,dd,e,tk,td,tn,tz,x,ba,0,bc,la,0,lc,fa,0,fc,bb,bo,lb,lo,fb,fo⟩ Y L K F).In w top) (ht : top <= B) (hB : Whole w B 3 #[.int .i64 s]) (d0 : 0 <= d) (s0 : 0 <= s) (h : d <= 48) (s1 : s <= 65535) (he : Vh.ext ⟨4,b,n,dd,e,tk,td,tn,tz,x,ba,0,bc,la,0,lc,fa,0,fc,bb,bo,lb,lo,fb,fo⟩ = false) (hs : x.size <= 1048576) (hv : utfB x = false) :
 Calls Tryd.prog 68 #[.agg #[.int .i64 4,.bool b,.bool n,.string dd,.int .i64 e,.int .i64 tk,.int .i64 td,.int .i64 tn,.int .i64 tz,.string x,.slice ba 0 bc,.slice la 0 lc,.slice fa 0 fc],.int .i64 d,.pointer (some ⟨B,0,none⟩)] w (ChkOut (s,5) B w):=by
 have HX:=Lib.hid (ext_any ⟨4,b,n,dd,e,tk,td,tn,tz,x,ba,0,bc,la,0,lc,fa,0,fc,bb,bo,lb,lo,fb,fo⟩ ⟨by show (0 : Int) <= 4;decide,by show (4 : Int) <= 7;decide⟩)
 rw [he] at HX
 simp only [Vh.cells] at HX
 clear he
 have HU:=Lib.hid (putf_any hs)
 rw [hv] at HU
 clear hv
 have hx0 : (0 : Int) <= x.size:=by omega
 have hx1 : (x.size : Int) <= 1048576:=by omega
 have hBl:=hB.lt
 have hz0 : (w.setCell ⟨B,0,none⟩ (.int .i64 (s + 1))).heap.size = w.heap.size:=by simp [World.setCell]
 have P1:=Whole.new (w.setCell ⟨B,0,none⟩ (.int .i64 (s + 1))) 30 #[.int .i64 4,.bool b,.bool n,.string dd,.int .i64 e,.int .i64 tk,.int .i64 td,.int .i64 tn,.int .i64 tz,.string x,.slice ba 0 bc,.slice la 0 lc,.slice fa 0 fc]
 rw [hz0] at P1
 have B1:=(hB.s (.int .i64 (s + 1))).alloc (.cells #[.int .i64 4,.bool b,.bool n,.string dd,.int .i64 e,.int .i64 tk,.int .i64 td,.int .i64 tn,.int .i64 tz,.string x,.slice ba 0 bc,.slice la 0 lc,.slice fa 0 fc] 30)
 have K1 : Kept (· = B) w ((w.setCell ⟨B,0,none⟩ (.int .i64 (s + 1))).alloc (.cells #[.int .i64 4,.bool b,.bool n,.string dd,.int .i64 e,.int .i64 tk,.int .i64 td,.int .i64 tn,.int .i64 tz,.string x,.slice ba 0 bc,.slice la 0 lc,.slice fa 0 fc] 30)):=(Kept.setB w B (.int .i64 (s + 1))).then ((Below.refl _ _).alloc (Nat.le_refl _) _)
 have bc0:=hB.cell 0
 have bf0:=hB.frozen 0
 clear hz0
 simp only [List.getElem?_toArray,List.getElem?_cons_zero] at bc0
 have HTk:=Lib.hid (fun (w1 : World) (h : Kept (· = B) w w1) => Vt.In.below (h.below (Nat.le_of_lt (Nat.lt_of_le_of_lt ht hBl)) (fun c q e => by omega)) hT)
 clear HTk
 clear hT hB
 go_enter Tryd.func68,Tryd.ntmps68
 go_upto_region 2 with (fail)
 have hW : ∃ w1,(w.setCell ⟨B,0,none⟩ (.int .i64 (s + 1))).alloc (.cells #[.int .i64 4,.bool b,.bool n,.string dd,.int .i64 e,.int .i64 tk,.int .i64 td,.int .i64 tn,.int .i64 tz,.string x,.slice ba 0 bc,.slice la 0 lc,.slice fa 0 fc] 30) = w1:=⟨_,rfl⟩
 obtain ⟨w1,hw1⟩:=hW
 rw [hw1] at P1 B1 K1 ⊢
 clear hw1 bc0 bf0
 have bc1:=B1.cell 0
 simp only [List.getElem?_toArray,List.getElem?_cons_zero] at bc1
 obtain ⟨c0,c1,c2,c3,c4,c5,c6,c7,c8,c9,c10,c11,c12⟩:=Whole.c13 (h:=⟨4,b,n,dd,e,tk,td,tn,tz,x,ba,0,bc,la,0,lc,fa,0,fc,bb,bo,lb,lo,fb,fo⟩) P1
 go_wp2_with fail
 refine (HX.out _).mono ?_;rintro _ w2 ⟨rfl,hb2⟩
 have P2:=P1.below hb2 P1.lt
 have B2:=B1.below hb2 B1.lt
 have K2:=K1.then hb2
 clear c0 c1 c2 c3 c4 c5 c6 c7 c8 c9 c10 c11 c12 bc1 P1 B1 K1 hb2
 have bc2:=B2.cell 0
 simp only [List.getElem?_toArray,List.getElem?_cons_zero] at bc2
 obtain ⟨c0,c1,c2,c3,c4,c5,c6,c7,c8,c9,c10,c11,c12⟩:=Whole.c13 (h:=⟨4,b,n,dd,e,tk,td,tn,tz,x,ba,0,bc,la,0,lc,fa,0,fc,bb,bo,lb,lo,fb,fo⟩) P2
 go_wp2_with fail
 refine (HU.out _).mono ?_;rintro _ w3 ⟨rfl,rfl⟩
 go_wp2
 go_ret
 exact ⟨_,rfl,B2,fun q => absurd (show (5 : Int) = 0 from q) (by decide),K2⟩
theorem chk4_big {b n : Bool} {dd : ByteArray} {e tk td tn tz : Int} {x : ByteArray} {ba : Option Addr} {bc : Nat} {la : Option Addr} {lc : Nat} {fa : Option Addr} {fc bb bo lb lo fb fo : Nat} {Y : Nat -> Int} {L : Nat -> Vt} {K : Nat -> ByteArray} {F : Nat -> Vt} {d s : Int} {top B : Nat} {w : World} (hT : (Vt.mk ⟨4,b,n,dd,e,tk,td,tn,tz,x,ba,0,bc,la,0,lc,fa,0,fc,bb,bo,lb,lo,fb,fo⟩ Y L K F).In w top) (ht : top <= B) (hB : Whole w B 3 #[.int .i64 s]) (d0 : 0 <= d) (s0 : 0 <= s) (h : d <= 48) (s1 : s <= 65535) (he : Vh.ext ⟨4,b,n,dd,e,tk,td,tn,tz,x,ba,0,bc,la,0,lc,fa,0,fc,bb,bo,lb,lo,fb,fo⟩ = false) (hs : x.size <= 1048576) (hv : utfB x = true) (hx : 65536 < x.size) :
 Calls Tryd.prog 68 #[.agg #[.int .i64 4,.bool b,.bool n,.string dd,.int .i64 e,.int .i64 tk,.int .i64 td,.int .i64 tn,.int .i64 tz,.string x,.slice ba 0 bc,.slice la 0 lc,.slice fa 0 fc],.int .i64 d,.pointer (some ⟨B,0,none⟩)] w (ChkOut (s,10) B w):=by
 have HX:=Lib.hid (ext_any ⟨4,b,n,dd,e,tk,td,tn,tz,x,ba,0,bc,la,0,lc,fa,0,fc,bb,bo,lb,lo,fb,fo⟩ ⟨by show (0 : Int) <= 4;decide,by show (4 : Int) <= 7;decide⟩)
 rw [he] at HX
 simp only [Vh.cells] at HX
 clear he
 have HU:=Lib.hid (putf_any hs)
 rw [hv] at HU
 clear hv
 have hx0 : (0 : Int) <= x.size:=by omega
 have hx1 : (x.size : Int) <= 1048576:=by omega
 have hxi : (65536 : Int) < x.size:=by omega
 have hBl:=hB.lt
 have hz0 : (w.setCell ⟨B,0,none⟩ (.int .i64 (s + 1))).heap.size = w.heap.size:=by simp [World.setCell]
 have P1:=Whole.new (w.setCell ⟨B,0,none⟩ (.int .i64 (s + 1))) 30 #[.int .i64 4,.bool b,.bool n,.string dd,.int .i64 e,.int .i64 tk,.int .i64 td,.int .i64 tn,.int .i64 tz,.string x,.slice ba 0 bc,.slice la 0 lc,.slice fa 0 fc]
 rw [hz0] at P1
 have B1:=(hB.s (.int .i64 (s + 1))).alloc (.cells #[.int .i64 4,.bool b,.bool n,.string dd,.int .i64 e,.int .i64 tk,.int .i64 td,.int .i64 tn,.int .i64 tz,.string x,.slice ba 0 bc,.slice la 0 lc,.slice fa 0 fc] 30)
 have K1 : Kept (· = B) w ((w.setCell ⟨B,0,none⟩ (.int .i64 (s + 1))).alloc (.cells #[.int .i64 4,.bool b,.bool n,.string dd,.int .i64 e,.int .i64 tk,.int .i64 td,.int .i64 tn,.int .i64 tz,.string x,.slice ba 0 bc,.slice la 0 lc,.slice fa 0 fc] 30)):=(Kept.setB w B (.int .i64 (s + 1))).then ((Below.refl _ _).alloc (Nat.le_refl _) _)
 have bc0:=hB.cell 0
 have bf0:=hB.frozen 0
 clear hz0
 simp only [List.getElem?_toArray,List.getElem?_cons_zero] at bc0
 have HTk:=Lib.hid (fun (w1 : World) (h : Kept (· = B) w w1) => Vt.In.below (h.below (Nat.le_of_lt (Nat.lt_of_le_of_lt ht hBl)) (fun c q e => by omega)) hT)
 clear HTk
 clear hT hB
 go_enter Tryd.func68,Tryd.ntmps68
 go_upto_region 2 with (fail)
 have hW : ∃ w1,(w.setCell ⟨B,0,none⟩ (.int .i64 (s + 1))).alloc (.cells #[.int .i64 4,.bool b,.bool n,.string dd,.int .i64 e,.int .i64 tk,.int .i64 td,.int .i64 tn,.int .i64 tz,.string x,.slice ba 0 bc,.slice la 0 lc,.slice fa 0 fc] 30) = w1:=⟨_,rfl⟩
 obtain ⟨w1,hw1⟩:=hW
 rw [hw1] at P1 B1 K1 ⊢
 clear hw1 bc0 bf0
 have bc1:=B1.cell 0
 simp only [List.getElem?_toArray,List.getElem?_cons_zero] at bc1
 obtain ⟨c0,c1,c2,c3,c4,c5,c6,c7,c8,c9,c10,c11,c12⟩:=Whole.c13 (h:=⟨4,b,n,dd,e,tk,td,tn,tz,x,ba,0,bc,la,0,lc,fa,0,fc,bb,bo,lb,lo,fb,fo⟩) P1
 go_wp2_with fail
 refine (HX.out _).mono ?_;rintro _ w2 ⟨rfl,hb2⟩
 have P2:=P1.below hb2 P1.lt
 have B2:=B1.below hb2 B1.lt
 have K2:=K1.then hb2
 clear c0 c1 c2 c3 c4 c5 c6 c7 c8 c9 c10 c11 c12 bc1 P1 B1 K1 hb2
 have bc2:=B2.cell 0
 simp only [List.getElem?_toArray,List.getElem?_cons_zero] at bc2
 obtain ⟨c0,c1,c2,c3,c4,c5,c6,c7,c8,c9,c10,c11,c12⟩:=Whole.c13 (h:=⟨4,b,n,dd,e,tk,td,tn,tz,x,ba,0,bc,la,0,lc,fa,0,fc,bb,bo,lb,lo,fb,fo⟩) P2
 go_wp2_with fail
 refine (HU.out _).mono ?_;rintro _ w3 ⟨rfl,rfl⟩
 go_wp2
 go_ret
 exact ⟨_,rfl,B2,fun q => absurd (show (10 : Int) = 0 from q) (by decide),K2⟩
theorem chk4_ok {b n : Bool} {dd : ByteArray} {e tk td tn tz : Int} {x : ByteArray} {ba : Option Addr} {bc : Nat} {la : Option Addr} {lc : Nat} {fa : Option Addr} {fc bb bo lb lo fb fo : Nat} {Y : Nat -> Int} {L : Nat -> Vt} {K : Nat -> ByteArray} {F : Nat -> Vt} {d s : Int} {top B : Nat} {w : World} (hT : (Vt.mk ⟨4,b,n,dd,e,tk,td,tn,tz,x,ba,0,bc,la,0,lc,fa,0,fc,bb,bo,lb,lo,fb,fo⟩ Y L K F).In w top) (ht : top <= B) (hB : Whole w B 3 #[.int .i64 s]) (d0 : 0 <= d) (s0 : 0 <= s) (h : d <= 48) (s1 : s <= 65535) (he : Vh.ext ⟨4,b,n,dd,e,tk,td,tn,tz,x,ba,0,bc,la,0,lc,fa,0,fc,bb,bo,lb,lo,fb,fo⟩ = false) (hs : x.size <= 1048576) (hv : utfB x = true) (hx : x.size <= 65536) :
 Calls Tryd.prog 68 #[.agg #[.int .i64 4,.bool b,.bool n,.string dd,.int .i64 e,.int .i64 tk,.int .i64 td,.int .i64 tn,.int .i64 tz,.string x,.slice ba 0 bc,.slice la 0 lc,.slice fa 0 fc],.int .i64 d,.pointer (some ⟨B,0,none⟩)] w (ChkOut (s + 1,0) B w):=by
 have HX:=Lib.hid (ext_any ⟨4,b,n,dd,e,tk,td,tn,tz,x,ba,0,bc,la,0,lc,fa,0,fc,bb,bo,lb,lo,fb,fo⟩ ⟨by show (0 : Int) <= 4;decide,by show (4 : Int) <= 7;decide⟩)
 rw [he] at HX
 simp only [Vh.cells] at HX
 clear he
 have HU:=Lib.hid (putf_any hs)
 rw [hv] at HU
 clear hv
 have hx0 : (0 : Int) <= x.size:=by omega
 have hx1 : (x.size : Int) <= 1048576:=by omega
 have hBl:=hB.lt
 have hz0 : (w.setCell ⟨B,0,none⟩ (.int .i64 (s + 1))).heap.size = w.heap.size:=by simp [World.setCell]
 have P1:=Whole.new (w.setCell ⟨B,0,none⟩ (.int .i64 (s + 1))) 30 #[.int .i64 4,.bool b,.bool n,.string dd,.int .i64 e,.int .i64 tk,.int .i64 td,.int .i64 tn,.int .i64 tz,.string x,.slice ba 0 bc,.slice la 0 lc,.slice fa 0 fc]
 rw [hz0] at P1
 have B1:=(hB.s (.int .i64 (s + 1))).alloc (.cells #[.int .i64 4,.bool b,.bool n,.string dd,.int .i64 e,.int .i64 tk,.int .i64 td,.int .i64 tn,.int .i64 tz,.string x,.slice ba 0 bc,.slice la 0 lc,.slice fa 0 fc] 30)
 have K1 : Kept (· = B) w ((w.setCell ⟨B,0,none⟩ (.int .i64 (s + 1))).alloc (.cells #[.int .i64 4,.bool b,.bool n,.string dd,.int .i64 e,.int .i64 tk,.int .i64 td,.int .i64 tn,.int .i64 tz,.string x,.slice ba 0 bc,.slice la 0 lc,.slice fa 0 fc] 30)):=(Kept.setB w B (.int .i64 (s + 1))).then ((Below.refl _ _).alloc (Nat.le_refl _) _)
 have bc0:=hB.cell 0
 have bf0:=hB.frozen 0
 clear hz0
 simp only [List.getElem?_toArray,List.getElem?_cons_zero] at bc0
 have HTk:=Lib.hid (fun (w1 : World) (h : Kept (· = B) w w1) => Vt.In.below (h.below (Nat.le_of_lt (Nat.lt_of_le_of_lt ht hBl)) (fun c q e => by omega)) hT)
 have HKy:=Lib.hid (fun (w1 : World) (h : Kept (· = B) w w1) => show Calls Tryd.prog 79 #[.slice fa 0 fc] w1 fun r w' => r = .returned (.int .i64 (0)) /\ Below w1.heap.size w1 w' from vkeys_any (T:=(Vt.mk ⟨4,b,n,dd,e,tk,td,tn,tz,x,ba,0,bc,la,0,lc,fa,0,fc,bb,bo,lb,lo,fb,fo⟩ Y L K F)) (top:=top) (HTk.out w1 h) (by have:=h.size;omega))
 have hxi : (x.size : Int) <= 65536:=by omega
 clear HTk
 clear hT hB
 go_enter Tryd.func68,Tryd.ntmps68
 go_upto_region 2 with (fail)
 have hW : ∃ w1,(w.setCell ⟨B,0,none⟩ (.int .i64 (s + 1))).alloc (.cells #[.int .i64 4,.bool b,.bool n,.string dd,.int .i64 e,.int .i64 tk,.int .i64 td,.int .i64 tn,.int .i64 tz,.string x,.slice ba 0 bc,.slice la 0 lc,.slice fa 0 fc] 30) = w1:=⟨_,rfl⟩
 obtain ⟨w1,hw1⟩:=hW
 rw [hw1] at P1 B1 K1 ⊢
 clear hw1 bc0 bf0
 have bc1:=B1.cell 0
 simp only [List.getElem?_toArray,List.getElem?_cons_zero] at bc1
 obtain ⟨c0,c1,c2,c3,c4,c5,c6,c7,c8,c9,c10,c11,c12⟩:=Whole.c13 (h:=⟨4,b,n,dd,e,tk,td,tn,tz,x,ba,0,bc,la,0,lc,fa,0,fc,bb,bo,lb,lo,fb,fo⟩) P1
 go_wp2_with fail
 refine (HX.out _).mono ?_;rintro _ w2 ⟨rfl,hb2⟩
 have P2:=P1.below hb2 P1.lt
 have B2:=B1.below hb2 B1.lt
 have K2:=K1.then hb2
 clear c0 c1 c2 c3 c4 c5 c6 c7 c8 c9 c10 c11 c12 bc1 P1 B1 K1 hb2
 have bc2:=B2.cell 0
 simp only [List.getElem?_toArray,List.getElem?_cons_zero] at bc2
 obtain ⟨c0,c1,c2,c3,c4,c5,c6,c7,c8,c9,c10,c11,c12⟩:=Whole.c13 (h:=⟨4,b,n,dd,e,tk,td,tn,tz,x,ba,0,bc,la,0,lc,fa,0,fc,bb,bo,lb,lo,fb,fo⟩) P2
 go_wp2_with fail
 refine (HU.out _).mono ?_;rintro _ w3 ⟨rfl,rfl⟩
 go_wp2_with fail
 refine (HKy.out _ K2).mono ?_;rintro _ w3 ⟨rfl,hb3⟩
 have P3:=P2.below hb3 P2.lt
 have B3:=B2.below hb3 B2.lt
 have K3:=K2.then hb3
 clear c0 c1 c2 c3 c4 c5 c6 c7 c8 c9 c10 c11 c12 bc2 P2 B2 K2 hb3
 have bc3:=B3.cell 0
 simp only [List.getElem?_toArray,List.getElem?_cons_zero] at bc3
 obtain ⟨c0,c1,c2,c3,c4,c5,c6,c7,c8,c9,c10,c11,c12⟩:=Whole.c13 (h:=⟨4,b,n,dd,e,tk,td,tn,tz,x,ba,0,bc,la,0,lc,fa,0,fc,bb,bo,lb,lo,fb,fo⟩) P3
 go_wp2_with fail
 go_loopw [91] (fun i wr => i = .int .i64 0 /\ wr = w3) (fun _ _ => 0)
 case atStart => exact ⟨rfl,rfl⟩
 case round =>
  obtain ⟨rfl,rfl⟩:=hrel
  go_wp2_with fail
  go_loopw [107] (fun i wr' => i = .int .i64 0 /\ wr' = wr) (fun _ _ => 0)
  case atStart => exact ⟨rfl,rfl⟩
  case round =>
   obtain ⟨rfl,rfl⟩:=hrel
   go_wp2
   go_ret
   exact ⟨_,rfl,B3,fun _ => rfl,K3⟩
theorem chkP_big {k : Int} {b n : Bool} {dd : ByteArray} {e tk td tn tz : Int} {x : ByteArray} {ba : Option Addr} {bn bc : Nat} {la : Option Addr} {lc : Nat} {fa : Option Addr} {fc bb bo lb lo fb fo : Nat} {Y : Nat -> Int} {L : Nat -> Vt} {K : Nat -> ByteArray} {F : Nat -> Vt} {d s : Int} {top B : Nat} {w : World} (hT : (Vt.mk ⟨k,b,n,dd,e,tk,td,tn,tz,x,ba,bn,bc,la,0,lc,fa,0,fc,bb,bo,lb,lo,fb,fo⟩ Y L K F).In w top) (ht : top <= B) (hB : Whole w B 3 #[.int .i64 s]) (d0 : 0 <= d) (s0 : 0 <= s) (h : d <= 48) (s1 : s <= 65535) (he : Vh.ext ⟨k,b,n,dd,e,tk,td,tn,tz,x,ba,bn,bc,la,0,lc,fa,0,fc,bb,bo,lb,lo,fb,fo⟩ = false) (hk0 : 0 <= k) (hk7 : k <= 7) (q2 : (k == 2) = false) (q3 : (k == 3) = false) (q4 : (k == 4) = false) (hx : x.size <= 65536) (hy : 65536 < bn) (hy2 : bn <= 1048576) :
 Calls Tryd.prog 68 #[.agg #[.int .i64 k,.bool b,.bool n,.string dd,.int .i64 e,.int .i64 tk,.int .i64 td,.int .i64 tn,.int .i64 tz,.string x,.slice ba bn bc,.slice la 0 lc,.slice fa 0 fc],.int .i64 d,.pointer (some ⟨B,0,none⟩)] w (ChkOut (s,10) B w):=by
 have HX:=Lib.hid (ext_any ⟨k,b,n,dd,e,tk,td,tn,tz,x,ba,bn,bc,la,0,lc,fa,0,fc,bb,bo,lb,lo,fb,fo⟩ ⟨hk0,hk7⟩)
 rw [he] at HX
 simp only [Vh.cells] at HX
 clear he
 have hxi : (x.size : Int) <= 65536:=by omega
 have hyi : (65536 : Int) < bn:=by omega
 have hBl:=hB.lt
 have hz0 : (w.setCell ⟨B,0,none⟩ (.int .i64 (s + 1))).heap.size = w.heap.size:=by simp [World.setCell]
 have P1:=Whole.new (w.setCell ⟨B,0,none⟩ (.int .i64 (s + 1))) 30 #[.int .i64 k,.bool b,.bool n,.string dd,.int .i64 e,.int .i64 tk,.int .i64 td,.int .i64 tn,.int .i64 tz,.string x,.slice ba bn bc,.slice la 0 lc,.slice fa 0 fc]
 rw [hz0] at P1
 have B1:=(hB.s (.int .i64 (s + 1))).alloc (.cells #[.int .i64 k,.bool b,.bool n,.string dd,.int .i64 e,.int .i64 tk,.int .i64 td,.int .i64 tn,.int .i64 tz,.string x,.slice ba bn bc,.slice la 0 lc,.slice fa 0 fc] 30)
 have K1 : Kept (· = B) w ((w.setCell ⟨B,0,none⟩ (.int .i64 (s + 1))).alloc (.cells #[.int .i64 k,.bool b,.bool n,.string dd,.int .i64 e,.int .i64 tk,.int .i64 td,.int .i64 tn,.int .i64 tz,.string x,.slice ba bn bc,.slice la 0 lc,.slice fa 0 fc] 30)):=(Kept.setB w B (.int .i64 (s + 1))).then ((Below.refl _ _).alloc (Nat.le_refl _) _)
 have bc0:=hB.cell 0
 have bf0:=hB.frozen 0
 clear hz0
 simp only [List.getElem?_toArray,List.getElem?_cons_zero] at bc0
 have HTk:=Lib.hid (fun (w1 : World) (h : Kept (· = B) w w1) => Vt.In.below (h.below (Nat.le_of_lt (Nat.lt_of_le_of_lt ht hBl)) (fun c q e => by omega)) hT)
 clear HTk
 clear hT hB
 go_enter Tryd.func68,Tryd.ntmps68
 go_upto_region 2 with (fail)
 have hW : ∃ w1,(w.setCell ⟨B,0,none⟩ (.int .i64 (s + 1))).alloc (.cells #[.int .i64 k,.bool b,.bool n,.string dd,.int .i64 e,.int .i64 tk,.int .i64 td,.int .i64 tn,.int .i64 tz,.string x,.slice ba bn bc,.slice la 0 lc,.slice fa 0 fc] 30) = w1:=⟨_,rfl⟩
 obtain ⟨w1,hw1⟩:=hW
 rw [hw1] at P1 B1 K1 ⊢
 clear hw1 bc0 bf0
 have bc1:=B1.cell 0
 simp only [List.getElem?_toArray,List.getElem?_cons_zero] at bc1
 obtain ⟨c0,c1,c2,c3,c4,c5,c6,c7,c8,c9,c10,c11,c12⟩:=Whole.c13 (h:=⟨k,b,n,dd,e,tk,td,tn,tz,x,ba,bn,bc,la,0,lc,fa,0,fc,bb,bo,lb,lo,fb,fo⟩) P1
 go_wp2_with fail
 refine (HX.out _).mono ?_;rintro _ w2 ⟨rfl,hb2⟩
 have P2:=P1.below hb2 P1.lt
 have B2:=B1.below hb2 B1.lt
 have K2:=K1.then hb2
 clear c0 c1 c2 c3 c4 c5 c6 c7 c8 c9 c10 c11 c12 bc1 P1 B1 K1 hb2
 have bc2:=B2.cell 0
 simp only [List.getElem?_toArray,List.getElem?_cons_zero] at bc2
 obtain ⟨c0,c1,c2,c3,c4,c5,c6,c7,c8,c9,c10,c11,c12⟩:=Whole.c13 (h:=⟨k,b,n,dd,e,tk,td,tn,tz,x,ba,bn,bc,la,0,lc,fa,0,fc,bb,bo,lb,lo,fb,fo⟩) P2
 go_wp2
 go_ret
 exact ⟨_,rfl,B2,fun q => absurd (show (10 : Int) = 0 from q) (by decide),K2⟩
theorem chkP_ok {k : Int} {b n : Bool} {dd : ByteArray} {e tk td tn tz : Int} {x : ByteArray} {ba : Option Addr} {bn bc : Nat} {la : Option Addr} {lc : Nat} {fa : Option Addr} {fc bb bo lb lo fb fo : Nat} {Y : Nat -> Int} {L : Nat -> Vt} {K : Nat -> ByteArray} {F : Nat -> Vt} {d s : Int} {top B : Nat} {w : World} (hT : (Vt.mk ⟨k,b,n,dd,e,tk,td,tn,tz,x,ba,bn,bc,la,0,lc,fa,0,fc,bb,bo,lb,lo,fb,fo⟩ Y L K F).In w top) (ht : top <= B) (hB : Whole w B 3 #[.int .i64 s]) (d0 : 0 <= d) (s0 : 0 <= s) (h : d <= 48) (s1 : s <= 65535) (he : Vh.ext ⟨k,b,n,dd,e,tk,td,tn,tz,x,ba,bn,bc,la,0,lc,fa,0,fc,bb,bo,lb,lo,fb,fo⟩ = false) (hk0 : 0 <= k) (hk7 : k <= 7) (q2 : (k == 2) = false) (q3 : (k == 3) = false) (q4 : (k == 4) = false) (hx : x.size <= 65536) (hy : bn <= 65536) :
 Calls Tryd.prog 68 #[.agg #[.int .i64 k,.bool b,.bool n,.string dd,.int .i64 e,.int .i64 tk,.int .i64 td,.int .i64 tn,.int .i64 tz,.string x,.slice ba bn bc,.slice la 0 lc,.slice fa 0 fc],.int .i64 d,.pointer (some ⟨B,0,none⟩)] w (ChkOut (s + 1,0) B w):=by
 have HX:=Lib.hid (ext_any ⟨k,b,n,dd,e,tk,td,tn,tz,x,ba,bn,bc,la,0,lc,fa,0,fc,bb,bo,lb,lo,fb,fo⟩ ⟨hk0,hk7⟩)
 rw [he] at HX
 simp only [Vh.cells] at HX
 clear he
 have hxi : (x.size : Int) <= 65536:=by omega
 have hyi : (bn : Int) <= 65536:=by omega
 have hBl:=hB.lt
 have hz0 : (w.setCell ⟨B,0,none⟩ (.int .i64 (s + 1))).heap.size = w.heap.size:=by simp [World.setCell]
 have P1:=Whole.new (w.setCell ⟨B,0,none⟩ (.int .i64 (s + 1))) 30 #[.int .i64 k,.bool b,.bool n,.string dd,.int .i64 e,.int .i64 tk,.int .i64 td,.int .i64 tn,.int .i64 tz,.string x,.slice ba bn bc,.slice la 0 lc,.slice fa 0 fc]
 rw [hz0] at P1
 have B1:=(hB.s (.int .i64 (s + 1))).alloc (.cells #[.int .i64 k,.bool b,.bool n,.string dd,.int .i64 e,.int .i64 tk,.int .i64 td,.int .i64 tn,.int .i64 tz,.string x,.slice ba bn bc,.slice la 0 lc,.slice fa 0 fc] 30)
 have K1 : Kept (· = B) w ((w.setCell ⟨B,0,none⟩ (.int .i64 (s + 1))).alloc (.cells #[.int .i64 k,.bool b,.bool n,.string dd,.int .i64 e,.int .i64 tk,.int .i64 td,.int .i64 tn,.int .i64 tz,.string x,.slice ba bn bc,.slice la 0 lc,.slice fa 0 fc] 30)):=(Kept.setB w B (.int .i64 (s + 1))).then ((Below.refl _ _).alloc (Nat.le_refl _) _)
 have bc0:=hB.cell 0
 have bf0:=hB.frozen 0
 clear hz0
 simp only [List.getElem?_toArray,List.getElem?_cons_zero] at bc0
 have HTk:=Lib.hid (fun (w1 : World) (h : Kept (· = B) w w1) => Vt.In.below (h.below (Nat.le_of_lt (Nat.lt_of_le_of_lt ht hBl)) (fun c q e => by omega)) hT)
 have HKy:=Lib.hid (fun (w1 : World) (h : Kept (· = B) w w1) => show Calls Tryd.prog 79 #[.slice fa 0 fc] w1 fun r w' => r = .returned (.int .i64 (0)) /\ Below w1.heap.size w1 w' from vkeys_any (T:=(Vt.mk ⟨k,b,n,dd,e,tk,td,tn,tz,x,ba,bn,bc,la,0,lc,fa,0,fc,bb,bo,lb,lo,fb,fo⟩ Y L K F)) (top:=top) (HTk.out w1 h) (by have:=h.size;omega))
 clear HTk
 clear hT hB
 go_enter Tryd.func68,Tryd.ntmps68
 go_upto_region 2 with (fail)
 have hW : ∃ w1,(w.setCell ⟨B,0,none⟩ (.int .i64 (s + 1))).alloc (.cells #[.int .i64 k,.bool b,.bool n,.string dd,.int .i64 e,.int .i64 tk,.int .i64 td,.int .i64 tn,.int .i64 tz,.string x,.slice ba bn bc,.slice la 0 lc,.slice fa 0 fc] 30) = w1:=⟨_,rfl⟩
 obtain ⟨w1,hw1⟩:=hW
 rw [hw1] at P1 B1 K1 ⊢
 clear hw1 bc0 bf0
 have bc1:=B1.cell 0
 simp only [List.getElem?_toArray,List.getElem?_cons_zero] at bc1
 obtain ⟨c0,c1,c2,c3,c4,c5,c6,c7,c8,c9,c10,c11,c12⟩:=Whole.c13 (h:=⟨k,b,n,dd,e,tk,td,tn,tz,x,ba,bn,bc,la,0,lc,fa,0,fc,bb,bo,lb,lo,fb,fo⟩) P1
 go_wp2_with fail
 refine (HX.out _).mono ?_;rintro _ w2 ⟨rfl,hb2⟩
 have P2:=P1.below hb2 P1.lt
 have B2:=B1.below hb2 B1.lt
 have K2:=K1.then hb2
 clear c0 c1 c2 c3 c4 c5 c6 c7 c8 c9 c10 c11 c12 bc1 P1 B1 K1 hb2
 have bc2:=B2.cell 0
 simp only [List.getElem?_toArray,List.getElem?_cons_zero] at bc2
 obtain ⟨c0,c1,c2,c3,c4,c5,c6,c7,c8,c9,c10,c11,c12⟩:=Whole.c13 (h:=⟨k,b,n,dd,e,tk,td,tn,tz,x,ba,bn,bc,la,0,lc,fa,0,fc,bb,bo,lb,lo,fb,fo⟩) P2
 go_wp2_with fail
 refine (HKy.out _ K2).mono ?_;rintro _ w3 ⟨rfl,hb3⟩
 have P3:=P2.below hb3 P2.lt
 have B3:=B2.below hb3 B2.lt
 have K3:=K2.then hb3
 clear c0 c1 c2 c3 c4 c5 c6 c7 c8 c9 c10 c11 c12 bc2 P2 B2 K2 hb3
 have bc3:=B3.cell 0
 simp only [List.getElem?_toArray,List.getElem?_cons_zero] at bc3
 obtain ⟨c0,c1,c2,c3,c4,c5,c6,c7,c8,c9,c10,c11,c12⟩:=Whole.c13 (h:=⟨k,b,n,dd,e,tk,td,tn,tz,x,ba,bn,bc,la,0,lc,fa,0,fc,bb,bo,lb,lo,fb,fo⟩) P3
 go_wp2_with fail
 go_loopw [91] (fun i wr => i = .int .i64 0 /\ wr = w3) (fun _ _ => 0)
 case atStart => exact ⟨rfl,rfl⟩
 case round =>
  obtain ⟨rfl,rfl⟩:=hrel
  go_wp2_with fail
  go_loopw [107] (fun i wr' => i = .int .i64 0 /\ wr' = wr) (fun _ _ => 0)
  case atStart => exact ⟨rfl,rfl⟩
  case round =>
   obtain ⟨rfl,rfl⟩:=hrel
   go_wp2
   go_ret
   exact ⟨_,rfl,B3,fun _ => rfl,K3⟩
end Go.Proofs.YtpcbhneaaibfiaaDoor
