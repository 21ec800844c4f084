/- Laid together. -/
import Derived.Test.YtpcbhneaaibfiaaDoorPB12
import Derived.Test.YtpcbhneaaibfiaaDoorPB07
import Derived.Test.YtpcbhneaaibfiaaDoorPB08
import Derived.Deep.Cut
import Derived.Deep.DeepCutAuto
import Derived.Test.YtpcbhneaaibfiaaDoorPB06
import Derived.Test.YtpcbhneaaibfiaaDoorShelf
set_option linter.unusedVariables false
set_option linter.unusedSimpArgs false
set_option maxHeartbeats 16000000
set_option maxRecDepth 100000
namespace Go.Proofs.YtpcbhneaaibfiaaDoor
open Go.RowKit
def ChkOut (R : Int × Int) (B : Nat) (w : World) (r : Ending) (w' : World) : Prop :=
 ∃ s' : Int,r = .returned (.int .i64 R.2) /\ Whole w' B 3 #[.int .i64 s'] /\ (R.2 = 0 -> s' = R.1) /\ Kept (· = B) w w'
def ChkIs (T : Vt) : Prop:=∀ (d s : Int) (top B : Nat) (w : World),T.In w top -> top <= B -> Whole w B 3 #[.int .i64 s] -> 0 <= d -> d <= 49 -> 0 <= s -> s <= 65536 ->
 Calls Tryd.prog 68 #[.agg T.h.cells,.int .i64 d,.pointer (some ⟨B,0,none⟩)] w (ChkOut (T.look d s) B w)
theorem Kept.setB (W : World) (B : Nat) (u : Value) : Kept (· = B) W (W.setCell ⟨B,0,none⟩ u):=⟨rfl,rfl,rfl,by simp [World.setCell],fun k _ hk => Below.heap_setCell _ _ _ _ hk⟩
theorem Kept.then {b : Nat} {A B C : World} (h : Kept (· = b) A B) (k : Below B.heap.size B C) : Kept (· = b) A C:=h.trans ((Kept.of k).more (O':=(· = b)) (O:=(· = b)) (fun _ q => q)) (fun _ q => .inl q)
theorem Whole.keptB {O : Nat -> Prop} {W W' : World} {b : Nat} {t : TypeId} {cs : Array Value} (P : Whole W b t cs) (hk : Kept O W W') (hn : ¬ O b) : Whole W' b t cs:=(hk.block b P.lt hn).trans P
theorem chk_deep {k : Int} {b n : Bool} {dd : ByteArray} {e tk td tn tz : Int} {x : ByteArray} {ba : Option Addr} {bn bc : Nat} {la : Option Addr} {ln lc : Nat} {fa : Option Addr} {fn fc bb bo lb lo fb fo : Nat} {Y : Nat -> Int} {L : Nat -> Vt} {K : Nat -> ByteArray} {F : Nat -> Vt} {d s : Int} {top B : Nat} {w : World} (hT : (Vt.mk ⟨k,b,n,dd,e,tk,td,tn,tz,x,ba,bn,bc,la,ln,lc,fa,fn,fc,bb,bo,lb,lo,fb,fo⟩ Y L K F).In w top) (ht : top <= B) (hB : Whole w B 3 #[.int .i64 s]) (d0 : 0 <= d) (s0 : 0 <= s) (h : 48 < d) (s1 : s <= 65536) :
 Calls Tryd.prog 68 #[.agg #[.int .i64 k,.bool b,.bool n,.string dd,.int .i64 e,.int .i64 tk,.int .i64 td,.int .i64 tn,.int .i64 tz,.string x,.slice ba bn bc,.slice la ln lc,.slice fa fn fc],.int .i64 d,.pointer (some ⟨B,0,none⟩)] w (ChkOut (s,9) B w):=by
 have hBl:=hB.lt
 have hz0 : (w.setCell ⟨B,0,none⟩ (.int .i64 (s + 1))).heap.size = w.heap.size:=by simp [World.setCell]
 have P1:=Whole.new (w.setCell ⟨B,0,none⟩ (.int .i64 (s + 1))) 30 #[.int .i64 k,.bool b,.bool n,.string dd,.int .i64 e,.int .i64 tk,.int .i64 td,.int .i64 tn,.int .i64 tz,.string x,.slice ba bn bc,.slice la ln lc,.slice fa fn fc]
 rw [hz0] at P1
 have B1:=(hB.s (.int .i64 (s + 1))).alloc (.cells #[.int .i64 k,.bool b,.bool n,.string dd,.int .i64 e,.int .i64 tk,.int .i64 td,.int .i64 tn,.int .i64 tz,.string x,.slice ba bn bc,.slice la ln lc,.slice fa fn fc] 30)
 have K1 : Kept (· = B) w ((w.setCell ⟨B,0,none⟩ (.int .i64 (s + 1))).alloc (.cells #[.int .i64 k,.bool b,.bool n,.string dd,.int .i64 e,.int .i64 tk,.int .i64 td,.int .i64 tn,.int .i64 tz,.string x,.slice ba bn bc,.slice la ln lc,.slice fa fn fc] 30)):=(Kept.setB w B (.int .i64 (s + 1))).then ((Below.refl _ _).alloc (Nat.le_refl _) _)
 have bc0:=hB.cell 0
 have bf0:=hB.frozen 0
 clear hz0
 simp only [List.getElem?_toArray,List.getElem?_cons_zero] at bc0
 have HTk:=Lib.hid (fun (w1 : World) (h : Kept (· = B) w w1) => Vt.In.below (h.below (Nat.le_of_lt (Nat.lt_of_le_of_lt ht hBl)) (fun c q e => by omega)) hT)
 clear HTk
 clear hT hB
 go_enter Tryd.func68,Tryd.ntmps68
 go_upto_region 2 with (fail)
 have hW : ∃ w1,(w.setCell ⟨B,0,none⟩ (.int .i64 (s + 1))).alloc (.cells #[.int .i64 k,.bool b,.bool n,.string dd,.int .i64 e,.int .i64 tk,.int .i64 td,.int .i64 tn,.int .i64 tz,.string x,.slice ba bn bc,.slice la ln lc,.slice fa fn fc] 30) = w1:=⟨_,rfl⟩
 obtain ⟨w1,hw1⟩:=hW
 rw [hw1] at P1 B1 K1 ⊢
 clear hw1 bc0 bf0
 have bc1:=B1.cell 0
 simp only [List.getElem?_toArray,List.getElem?_cons_zero] at bc1
 obtain ⟨c0,c1,c2,c3,c4,c5,c6,c7,c8,c9,c10,c11,c12⟩:=Whole.c13 (h:=⟨k,b,n,dd,e,tk,td,tn,tz,x,ba,bn,bc,la,ln,lc,fa,fn,fc,bb,bo,lb,lo,fb,fo⟩) P1
 go_wp2
 go_ret
 exact ⟨_,rfl,B1,fun q => absurd (show (9 : Int) = 0 from q) (by decide),K1⟩
theorem chk_many {k : Int} {b n : Bool} {dd : ByteArray} {e tk td tn tz : Int} {x : ByteArray} {ba : Option Addr} {bn bc : Nat} {la : Option Addr} {ln lc : Nat} {fa : Option Addr} {fn fc bb bo lb lo fb fo : Nat} {Y : Nat -> Int} {L : Nat -> Vt} {K : Nat -> ByteArray} {F : Nat -> Vt} {d s : Int} {top B : Nat} {w : World} (hT : (Vt.mk ⟨k,b,n,dd,e,tk,td,tn,tz,x,ba,bn,bc,la,ln,lc,fa,fn,fc,bb,bo,lb,lo,fb,fo⟩ Y L K F).In w top) (ht : top <= B) (hB : Whole w B 3 #[.int .i64 s]) (d0 : 0 <= d) (s0 : 0 <= s) (h : d <= 48) (s2 : 65536 <= s) (s1 : s <= 65536) :
 Calls Tryd.prog 68 #[.agg #[.int .i64 k,.bool b,.bool n,.string dd,.int .i64 e,.int .i64 tk,.int .i64 td,.int .i64 tn,.int .i64 tz,.string x,.slice ba bn bc,.slice la ln lc,.slice fa fn fc],.int .i64 d,.pointer (some ⟨B,0,none⟩)] w (ChkOut (s,10) B w):=by
 have hBl:=hB.lt
 have hz0 : (w.setCell ⟨B,0,none⟩ (.int .i64 (s + 1))).heap.size = w.heap.size:=by simp [World.setCell]
 have P1:=Whole.new (w.setCell ⟨B,0,none⟩ (.int .i64 (s + 1))) 30 #[.int .i64 k,.bool b,.bool n,.string dd,.int .i64 e,.int .i64 tk,.int .i64 td,.int .i64 tn,.int .i64 tz,.string x,.slice ba bn bc,.slice la ln lc,.slice fa fn fc]
 rw [hz0] at P1
 have B1:=(hB.s (.int .i64 (s + 1))).alloc (.cells #[.int .i64 k,.bool b,.bool n,.string dd,.int .i64 e,.int .i64 tk,.int .i64 td,.int .i64 tn,.int .i64 tz,.string x,.slice ba bn bc,.slice la ln lc,.slice fa fn fc] 30)
 have K1 : Kept (· = B) w ((w.setCell ⟨B,0,none⟩ (.int .i64 (s + 1))).alloc (.cells #[.int .i64 k,.bool b,.bool n,.string dd,.int .i64 e,.int .i64 tk,.int .i64 td,.int .i64 tn,.int .i64 tz,.string x,.slice ba bn bc,.slice la ln lc,.slice fa fn fc] 30)):=(Kept.setB w B (.int .i64 (s + 1))).then ((Below.refl _ _).alloc (Nat.le_refl _) _)
 have bc0:=hB.cell 0
 have bf0:=hB.frozen 0
 clear hz0
 simp only [List.getElem?_toArray,List.getElem?_cons_zero] at bc0
 have HTk:=Lib.hid (fun (w1 : World) (h : Kept (· = B) w w1) => Vt.In.below (h.below (Nat.le_of_lt (Nat.lt_of_le_of_lt ht hBl)) (fun c q e => by omega)) hT)
 clear HTk
 clear hT hB
 go_enter Tryd.func68,Tryd.ntmps68
 go_upto_region 2 with (fail)
 have hW : ∃ w1,(w.setCell ⟨B,0,none⟩ (.int .i64 (s + 1))).alloc (.cells #[.int .i64 k,.bool b,.bool n,.string dd,.int .i64 e,.int .i64 tk,.int .i64 td,.int .i64 tn,.int .i64 tz,.string x,.slice ba bn bc,.slice la ln lc,.slice fa fn fc] 30) = w1:=⟨_,rfl⟩
 obtain ⟨w1,hw1⟩:=hW
 rw [hw1] at P1 B1 K1 ⊢
 clear hw1 bc0 bf0
 have bc1:=B1.cell 0
 simp only [List.getElem?_toArray,List.getElem?_cons_zero] at bc1
 obtain ⟨c0,c1,c2,c3,c4,c5,c6,c7,c8,c9,c10,c11,c12⟩:=Whole.c13 (h:=⟨k,b,n,dd,e,tk,td,tn,tz,x,ba,bn,bc,la,ln,lc,fa,fn,fc,bb,bo,lb,lo,fb,fo⟩) P1
 go_wp2
 go_ret
 exact ⟨_,rfl,B1,fun q => absurd (show (10 : Int) = 0 from q) (by decide),K1⟩
theorem chk_low {k : Int} {b n : Bool} {dd : ByteArray} {e tk td tn tz : Int} {x : ByteArray} {ba : Option Addr} {bn bc : Nat} {la : Option Addr} {ln lc : Nat} {fa : Option Addr} {fn fc bb bo lb lo fb fo : Nat} {Y : Nat -> Int} {L : Nat -> Vt} {K : Nat -> ByteArray} {F : Nat -> Vt} {d s : Int} {top B : Nat} {w : World} (hT : (Vt.mk ⟨k,b,n,dd,e,tk,td,tn,tz,x,ba,bn,bc,la,ln,lc,fa,fn,fc,bb,bo,lb,lo,fb,fo⟩ Y L K F).In w top) (ht : top <= B) (hB : Whole w B 3 #[.int .i64 s]) (d0 : 0 <= d) (s0 : 0 <= s) (h : d <= 48) (s1 : s <= 65535) (hk : k < 0) :
 Calls Tryd.prog 68 #[.agg #[.int .i64 k,.bool b,.bool n,.string dd,.int .i64 e,.int .i64 tk,.int .i64 td,.int .i64 tn,.int .i64 tz,.string x,.slice ba bn bc,.slice la ln lc,.slice fa fn fc],.int .i64 d,.pointer (some ⟨B,0,none⟩)] w (ChkOut (s,6) B w):=by
 have hBl:=hB.lt
 have hz0 : (w.setCell ⟨B,0,none⟩ (.int .i64 (s + 1))).heap.size = w.heap.size:=by simp [World.setCell]
 have P1:=Whole.new (w.setCell ⟨B,0,none⟩ (.int .i64 (s + 1))) 30 #[.int .i64 k,.bool b,.bool n,.string dd,.int .i64 e,.int .i64 tk,.int .i64 td,.int .i64 tn,.int .i64 tz,.string x,.slice ba bn bc,.slice la ln lc,.slice fa fn fc]
 rw [hz0] at P1
 have B1:=(hB.s (.int .i64 (s + 1))).alloc (.cells #[.int .i64 k,.bool b,.bool n,.string dd,.int .i64 e,.int .i64 tk,.int .i64 td,.int .i64 tn,.int .i64 tz,.string x,.slice ba bn bc,.slice la ln lc,.slice fa fn fc] 30)
 have K1 : Kept (· = B) w ((w.setCell ⟨B,0,none⟩ (.int .i64 (s + 1))).alloc (.cells #[.int .i64 k,.bool b,.bool n,.string dd,.int .i64 e,.int .i64 tk,.int .i64 td,.int .i64 tn,.int .i64 tz,.string x,.slice ba bn bc,.slice la ln lc,.slice fa fn fc] 30)):=(Kept.setB w B (.int .i64 (s + 1))).then ((Below.refl _ _).alloc (Nat.le_refl _) _)
 have bc0:=hB.cell 0
 have bf0:=hB.frozen 0
 clear hz0
 simp only [List.getElem?_toArray,List.getElem?_cons_zero] at bc0
 have HTk:=Lib.hid (fun (w1 : World) (h : Kept (· = B) w w1) => Vt.In.below (h.below (Nat.le_of_lt (Nat.lt_of_le_of_lt ht hBl)) (fun c q e => by omega)) hT)
 clear HTk
 clear hT hB
 go_enter Tryd.func68,Tryd.ntmps68
 go_upto_region 2 with (fail)
 have hW : ∃ w1,(w.setCell ⟨B,0,none⟩ (.int .i64 (s + 1))).alloc (.cells #[.int .i64 k,.bool b,.bool n,.string dd,.int .i64 e,.int .i64 tk,.int .i64 td,.int .i64 tn,.int .i64 tz,.string x,.slice ba bn bc,.slice la ln lc,.slice fa fn fc] 30) = w1:=⟨_,rfl⟩
 obtain ⟨w1,hw1⟩:=hW
 rw [hw1] at P1 B1 K1 ⊢
 clear hw1 bc0 bf0
 have bc1:=B1.cell 0
 simp only [List.getElem?_toArray,List.getElem?_cons_zero] at bc1
 obtain ⟨c0,c1,c2,c3,c4,c5,c6,c7,c8,c9,c10,c11,c12⟩:=Whole.c13 (h:=⟨k,b,n,dd,e,tk,td,tn,tz,x,ba,bn,bc,la,ln,lc,fa,fn,fc,bb,bo,lb,lo,fb,fo⟩) P1
 go_wp2
 go_ret
 exact ⟨_,rfl,B1,fun q => absurd (show (6 : Int) = 0 from q) (by decide),K1⟩
theorem chk_high {k : Int} {b n : Bool} {dd : ByteArray} {e tk td tn tz : Int} {x : ByteArray} {ba : Option Addr} {bn bc : Nat} {la : Option Addr} {ln lc : Nat} {fa : Option Addr} {fn fc bb bo lb lo fb fo : Nat} {Y : Nat -> Int} {L : Nat -> Vt} {K : Nat -> ByteArray} {F : Nat -> Vt} {d s : Int} {top B : Nat} {w : World} (hT : (Vt.mk ⟨k,b,n,dd,e,tk,td,tn,tz,x,ba,bn,bc,la,ln,lc,fa,fn,fc,bb,bo,lb,lo,fb,fo⟩ Y L K F).In w top) (ht : top <= B) (hB : Whole w B 3 #[.int .i64 s]) (d0 : 0 <= d) (s0 : 0 <= s) (h : d <= 48) (s1 : s <= 65535) (hk : 7 < k) :
 Calls Tryd.prog 68 #[.agg #[.int .i64 k,.bool b,.bool n,.string dd,.int .i64 e,.int .i64 tk,.int .i64 td,.int .i64 tn,.int .i64 tz,.string x,.slice ba bn bc,.slice la ln lc,.slice fa fn fc],.int .i64 d,.pointer (some ⟨B,0,none⟩)] w (ChkOut (s,6) B w):=by
 have hBl:=hB.lt
 have hz0 : (w.setCell ⟨B,0,none⟩ (.int .i64 (s + 1))).heap.size = w.heap.size:=by simp [World.setCell]
 have P1:=Whole.new (w.setCell ⟨B,0,none⟩ (.int .i64 (s + 1))) 30 #[.int .i64 k,.bool b,.bool n,.string dd,.int .i64 e,.int .i64 tk,.int .i64 td,.int .i64 tn,.int .i64 tz,.string x,.slice ba bn bc,.slice la ln lc,.slice fa fn fc]
 rw [hz0] at P1
 have B1:=(hB.s (.int .i64 (s + 1))).alloc (.cells #[.int .i64 k,.bool b,.bool n,.string dd,.int .i64 e,.int .i64 tk,.int .i64 td,.int .i64 tn,.int .i64 tz,.string x,.slice ba bn bc,.slice la ln lc,.slice fa fn fc] 30)
 have K1 : Kept (· = B) w ((w.setCell ⟨B,0,none⟩ (.int .i64 (s + 1))).alloc (.cells #[.int .i64 k,.bool b,.bool n,.string dd,.int .i64 e,.int .i64 tk,.int .i64 td,.int .i64 tn,.int .i64 tz,.string x,.slice ba bn bc,.slice la ln lc,.slice fa fn fc] 30)):=(Kept.setB w B (.int .i64 (s + 1))).then ((Below.refl _ _).alloc (Nat.le_refl _) _)
 have bc0:=hB.cell 0
 have bf0:=hB.frozen 0
 clear hz0
 simp only [List.getElem?_toArray,List.getElem?_cons_zero] at bc0
 have HTk:=Lib.hid (fun (w1 : World) (h : Kept (· = B) w w1) => Vt.In.below (h.below (Nat.le_of_lt (Nat.lt_of_le_of_lt ht hBl)) (fun c q e => by omega)) hT)
 clear HTk
 clear hT hB
 go_enter Tryd.func68,Tryd.ntmps68
 go_upto_region 2 with (fail)
 have hW : ∃ w1,(w.setCell ⟨B,0,none⟩ (.int .i64 (s + 1))).alloc (.cells #[.int .i64 k,.bool b,.bool n,.string dd,.int .i64 e,.int .i64 tk,.int .i64 td,.int .i64 tn,.int .i64 tz,.string x,.slice ba bn bc,.slice la ln lc,.slice fa fn fc] 30) = w1:=⟨_,rfl⟩
 obtain ⟨w1,hw1⟩:=hW
 rw [hw1] at P1 B1 K1 ⊢
 clear hw1 bc0 bf0
 have bc1:=B1.cell 0
 simp only [List.getElem?_toArray,List.getElem?_cons_zero] at bc1
 obtain ⟨c0,c1,c2,c3,c4,c5,c6,c7,c8,c9,c10,c11,c12⟩:=Whole.c13 (h:=⟨k,b,n,dd,e,tk,td,tn,tz,x,ba,bn,bc,la,ln,lc,fa,fn,fc,bb,bo,lb,lo,fb,fo⟩) P1
 go_wp2
 go_ret
 exact ⟨_,rfl,B1,fun q => absurd (show (6 : Int) = 0 from q) (by decide),K1⟩
theorem chk_ext {k : Int} {b n : Bool} {dd : ByteArray} {e tk td tn tz : Int} {x : ByteArray} {ba : Option Addr} {bn bc : Nat} {la : Option Addr} {ln lc : Nat} {fa : Option Addr} {fn fc bb bo lb lo fb fo : Nat} {Y : Nat -> Int} {L : Nat -> Vt} {K : Nat -> ByteArray} {F : Nat -> Vt} {d s : Int} {top B : Nat} {w : World} (hT : (Vt.mk ⟨k,b,n,dd,e,tk,td,tn,tz,x,ba,bn,bc,la,ln,lc,fa,fn,fc,bb,bo,lb,lo,fb,fo⟩ Y L K F).In w top) (ht : top <= B) (hB : Whole w B 3 #[.int .i64 s]) (d0 : 0 <= d) (s0 : 0 <= s) (h : d <= 48) (s1 : s <= 65535) (hk : 0 <= k) (hk7 : k <= 7) (he : Vh.ext ⟨k,b,n,dd,e,tk,td,tn,tz,x,ba,bn,bc,la,ln,lc,fa,fn,fc,bb,bo,lb,lo,fb,fo⟩ = true) :
 Calls Tryd.prog 68 #[.agg #[.int .i64 k,.bool b,.bool n,.string dd,.int .i64 e,.int .i64 tk,.int .i64 td,.int .i64 tn,.int .i64 tz,.string x,.slice ba bn bc,.slice la ln lc,.slice fa fn fc],.int .i64 d,.pointer (some ⟨B,0,none⟩)] w (ChkOut (s,6) B w):=by
 have HX:=Lib.hid (ext_any ⟨k,b,n,dd,e,tk,td,tn,tz,x,ba,bn,bc,la,ln,lc,fa,fn,fc,bb,bo,lb,lo,fb,fo⟩ ⟨hk,hk7⟩)
 rw [he] at HX
 simp only [Vh.cells] at HX
 clear he
 have hBl:=hB.lt
 have hz0 : (w.setCell ⟨B,0,none⟩ (.int .i64 (s + 1))).heap.size = w.heap.size:=by simp [World.setCell]
 have P1:=Whole.new (w.setCell ⟨B,0,none⟩ (.int .i64 (s + 1))) 30 #[.int .i64 k,.bool b,.bool n,.string dd,.int .i64 e,.int .i64 tk,.int .i64 td,.int .i64 tn,.int .i64 tz,.string x,.slice ba bn bc,.slice la ln lc,.slice fa fn fc]
 rw [hz0] at P1
 have B1:=(hB.s (.int .i64 (s + 1))).alloc (.cells #[.int .i64 k,.bool b,.bool n,.string dd,.int .i64 e,.int .i64 tk,.int .i64 td,.int .i64 tn,.int .i64 tz,.string x,.slice ba bn bc,.slice la ln lc,.slice fa fn fc] 30)
 have K1 : Kept (· = B) w ((w.setCell ⟨B,0,none⟩ (.int .i64 (s + 1))).alloc (.cells #[.int .i64 k,.bool b,.bool n,.string dd,.int .i64 e,.int .i64 tk,.int .i64 td,.int .i64 tn,.int .i64 tz,.string x,.slice ba bn bc,.slice la ln lc,.slice fa fn fc] 30)):=(Kept.setB w B (.int .i64 (s + 1))).then ((Below.refl _ _).alloc (Nat.le_refl _) _)
 have bc0:=hB.cell 0
 have bf0:=hB.frozen 0
 clear hz0
 simp only [List.getElem?_toArray,List.getElem?_cons_zero] at bc0
 have HTk:=Lib.hid (fun (w1 : World) (h : Kept (· = B) w w1) => Vt.In.below (h.below (Nat.le_of_lt (Nat.lt_of_le_of_lt ht hBl)) (fun c q e => by omega)) hT)
 clear HTk
 clear hT hB
 go_enter Tryd.func68,Tryd.ntmps68
 go_upto_region 2 with (fail)
 have hW : ∃ w1,(w.setCell ⟨B,0,none⟩ (.int .i64 (s + 1))).alloc (.cells #[.int .i64 k,.bool b,.bool n,.string dd,.int .i64 e,.int .i64 tk,.int .i64 td,.int .i64 tn,.int .i64 tz,.string x,.slice ba bn bc,.slice la ln lc,.slice fa fn fc] 30) = w1:=⟨_,rfl⟩
 obtain ⟨w1,hw1⟩:=hW
 rw [hw1] at P1 B1 K1 ⊢
 clear hw1 bc0 bf0
 have bc1:=B1.cell 0
 simp only [List.getElem?_toArray,List.getElem?_cons_zero] at bc1
 obtain ⟨c0,c1,c2,c3,c4,c5,c6,c7,c8,c9,c10,c11,c12⟩:=Whole.c13 (h:=⟨k,b,n,dd,e,tk,td,tn,tz,x,ba,bn,bc,la,ln,lc,fa,fn,fc,bb,bo,lb,lo,fb,fo⟩) P1
 go_wp2_with fail
 refine (HX.out _).mono ?_;rintro _ w2 ⟨rfl,hb2⟩
 have B2:=B1.below hb2 B1.lt
 have K2:=K1.then hb2
 go_wp2
 go_ret
 exact ⟨_,rfl,B2,fun q => absurd (show (6 : Int) = 0 from q) (by decide),K2⟩
theorem pall_go {x : ByteArray} {j : Nat} (hx : x.size <= maxLen) (hj : j <= x.size) (h : ∀ i (h : i < x.size),i < j -> Dig.isd x[i]) (hn : ∀ h : j < x.size,¬ Dig.isd x[j]) (w : World) :
 Calls Tryd.prog 94 #[.string x] w fun e w' => e = .returned (.bool (decide (j = x.size))) /\ w = w':=by
 have H:=Lib.hid h;clear h
 have HN:=Lib.hid hn;clear hn
 obtain ⟨R,hR⟩ : ∃ r,decide (j = x.size) = r:=⟨_,rfl⟩
 rw [hR]
 have HR:=Lib.hid hR;clear hR
 unfold maxLen at hx
 go_enter Tryd.func94,Tryd.ntmps94
 go_wp2_with fail
 go_loop [6] (fun i => ∃ k : Nat,k <= j /\ i = .int .i64 k) (fun i => x.size - (intOf i).toNat)
 case atStart => exact ⟨0,by omega,rfl⟩
 case round =>
  obtain ⟨k,hk,rfl⟩:=hrel
  have hk1 : (0 : Int) <= k:=by omega
  by_cases hkf : k = x.size
  ·have hR2 : R = true:=by rw [<- HR.out];exact decide_eq_true (by omega)
   subst hR2
   subst hkf
   go_wp2
   go_ret
   exact ⟨rfl,rfl⟩
  have hkx : k < x.size:=by omega
  have hk2 : (k : Int) < x.size:=by omega
  have hd : Dig.isd x[k] ↔ (48 <= x[k].toNat /\ x[k].toNat <= 57):=Iff.rfl
  by_cases h1 : x[k].toNat < 48
  ·have hkj : j = k:=by
    rcases Nat.lt_or_ge k j with g | g
    ·have:=hd.1 (H.out k hkx g);omega
    ·omega
   have hR2 : R = false:=by rw [<- HR.out];exact decide_eq_false (by omega)
   subst hR2
   have d1 : decide ((x[k].toNat : Int) < 48) = true:=decide_eq_true (by omega)
   clear hd hkj hkf
   go_wp2
   go_ret
   exact ⟨rfl,rfl⟩
  by_cases h2 : 57 < x[k].toNat
  ·have hkj : j = k:=by
    rcases Nat.lt_or_ge k j with g | g
    ·have:=hd.1 (H.out k hkx g);omega
    ·omega
   have hR2 : R = false:=by rw [<- HR.out];exact decide_eq_false (by omega)
   subst hR2
   have d1 : decide ((x[k].toNat : Int) < 48) = false:=decide_eq_false (by omega)
   have d2 : decide (57 < (x[k].toNat : Int)) = true:=decide_eq_true (by omega)
   clear hd hkj hkf
   go_wp2
   go_ret
   exact ⟨rfl,rfl⟩
  have hkj : k < j:=by
   rcases Nat.lt_or_ge k j with g | g
   ·exact g
   ·obtain rfl : k = j:=by omega
    exact absurd (hd.2 (by omega)) (HN.out hkx)
  have d1 : decide ((x[k].toNat : Int) < 48) = false:=decide_eq_false (by omega)
  have d2 : decide (57 < (x[k].toNat : Int)) = false:=decide_eq_false (by omega)
  clear hd hkf
  go_wp2
  go_round
  case rel => exact ⟨k + 1,by omega,by go_num⟩
  case measure => simp [intOf];omega
theorem pall_any {x : ByteArray} (hx : x.size <= maxLen) (w : World) :
 Calls Tryd.prog 94 #[.string x] w fun e w' => e = .returned (.bool (decide (Dig.alld (Dig.l x)))) /\ w = w':=by
 rcases Dig.first_bad x x.size (Nat.le_refl _) with h | ⟨j,hj,_,h1,h2⟩
 ·rw [decide_eq_true ((Dig.alld_iff x).2 (fun i hi => h i hi hi))]
  have:=pall_go hx (Nat.le_refl _) h (fun g => absurd g (Nat.lt_irrefl _)) w
  rwa [decide_eq_true rfl] at this
 ·rw [decide_eq_false (fun g => h2 ((Dig.alld_iff x).1 g j hj))]
  have:=pall_go hx (Nat.le_of_lt hj) h1 (fun _ => h2) w
  rwa [decide_eq_false (by omega)] at this
theorem pdig_valid {x : ByteArray} (hx : x.size <= maxLen) (w : World) :
 Calls Tryd.prog 86 #[.string x] w fun e w' => e = .returned (.bool (decide (Dig.vld x))) /\ w = w':=by
 have HA:=Lib.hid (pall_any hx)
 obtain ⟨R,hR⟩ : ∃ r,decide (Dig.vld x) = r:=⟨_,rfl⟩
 rw [hR]
 by_cases h6 : x.size <= 600
 case neg =>
  have : R = false:=by rw [<- hR];exact decide_eq_false (fun g => h6 g.1)
  subst this
  have d1 : decide ((x.size : Int) <= 600) = false:=decide_eq_false (by omega)
  clear hR h6 hx
  go_enter Tryd.func86,Tryd.ntmps86
  go_wp2
  go_ret
  exact ⟨rfl,rfl⟩
 have d1 : decide ((x.size : Int) <= 600) = true:=decide_eq_true (by omega)
 by_cases ha : Dig.alld (Dig.l x)
 case neg =>
  have : R = false:=by rw [<- hR];exact decide_eq_false (fun g => ha g.2.1)
  subst this
  rw [decide_eq_false ha] at HA
  clear hR h6 hx ha
  go_enter Tryd.func86,Tryd.ntmps86
  go_wp2_with fail
  refine (HA.out _).mono ?_;rintro e w' ⟨rfl,rfl⟩
  go_wp2
  go_ret
  exact ⟨rfl,rfl⟩
 rw [decide_eq_true ha] at HA
 by_cases h0 : x.size = 0
 ·have : R = true:=by rw [<- hR];exact decide_eq_true ⟨h6,ha,Or.inl h0⟩
  subst this
  have e0:=Dig.nil_of h0
  have d2 : ((x.size : Int) == 0) = true:=beq_iff_eq.2 (by omega)
  clear hR h6 hx ha h0
  go_enter Tryd.func86,Tryd.ntmps86
  go_wp2_with fail
  refine (HA.out _).mono ?_;rintro e w' ⟨rfl,rfl⟩
  go_wp2
  go_ret
  exact ⟨rfl,rfl⟩
 have hp : 0 < x.size:=by omega
 have hp2 : (0 : Int) < x.size:=by omega
 have e0:=Dig.some_of hp
 have d2 : ((x.size : Int) == 0) = false:=beq_eq_false_iff_ne.2 (by omega)
 by_cases hb : x[0].toNat = 48
 ·have : R = false:=by
   rw [<- hR]
   refine decide_eq_false (fun g => ?_)
   rcases g.2.2 with k | k
   ·exact h0 k
   ·exact k hp hb
  subst this
  have d3 : ((x[0].toNat : Int) != 48) = false:=by simp [hb]
  clear hR h6 hx ha h0 hb
  go_enter Tryd.func86,Tryd.ntmps86
  go_wp2_with fail
  refine (HA.out _).mono ?_;rintro e w' ⟨rfl,rfl⟩
  go_wp2
  go_ret
  exact ⟨rfl,rfl⟩
 ·have : R = true:=by rw [<- hR];exact decide_eq_true ⟨h6,ha,Or.inr (fun _ => hb)⟩
  subst this
  have d3 : ((x[0].toNat : Int) != 48) = true:=by simp;omega
  clear hR h6 hx ha h0 hb
  go_enter Tryd.func86,Tryd.ntmps86
  go_wp2_with fail
  refine (HA.out _).mono ?_;rintro e w' ⟨rfl,rfl⟩
  go_wp2
  go_ret
  exact ⟨rfl,rfl⟩
theorem pdig_zeros {x : ByteArray} (hx : x.size <= 1000000) (w : World) :
 Calls Tryd.prog 87 #[.string x] w fun e w' => e = .returned (.int .i64 (Dig.zc x)) /\ w = w':=by
 have H:=Lib.hid (fun w => Tryd.strings_TrimRight_one x 48 (by decide) w (by omega))
 obtain ⟨c,h1,_,_,h4⟩:=Dig.trail x
 have hz : Dig.zc x = c:=by unfold Dig.zc;omega
 rw [hz]
 have ht : (Dig.bs (Go.Lib.trimRightB (Dig.l x) 48)).size = x.size - c:=by rw [Dig.bs_size];exact h4
 rw [show (⟨(Go.Lib.trimRightB x.data.toList 48).toArray⟩ : ByteArray) = Dig.bs (Go.Lib.trimRightB (Dig.l x) 48) from rfl] at H
 generalize Dig.bs (Go.Lib.trimRightB (Dig.l x) 48) = y at *
 have hy : (x.size : Int) - y.size = c:=by omega
 have hy2 : y.size <= x.size:=by omega
 clear h1 h4 hz ht
 go_enter Tryd.func87,Tryd.ntmps87
 go_wp2_with fail
 refine (H.out _).mono ?_;rintro _ w' ⟨rfl,rfl⟩
 go_wp2
 go_ret
 exact ⟨ret_int (by omega),rfl⟩
theorem dvalid_any (n : Bool) {s : ByteArray} (hs : s.size <= maxLen) (e : Int) (w : World) :
 Calls Tryd.prog 77 #[.agg #[.bool n,.string s,.int .i64 e]] w fun r w' => r = .returned (.bool (decide (Dec.vd n s e))) /\ Below w.heap.size w w':=by
 have hb:=(Below.refl w.heap.size w).alloc (Nat.le_refl _) (.cells #[.bool n,.string s,.int .i64 e] 23)
 by_cases h0 : s.size = 0
 ·obtain rfl:=Dec.size_zero h0
  have q:=dec_eql n false ⟨#[]⟩ ⟨#[]⟩ e 0
  obtain ⟨R,hR⟩ : ∃ R,decide (Dec.vd n ⟨#[]⟩ e) = R:=⟨_,rfl⟩
  rw [hR]
  have e1 : decide ((n,(⟨#[]⟩ : ByteArray),e) = (false,⟨#[]⟩,0)) = R:=by
   rw [<- hR]
   refine decide_eq_decide.2 ?_
   unfold Dec.vd
   rw [if_pos h0]
   simp
  rw [e1] at q
  clear hR e1 h0 hs
  go_enter Tryd.func77,Tryd.ntmps77
  go_wp2
  go_ret
  exact ⟨rfl,hb⟩
 have ne:=Dig.some_of (x:=s) (by omega)
 have HV:=Lib.hid (pdig_valid hs)
 have hvd : Dec.vd n s e ↔ (Dig.vld s /\ s.size <= 120 /\ Dig.zc s = 0 /\ -400 <= e /\ e <= 400):=by unfold Dec.vd;rw [if_neg h0]
 by_cases h1 : Dig.vld s
 case neg =>
  rw [decide_eq_false h1] at HV
  rw [decide_eq_false (fun k => h1 (hvd.1 k).1)]
  clear hvd h1 h0 hs
  go_enter Tryd.func77,Tryd.ntmps77
  go_wp2_with fail
  refine (HV.out _).mono ?_;rintro _ w1 ⟨rfl,rfl⟩
  go_wp2
  go_ret
  exact ⟨rfl,hb⟩
 rw [decide_eq_true h1] at HV
 by_cases h2 : s.size <= 120
 case neg =>
  rw [decide_eq_false (fun k => h2 (hvd.1 k).2.1)]
  have d2 : decide ((s.size : Int) <= 120) = false:=decide_eq_false (by omega)
  clear hvd h1 h0 hs h2
  go_enter Tryd.func77,Tryd.ntmps77
  go_wp2_with fail
  refine (HV.out _).mono ?_;rintro _ w1 ⟨rfl,rfl⟩
  go_wp2
  go_ret
  exact ⟨rfl,hb⟩
 have d2 : decide ((s.size : Int) <= 120) = true:=decide_eq_true (by omega)
 have HZ:=Lib.hid (pdig_zeros (x:=s) (by omega))
 have hz0 : (0 : Int) <= Dig.zc s:=by omega
 have hzl : Dig.zc s <= 1000000:=by unfold Dig.zc;omega
 by_cases h3 : Dig.zc s = 0
 case neg =>
  rw [decide_eq_false (fun k => h3 (hvd.1 k).2.2.1)]
  generalize Dig.zc s = z at *
  have d3 : ((z : Int) == 0) = false:=by rw [beq_eq_false_iff_ne];omega
  clear hvd h1 h0 hs h2 h3
  go_enter Tryd.func77,Tryd.ntmps77
  go_wp2_with fail
  refine (HV.out _).mono ?_;rintro _ w1 ⟨rfl,rfl⟩
  go_wp2_with fail
  refine (HZ.out _).mono ?_;rintro _ w1 ⟨rfl,rfl⟩
  go_wp2
  go_ret
  exact ⟨rfl,hb⟩
 rw [h3] at HZ
 by_cases h4 : -400 <= e
 case neg =>
  rw [decide_eq_false (fun k => h4 (hvd.1 k).2.2.2.1)]
  have d4 : decide (-400 <= e) = false:=decide_eq_false h4
  clear hvd h1 h0 hs h2 h3 h4 hz0 hzl
  go_enter Tryd.func77,Tryd.ntmps77
  go_wp2_with fail
  refine (HV.out _).mono ?_;rintro _ w1 ⟨rfl,rfl⟩
  go_wp2_with fail
  refine (HZ.out _).mono ?_;rintro _ w1 ⟨rfl,rfl⟩
  go_wp2
  go_ret
  exact ⟨rfl,hb⟩
 have d4 : decide (-400 <= e) = true:=decide_eq_true h4
 obtain ⟨R,hR⟩ : ∃ R,decide (e <= 400) = R:=⟨_,rfl⟩
 have e5 : decide (Dec.vd n s e) = R:=by
  rw [<- hR]
  exact decide_eq_decide.2 ⟨fun k => (hvd.1 k).2.2.2.2,fun k => hvd.2 ⟨h1,h2,h3,h4,k⟩⟩
 rw [e5]
 clear hvd h1 h0 hs h2 h3 h4 hz0 hzl e5
 go_enter Tryd.func77,Tryd.ntmps77
 go_wp2_with fail
 refine (HV.out _).mono ?_;rintro _ w1 ⟨rfl,rfl⟩
 go_wp2_with fail
 refine (HZ.out _).mono ?_;rintro _ w1 ⟨rfl,rfl⟩
 go_wp2
 go_ret
 exact ⟨rfl,hb⟩
theorem pmom_valid (k d n o : Int) (w : World) : Calls Tryd.prog 78 #[.agg #[.int .i64 k,.int .i64 d,.int .i64 n,.int .i64 o]] w fun e w' => e = .returned (.bool (decide (Mom.Ok k d n o))) /\ Below w.heap.size w w':=by
 go_enter Tryd.func78,Tryd.ntmps78
 go_wp2
 all_goals
  go_ret
  refine ⟨congrArg (fun b => Ending.returned (Value.bool b)) ?_,(Below.refl _ _).alloc (Nat.le_refl _) _⟩
  try simp only [beq_iff_eq,beq_eq_false_iff_ne,ne_eq] at *
  first
   | exact (decide_eq_false (by unfold Mom.Ok;omega)).symm
   | exact (decide_eq_true (by unfold Mom.Ok;omega)).symm
   | (rw [Bool.eq_iff_iff,beq_iff_eq,decide_eq_true_iff];unfold Mom.Ok;omega)
theorem chk2_bad {b n : Bool} {dd : ByteArray} {e tk td tn tz : Int} {x : ByteArray} {ba : Option Addr} {bc : Nat} {la : Option Addr} {lc : Nat} {fa : Option Addr} {fc bb bo lb lo fb fo : Nat} {Y : Nat -> Int} {L : Nat -> Vt} {K : Nat -> ByteArray} {F : Nat -> Vt} {d s : Int} {top B : Nat} {w : World} (hT : (Vt.mk ⟨2,b,n,dd,e,tk,td,tn,tz,x,ba,0,bc,la,0,lc,fa,0,fc,bb,bo,lb,lo,fb,fo⟩ Y L K F).In w top) (ht : top <= B) (hB : Whole w B 3 #[.int .i64 s]) (d0 : 0 <= d) (s0 : 0 <= s) (h : d <= 48) (s1 : s <= 65535) (he : Vh.ext ⟨2,b,n,dd,e,tk,td,tn,tz,x,ba,0,bc,la,0,lc,fa,0,fc,bb,bo,lb,lo,fb,fo⟩ = false) (hv : decide (Dec.vd n dd e) = false) (hd : dd.size <= maxLen) :
 Calls Tryd.prog 68 #[.agg #[.int .i64 2,.bool b,.bool n,.string dd,.int .i64 e,.int .i64 tk,.int .i64 td,.int .i64 tn,.int .i64 tz,.string x,.slice ba 0 bc,.slice la 0 lc,.slice fa 0 fc],.int .i64 d,.pointer (some ⟨B,0,none⟩)] w (ChkOut (s,2) B w):=by
 have HX:=Lib.hid (ext_any ⟨2,b,n,dd,e,tk,td,tn,tz,x,ba,0,bc,la,0,lc,fa,0,fc,bb,bo,lb,lo,fb,fo⟩ ⟨by show (0 : Int) <= 2;decide,by show (2 : Int) <= 7;decide⟩)
 rw [he] at HX
 simp only [Vh.cells] at HX
 clear he
 have HD:=Lib.hid (dvalid_any n hd e)
 rw [hv] at HD
 clear hv hd
 have hBl:=hB.lt
 have hz0 : (w.setCell ⟨B,0,none⟩ (.int .i64 (s + 1))).heap.size = w.heap.size:=by simp [World.setCell]
 have P1:=Whole.new (w.setCell ⟨B,0,none⟩ (.int .i64 (s + 1))) 30 #[.int .i64 2,.bool b,.bool n,.string dd,.int .i64 e,.int .i64 tk,.int .i64 td,.int .i64 tn,.int .i64 tz,.string x,.slice ba 0 bc,.slice la 0 lc,.slice fa 0 fc]
 rw [hz0] at P1
 have B1:=(hB.s (.int .i64 (s + 1))).alloc (.cells #[.int .i64 2,.bool b,.bool n,.string dd,.int .i64 e,.int .i64 tk,.int .i64 td,.int .i64 tn,.int .i64 tz,.string x,.slice ba 0 bc,.slice la 0 lc,.slice fa 0 fc] 30)
 have K1 : Kept (· = B) w ((w.setCell ⟨B,0,none⟩ (.int .i64 (s + 1))).alloc (.cells #[.int .i64 2,.bool b,.bool n,.string dd,.int .i64 e,.int .i64 tk,.int .i64 td,.int .i64 tn,.int .i64 tz,.string x,.slice ba 0 bc,.slice la 0 lc,.slice fa 0 fc] 30)):=(Kept.setB w B (.int .i64 (s + 1))).then ((Below.refl _ _).alloc (Nat.le_refl _) _)
 have bc0:=hB.cell 0
 have bf0:=hB.frozen 0
 clear hz0
 simp only [List.getElem?_toArray,List.getElem?_cons_zero] at bc0
 have HTk:=Lib.hid (fun (w1 : World) (h : Kept (· = B) w w1) => Vt.In.below (h.below (Nat.le_of_lt (Nat.lt_of_le_of_lt ht hBl)) (fun c q e => by omega)) hT)
 clear HTk
 clear hT hB
 go_enter Tryd.func68,Tryd.ntmps68
 go_upto_region 2 with (fail)
 have hW : ∃ w1,(w.setCell ⟨B,0,none⟩ (.int .i64 (s + 1))).alloc (.cells #[.int .i64 2,.bool b,.bool n,.string dd,.int .i64 e,.int .i64 tk,.int .i64 td,.int .i64 tn,.int .i64 tz,.string x,.slice ba 0 bc,.slice la 0 lc,.slice fa 0 fc] 30) = w1:=⟨_,rfl⟩
 obtain ⟨w1,hw1⟩:=hW
 rw [hw1] at P1 B1 K1 ⊢
 clear hw1 bc0 bf0
 have bc1:=B1.cell 0
 simp only [List.getElem?_toArray,List.getElem?_cons_zero] at bc1
 obtain ⟨c0,c1,c2,c3,c4,c5,c6,c7,c8,c9,c10,c11,c12⟩:=Whole.c13 (h:=⟨2,b,n,dd,e,tk,td,tn,tz,x,ba,0,bc,la,0,lc,fa,0,fc,bb,bo,lb,lo,fb,fo⟩) P1
 go_wp2_with fail
 refine (HX.out _).mono ?_;rintro _ w2 ⟨rfl,hb2⟩
 have P2:=P1.below hb2 P1.lt
 have B2:=B1.below hb2 B1.lt
 have K2:=K1.then hb2
 clear c0 c1 c2 c3 c4 c5 c6 c7 c8 c9 c10 c11 c12 bc1 P1 B1 K1 hb2
 have bc2:=B2.cell 0
 simp only [List.getElem?_toArray,List.getElem?_cons_zero] at bc2
 obtain ⟨c0,c1,c2,c3,c4,c5,c6,c7,c8,c9,c10,c11,c12⟩:=Whole.c13 (h:=⟨2,b,n,dd,e,tk,td,tn,tz,x,ba,0,bc,la,0,lc,fa,0,fc,bb,bo,lb,lo,fb,fo⟩) P2
 go_wp2_with fail
 refine (HD.out _).mono ?_;rintro _ w3 ⟨rfl,hb3⟩
 have P3:=P2.below hb3 P2.lt
 have B3:=B2.below hb3 B2.lt
 have K3:=K2.then hb3
 clear c0 c1 c2 c3 c4 c5 c6 c7 c8 c9 c10 c11 c12 bc2 P2 B2 K2 hb3
 have bc3:=B3.cell 0
 simp only [List.getElem?_toArray,List.getElem?_cons_zero] at bc3
 obtain ⟨c0,c1,c2,c3,c4,c5,c6,c7,c8,c9,c10,c11,c12⟩:=Whole.c13 (h:=⟨2,b,n,dd,e,tk,td,tn,tz,x,ba,0,bc,la,0,lc,fa,0,fc,bb,bo,lb,lo,fb,fo⟩) P3
 go_wp2
 go_ret
 exact ⟨_,rfl,B3,fun q => absurd (show (2 : Int) = 0 from q) (by decide),K3⟩
theorem chk2_ok {b n : Bool} {dd : ByteArray} {e tk td tn tz : Int} {x : ByteArray} {ba : Option Addr} {bc : Nat} {la : Option Addr} {lc : Nat} {fa : Option Addr} {fc bb bo lb lo fb fo : Nat} {Y : Nat -> Int} {L : Nat -> Vt} {K : Nat -> ByteArray} {F : Nat -> Vt} {d s : Int} {top B : Nat} {w : World} (hT : (Vt.mk ⟨2,b,n,dd,e,tk,td,tn,tz,x,ba,0,bc,la,0,lc,fa,0,fc,bb,bo,lb,lo,fb,fo⟩ Y L K F).In w top) (ht : top <= B) (hB : Whole w B 3 #[.int .i64 s]) (d0 : 0 <= d) (s0 : 0 <= s) (h : d <= 48) (s1 : s <= 65535) (he : Vh.ext ⟨2,b,n,dd,e,tk,td,tn,tz,x,ba,0,bc,la,0,lc,fa,0,fc,bb,bo,lb,lo,fb,fo⟩ = false) (hv : decide (Dec.vd n dd e) = true) (hd : dd.size <= maxLen) (hx : x.size <= 65536) :
 Calls Tryd.prog 68 #[.agg #[.int .i64 2,.bool b,.bool n,.string dd,.int .i64 e,.int .i64 tk,.int .i64 td,.int .i64 tn,.int .i64 tz,.string x,.slice ba 0 bc,.slice la 0 lc,.slice fa 0 fc],.int .i64 d,.pointer (some ⟨B,0,none⟩)] w (ChkOut (s + 1,0) B w):=by
 have HX:=Lib.hid (ext_any ⟨2,b,n,dd,e,tk,td,tn,tz,x,ba,0,bc,la,0,lc,fa,0,fc,bb,bo,lb,lo,fb,fo⟩ ⟨by show (0 : Int) <= 2;decide,by show (2 : Int) <= 7;decide⟩)
 rw [he] at HX
 simp only [Vh.cells] at HX
 clear he
 have HD:=Lib.hid (dvalid_any n hd e)
 rw [hv] at HD
 clear hv hd
 have hBl:=hB.lt
 have hz0 : (w.setCell ⟨B,0,none⟩ (.int .i64 (s + 1))).heap.size = w.heap.size:=by simp [World.setCell]
 have P1:=Whole.new (w.setCell ⟨B,0,none⟩ (.int .i64 (s + 1))) 30 #[.int .i64 2,.bool b,.bool n,.string dd,.int .i64 e,.int .i64 tk,.int .i64 td,.int .i64 tn,.int .i64 tz,.string x,.slice ba 0 bc,.slice la 0 lc,.slice fa 0 fc]
 rw [hz0] at P1
 have B1:=(hB.s (.int .i64 (s + 1))).alloc (.cells #[.int .i64 2,.bool b,.bool n,.string dd,.int .i64 e,.int .i64 tk,.int .i64 td,.int .i64 tn,.int .i64 tz,.string x,.slice ba 0 bc,.slice la 0 lc,.slice fa 0 fc] 30)
 have K1 : Kept (· = B) w ((w.setCell ⟨B,0,none⟩ (.int .i64 (s + 1))).alloc (.cells #[.int .i64 2,.bool b,.bool n,.string dd,.int .i64 e,.int .i64 tk,.int .i64 td,.int .i64 tn,.int .i64 tz,.string x,.slice ba 0 bc,.slice la 0 lc,.slice fa 0 fc] 30)):=(Kept.setB w B (.int .i64 (s + 1))).then ((Below.refl _ _).alloc (Nat.le_refl _) _)
 have bc0:=hB.cell 0
 have bf0:=hB.frozen 0
 clear hz0
 simp only [List.getElem?_toArray,List.getElem?_cons_zero] at bc0
 have HTk:=Lib.hid (fun (w1 : World) (h : Kept (· = B) w w1) => Vt.In.below (h.below (Nat.le_of_lt (Nat.lt_of_le_of_lt ht hBl)) (fun c q e => by omega)) hT)
 have HKy:=Lib.hid (fun (w1 : World) (h : Kept (· = B) w w1) => show Calls Tryd.prog 79 #[.slice fa 0 fc] w1 fun r w' => r = .returned (.int .i64 (0)) /\ Below w1.heap.size w1 w' from vkeys_any (T:=(Vt.mk ⟨2,b,n,dd,e,tk,td,tn,tz,x,ba,0,bc,la,0,lc,fa,0,fc,bb,bo,lb,lo,fb,fo⟩ Y L K F)) (top:=top) (HTk.out w1 h) (by have:=h.size;omega))
 have hxi : (x.size : Int) <= 65536:=by omega
 clear HTk
 clear hT hB
 go_enter Tryd.func68,Tryd.ntmps68
 go_upto_region 2 with (fail)
 have hW : ∃ w1,(w.setCell ⟨B,0,none⟩ (.int .i64 (s + 1))).alloc (.cells #[.int .i64 2,.bool b,.bool n,.string dd,.int .i64 e,.int .i64 tk,.int .i64 td,.int .i64 tn,.int .i64 tz,.string x,.slice ba 0 bc,.slice la 0 lc,.slice fa 0 fc] 30) = w1:=⟨_,rfl⟩
 obtain ⟨w1,hw1⟩:=hW
 rw [hw1] at P1 B1 K1 ⊢
 clear hw1 bc0 bf0
 have bc1:=B1.cell 0
 simp only [List.getElem?_toArray,List.getElem?_cons_zero] at bc1
 obtain ⟨c0,c1,c2,c3,c4,c5,c6,c7,c8,c9,c10,c11,c12⟩:=Whole.c13 (h:=⟨2,b,n,dd,e,tk,td,tn,tz,x,ba,0,bc,la,0,lc,fa,0,fc,bb,bo,lb,lo,fb,fo⟩) P1
 go_wp2_with fail
 refine (HX.out _).mono ?_;rintro _ w2 ⟨rfl,hb2⟩
 have P2:=P1.below hb2 P1.lt
 have B2:=B1.below hb2 B1.lt
 have K2:=K1.then hb2
 clear c0 c1 c2 c3 c4 c5 c6 c7 c8 c9 c10 c11 c12 bc1 P1 B1 K1 hb2
 have bc2:=B2.cell 0
 simp only [List.getElem?_toArray,List.getElem?_cons_zero] at bc2
 obtain ⟨c0,c1,c2,c3,c4,c5,c6,c7,c8,c9,c10,c11,c12⟩:=Whole.c13 (h:=⟨2,b,n,dd,e,tk,td,tn,tz,x,ba,0,bc,la,0,lc,fa,0,fc,bb,bo,lb,lo,fb,fo⟩) P2
 go_wp2_with fail
 refine (HD.out _).mono ?_;rintro _ w3 ⟨rfl,hb3⟩
 have P3:=P2.below hb3 P2.lt
 have B3:=B2.below hb3 B2.lt
 have K3:=K2.then hb3
 clear c0 c1 c2 c3 c4 c5 c6 c7 c8 c9 c10 c11 c12 bc2 P2 B2 K2 hb3
 have bc3:=B3.cell 0
 simp only [List.getElem?_toArray,List.getElem?_cons_zero] at bc3
 obtain ⟨c0,c1,c2,c3,c4,c5,c6,c7,c8,c9,c10,c11,c12⟩:=Whole.c13 (h:=⟨2,b,n,dd,e,tk,td,tn,tz,x,ba,0,bc,la,0,lc,fa,0,fc,bb,bo,lb,lo,fb,fo⟩) P3
 go_wp2_with fail
 refine (HKy.out _ K3).mono ?_;rintro _ w4 ⟨rfl,hb4⟩
 have P4:=P3.below hb4 P3.lt
 have B4:=B3.below hb4 B3.lt
 have K4:=K3.then hb4
 clear c0 c1 c2 c3 c4 c5 c6 c7 c8 c9 c10 c11 c12 bc3 P3 B3 K3 hb4
 have bc4:=B4.cell 0
 simp only [List.getElem?_toArray,List.getElem?_cons_zero] at bc4
 obtain ⟨c0,c1,c2,c3,c4,c5,c6,c7,c8,c9,c10,c11,c12⟩:=Whole.c13 (h:=⟨2,b,n,dd,e,tk,td,tn,tz,x,ba,0,bc,la,0,lc,fa,0,fc,bb,bo,lb,lo,fb,fo⟩) P4
 go_wp2_with fail
 go_loopw [91] (fun i wr => i = .int .i64 0 /\ wr = w4) (fun _ _ => 0)
 case atStart => exact ⟨rfl,rfl⟩
 case round =>
  obtain ⟨rfl,rfl⟩:=hrel
  go_wp2_with fail
  go_loopw [107] (fun i wr' => i = .int .i64 0 /\ wr' = wr) (fun _ _ => 0)
  case atStart => exact ⟨rfl,rfl⟩
  case round =>
   obtain ⟨rfl,rfl⟩:=hrel
   go_wp2
   go_ret
   exact ⟨_,rfl,B4,fun _ => rfl,K4⟩
end Go.Proofs.YtpcbhneaaibfiaaDoor
