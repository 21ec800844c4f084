/- Laid together. -/
import Derived.Test.YtpcbhneaaibfiaaDoorPB35
import Derived.Test.YtpcbhneaaibfiaaDoorPB36
import Derived.Test.YtpcbhneaaibfiaaDoorPB32
import Derived.Test.YtpcbhneaaibfiaaDoorPB23
import Derived.Deep.Cut
import Derived.Deep.DeepCutAuto
set_option linter.unusedVariables false
set_option linter.unusedSimpArgs false
set_option maxHeartbeats 16000000
set_option maxRecDepth 100000
namespace Go.Proofs.YtpcbhneaaibfiaaDoor
open Go.RowKit
theorem radd_w {r : Rst} {x : Ev} {top : Nat} {w : World} (hr : r.In w top) (hx : x.ok) (hV : x.V.In w top) (ht : top <= w.heap.size) (hnd : r.nd <= 65536) (hw0 : r.wrong = true) :
 Calls Tryd.prog 22 #[.agg r.cells,.agg x.cells] w (RAddOut r x w):=by
 have hE : r.addE x = 29:=if_pos hw0
 have h0 : r.addE x ≠ 0:=by omega
 have HEnd:=Lib.hid (fun (W' : World) (hb : Below w.heap.size w W') => radd_bad hr ht h0 hE hb)
 clear h0 hE
 clear hr hV ht
 have hxk:=hx.k
 clear hx
 obtain ⟨k,key,V⟩:=x
 obtain ⟨⟨oa,on,oc,ob,oo,F⟩,⟨ta,tn,tc,tb,to',TS⟩,nd,wrong⟩:=r
 dsimp only at hw0 hnd
 subst hw0
 dsimp only at HEnd
 generalize hM : ((nd : Nat) : Int) = M at *
 have HM:=Lib.hid hM
 clear hM hnd
 have g0:=((Below.refl w.heap.size w).alloc (Nat.le_refl _) (.cells #[.slice oa on oc,.slice ta tn tc,.int .i64 M,.bool true] 53)).alloc (by simp) (.cells #[.int .i64 k,.string key,.int .i64 V.h.k,.bool V.h.b,.bool V.h.n,.string V.h.d,.int .i64 V.h.e,.int .i64 V.h.tk,.int .i64 V.h.td,.int .i64 V.h.tn,.int .i64 V.h.tz,.string V.h.x,.slice V.h.ba V.h.bn V.h.bc,.slice V.h.la V.h.ln V.h.lc,.slice V.h.fa V.h.fn V.h.fc] 57) |>.alloc (by simp;omega) (.cells #[.slice none 0 0,.slice none 0 0,.int .i64 0,.bool false] 53)
 have P0:=((Whole.new w 53 #[.slice oa on oc,.slice ta tn tc,.int .i64 M,.bool true]).alloc (.cells #[.int .i64 k,.string key,.int .i64 V.h.k,.bool V.h.b,.bool V.h.n,.string V.h.d,.int .i64 V.h.e,.int .i64 V.h.tk,.int .i64 V.h.td,.int .i64 V.h.tn,.int .i64 V.h.tz,.string V.h.x,.slice V.h.ba V.h.bn V.h.bc,.slice V.h.la V.h.ln V.h.lc,.slice V.h.fa V.h.fn V.h.fc] 57)).alloc (.cells #[.slice none 0 0,.slice none 0 0,.int .i64 0,.bool false] 53)
 have X0:=(Whole.new (w.alloc (.cells #[.slice oa on oc,.slice ta tn tc,.int .i64 M,.bool true] 53)) 57 #[.int .i64 k,.string key,.int .i64 V.h.k,.bool V.h.b,.bool V.h.n,.string V.h.d,.int .i64 V.h.e,.int .i64 V.h.tk,.int .i64 V.h.td,.int .i64 V.h.tn,.int .i64 V.h.tz,.string V.h.x,.slice V.h.ba V.h.bn V.h.bc,.slice V.h.la V.h.ln V.h.lc,.slice V.h.fa V.h.fn V.h.fc]).alloc (.cells #[.slice none 0 0,.slice none 0 0,.int .i64 0,.bool false] 53)
 have Q0:=Whole.new ((w.alloc (.cells #[.slice oa on oc,.slice ta tn tc,.int .i64 M,.bool true] 53)).alloc (.cells #[.int .i64 k,.string key,.int .i64 V.h.k,.bool V.h.b,.bool V.h.n,.string V.h.d,.int .i64 V.h.e,.int .i64 V.h.tk,.int .i64 V.h.td,.int .i64 V.h.tn,.int .i64 V.h.tz,.string V.h.x,.slice V.h.ba V.h.bn V.h.bc,.slice V.h.la V.h.ln V.h.lc,.slice V.h.fa V.h.fn V.h.fc] 57)) 53 #[.slice none 0 0,.slice none 0 0,.int .i64 0,.bool false]
 rw [World.size_alloc] at X0
 rw [World.size_alloc,World.size_alloc] at Q0
 simp only [Rst.cells,Ev.cells,evc,HM.out] at ⊢
 obtain ⟨c0,c1,c2,c3⟩:=P0.o4s
 obtain ⟨x0,x1,x2,x3,x4,x5,x6,x7,x8,x9,x10,x11,x12,x13,x14⟩:=Whole.e15 (g:=V.h) X0
 go_enter Tryd.func22,Tryd.ntmps22
 have ho2 : Hid ((#[.slice oa on oc,.slice ta tn tc,.int .i64 M,.bool true] : Array Value).all (·.oneCell') = true):=Lib.hid (by simp [Value.oneCell'])
 have Qb:=Q0
 have P1:=Whole.farRow (B':=(w.heap.size + 2)) P0 (by omega) #[.slice oa on oc,.slice ta tn tc,.int .i64 M,.bool true]
 have X1:=Whole.farRow (B':=(w.heap.size + 2)) X0 (by omega) #[.slice oa on oc,.slice ta tn tc,.int .i64 M,.bool true]
 have Q1:=Whole.setRow Q0 #[.slice oa on oc,.slice ta tn tc,.int .i64 M,.bool true]
 have g1:=below_setRow (g:=(w.heap.size + 2)) g0 (by omega) #[.slice oa on oc,.slice ta tn tc,.int .i64 M,.bool true]
 clear P0 X0 Q0 g0
 have HF:=Lib.hid (HEnd.out _ g1)
 clear HEnd
 go_wp2_with (refine wpList_store_row rfl 53 _ _ rfl (w.heap.size + 2) #[.slice oa on oc,.slice ta tn tc,.int .i64 M,.bool true] rfl rfl 53 _ Qb st_row rfl ho2.out ?_)
 exact bodyPost_ret (v:=.tuple #[.agg #[.slice oa on oc,.slice ta tn tc,.int .i64 M,.bool true],.int .i64 29]) (ret_rst2 (p:=4) (q:=5) rfl rfl Q1) rfl HF.out
theorem radd_s {r : Rst} {x : Ev} {top : Nat} {w : World} (hr : r.In w top) (hx : x.ok) (hV : x.V.In w top) (ht : top <= w.heap.size) (hnd : r.nd <= 65536) (hw0 : r.wrong = false) (hs : shapeE x ≠ 0) :
 Calls Tryd.prog 22 #[.agg r.cells,.agg x.cells] w (RAddOut r x w):=by
 have hE : r.addE x = shapeE x:=(if_neg (by rw [hw0];decide)).trans (if_pos hs)
 have h0 : r.addE x ≠ 0:=by rw [hE];exact hs
 have HEnd:=Lib.hid (fun (W' : World) (hb : Below w.heap.size w W') => radd_bad hr ht h0 hE hb)
 have HForm:=Lib.hid (fun (w1 : World) (hb : Below w.heap.size w w1) => form_any (x:=x) (top:=top) (w:=w1) hx (Vt.In.below (hb.mono ht) hV) (Nat.le_trans ht hb.size))
 clear h0 hE
 generalize shapeE x = E at *
 have dE1 : (E == 0) = false:=beq_eq_false_iff_ne.2 hs
 have dE2 : (E != 0) = true:=bne_iff_ne.2 hs
 clear hs
 clear hr hV ht
 have hxk:=hx.k
 clear hx
 obtain ⟨k,key,V⟩:=x
 obtain ⟨⟨oa,on,oc,ob,oo,F⟩,⟨ta,tn,tc,tb,to',TS⟩,nd,wrong⟩:=r
 dsimp only at hw0 hnd
 subst hw0
 dsimp only at HEnd
 generalize hM : ((nd : Nat) : Int) = M at *
 have HM:=Lib.hid hM
 clear hM hnd
 have g0:=((Below.refl w.heap.size w).alloc (Nat.le_refl _) (.cells #[.slice oa on oc,.slice ta tn tc,.int .i64 M,.bool false] 53)).alloc (by simp) (.cells #[.int .i64 k,.string key,.int .i64 V.h.k,.bool V.h.b,.bool V.h.n,.string V.h.d,.int .i64 V.h.e,.int .i64 V.h.tk,.int .i64 V.h.td,.int .i64 V.h.tn,.int .i64 V.h.tz,.string V.h.x,.slice V.h.ba V.h.bn V.h.bc,.slice V.h.la V.h.ln V.h.lc,.slice V.h.fa V.h.fn V.h.fc] 57) |>.alloc (by simp;omega) (.cells #[.slice none 0 0,.slice none 0 0,.int .i64 0,.bool false] 53)
 have P0:=((Whole.new w 53 #[.slice oa on oc,.slice ta tn tc,.int .i64 M,.bool false]).alloc (.cells #[.int .i64 k,.string key,.int .i64 V.h.k,.bool V.h.b,.bool V.h.n,.string V.h.d,.int .i64 V.h.e,.int .i64 V.h.tk,.int .i64 V.h.td,.int .i64 V.h.tn,.int .i64 V.h.tz,.string V.h.x,.slice V.h.ba V.h.bn V.h.bc,.slice V.h.la V.h.ln V.h.lc,.slice V.h.fa V.h.fn V.h.fc] 57)).alloc (.cells #[.slice none 0 0,.slice none 0 0,.int .i64 0,.bool false] 53)
 have X0:=(Whole.new (w.alloc (.cells #[.slice oa on oc,.slice ta tn tc,.int .i64 M,.bool false] 53)) 57 #[.int .i64 k,.string key,.int .i64 V.h.k,.bool V.h.b,.bool V.h.n,.string V.h.d,.int .i64 V.h.e,.int .i64 V.h.tk,.int .i64 V.h.td,.int .i64 V.h.tn,.int .i64 V.h.tz,.string V.h.x,.slice V.h.ba V.h.bn V.h.bc,.slice V.h.la V.h.ln V.h.lc,.slice V.h.fa V.h.fn V.h.fc]).alloc (.cells #[.slice none 0 0,.slice none 0 0,.int .i64 0,.bool false] 53)
 have Q0:=Whole.new ((w.alloc (.cells #[.slice oa on oc,.slice ta tn tc,.int .i64 M,.bool false] 53)).alloc (.cells #[.int .i64 k,.string key,.int .i64 V.h.k,.bool V.h.b,.bool V.h.n,.string V.h.d,.int .i64 V.h.e,.int .i64 V.h.tk,.int .i64 V.h.td,.int .i64 V.h.tn,.int .i64 V.h.tz,.string V.h.x,.slice V.h.ba V.h.bn V.h.bc,.slice V.h.la V.h.ln V.h.lc,.slice V.h.fa V.h.fn V.h.fc] 57)) 53 #[.slice none 0 0,.slice none 0 0,.int .i64 0,.bool false]
 rw [World.size_alloc] at X0
 rw [World.size_alloc,World.size_alloc] at Q0
 simp only [Rst.cells,Ev.cells,evc] at HForm ⊢
 try simp only [HM.out] at HForm ⊢
 obtain ⟨c0,c1,c2,c3⟩:=P0.o4s
 obtain ⟨x0,x1,x2,x3,x4,x5,x6,x7,x8,x9,x10,x11,x12,x13,x14⟩:=Whole.e15 (g:=V.h) X0
 go_enter Tryd.func22,Tryd.ntmps22
 go_wp2_with fail
 refine (HForm.out _ g0).mono ?_;rintro _ w1 ⟨rfl,hb1⟩
 clear c0 c1 c2 c3 x0 x1 x2 x3 x4 x5 x6 x7 x8 x9 x10 x11 x12 x13 x14
 have P1:=Whole.below P0 hb1 (Whole.lt P0)
 have X1:=Whole.below X0 hb1 (Whole.lt X0)
 have Q1:=Whole.below Q0 hb1 (Whole.lt Q0)
 have g1:=below_then g0 hb1
 clear P0 X0 Q0 g0
 clear hb1 HForm
 obtain ⟨c0,c1,c2,c3⟩:=P1.o4s
 obtain ⟨x0,x1,x2,x3,x4,x5,x6,x7,x8,x9,x10,x11,x12,x13,x14⟩:=Whole.e15 (g:=V.h) X1
 have sf:=Whole.frozen P1 3
 go_upto_region 8 with (fail)
 clear sf
 clear c0 c1 c2 c3 x0 x1 x2 x3 x4 x5 x6 x7 x8 x9 x10 x11 x12 x13 x14
 have P2 : Whole (w1.setCell ⟨w.heap.size,3,none⟩ (.bool true)) w.heap.size 53 #[.slice oa on oc,.slice ta tn tc,.int .i64 M,.bool true]:=Whole.set P1 3 (.bool true)
 have X2:=Whole.far (p:=⟨w.heap.size,3,none⟩) X1 (by show (w.heap.size + 1) ≠ w.heap.size;omega) (.bool true)
 have Q2:=Whole.far (p:=⟨w.heap.size,3,none⟩) Q1 (by show (w.heap.size + 2) ≠ w.heap.size;omega) (.bool true)
 have g2:=Below.setCell (p:=⟨w.heap.size,3,none⟩) g1 (by show _ <= w.heap.size;omega) (.bool true)
 clear P1 X1 Q1 g1
 generalize w1.setCell ⟨w.heap.size,3,none⟩ (.bool true) = w2 at *
 obtain ⟨c0,c1,c2,c3⟩:=P2.o4s
 have ho2 : Hid ((#[.slice oa on oc,.slice ta tn tc,.int .i64 M,.bool true] : Array Value).all (·.oneCell') = true):=Lib.hid (by simp [Value.oneCell'])
 have Qb:=Q2
 have P3:=Whole.farRow (B':=(w.heap.size + 2)) P2 (by omega) #[.slice oa on oc,.slice ta tn tc,.int .i64 M,.bool true]
 have X3:=Whole.farRow (B':=(w.heap.size + 2)) X2 (by omega) #[.slice oa on oc,.slice ta tn tc,.int .i64 M,.bool true]
 have Q3:=Whole.setRow Q2 #[.slice oa on oc,.slice ta tn tc,.int .i64 M,.bool true]
 have g3:=below_setRow (g:=(w.heap.size + 2)) g2 (by omega) #[.slice oa on oc,.slice ta tn tc,.int .i64 M,.bool true]
 clear P2 X2 Q2 g2
 have HF:=Lib.hid (HEnd.out _ g3)
 clear HEnd
 go_wp2_with (refine wpList_store_row rfl 53 _ _ rfl (w.heap.size + 2) #[.slice oa on oc,.slice ta tn tc,.int .i64 M,.bool true] rfl rfl 53 _ Qb st_row rfl ho2.out ?_)
 exact bodyPost_ret (v:=.tuple #[.agg #[.slice oa on oc,.slice ta tn tc,.int .i64 M,.bool true],.int .i64 E]) (ret_rst2 (p:=4) (q:=5) rfl rfl Q3) rfl HF.out
theorem radd_f {r : Rst} {x : Ev} {top : Nat} {w : World} (hr : r.In w top) (hx : x.ok) (hV : x.V.In w top) (ht : top <= w.heap.size) (hnd : r.nd <= 65536) (hw0 : r.wrong = false) (hs : shapeE x = 0) (hf : r.fol x ≠ 0) :
 Calls Tryd.prog 22 #[.agg r.cells,.agg x.cells] w (RAddOut r x w):=by
 have hE : r.addE x = r.fol x:=(if_neg (by rw [hw0];decide)).trans (if_neg (fun q => q hs))
 have h0 : r.addE x ≠ 0:=by rw [hE];exact hf
 have HEnd:=Lib.hid (fun (W' : World) (hb : Below w.heap.size w W') => radd_bad hr ht h0 hE hb)
 have HForm:=Lib.hid (fun (w1 : World) (hb : Below w.heap.size w w1) => form_any (x:=x) (top:=top) (w:=w1) hx (Vt.In.below (hb.mono ht) hV) (Nat.le_trans ht hb.size))
 rw [hs] at HForm
 have HFol:=Lib.hid (fun (w1 : World) (hb : Below w.heap.size w w1) => rfol_any (r:=r) (x:=x) (top:=top) (w:=w1) (hr.below (hb.mono ht)) (Nat.le_trans ht hb.size) hx (shape_kinds hs) hnd)
 clear h0 hE
 generalize r.fol x = E at *
 have dE1 : (E == 0) = false:=beq_eq_false_iff_ne.2 hf
 have dE2 : (E != 0) = true:=bne_iff_ne.2 hf
 clear hs hf
 clear hr hV ht
 have hxk:=hx.k
 clear hx
 obtain ⟨k,key,V⟩:=x
 obtain ⟨⟨oa,on,oc,ob,oo,F⟩,⟨ta,tn,tc,tb,to',TS⟩,nd,wrong⟩:=r
 dsimp only at hw0 hnd
 subst hw0
 dsimp only at HEnd
 generalize hM : ((nd : Nat) : Int) = M at *
 have HM:=Lib.hid hM
 clear hM hnd
 have g0:=((Below.refl w.heap.size w).alloc (Nat.le_refl _) (.cells #[.slice oa on oc,.slice ta tn tc,.int .i64 M,.bool false] 53)).alloc (by simp) (.cells #[.int .i64 k,.string key,.int .i64 V.h.k,.bool V.h.b,.bool V.h.n,.string V.h.d,.int .i64 V.h.e,.int .i64 V.h.tk,.int .i64 V.h.td,.int .i64 V.h.tn,.int .i64 V.h.tz,.string V.h.x,.slice V.h.ba V.h.bn V.h.bc,.slice V.h.la V.h.ln V.h.lc,.slice V.h.fa V.h.fn V.h.fc] 57) |>.alloc (by simp;omega) (.cells #[.slice none 0 0,.slice none 0 0,.int .i64 0,.bool false] 53)
 have P0:=((Whole.new w 53 #[.slice oa on oc,.slice ta tn tc,.int .i64 M,.bool false]).alloc (.cells #[.int .i64 k,.string key,.int .i64 V.h.k,.bool V.h.b,.bool V.h.n,.string V.h.d,.int .i64 V.h.e,.int .i64 V.h.tk,.int .i64 V.h.td,.int .i64 V.h.tn,.int .i64 V.h.tz,.string V.h.x,.slice V.h.ba V.h.bn V.h.bc,.slice V.h.la V.h.ln V.h.lc,.slice V.h.fa V.h.fn V.h.fc] 57)).alloc (.cells #[.slice none 0 0,.slice none 0 0,.int .i64 0,.bool false] 53)
 have X0:=(Whole.new (w.alloc (.cells #[.slice oa on oc,.slice ta tn tc,.int .i64 M,.bool false] 53)) 57 #[.int .i64 k,.string key,.int .i64 V.h.k,.bool V.h.b,.bool V.h.n,.string V.h.d,.int .i64 V.h.e,.int .i64 V.h.tk,.int .i64 V.h.td,.int .i64 V.h.tn,.int .i64 V.h.tz,.string V.h.x,.slice V.h.ba V.h.bn V.h.bc,.slice V.h.la V.h.ln V.h.lc,.slice V.h.fa V.h.fn V.h.fc]).alloc (.cells #[.slice none 0 0,.slice none 0 0,.int .i64 0,.bool false] 53)
 have Q0:=Whole.new ((w.alloc (.cells #[.slice oa on oc,.slice ta tn tc,.int .i64 M,.bool false] 53)).alloc (.cells #[.int .i64 k,.string key,.int .i64 V.h.k,.bool V.h.b,.bool V.h.n,.string V.h.d,.int .i64 V.h.e,.int .i64 V.h.tk,.int .i64 V.h.td,.int .i64 V.h.tn,.int .i64 V.h.tz,.string V.h.x,.slice V.h.ba V.h.bn V.h.bc,.slice V.h.la V.h.ln V.h.lc,.slice V.h.fa V.h.fn V.h.fc] 57)) 53 #[.slice none 0 0,.slice none 0 0,.int .i64 0,.bool false]
 rw [World.size_alloc] at X0
 rw [World.size_alloc,World.size_alloc] at Q0
 simp only [Rst.cells,Ev.cells,evc] at HForm HFol ⊢
 try simp only [HM.out] at HForm HFol ⊢
 obtain ⟨c0,c1,c2,c3⟩:=P0.o4s
 obtain ⟨x0,x1,x2,x3,x4,x5,x6,x7,x8,x9,x10,x11,x12,x13,x14⟩:=Whole.e15 (g:=V.h) X0
 go_enter Tryd.func22,Tryd.ntmps22
 go_wp2_with fail
 refine (HForm.out _ g0).mono ?_;rintro _ w1 ⟨rfl,hb1⟩
 clear c0 c1 c2 c3 x0 x1 x2 x3 x4 x5 x6 x7 x8 x9 x10 x11 x12 x13 x14
 have P1:=Whole.below P0 hb1 (Whole.lt P0)
 have X1:=Whole.below X0 hb1 (Whole.lt X0)
 have Q1:=Whole.below Q0 hb1 (Whole.lt Q0)
 have g1:=below_then g0 hb1
 clear P0 X0 Q0 g0
 clear hb1 HForm
 obtain ⟨c0,c1,c2,c3⟩:=P1.o4s
 obtain ⟨x0,x1,x2,x3,x4,x5,x6,x7,x8,x9,x10,x11,x12,x13,x14⟩:=Whole.e15 (g:=V.h) X1
 go_wp2_with fail
 refine (HFol.out _ g1).mono ?_;rintro _ w2 ⟨rfl,hb2⟩
 clear c0 c1 c2 c3 x0 x1 x2 x3 x4 x5 x6 x7 x8 x9 x10 x11 x12 x13 x14
 have P2:=Whole.below P1 hb2 (Whole.lt P1)
 have X2:=Whole.below X1 hb2 (Whole.lt X1)
 have Q2:=Whole.below Q1 hb2 (Whole.lt Q1)
 have g2:=below_then g1 hb2
 clear P1 X1 Q1 g1
 clear hb2 HFol
 obtain ⟨c0,c1,c2,c3⟩:=P2.o4s
 obtain ⟨x0,x1,x2,x3,x4,x5,x6,x7,x8,x9,x10,x11,x12,x13,x14⟩:=Whole.e15 (g:=V.h) X2
 have sf:=Whole.frozen P2 3
 go_upto_region 8 with (fail)
 clear sf
 clear c0 c1 c2 c3 x0 x1 x2 x3 x4 x5 x6 x7 x8 x9 x10 x11 x12 x13 x14
 have P3 : Whole (w2.setCell ⟨w.heap.size,3,none⟩ (.bool true)) w.heap.size 53 #[.slice oa on oc,.slice ta tn tc,.int .i64 M,.bool true]:=Whole.set P2 3 (.bool true)
 have X3:=Whole.far (p:=⟨w.heap.size,3,none⟩) X2 (by show (w.heap.size + 1) ≠ w.heap.size;omega) (.bool true)
 have Q3:=Whole.far (p:=⟨w.heap.size,3,none⟩) Q2 (by show (w.heap.size + 2) ≠ w.heap.size;omega) (.bool true)
 have g3:=Below.setCell (p:=⟨w.heap.size,3,none⟩) g2 (by show _ <= w.heap.size;omega) (.bool true)
 clear P2 X2 Q2 g2
 generalize w2.setCell ⟨w.heap.size,3,none⟩ (.bool true) = w3 at *
 obtain ⟨c0,c1,c2,c3⟩:=P3.o4s
 have ho2 : Hid ((#[.slice oa on oc,.slice ta tn tc,.int .i64 M,.bool true] : Array Value).all (·.oneCell') = true):=Lib.hid (by simp [Value.oneCell'])
 have Qb:=Q3
 have P4:=Whole.farRow (B':=(w.heap.size + 2)) P3 (by omega) #[.slice oa on oc,.slice ta tn tc,.int .i64 M,.bool true]
 have X4:=Whole.farRow (B':=(w.heap.size + 2)) X3 (by omega) #[.slice oa on oc,.slice ta tn tc,.int .i64 M,.bool true]
 have Q4:=Whole.setRow Q3 #[.slice oa on oc,.slice ta tn tc,.int .i64 M,.bool true]
 have g4:=below_setRow (g:=(w.heap.size + 2)) g3 (by omega) #[.slice oa on oc,.slice ta tn tc,.int .i64 M,.bool true]
 clear P3 X3 Q3 g3
 have HF:=Lib.hid (HEnd.out _ g4)
 clear HEnd
 go_wp2_with (refine wpList_store_row rfl 53 _ _ rfl (w.heap.size + 2) #[.slice oa on oc,.slice ta tn tc,.int .i64 M,.bool true] rfl rfl 53 _ Qb st_row rfl ho2.out ?_)
 exact bodyPost_ret (v:=.tuple #[.agg #[.slice oa on oc,.slice ta tn tc,.int .i64 M,.bool true],.int .i64 E]) (ret_rst2 (p:=4) (q:=5) rfl rfl Q4) rfl HF.out
end Go.Proofs.YtpcbhneaaibfiaaDoor
