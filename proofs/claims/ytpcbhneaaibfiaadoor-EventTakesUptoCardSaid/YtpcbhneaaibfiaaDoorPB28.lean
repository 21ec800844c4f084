/- Laid together. -/
import Derived.Test.YtpcbhneaaibfiaaDoorPB26
import Derived.Test.YtpcbhneaaibfiaaDoorPB27
import Derived.Test.YtpcbhneaaibfiaaDoorPB23
import Derived.Test.YtpcbhneaaibfiaaDoorPB16
import Derived.Test.YtpcbhneaaibfiaaDoorPB07
import Derived.Test.YtpcbhneaaibfiaaDoorPB08
import Derived.Test.YtpcbhneaaibfiaaDoorPB04
import Derived.Test.YtpcbhneaaibfiaaDoorPB25
set_option linter.unusedVariables false
set_option linter.unusedSimpArgs false
set_option maxHeartbeats 16000000
set_option maxRecDepth 100000
namespace Go.Proofs.YtpcbhneaaibfiaaDoor
open Go.RowKit
theorem lives_any (W : World) : Calls Tryd.prog 11 #[] W fun e W' => e = .returned (.bool true) /\ Below W.heap.size W W':=by
 have hb0:=(Below.refl W.heap.size W).alloc (Nat.le_refl _) (.cells lvC 57)
 have P:=Whole.new W 57 lvC
 have hin:=lv_in P
 have HV:=Lib.hid (value_any hin (Nat.le_refl _))
 have HW:=Lib.hid (fun (w1 : World) (hb : Below (W.alloc (.cells lvC 57)).heap.size (W.alloc (.cells lvC 57)) w1) => where_any (i:=2) (Evs.In.below hin hb) hb.size ⟨by decide,by decide⟩)
 have HO:=Lib.hid (fun (X : Vt) (w1 : World) (hX : X.In w1 w1.heap.size) (hs : X.Same lvT) => ofs_any hX (Nat.le_refl _) (show X.size <= 65536 by
  obtain ⟨g1,g2,g3⟩:=Vt.look_ok (d:=1) (s:=0) hs.whole (by rw [show ((1 : Nat) : Int) = 1 from rfl,look_same hs];exact lv_look)
  have hbd:=(Vt.look_bd X 1 0 (by decide)).2
  have g3' : (X.look 1 0).1 = (0 : Int) + X.size:=g3
  omega) (show X.upto 65536 by
  obtain ⟨g1,g2,g3⟩:=Vt.look_ok (d:=1) (s:=0) hs.whole (by rw [show ((1 : Nat) : Int) = 1 from rfl,look_same hs];exact lv_look)
  exact Vt.upto_le g2 (by decide)))
 unfold ValOut at HV
 rw [lv_valE] at HV
 have HT:=Lib.hid (lv_valT W.heap.size)
 unfold WhOut at HW
 rw [lv_whE] at HW
 simp only [lvP] at HV HW
 have HS:=Lib.hid (fun (X : Vt) (w1 : World) (hX : X.In w1 w1.heap.size) (hs : X.Same lvT) => (show X.h.fn = 1 /\ X.h.fa = some ⟨X.h.fb,X.h.fo,none⟩ /\ X.h.fb < w1.heap.size /\ w1.cell? ⟨X.h.fb,X.h.fo,none⟩ = some (.string ⟨#[97]⟩) from by
  have h1 : X.h.fn = 1:=hs.flat.fn
  have h2 : X.K 0 = ⟨#[97]⟩:=hs.K (by rw [h1];exact Nat.one_pos)
  cases X with
  | nil => exact hX.elim
  | mk g Y L K F =>
   obtain ⟨_,_,_,_,_,k5,k6⟩:=hX
   have h1' : g.fn = 1:=h1
   have q:=(k6 0 (by omega)).1
   refine ⟨h1,(k5 (by omega)).1,(k5 (by omega)).2,?_⟩
   rw [show K 0 = ⟨#[97]⟩ from h2] at q
   show w1.cell? ⟨g.fb,g.fo,none⟩ = _
   simpa using q))
 have HB0:=Lib.hid hb0
 clear hin P hb0
 simp only [lvC] at HB0 HV HW
 go_enter Tryd.func11,Tryd.ntmps11
 go_wp2_with fail
 refine HV.out.mono ?_;rintro _ w2 ⟨X,rfl,hX,hXo,hXs,hb2⟩
 have hXs':=hXs.trans HT.out
 have gb:=(Below.refl w2.heap.size w2).alloc (Nat.le_refl _) (.cells X.h.cells 30)
 have HX3:=Lib.hid (hX.later gb)
 have g3:=hb2.alloc hb2.size (.cells X.h.cells 30)
 have P3:=Whole.new w2 30 X.h.cells
 obtain ⟨n1,fa,fb1,fk⟩:=HS.out X _ HX3.out hXs'
 have HXs:=Lib.hid hXs'
 have fb2:=Lib.hid fb1
 simp only [Vh.cells] at g3 P3 HX3 fk fb2 gb
 have hsz3:=P3.lt
 have HN1:=Lib.hid n1
 have HFA:=Lib.hid fa
 clear n1 fa
 go_upto_region 3 with (fail)
 obtain ⟨w3,hw3⟩ : ∃ w3,w2.alloc (.cells #[.int .i64 X.h.k,.bool X.h.b,.bool X.h.n,.string X.h.d,.int .i64 X.h.e,.int .i64 X.h.tk,.int .i64 X.h.td,.int .i64 X.h.tn,.int .i64 X.h.tz,.string X.h.x,.slice X.h.ba X.h.bn X.h.bc,.slice X.h.la X.h.ln X.h.lc,.slice X.h.fa X.h.fn X.h.fc] 30) = w3:=⟨_,rfl⟩
 simp only [hw3] at g3 P3 HX3 fk fb2 hsz3 ⊢
 have HOx:=Lib.hid (fun (w4 : World) (hb : Below w3.heap.size w3 w4) => HO.out X w4 (HX3.out.later hb) HXs.out)
 unfold OfsOut at HOx
 simp only [Vh.cells] at HOx
 rw [HFA.out,HN1.out] at HOx P3
 clear hw3 hXo hXs hXs' hX gb hb2 HV HT HS HO fb1
 go_wp2_with fail
 refine (HW.out _ g3).mono ?_;rintro _ w4 ⟨r,rfl,hr,hrs,-,hb4⟩
 obtain ⟨ra,rn,rc,rb,ro,rS⟩:=r
 have hn1 : rn = 1:=by
  have:=Pth.steps_len ⟨ra,rn,rc,rb,ro,rS⟩
  rw [hrs] at this
  exact this.symm
 subst hn1
 have hS0 : rS 0 = stK ⟨#[97]⟩:=by
  have e : (Pth.mk ra 1 rc rb ro rS).steps = [rS 0]:=rfl
  rw [e] at hrs
  exact List.head_eq_of_cons_eq hrs
 obtain ⟨hra,hrl⟩:=hr.1 Nat.one_pos
 have hra' : ra = some ⟨rb,ro,none⟩:=hra
 subst hra'
 have hl:=(hr.2.2 0 Nat.one_pos).1
 have hl' : LiesAt w4 rb ro (stK ⟨#[97]⟩).cells:=by rw [<- hS0];simpa using hl
 have HRp:=Lib.hid (And.intro hl' (show rb < w4.heap.size from hrl))
 have P4:=P3.below hb4 hsz3
 have fk4:=(hb4.cell (p:=⟨X.h.fb,X.h.fo,none⟩) fb2.out).trans fk
 have HO4:=Lib.hid (HOx.out w4 hb4)
 have G4 : Hid (Below W.heap.size W w4):=Lib.hid (below_then (below_then HB0.out g3) hb4)
 clear HW hr hrs hS0 hra hrl hl hl' HOx g3 hb4 P3 fk fb2 HX3 HB0
 have x0:=Whole.cell P4 0
 have x1:=Whole.cell P4 1
 have x2:=Whole.cell P4 2
 have x3:=Whole.cell P4 3
 have x4:=Whole.cell P4 4
 have x5:=Whole.cell P4 5
 have x6:=Whole.cell P4 6
 have x7:=Whole.cell P4 7
 have x8:=Whole.cell P4 8
 have x9:=Whole.cell P4 9
 have x10:=Whole.cell P4 10
 have x11:=Whole.cell P4 11
 have x12:=Whole.cell P4 12
 simp only [List.getElem?_toArray,List.getElem?_cons_succ,List.getElem?_cons_zero] at x0 x1 x2 x3 x4 x5 x6 x7 x8 x9 x10 x11 x12
 go_wp2_with fail
 refine HO4.out.mono ?_;rintro _ w5 ⟨⟨pa,pn,pc,pb,po,pS⟩,rfl,-,hs5,-,-,hb5⟩
 have hp4 : pn = 4:=by
  have h1:=hs5.length
  rw [Evs.list_len,(evs_same HXs.out).length,lv_evs] at h1
  exact h1
 subst hp4
 have HF : Hid (Below W.heap.size W w5):=Lib.hid (below_then G4.out hb5)
 have hl5:=HRp.out.1.below hb5 HRp.out.2
 obtain ⟨t0,t1,t2⟩:=hl5.s3
 simp only [stK] at t0 t1 t2
 have hEq : (binOp .eql 78 (.agg #[.bool false,.string ⟨#[97]⟩,.int .i64 0]) (.agg #[.bool false,.string ⟨#[97]⟩,.int .i64 0])).run Tryd.prog w5 = .ok (.bool true) w5:=by simp [go_sem]
 clear HO4 hs5 hb5 hl5 HRp G4 HXs HN1 HFA P4 fk4 x0 x1 x2 x3 x4 x5 x6 x7 x8 x9 x10 x11 x12 hsz3
 go_wp2
 (first | exact ⟨rfl,HF.out⟩ | (go_ret;exact ⟨rfl,HF.out⟩))
def RoomIs (T : Vt) : Prop:=∀ (left depth : Int) (top : Nat) (w : World),T.In w top -> top <= w.heap.size -> 0 <= left -> left <= 1000 -> 0 <= depth -> depth <= 1000 ->
 Calls Tryd.prog 56 #[.agg T.h.cells,.int .i64 left,.int .i64 depth] w fun r w' => ∃ n : Int,r = .returned (.int .i64 n) /\ (-1 : Int) <= n /\ n <= left /\ Below w.heap.size w w'
theorem roomv_any : ∀ T : Vt,RoomIs T:=by
 intro T
 induction T with
 | nil => intro left depth top w h;exact h.elim
 | mk h Y L K F ihL ihF =>
  intro left depth top w hT ht hl0 hl1 hd0 hd1
  have hb0:=(Below.refl w.heap.size w).alloc (Nat.le_refl _) (.cells h.cells 30)
  have P:=Whole.new w 30 h.cells
  have hln:=hT.1.ln
  have hfn:=hT.1.fn
  have HLa:=Lib.hid hT.2.2.2.1
  have HLi:=Lib.hid hT.2.2.2.2.1
  have HFa:=Lib.hid hT.2.2.2.2.2.1
  have HFi:=Lib.hid hT.2.2.2.2.2.2
  have IHL:=Lib.hid ihL
  have IHF:=Lib.hid ihF
  have HT:=Lib.hid ht
  clear hT ihL ihF ht
  have n1 : (0 : Int) <= h.ln:=by omega
  have n2 : (h.ln : Int) <= 1048576:=by omega
  have n3 : (0 : Int) <= h.fn:=by omega
  have n4 : (h.fn : Int) <= 1048576:=by omega
  obtain ⟨c0,c1,c2,c3,c4,c5,c6,c7,c8,c9,c10,c11,c12⟩:=Whole.c13 (h:=h) P
  simp only [Vt.h,Vh.cells] at hb0 P c0 c1 c2 c3 c4 c5 c6 c7 c8 c9 c10 c11 c12 ⊢
  by_cases x1 : depth <= 0
  ·go_enter Tryd.func56,Tryd.ntmps56
   go_wp2
   go_ret
   exact ⟨-1,rfl,by omega,by omega,hb0⟩
  by_cases x2 : left - 1 < (h.ln : Int)
  ·go_enter Tryd.func56,Tryd.ntmps56
   go_wp2
   go_ret
   exact ⟨-1,rfl,by omega,by omega,hb0⟩
  by_cases x3 : left - 1 < (h.fn : Int)
  ·go_enter Tryd.func56,Tryd.ntmps56
   go_wp2
   go_ret
   exact ⟨-1,rfl,by omega,by omega,hb0⟩
  clear c0 c1 c2 c3 c4 c5 c6 c7 c8 c9 c10
  go_enter Tryd.func56,Tryd.ntmps56
  go_wp2_with fail
  go_loopw [1,7] (fun v i wr => ∃ (m : Int) (j : Nat),(-1 : Int) <= m /\ m <= left /\ j <= h.ln /\ v = .int .i64 m /\ i = .int .i64 j /\ Whole wr w.heap.size 30 #[.int .i64 h.k,.bool h.b,.bool h.n,.string h.d,.int .i64 h.e,.int .i64 h.tk,.int .i64 h.td,.int .i64 h.tn,.int .i64 h.tz,.string h.x,.slice h.ba h.bn h.bc,.slice h.la h.ln h.lc,.slice h.fa h.fn h.fc] /\ Below w.heap.size w wr) (fun _ i _ => h.ln - (intOf i).toNat)
  case atStart => exact ⟨_,0,by omega,by omega,by omega,rfl,rfl,P,hb0⟩
  case round =>
   clear hb0 P c11 c12
   obtain ⟨m,j,hm1,hm2,hj,rfl,rfl,P,hbr⟩:=hrel
   have hji : (0 : Int) <= j:=by omega
   have cl:=Whole.cell P 11
   simp only [List.getElem?_toArray,List.getElem?_cons_succ,List.getElem?_cons_zero] at cl
   by_cases hjn : j < h.ln
   ·have hjl : (j : Int) < h.ln:=by omega
    by_cases hm0 : 0 <= m
    ·have hm0' : (0 : Int) <= m:=hm0
     obtain ⟨ea,elt⟩:=HLa.out (by omega)
     have elt' : h.lb < w.heap.size:=Nat.lt_of_lt_of_le elt HT.out
     have q1:=HLi.out j hjn
     have hl:=q1.1.below hbr elt'
     obtain ⟨l0,l1,l2,l3,l4,l5,l6,l7,l8,l9,l10,l11,l12⟩:=hl.c13
     have HC:=Lib.hid (IHL.out j m (depth - 1) top wr (Vt.In.below (hbr.mono HT.out) (q1.2)) (Nat.le_trans HT.out hbr.size) hm0 (by omega) (by omega) (by omega))
     clear q1
     generalize hG : (L j).h = G at *
     clear hG
     simp only [Vh.cells] at HC
     rw [ea] at cl
     clear ea
     go_wp2_with fail
     refine HC.out.mono ?_;rintro _ w3 ⟨n',rfl,hn1,hn2,hb3⟩
     have P3:=P.below hb3 P.lt
     have g3:=below_then hbr hb3
     clear HC hb3 P hbr cl hl l0 l1 l2 l3 l4 l5 l6 l7 l8 l9 l10 l11 l12
     go_wp2
     go_roundw
     case rel => exact ⟨n',j + 1,hn1,by omega,by omega,rfl,by go_num,P3,g3⟩
     case measure => simp [intOf];omega
    ·have hm9 : m < 0:=by omega
     have hm8 : ¬ (0 : Int) <= m:=hm0
     go_wp2_with fail
     go_loopw [1,8] (fun v i wr => v = .int .i64 m /\ i = .int .i64 0 /\ Whole wr w.heap.size 30 #[.int .i64 h.k,.bool h.b,.bool h.n,.string h.d,.int .i64 h.e,.int .i64 h.tk,.int .i64 h.td,.int .i64 h.tn,.int .i64 h.tz,.string h.x,.slice h.ba h.bn h.bc,.slice h.la h.ln h.lc,.slice h.fa h.fn h.fc] /\ Below w.heap.size w wr) (fun _ i _ => 0)
     case atStart => exact ⟨rfl,rfl,P,hbr⟩
     case round =>
      clear hbr P cl
      obtain ⟨rfl,rfl,P,hbr⟩:=hrel
      have cl:=Whole.cell P 12
      simp only [List.getElem?_toArray,List.getElem?_cons_succ,List.getElem?_cons_zero] at cl
      go_wp2
      all_goals (go_ret;exact ⟨_,rfl,by omega,by omega,hbr⟩)
   ·obtain rfl : j = h.ln:=by omega
    go_wp2_with fail
    go_loopw [1,8] (fun v i wr => ∃ (m : Int) (j : Nat),(-1 : Int) <= m /\ m <= left /\ j <= h.fn /\ v = .int .i64 m /\ i = .int .i64 j /\ Whole wr w.heap.size 30 #[.int .i64 h.k,.bool h.b,.bool h.n,.string h.d,.int .i64 h.e,.int .i64 h.tk,.int .i64 h.td,.int .i64 h.tn,.int .i64 h.tz,.string h.x,.slice h.ba h.bn h.bc,.slice h.la h.ln h.lc,.slice h.fa h.fn h.fc] /\ Below w.heap.size w wr) (fun _ i _ => h.fn - (intOf i).toNat)
    case atStart => exact ⟨_,0,by omega,by omega,by omega,rfl,rfl,P,hbr⟩
    case round =>
     clear hbr P cl
     obtain ⟨m,j,hm1,hm2,hj,rfl,rfl,P,hbr⟩:=hrel
     have hji : (0 : Int) <= j:=by omega
     have cl:=Whole.cell P 12
     simp only [List.getElem?_toArray,List.getElem?_cons_succ,List.getElem?_cons_zero] at cl
     by_cases hjn : j < h.fn
     ·have hjl : (j : Int) < h.fn:=by omega
      by_cases hm0 : 0 <= m
      ·have hm0' : (0 : Int) <= m:=hm0
       obtain ⟨ea,elt⟩:=HFa.out (by omega)
       have elt' : h.fb < w.heap.size:=Nat.lt_of_lt_of_le elt HT.out
       have q1:=HFi.out j hjn
       obtain ⟨k0,k1,k2,k3⟩:=q1
       have hl:=lies_c14 (lies_fcs ((hbr.cell (p:=⟨h.fb,h.fo + j * 14,none⟩) elt').trans k0) (k2.below hbr elt'))
       obtain ⟨l0,l1,l2,l3,l4,l5,l6,l7,l8,l9,l10,l11,l12,l13⟩:=hl
       clear k0 k1 k2
       have HC:=Lib.hid (IHF.out j m (depth - 1) top wr (Vt.In.below (hbr.mono HT.out) (k3)) (Nat.le_trans HT.out hbr.size) hm0 (by omega) (by omega) (by omega))
       clear k3
       generalize K j = y at *
       obtain ⟨G,hG⟩ : ∃ G,(F j).h = G:=⟨_,rfl⟩
       rw [hG] at l1 l2 l3 l4 l5 l6 l7 l8 l9 l10 l11 l12 l13 HC
       clear hG
       simp only [Vh.cells] at HC
       rw [ea] at cl
       clear ea
       go_wp2_with fail
       refine HC.out.mono ?_;rintro _ w3 ⟨n',rfl,hn1,hn2,hb3⟩
       have P3:=P.below hb3 P.lt
       have g3:=below_then hbr hb3
       clear HC hb3 P hbr cl l0 l1 l2 l3 l4 l5 l6 l7 l8 l9 l10 l11 l12 l13
       go_wp2
       go_roundw
       case rel => exact ⟨n',j + 1,hn1,by omega,by omega,rfl,by go_num,P3,g3⟩
       case measure => simp [intOf];omega
      ·have hm9 : m < 0:=by omega
       have hm8 : ¬ (0 : Int) <= m:=hm0
       go_wp2_with fail
       go_ret
       exact ⟨_,rfl,by omega,by omega,hbr⟩
     ·obtain rfl : j = h.fn:=by omega
      go_wp2_with fail
      go_ret
      exact ⟨_,rfl,by omega,by omega,hbr⟩
theorem small_any {T : Vt} {most depth : Int} {top : Nat} {w : World} (hT : T.In w top) (ht : top <= w.heap.size) (h1 : 0 <= most) (h2 : most <= 1000) (h3 : 0 <= depth) (h4 : depth <= 1000) :
 Calls Tryd.prog 36 #[.agg T.h.cells,.int .i64 most,.int .i64 depth] w fun r w' => ∃ c : Bool,r = .returned (.bool c) /\ Below w.heap.size w w':=by
 have hb0:=(Below.refl w.heap.size w).alloc (Nat.le_refl _) (.cells T.h.cells 30)
 have P:=Whole.new w 30 T.h.cells
 have HR:=Lib.hid (roomv_any T most depth top (w.alloc (.cells T.h.cells 30)) (Vt.In.below (hb0.mono ht) hT) (Nat.le_trans ht hb0.size) h1 h2 h3 h4)
 obtain ⟨c0,c1,c2,c3,c4,c5,c6,c7,c8,c9,c10,c11,c12⟩:=Whole.c13 (h:=T.h) P
 clear hT ht P
 simp only [Vh.cells] at hb0 HR c0 c1 c2 c3 c4 c5 c6 c7 c8 c9 c10 c11 c12 ⊢
 go_enter Tryd.func36,Tryd.ntmps36
 go_wp2_with fail
 refine HR.out.mono ?_;rintro _ w1 ⟨n,rfl,-,-,hb1⟩
 have g1:=below_then hb0 hb1
 clear HR hb0 hb1 c0 c1 c2 c3 c4 c5 c6 c7 c8 c9 c10 c11 c12
 go_wp2
 go_ret
 exact ⟨_,rfl,g1⟩
def KidsOut (T : Vt) (w : World) (e : Ending) (w' : World) : Prop :=
 ∃ (a : Option Addr) (c b o : Nat),e = .returned (.slice a T.kn c) /\ (0 < T.kn -> a = some ⟨b,o,none⟩ /\ b < w'.heap.size) /\ (∀ i,i < T.kn -> LiesAt w' b (o + i * 13) (T.kid i).h.cells) /\ Below w.heap.size w w'
theorem kids_any {T : Vt} {top : Nat} {w : World} (hT : T.In w top) (ht : top <= w.heap.size) :
 Calls Tryd.prog 66 #[.agg T.h.cells] w (KidsOut T w):=by
 cases T with
 | nil => exact hT.elim
 | mk h Y L K F =>
 obtain ⟨h0,_,_,h3,h4,h5,h6⟩:=hT
 have P:=Whole.new w 30 h.cells
 have hb0:=(Below.refl w.heap.size w).alloc (Nat.le_refl _) (.cells h.cells 30)
 have hk:=h0.k
 have hln:=h0.ln
 have hfn:=h0.fn
 by_cases k7 : h.k = 7
 case neg =>
  have e1 : (Vt.mk h Y L K F).kn = h.ln:=if_neg k7
  have e2 : ∀ i,(Vt.mk h Y L K F).kid i = L i:=fun i => if_neg k7
  have HQ : Hid (∀ w',Below w.heap.size w w' -> KidsOut (.mk h Y L K F) w (.returned (.slice h.la h.ln h.lc)) w'):=Lib.hid fun w' hb => by
   refine ⟨h.la,h.lc,h.lb,h.lo,by rw [e1],fun hp => ?_,fun i hi => ?_,hb⟩
   ·rw [e1] at hp
    obtain ⟨a,b⟩:=h3 hp
    exact ⟨a,by have:=hb.size;omega⟩
   ·rw [e1] at hi
    rw [e2]
    obtain ⟨a,b⟩:=h3 (by omega)
    exact (h4 i hi).1.below hb (by omega)
  have d1 : (h.k != 7) = true:=by simpa using k7
  have d2 : (h.k == 7) = false:=by simpa using k7
  clear e1 e2 h0 h3 h4 h5 h6 k7
  go_enter Tryd.func66,Tryd.ntmps66
  simp only [Vt.h,Vh.cells] at *
  go_wp2_with fail
  go_ret
  exact HQ.out _ hb0
 have e1 : (Vt.mk h Y L K F).kn = h.fn:=if_pos k7
 have e2 : ∀ i,(Vt.mk h Y L K F).kid i = F i:=fun i => if_pos k7
 obtain ⟨i0,hi,hz0,hz1,hz2⟩:=info_parts Tryd.infoVal
 have hsz:=vh_size
 have HQ : Hid (∀ (v : Value) (w' : World),w'.ownsRow (w.heap.size + 1) 30 13 v h.fn (catN (fun i => (F i).h.cells) h.fn) -> Below w.heap.size w w' -> KidsOut (.mk h Y L K F) w (.returned v) w'):=Lib.hid fun v w' ho hb => by
  obtain ⟨a,c,b,rfl,_,ha,hl⟩:=own_lies (fun i => vh_size _) ho
  refine ⟨a,c,b,0,by rw [e1],fun hp => ?_,fun i hi => ?_,hb⟩
  ·rw [e1] at hp
   exact ⟨(ha hp).1,(ha hp).2.2⟩
  ·rw [e1] at hi
   rw [e2,Nat.zero_add]
   exact hl i hi
 have d1 : (h.k != 7) = false:=by simpa using k7
 have d2 : (h.k == 7) = true:=by simpa using k7
 have HF : Hid (∀ i,i < h.fn -> LiesAt w h.fb (h.fo + i * 14 + 1) (F i).h.cells):=Lib.hid fun i hi => (h6 i hi).2.2.1
 have HA : Hid (0 < h.fn -> h.fa = some ⟨h.fb,h.fo,none⟩ /\ h.fb < w.heap.size):=Lib.hid fun hp => ⟨(h5 hp).1,by have:=(h5 hp).2;omega⟩
 clear e1 e2 h0 h3 h4 h5 h6 k7 hsz
 have hn0 : (0 : Int) <= h.fn:=by omega
 have hn2 : (h.fn : Int) <= 1048576:=by omega
 go_enter Tryd.func66,Tryd.ntmps66
 simp only [Vt.h,Vh.cells] at hb0 ⊢
 go_wp2_with fail
 go_loopw [3,4] (fun v i wr => ∃ k : Nat,k <= h.fn /\ i = .int .i64 k /\ wr.ownsRow (w.heap.size + 1) 30 13 v k (catN (fun i => (F i).h.cells) k) /\ Whole wr w.heap.size 30 h.cells /\ Below w.heap.size w wr) (fun _ i _ => h.fn - (intOf i).toNat)
 case atStart => exact ⟨0,by omega,rfl,World.ownsRow_nil _ _ _ _,P,hb0⟩
 case round =>
  clear P hb0
  obtain ⟨k,hk,rfl,hown,P,hbr⟩:=hrel
  have hki : (0 : Int) <= k:=by omega
  obtain ⟨c0,c1,c2,c3,c4,c5,c6,c7,c8,c9,c10,c11,c12⟩:=Whole.c13 (h:=h) P
  clear c1 c2 c3 c4 c5 c6 c7 c8 c9 c10 c11
  by_cases hkn : k < h.fn
  ·obtain ⟨ha,hlt⟩:=HA.out (by omega)
   have hl:=(HF.out k hkn).below hbr hlt
   obtain ⟨g0,g1,g2,g3,g4,g5,g6,g7,g8,g9,g10,g11,g12⟩:=hl.c13
   have hki2 : (k : Int) < h.fn:=by omega
   rw [ha] at c12
   have hsz:=Whole.lt P
   have HS:=Lib.hid (World.size_alloc wr (.cells (F k).h.cells 30))
   clear hl ha hkn
   generalize hG : (F k).h = G at *
   have HG:=Lib.hid hG
   clear hG
   go_wp2_with (at_builtin;refine wpList_append_own _ rfl _ _ 27 rfl (w.heap.size + 1) 30 i0 (.agg Vh.zero.cells) 13 168 Tryd.underlying27 hi hz0 hz1 hz2 rfl (by decide) _ _ _ rfl (hown.alloc _) ⟨wr.heap.size,0,none⟩ 1 1 G.cells.toList rfl rfl ?c1 ?c2 ?c3 ?c4 ?c5 ?_)
   case c1 => exact cells_new _ _ G.cells
   case c2 => exact vh_one G
   case c3 => unfold maxLen;omega
   case c4 => omega
   case c5 => simp;omega
   intro v' w3 hown3 hgrow _
   have P3 : Whole w3 w.heap.size 30 h.cells:=(Whole.alloc P _).kept hgrow (own_away hown (by omega))
   have hb3:=below_grown hbr (by omega) hown (by omega) hgrow
   have hxs : catN (fun i => (F i).h.cells) k ++ G.cells.toList = catN (fun i => (F i).h.cells) (k + 1):=by rw [<- HG.out];rfl
   rw [hxs] at hown3
   clear hxs hown P hbr hgrow g0 g1 g2 g3 g4 g5 g6 g7 g8 g9 g10 g11 g12 c0 c12 HS HG
   go_wp2
   go_roundw
   case rel => exact ⟨k + 1,by omega,by go_num,hown3,P3,hb3⟩
   case measure => simp [intOf];omega
  ·obtain rfl : k = h.fn:=by omega
   clear hkn
   go_wp2
   go_ret
   exact HQ.out _ _ hown hbr
theorem Vt.In.kid {W : World} {top : Nat} {T : Vt} (h : T.In W top) {i : Nat} (hi : i < T.kn) : (T.kid i).In W top:=by
 cases T with
 | nil => exact h.elim
 | mk g Y L K F =>
  obtain ⟨_,_,_,_,h4,_,h6⟩:=h
  by_cases k7 : g.k = 7
  ·have e1 : (Vt.mk g Y L K F).kn = g.fn:=if_pos k7
   have e2 : (Vt.mk g Y L K F).kid i = F i:=if_pos k7
   rw [e2]
   exact (h6 i (by omega)).2.2.2
  ·have e1 : (Vt.mk g Y L K F).kn = g.ln:=if_neg k7
   have e2 : (Vt.mk g Y L K F).kid i = L i:=if_neg k7
   rw [e2]
   exact (h4 i (by omega)).2
theorem Vt.kn_le {W : World} {top : Nat} {T : Vt} (h : T.In W top) : T.kn <= 1048576:=by
 cases T with
 | nil => exact h.elim
 | mk g Y L K F =>
  have h0:=h.1
  unfold Vt.kn
  split
  ·exact h0.fn
  ·exact h0.ln
theorem Vt.kids_ind {p : Vt -> Prop} (h : ∀ T : Vt,T ≠ .nil -> (∀ i,i < T.kn -> p (T.kid i)) -> p T) (h0 : p .nil) : ∀ T,p T:=by
 intro T
 induction T with
 | nil => exact h0
 | mk g Y L K F ihL ihF =>
  refine h _ (by intro e;cases e) fun i hi => ?_
  by_cases k7 : g.k = 7
  ·rw [show (Vt.mk g Y L K F).kid i = F i from if_pos k7];exact ihF i
  ·rw [show (Vt.mk g Y L K F).kid i = L i from if_neg k7];exact ihL i
def LookIs (T : Vt) : Prop:=∀ (d s : Int) (top : Nat) (w : World),T.In w top -> top <= w.heap.size -> 0 <= d -> d <= 49 -> 0 <= s -> s <= 65536 ->
 Calls Tryd.prog 57 #[.agg T.h.cells,.int .i64 d,.int .i64 s] w fun r w' => r = .returned (.tuple #[.int .i64 (T.look d s).1,.int .i64 (T.look d s).2]) /\ Below w.heap.size w w'
theorem look_any : ∀ T : Vt,LookIs T:=by
 refine Vt.kids_ind (fun T hne ih => ?_) (fun _ _ _ _ h => h.elim)
 intro d s top w hT ht d0 d1 s0 s1
 have hb0:=(Below.refl w.heap.size w).alloc (Nat.le_refl _) (.cells T.h.cells 30)
 have P:=Whole.new w 30 T.h.cells
 have hkn:=Vt.kn_le hT
 have HI:=Lib.hid hT
 have HO:=Lib.hid (fun (w1 : World) (hb : Below w.heap.size w w1) => one_any (T:=T) (Vt.In.below (hb.mono ht) hT) (Nat.le_trans ht hb.size))
 have HKd:=Lib.hid (fun (w1 : World) (hb : Below w.heap.size w w1) => kids_any (T:=T) (Vt.In.below (hb.mono ht) hT) (Nat.le_trans ht hb.size))
 have HR:=Lib.hid (Vt.look_eq hne d s)
 have HI2:=Lib.hid ih
 clear ih hne hT
 obtain ⟨R,hR⟩ : ∃ R,T.look d s = R:=⟨_,rfl⟩
 rw [hR] at HR ⊢
 clear hR
 obtain ⟨R1,R2⟩:=R
 dsimp only at HR ⊢
 by_cases t1 : 48 < d
 ·have e:=HR.out
  rw [if_pos t1,Prod.mk.injEq] at e
  obtain ⟨rfl,rfl⟩:=e
  clear HR
  go_enter Tryd.func57,Tryd.ntmps57
  simp only [Vh.cells] at hb0 ⊢
  go_wp2_with fail
  go_ret2
  exact ⟨rfl,hb0⟩
 by_cases t2 : 65536 <= s
 ·have e:=HR.out
  rw [if_neg t1,if_pos t2,Prod.mk.injEq] at e
  obtain ⟨rfl,rfl⟩:=e
  clear HR
  go_enter Tryd.func57,Tryd.ntmps57
  simp only [Vh.cells] at hb0 ⊢
  go_wp2_with fail
  go_ret2
  exact ⟨rfl,hb0⟩
 by_cases t3 : oneE T ≠ 0
 ·have e:=HR.out
  rw [if_neg t1,if_neg t2,if_pos t3,Prod.mk.injEq] at e
  obtain ⟨rfl,rfl⟩:=e
  have u1 : (oneE T == 0) = false:=beq_eq_false_iff_ne.2 t3
  have u2 : (oneE T != 0) = true:=by simpa using t3
  clear HR
  generalize oneE T = E at *
  clear t3
  go_enter Tryd.func57,Tryd.ntmps57
  simp only [Vh.cells] at hb0 HO ⊢
  go_wp2_with fail
  refine (HO.out _ hb0).mono ?_;rintro _ w1 ⟨rfl,hb1⟩
  go_wp2_with fail
  go_ret2
  exact ⟨rfl,below_then hb0 hb1⟩
 have e0 : oneE T = 0:=Classical.byContradiction t3
 have HR2 : Hid ((R1,R2) = foldE (fun i t => (T.kid i).look (d + 1) t) T.kn (s + 1)):=Lib.hid (by rw [HR.out,if_neg t1,if_neg t2,if_neg t3])
 clear HR t3
 rw [e0] at HO
 clear e0
 have hd : d <= 48:=by omega
 have hs : s <= 65535:=by omega
 clear t1 t2 d1 s1
 have HF : Hid (∀ k,s + 1 <= (foldE (fun i t => (T.kid i).look (d + 1) t) k (s + 1)).1 /\ (foldE (fun i t => (T.kid i).look (d + 1) t) k (s + 1)).1 <= 65536):=Lib.hid fun k => foldE_bd (by omega) (fun i t ht => Vt.look_bd (T.kid i) (d + 1) t ht) k
 go_enter Tryd.func57,Tryd.ntmps57
 simp only [Vh.cells] at hb0 HO HKd ⊢
 go_wp2_with fail
 refine (HO.out _ hb0).mono ?_;rintro _ w1 ⟨rfl,hb1⟩
 have g1:=below_then hb0 hb1
 have P1:=P.below hb1 P.lt
 obtain ⟨c0,c1,c2,c3,c4,c5,c6,c7,c8,c9,c10,c11,c12⟩:=P1.c13
 go_wp2_with fail
 refine (HKd.out _ g1).mono ?_;rintro _ w2 ⟨a,c,b,o,rfl,ha,hl,hb2⟩
 have g2:=below_then g1 hb2
 clear c0 c1 c2 c3 c4 c5 c6 c7 c8 c9 c10 c11 c12 P P1 HO HKd hb0 hb1 hb2 g1
 by_cases hz : T.kn = 0
 ·have e:=HR2.out
  rw [hz] at e
  simp only [foldE,Prod.mk.injEq] at e
  obtain ⟨rfl,rfl⟩:=e
  rw [hz]
  clear HR2 ha hl HF HI2 HI hz hkn
  go_wp2_with fail
  go_loopw [2,10] (fun v i wr => v = .int .i64 (s + 1) /\ i = .int .i64 0 /\ Below w.heap.size w wr) (fun _ i _ => 0)
  case atStart => exact ⟨rfl,rfl,g2⟩
  case round =>
   obtain ⟨rfl,rfl,hbr⟩:=hrel
   go_wp2
   go_ret2
   exact ⟨rfl,hbr⟩
 obtain ⟨rfl,hbl⟩:=ha (by omega)
 have HL:=Lib.hid hl
 have HB:=Lib.hid hbl
 clear hl hbl hz ha
 have hn2 : (T.kn : Int) <= 1048576:=by omega
 obtain ⟨n,hn⟩ : ∃ n,T.kn = n:=⟨_,rfl⟩
 rw [hn] at hkn HL HR2 hn2 ⊢
 have HN:=Lib.hid hn
 clear hn
 obtain ⟨f,hf⟩ : ∃ f,(fun i t => (T.kid i).look (d + 1) t) = f:=⟨_,rfl⟩
 rw [hf] at HR2 HF
 have Hf:=Lib.hid hf
 clear hf
 go_wp2_with fail
 go_loopw [2,10] (fun v i wr => ∃ k : Nat,k <= n /\ i = .int .i64 k /\ v = .int .i64 (foldE f k (s + 1)).1 /\ (foldE f k (s + 1)).2 = 0 /\ Below w.heap.size w wr /\ Below w2.heap.size w2 wr) (fun _ i _ => n - (intOf i).toNat)
 case atStart => exact ⟨0,by omega,rfl,rfl,rfl,g2,Below.refl _ _⟩
 case round =>
  clear g2
  obtain ⟨k,hk,rfl,rfl,hk0,hbr,hbx⟩:=hrel
  have hki : (0 : Int) <= k:=by omega
  obtain ⟨q1,q2⟩:=HF.out k
  have hstay:=foldE_stays (f:=f) (s:=s + 1) (n:=k + 1)
  have hsucc:=foldE_succ (f:=f) (s:=s + 1) (n:=k) hk0
  obtain ⟨t,ht'⟩ : ∃ t,(foldE f k (s + 1)).1 = t:=⟨_,rfl⟩
  rw [ht'] at q1 q2 hsucc ⊢
  by_cases hkn' : k < n
  ·have hl:=(HL.out k hkn').below hbx HB.out
   obtain ⟨l0,l1,l2,l3,l4,l5,l6,l7,l8,l9,l10,l11,l12⟩:=hl.c13
   have hki2 : (k : Int) < n:=by omega
   have hrec:=HI2.out k (by rw [HN.out];exact hkn') (d + 1) t top wr (Vt.In.below (hbr.mono ht) (HI.out.kid (by rw [HN.out];exact hkn'))) (Nat.le_trans ht hbr.size) (by omega) (by omega) (by omega) (by omega)
   have hfk : (T.kid k).look (d + 1) t = f k t:=by rw [<- Hf.out]
   rw [hfk] at hrec
   have HC:=Lib.hid hrec
   have HS:=Lib.hid hsucc
   have HT:=Lib.hid hstay
   have H0:=Lib.hid hk0
   have HTt:=Lib.hid ht'
   clear hl hrec hsucc hfk hk0 ht' hstay
   obtain ⟨S,hS⟩ : ∃ S,f k t = S:=⟨_,rfl⟩
   rw [hS] at HC HS
   have HSS:=Lib.hid hS
   clear hS
   obtain ⟨S1,S2⟩:=S
   generalize hG : (T.kid k).h = G at *
   clear hG
   by_cases z : S2 = 0
   ·subst z
    go_wp2_with fail
    refine HC.out.mono ?_;rintro _ w3 ⟨rfl,hb3⟩
    clear l0 l1 l2 l3 l4 l5 l6 l7 l8 l9 l10 l11 l12
    go_wp2
    go_roundw
    case rel => exact ⟨k + 1,by omega,by go_num,by rw [HS.out],by rw [HS.out],below_then hbr hb3,below_then hbx hb3⟩
    case measure => simp [intOf];omega
   ·have z1 : (S2 == 0) = false:=beq_eq_false_iff_ne.2 z
    have z2 : (S2 != 0) = true:=by simpa using z
    have e : (R1,R2) = (S1,S2):=by
     rw [HR2.out,HT.out (by rw [HS.out];exact z) n (by omega),HS.out]
    rw [Prod.mk.injEq] at e
    obtain ⟨rfl,rfl⟩:=e
    clear HR2 z
    go_wp2_with fail
    refine HC.out.mono ?_;rintro _ w3 ⟨rfl,hb3⟩
    clear l0 l1 l2 l3 l4 l5 l6 l7 l8 l9 l10 l11 l12
    go_wp2
    go_ret2
    exact ⟨rfl,below_then hbr hb3⟩
  ·obtain rfl : k = n:=by omega
   have e:=HR2.out
   have e1 : R1 = t:=by rw [<- ht',<- e]
   have e2 : R2 = 0:=by rw [<- hk0,<- e]
   subst e1 e2
   clear HR2 e hkn' hk0 hsucc hstay ht'
   go_wp2
   go_ret2
   exact ⟨rfl,hbr⟩
theorem check_any {T : Vt} {top : Nat} {w : World} (hT : T.In w top) (ht : top <= w.heap.size) :
 Calls Tryd.prog 37 #[.agg T.h.cells] w fun r w' => r = .returned (.int .i64 (T.look 1 0).2) /\ Below w.heap.size w w':=by
 have hb0:=(Below.refl w.heap.size w).alloc (Nat.le_refl _) (.cells T.h.cells 30)
 have HL:=Lib.hid (look_any T 1 0 top (w.alloc (.cells T.h.cells 30)) (Vt.In.below (hb0.mono ht) hT) (Nat.le_trans ht hb0.size) (by decide) (by decide) (by decide) (by decide))
 clear hT
 generalize T.look 1 0 = R at *
 obtain ⟨R1,R2⟩:=R
 simp only [Vh.cells] at hb0 HL ⊢
 go_enter Tryd.func37,Tryd.ntmps37
 go_wp2_with fail
 refine HL.out.mono ?_;rintro _ w1 ⟨rfl,hb1⟩
 go_wp2
 go_ret
 exact ⟨rfl,below_then hb0 hb1⟩
theorem few_any {p : Evs} {top : Nat} {w : World} (hp : p.In w top) (ht : top <= w.heap.size) :
 Calls Tryd.prog 15 #[.slice p.a p.n p.c] w fun r w' => ∃ c : Bool,r = .returned (.bool c) /\ (c = true -> p.n <= 200) /\ Below w.heap.size w w':=by
 have hn1:=hp.2.1.1
 have hnj : ((p.n : Nat) : Int) <= 1048576:=by omega
 have hni : (0 : Int) <= ((p.n : Nat) : Int):=by omega
 have HP:=Lib.hid hp
 have HT:=Lib.hid ht
 clear hp ht
 by_cases h2 : 200 < p.n
 ·have h3 : (200 : Int) < (p.n : Int):=by omega
  go_enter Tryd.func15,Tryd.ntmps15
  go_wp2
  go_ret
  exact ⟨false,rfl,fun q => (by cases q),Below.refl _ _⟩
 have h3 : (p.n : Int) <= 200:=by omega
 have Hn : Hid (p.n <= 200):=Lib.hid (by omega)
 clear h2
 go_enter Tryd.func15,Tryd.ntmps15
 go_wp2_with fail
 go_loopw [3] (fun i wr => ∃ j : Nat,j <= p.n /\ i = .int .i64 j /\ Below w.heap.size w wr) (fun i _ => p.n - (intOf i).toNat)
 case atStart => exact ⟨0,by omega,rfl,Below.refl _ _⟩
 case round =>
  obtain ⟨j,hj,rfl,hbr⟩:=hrel
  have hji : (0 : Int) <= j:=by omega
  by_cases hjn : j < p.n
  ·have hjl : (j : Int) < p.n:=by omega
   obtain ⟨ea,elt⟩:=HP.out.1 (by omega)
   obtain ⟨q1,q2,q3⟩:=HP.out.2.2 j hjn
   have hl:=(q1.below (hbr.mono HT.out) elt).e15
   obtain ⟨l0,l1,l2,l3,l4,l5,l6,l7,l8,l9,l10,l11,l12,l13,l14⟩:=hl
   have HC:=Lib.hid (small_any (T:=(p.S j).V) (most:=30) (depth:=60) (w:=wr) (Vt.In.below (hbr.mono HT.out) q3) (Nat.le_trans HT.out hbr.size) (by decide) (by decide) (by decide) (by decide))
   rw [ea]
   clear q1 q2 q3 ea elt
   generalize p.S j = x at *
   obtain ⟨k,key,V⟩:=x
   dsimp only at l0 l1 l2 l3 l4 l5 l6 l7 l8 l9 l10 l11 l12 l13 l14 HC
   simp only [Vh.cells] at HC
   go_wp2_with fail
   refine HC.out.mono ?_;rintro _ w3 ⟨c,rfl,hb3⟩
   have g3:=below_then hbr hb3
   clear HC hb3 hbr l0 l1 l2 l3 l4 l5 l6 l7 l8 l9 l10 l11 l12 l13 l14
   cases c
   ·go_wp2
    go_ret
    exact ⟨false,rfl,fun q => (by cases q),g3⟩
   ·go_wp2
    go_roundw
    case rel => exact ⟨j + 1,by omega,by go_num,g3⟩
    case measure => simp [intOf];omega
  ·go_wp2
   go_ret
   exact ⟨true,rfl,fun _ => Hn.out,hbr⟩
end Go.Proofs.YtpcbhneaaibfiaaDoor
