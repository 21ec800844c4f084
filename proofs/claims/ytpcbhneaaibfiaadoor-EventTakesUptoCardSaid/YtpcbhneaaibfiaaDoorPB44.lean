/- Laid together. -/
import Derived.Test.YtpcbhneaaibfiaaDoorPB40
import Derived.Test.YtpcbhneaaibfiaaDoorPB43
import Derived.Test.YtpcbhneaaibfiaaDoorPB25
import Derived.Test.YtpcbhneaaibfiaaDoorPB41
import Derived.Test.YtpcbhneaaibfiaaDoorPB42
import Derived.Test.YtpcbhneaaibfiaaDoorPB27
set_option linter.unusedVariables false
set_option linter.unusedSimpArgs false
set_option maxHeartbeats 16000000
set_option maxRecDepth 100000
namespace Go.Proofs.YtpcbhneaaibfiaaDoor
open Go.RowKit
def ParOut (q : Pth) (top : Nat) (w : World) (e : Ending) (w' : World) : Prop:=∃ (q' : Pth) (b : Bool),e = .returned (.tuple #[.slice q'.a q'.n q'.c,.bool b]) /\ q'.In w top /\ q'.steps = q.steps.dropLast /\ (0 < q'.n -> q'.b = q.b /\ 0 < q.n) /\ w' = w
theorem rparent_any {q : Pth} {top : Nat} {w : World} (hq : q.In w top) : Calls Tryd.prog 41 #[.slice q.a q.n q.c] w (ParOut q top w):=by
 have hn1:=hq.2.1.1
 have hcap:=hq.2.1.2.1
 by_cases h0 : q.n = 0
 ·have HE : Hid (ParOut q top w (.returned (.tuple #[.slice none 0 0,.bool false])) w):=Lib.hid ⟨⟨none,0,0,0,0,fun _ => default⟩,false,rfl,nil_in _ _ _ _ _ _ _ (Nat.zero_le _),by
   have : q.steps = []:=List.eq_nil_of_length_eq_zero (by rw [Pth.steps_len];exact h0)
   rw [this];rfl,fun z => absurd z (Nat.lt_irrefl _),rfl⟩
  obtain ⟨a,n,c,b,o,S⟩:=q
  dsimp only at h0
  subst h0
  clear hq
  go_enter Tryd.func41,Tryd.ntmps41
  go_wp2
  go_ret2
  exact HE.out
 ·obtain ⟨a,n,c,b,o,S⟩:=q
  obtain ⟨ea,-⟩:=hq.1 (by show 0 < n;dsimp only at h0;omega)
  dsimp only at ea h0 hn1 hcap
  subst ea
  obtain ⟨m,rfl⟩ : ∃ m,n = m + 1:=⟨n - 1,by omega⟩
  have HE:=Lib.hid (drop_in hq)
  clear hq h0
  have ei : ((m + 1 : Nat) : Int) - 1 = m:=by omega
  have ei2 : ((m : Int) + 1 - 1) = m:=by omega
  have b0 : (0 : Int) <= m:=by omega
  have b1 : (m : Int) <= c:=by omega
  have b2 : (m : Int) + 1 <= 1048576:=by omega
  have b3 : m <= c:=by omega
  have b4 : IntKind.i64.wrap (m : Int) = m:=by rw [IntKind.wrap_i64];omega
  have b5 : (((m : Int) + 1) == 0) = false:=beq_eq_false_iff_ne.2 (by omega)
  have b6 : (((m + 1 : Nat) : Int) == 0) = false:=beq_eq_false_iff_ne.2 (by omega)
  go_enter Tryd.func41,Tryd.ntmps41
  go_wp2
  go_ret2
  exact ⟨⟨some ⟨b,o,none⟩,m,c,b,o,S⟩,true,rfl,HE.out,drop_steps,fun z => ⟨rfl,Nat.succ_pos _⟩,rfl⟩
theorem Evs.In.take {W : World} {top m : Nat} {p : Evs} (h : p.In W top) (hm : m <= p.n) : Evs.In W top ⟨p.a,m,p.c,p.b,p.o,p.S⟩ :=
 ⟨fun q => h.1 (by have q' : 0 < m:=q;omega),⟨(by have:=h.2.1.1;show m <= 1048576;omega),(by have:=h.2.1.2.1;show m <= p.c;omega),h.2.1.2.2⟩,fun i hi => h.2.2 i (by have hi' : i < m:=hi;omega)⟩
theorem Evs.take_list {p : Evs} {m : Nat} (hm : m <= p.n) : Evs.list ⟨p.a,m,p.c,p.b,p.o,p.S⟩ = p.list.take m:=by
 simp only [Evs.list,<- List.map_take,List.take_range,Nat.min_eq_left hm]
theorem runN_take {p : Evs} {m : Nat} (hm : m <= p.n) : runN ⟨p.a,m,p.c,p.b,p.o,p.S⟩ m = runN p m:=by
 unfold runN
 rw [Evs.take_list hm,List.take_take,Nat.min_self]
theorem rwhere_any {p : Evs} {i : Int} {top : Nat} {w : World} (hp : p.In w top) (ht : top <= w.heap.size) (hi : w64 i) : Calls Tryd.prog 19 #[.slice p.a p.n p.c,.int .i64 i] w (WhOut p i w):=by
 have hn1:=hp.2.1.1
 have hnj : ((p.n : Nat) : Int) <= 1048576:=by omega
 have hni : (0 : Int) <= ((p.n : Nat) : Int):=by omega
 have hw1:=hi.1
 have hw2:=hi.2
 by_cases c1 : i < 0
 ·have HE:=Lib.hid (wh_nil (W:=w) (show whE p i = (2,[]) from if_pos (.inl c1)) (Below.refl _ _))
  clear hp ht hi
  go_enter Tryd.func19,Tryd.ntmps19
  go_wp2
  go_ret2
  exact HE.out
 by_cases c2 : (p.n : Int) <= i
 ·have HE:=Lib.hid (wh_nil (W:=w) (show whE p i = (2,[]) from if_pos (.inr c2)) (Below.refl _ _))
  clear hp ht hi
  go_enter Tryd.func19,Tryd.ntmps19
  go_wp2
  go_ret2
  exact HE.out
 obtain ⟨m,rfl⟩ : ∃ m : Nat,i = m:=⟨i.toNat,by omega⟩
 have hmn : m < p.n:=by omega
 have hmi : (m : Int) < p.n:=by omega
 have hmj : (0 : Int) <= (m : Int):=by omega
 have hic : m <= p.c:=by have:=hp.2.1.2.1;omega
 have hic2 : (m : Int) <= p.c:=by omega
 have hmc : ¬ ((p.n : Nat) : Int) <= (m : Int):=by omega
 have HAll:=Lib.hid (rall_any (p:=⟨p.a,m,p.c,p.b,p.o,p.S⟩) (top:=top) (w:=w) (hp.take (Nat.le_of_lt hmn)) ht)
 unfold AllOut at HAll
 rw [show (Evs.mk p.a m p.c p.b p.o p.S).n = m from rfl,runN_take (Nat.le_of_lt hmn),Evs.take_list (Nat.le_of_lt hmn)] at HAll
 have HInv:=Lib.hid (runN_inv hp m (Nat.le_of_lt hmn))
 have HLi:=Lib.hid (fun (W : World) (hb : Below w.heap.size w W) => ((hp.2.2 m hmn).1.below (hb.mono ht) (hp.1 (by omega)).2))
 have HX:=Lib.hid (fun (W : World) (hb : Below w.heap.size w W) => (And.intro (hp.2.2 m hmn).2.1 ((Vt.In.below (hb.mono ht) (hp.2.2 m hmn).2.2).up (Nat.le_trans ht hb.size)) : (p.S m).ok /\ (p.S m).V.In W W.heap.size))
 have hpb : p.b < w.heap.size:=Nat.lt_of_lt_of_le (hp.1 (by omega)).2 ht
 have ea:=(hp.1 (by omega)).1
 have hwe : whE p m = if (runN p m).2 ≠ 0 then ((runN p m).2,[]) else (addE (runN p m).1 (p.S m),if addE (runN p m).1 (p.S m) = 0 then whereS (runN p m).1 (p.S m) else []):=by
  unfold whE
  rw [if_neg (by omega),Int.toNat_natCast]
 have HWE:=Lib.hid hwe
 have hll : (p.list.take m).length + 1 <= 1048576:=by rw [List.length_take,Evs.list_len];omega
 have HLL:=Lib.hid hll
 clear hp ht hi hwe hll c1 c2 hw1 hw2
 obtain ⟨x,hx⟩ : ∃ x,p.S m = x:=⟨_,rfl⟩
 rw [hx] at HX HLi HWE
 generalize (runN p m).1 = s at *
 generalize (runN p m).2 = E1 at *
 generalize p.list.take m = l at *
 clear hx
 have hEn:=Lib.hid (fun (W' : World) (h0 : E1 ≠ 0) (hb : Below w.heap.size w W') => wh_nil (p:=p) (i:=m) (show whE p m = (E1,[]) from by rw [HWE.out,if_pos h0]) hb)
 have hEa:=Lib.hid (fun (W' : World) (h0 : E1 = 0) (h1 : addE s x ≠ 0) (hb : Below w.heap.size w W') => wh_nil (p:=p) (i:=m) (show whE p m = (addE s x,[]) from by rw [HWE.out,if_neg (fun q => q h0),if_neg h1]) hb)
 have hEo:=Lib.hid (fun (W' : World) (q : Pth) (h0 : E1 = 0) (h1 : addE s x = 0) (hb : Below w.heap.size w W') (hq : q.In W' W'.heap.size) (hs : q.steps = whereS s x) (hqb : 0 < q.n -> w.heap.size <= q.b) => (⟨q,by rw [HWE.out,if_neg (fun q => q h0),h1],hq,by rw [HWE.out,if_neg (fun q => q h0),if_pos h1];exact hs,hqb,hb⟩ : WhOut p m w (.returned (.tuple #[.slice q.a q.n q.c,.int .i64 0])) W'))
 clear HWE
 have HW6 : Hid (x.k = 6 -> whereS s x = pathS (addS s x)):=Lib.hid fun q => by unfold whereS;rw [if_pos q]
 have HW3 : Hid (x.k = 3 -> whereS s x = (pathS s).dropLast):=Lib.hid fun q => by unfold whereS;rw [if_neg (by omega),if_pos q]
 have HW0 : Hid (x.k ≠ 6 -> x.k ≠ 3 -> whereS s x = pathS s):=Lib.hid fun q1 q2 => by unfold whereS;rw [if_neg q1,if_neg q2]
 generalize whereS s x = U at *
 go_enter Tryd.func19,Tryd.ntmps19
 rw [ea] at HAll ⊢
 clear ea
 go_wp2_with fail
 refine HAll.out.mono ?_;rintro _ w1 ⟨r,rfl,q1,q2,hb1⟩
 have HR:=Lib.hid q1
 have HI:=Lib.hid q2
 clear q1 q2 HAll
 have hs1:=hb1.size
 have g1:=hb1
 have h1:=Below.refl w1.heap.size w1
 clear hb1
 have q2:=(Below.refl w1.heap.size w1).alloc (Nat.le_refl _) (.cells #[.slice none 0 0,.slice none 0 0,.int .i64 0,.bool false] 53)
 have N2:=Whole.new w1 53 #[.slice none 0 0,.slice none 0 0,.int .i64 0,.bool false]
 have Nb:=N2
 have g2:=below_then g1 q2
 have h2:=below_then h1 q2
 clear g1 h1
 clear q2
 have hone : Hid ((#[.slice r.O.a r.O.n r.O.c,.slice r.T.a r.T.n r.T.c,.int .i64 r.nd,.bool r.wrong] : Array Value).all (·.oneCell') = true):=Lib.hid (st_one _ _ _ _ _ _ _ _)
 have N3:=Whole.setRow N2 #[.slice r.O.a r.O.n r.O.c,.slice r.T.a r.T.n r.T.c,.int .i64 r.nd,.bool r.wrong]
 have g3:=below_setRow (g:=w1.heap.size) g2 (by omega) #[.slice r.O.a r.O.n r.O.c,.slice r.T.a r.T.n r.T.c,.int .i64 r.nd,.bool r.wrong]
 have h3:=below_setRow (g:=w1.heap.size) h2 (by omega) #[.slice r.O.a r.O.n r.O.c,.slice r.T.a r.T.n r.T.c,.int .i64 r.nd,.bool r.wrong]
 clear N2 g2 h2
 simp only [Rst.cells] at *
 go_upto_region 4 with (refine wpList_store_row rfl 53 _ _ rfl w1.heap.size #[.slice r.O.a r.O.n r.O.c,.slice r.T.a r.T.n r.T.c,.int .i64 r.nd,.bool r.wrong] rfl rfl 53 _ Nb st_row rfl hone.out ?_)
 clear hone Nb
 generalize (w1.alloc (.cells #[.slice none 0 0,.slice none 0 0,.int .i64 0,.bool false] 53)).setRow (w1.heap.size) #[.slice r.O.a r.O.n r.O.c,.slice r.T.a r.T.n r.T.c,.int .i64 r.nd,.bool r.wrong] = w3 at *
 by_cases h0 : E1 = 0
 rotate_left
 ·have dE : (E1 != 0) = true:=bne_iff_ne.2 h0
  have HF:=Lib.hid (hEn.out _ h0 g3)
  clear h0 hEn hEa hEo HR HI HInv HLi HX
  go_wp2
  (first | exact HF.out | (go_ret2;exact HF.out))
 subst h0
 have HI2:=Lib.hid (HI.out rfl)
 clear HI hEn
 have HAdd:=Lib.hid (fun (w4 : World) (hb : Below w1.heap.size w1 w4) (hg : Below w.heap.size w w4) => sadd_any (r:=r) (x:=x) (top:=w4.heap.size) (w:=w4) ((HR.out.below hb).up hb.size) (HX.out w4 hg).1 (HX.out w4 hg).2 (Nat.le_refl _) HI2.out HInv.out HLL.out)
 unfold SAddOut at HAdd
 have HPa:=Lib.hid (fun (w4 : World) (hb : Below w1.heap.size w1 w4) => rpath_any (r:=r) (top:=w4.heap.size) (w:=w4) ((HR.out.below hb).up hb.size) (Nat.le_refl _) (HI2.out.pok HInv.out))
 rw [HI2.out.path HInv.out] at HPa
 have HPb:=Lib.hid (fun (r' : Rst) (w4 : World) (hr' : r'.In w4 w4.heap.size) (his : r'.is (addS s x) (l ++ [x])) (hinv : (addS s x).inv) => (his.path hinv) ▸ rpath_any (r:=r') (top:=w4.heap.size) (w:=w4) hr' (Nat.le_refl _) (his.pok hinv))
 have HIn2 : Hid ((addS s x).inv):=Lib.hid (add_inv HInv.out (HX.out w (Below.refl _ _)).1 (HX.out w (Below.refl _ _)).2.whole)
 have HPar:=Lib.hid (fun (q : Pth) (w4 : World) (hq : q.In w4 w4.heap.size) => rparent_any hq)
 unfold ParOut at HPar
 unfold PthOut at HPa HPb
 obtain ⟨E,hE⟩ : ∃ E,addE s x = E:=⟨_,rfl⟩
 rw [hE] at HAdd hEa hEo
 clear hE
 obtain ⟨k,key,V⟩:=x
 have L3:=HLi.out w3 g3
 clear HX HInv HLi
 simp only [Rst.cells,Ev.cells,evc] at HAdd L3 HPa HPb
 dsimp only at HW6 HW3 HW0
 go_upto_region 6 with (fail)
 refine wp_region_T (fun Wz => Whole Wz w1.heap.size 53 #[.slice r.O.a r.O.n r.O.c,.slice r.T.a r.T.n r.T.c,.int .i64 r.nd,.bool r.wrong] /\ LiesAt Wz p.b (p.o + m * 15) #[.int .i64 k,.string key,.int .i64 V.h.k,.bool V.h.b,.bool V.h.n,.string V.h.d,.int .i64 V.h.e,.int .i64 V.h.tk,.int .i64 V.h.td,.int .i64 V.h.tn,.int .i64 V.h.tz,.string V.h.x,.slice V.h.ba V.h.bn V.h.bc,.slice V.h.la V.h.ln V.h.lc,.slice V.h.fa V.h.fn V.h.fc]) [] (by kernel_rfl) ?_
 have qd : Below w3.heap.size w3 w3.drew:=(Below.refl _ w3).drew
 have L4:=L3.below (top:=w.heap.size) (W':=w3.drew) (qd.mono g3.size) hpb
 clear L3
 generalize w3.drew = w4 at *
 have N4:=Whole.below N3 qd (Whole.lt N3)
 have g4:=below_then g3 qd
 have h4:=below_then h3 qd
 clear N3 g3 h3
 clear qd
 refine tk (i:=0) rfl (by kernel_rfl) (by rfl) (fun _ _ _ h => h) ⟨N4,L4⟩ (by intro wS hSw;obtain ⟨Nz,Lz⟩:=hSw;obtain ⟨n0,n1,n2,n3⟩:=Whole.o4s Nz;go_simp;try with_reducible rfl) ?_
 simp only [Act.put,actS]
 refine tk (i:=1) rfl (by kernel_rfl) (by rfl) (fun _ _ _ h => h) ⟨N4,L4⟩ (by intro wS hSw;go_simp;try with_reducible rfl) ?_
 simp only [Act.put,actS]
 refine tk (i:=2) rfl (by kernel_rfl) (by rfl) (fun _ _ _ h => h) ⟨N4,L4⟩ (by intro wS hSw;go_simp;try with_reducible rfl) ?_
 simp only [Act.put,actS]
 refine tk (i:=3) rfl (by kernel_rfl) (by rfl) (fun _ _ _ h => h) ⟨N4,L4⟩ (by intro wS hSw;go_simp;try with_reducible rfl) ?_
 simp only [Act.put,actS]
 refine tk (i:=4) rfl (by kernel_rfl) (by rfl) (fun _ _ _ h => h) ⟨N4,L4⟩ (by intro wS hSw;obtain ⟨Nz,Lz⟩:=hSw;obtain ⟨x0,x1,x2,x3,x4,x5,x6,x7,x8,x9,x10,x11,x12,x13,x14⟩:=Lz.e15;go_simp;try with_reducible rfl) ?_
 simp only [Act.put,actS]
 refine wpAnyT_ready (rs:=[5,9]) (by kernel_rfl) (by simp) ?_
 refine (AllT.cons rfl (fun KK hK => ?_) (AllT.cons rfl (fun KK hK => ?_) AllT.nil))
 ·go_simp
  go_at_call 22
  refine (HAdd.out _ h4 g4).mono ?_
  rintro _ w5 ⟨r',rfl,q1,q2,-,hb⟩
  have HR2:=Lib.hid q1
  have HI3:=Lib.hid q2
  have L5:=L4.below (top:=w.heap.size) (hb.mono g4.size) hpb
  clear q1 q2 HAdd L4
  have N5:=Whole.below N4 hb (Whole.lt N4)
  have g5:=below_then g4 hb
  have h5:=below_then h4 hb
  clear N4 g4 h4
  clear hb
  refine hK.out _ _ (.inr ⟨N5,L5⟩) ?_
  clear hK KK
  try simp only [Act.put,actS]
  refine tk (i:=6) rfl (by kernel_rfl) (by rfl) (fun _ _ _ h => h) ⟨N5,L5⟩ (by intro wS hSw;go_simp;try with_reducible rfl) ?_
  simp only [Act.put,actS]
  refine tk (i:=7) rfl (by kernel_rfl) (by rfl) (fun _ _ _ h => h) ⟨N5,L5⟩ (by intro wS hSw;go_simp;try with_reducible rfl) ?_
  simp only [Act.put,actS]
  refine tk (i:=8) rfl (by kernel_rfl) (by rfl) (fun _ _ _ h => h) ⟨N5,L5⟩ (by intro wS hSw;go_simp;try with_reducible rfl) ?_
  simp only [Act.put,actS]
  refine wpAnyT_ready (rs:=[9]) (by kernel_rfl) (by simp) ?_
  refine (AllT.cons rfl (fun KK hK => ?_) AllT.nil)
  go_simp
  have q:=(Below.refl w5.heap.size w5).alloc (Nat.le_refl _) (.cells #[.slice none 0 0,.slice none 0 0,.int .i64 0,.bool false] 53)
  have B6:=Whole.new w5 53 #[.slice none 0 0,.slice none 0 0,.int .i64 0,.bool false]
  have hB8 : w1.heap.size < w5.heap.size:=Whole.lt N5
  generalize w5.alloc (.cells #[.slice none 0 0,.slice none 0 0,.int .i64 0,.bool false] 53) = w6 at q B6 ⊢
  have L6:=L5.below (top:=w.heap.size) (q.mono g5.size) hpb
  clear L5
  replace HR2:=Lib.hid ((HR2.out.below q).up q.size)
  have N6:=Whole.below N5 q (Whole.lt N5)
  have g6:=below_then g5 q
  have h6:=below_then h5 q
  clear N5 g5 h5
  clear q
  refine hK.out _ _ (.inr ⟨N6,L6⟩) ?_
  clear hK KK
  try simp only [Act.put,actS]
  refine wpAnyT_ready (rs:=[10]) (by kernel_rfl) (by simp) ?_
  refine (AllT.cons rfl (fun KK hK => ?_) AllT.nil)
  rw [if_pos (by rfl)]
  refine wp_store_row 53 _ _ rfl (w5.heap.size) #[.slice r'.O.a r'.O.n r'.O.c,.slice r'.T.a r'.T.n r'.T.c,.int .i64 r'.nd,.bool r'.wrong] rfl rfl 53 _ B6 st_row rfl (st_one _ _ _ _ _ _ _ _) ?_
  have HR4 : Hid (r'.In (w6.setRow (w5.heap.size) #[.slice r'.O.a r'.O.n r'.O.c,.slice r'.T.a r'.T.n r'.T.c,.int .i64 r'.nd,.bool r'.wrong]) (w6.setRow (w5.heap.size) #[.slice r'.O.a r'.O.n r'.O.c,.slice r'.T.a r'.T.n r'.T.c,.int .i64 r'.nd,.bool r'.wrong]).heap.size):=Lib.hid (by
   rw [size_setRow]
   exact HR2.out.setRow ⟨_,_,_,_,_,_,_,_,_,B6⟩)
  have L7 : LiesAt (w6.setRow (w5.heap.size) #[.slice r'.O.a r'.O.n r'.O.c,.slice r'.T.a r'.T.n r'.T.c,.int .i64 r'.nd,.bool r'.wrong]) p.b (p.o + m * 15) #[.int .i64 k,.string key,.int .i64 V.h.k,.bool V.h.b,.bool V.h.n,.string V.h.d,.int .i64 V.h.e,.int .i64 V.h.tk,.int .i64 V.h.td,.int .i64 V.h.tn,.int .i64 V.h.tz,.string V.h.x,.slice V.h.ba V.h.bn V.h.bc,.slice V.h.la V.h.ln V.h.lc,.slice V.h.fa V.h.fn V.h.fc]:=lies_block L6 (setRow_other _ _ _ _ (by have:=g6.size;omega))
  clear HR2 L6
  have hsg:=g6.size
  have N7:=Whole.farRow (B':=w5.heap.size) N6 (by omega) #[.slice r'.O.a r'.O.n r'.O.c,.slice r'.T.a r'.T.n r'.T.c,.int .i64 r'.nd,.bool r'.wrong]
  have B7:=Whole.setRow B6 #[.slice r'.O.a r'.O.n r'.O.c,.slice r'.T.a r'.T.n r'.T.c,.int .i64 r'.nd,.bool r'.wrong]
  have g7:=below_setRow (g:=w5.heap.size) g6 (by omega) #[.slice r'.O.a r'.O.n r'.O.c,.slice r'.T.a r'.T.n r'.T.c,.int .i64 r'.nd,.bool r'.wrong]
  have h7:=below_setRow (g:=w5.heap.size) h6 (by omega) #[.slice r'.O.a r'.O.n r'.O.c,.slice r'.T.a r'.T.n r'.T.c,.int .i64 r'.nd,.bool r'.wrong]
  clear N6 B6 g6 h6
  generalize w6.setRow (w5.heap.size) #[.slice r'.O.a r'.O.n r'.O.c,.slice r'.T.a r'.T.n r'.T.c,.int .i64 r'.nd,.bool r'.wrong] = w7 at *
  refine hK.out _ _ (.inr ⟨N7,L7⟩) ?_
  clear hK KK
  try simp only [Act.put,actS]
  refine wpAnyT_ready (rs:=[11]) (by kernel_rfl) (by simp) ?_
  refine (AllT.cons rfl (fun KK hK => ?_) AllT.nil)
  go_simp
  refine hK.out _ _ (.inr ⟨N7,L7⟩) ?_
  clear hK KK
  try simp only [Act.put,actS]
  refine wpAnyT_done (by kernel_rfl) ?_ _
  by_cases h1 : E = 0
  rotate_left
  ·have dE : (E != 0) = true:=bne_iff_ne.2 h1
   have HF:=Lib.hid (hEa.out _ (by trivial) h1 g7)
   clear h1 hEa hEo
   go_wp2
   (first | exact HF.out | (go_ret2;exact HF.out))
  subst h1
  have HI4:=Lib.hid (HI3.out (by trivial))
  clear HI3 hEa
  obtain ⟨x0,x1,x2,x3,x4,x5,x6,x7,x8,x9,x10,x11,x12,x13,x14⟩:=L7.e15
  obtain ⟨n0,n1,n2,n3⟩:=Whole.o4s N7
  obtain ⟨b0,b1,b2,b3⟩:=Whole.o4s B7
  by_cases k6 : k = 6
  ·subst k6
   have HW:=HW6.out rfl
   subst HW
   clear HW3 HW0
   go_wp2_with fail
   refine (HPb.out r' _ HR4.out HI4.out HIn2.out).mono ?_;rintro _ w9 ⟨q',rfl,e1,e2,e3,hb9⟩
   have HF:=Lib.hid (hEo.out _ q' (by trivial) (by trivial) (below_then g7 hb9) e1 e2 (fun z => Nat.le_trans g7.size (e3 z)))
   clear e1 e2 e3 hb9 hEo
   go_wp2
   (first | exact HF.out | (go_ret2;exact HF.out))
  by_cases k3 : k = 3
  ·subst k3
   have HW:=HW3.out rfl
   subst HW
   clear HW0
   go_wp2_with fail
   refine (HPa.out _ h7).mono ?_;rintro _ w9 ⟨q',rfl,e1,e2,e3,hb9⟩
   have H9:=Lib.hid (And.intro e1 (And.intro e2 e3))
   have g9:=below_then g7 hb9
   have hs9:=g7.size
   clear e1 e2 e3 hb9
   go_wp2_with fail
   refine (HPar.out q' _ H9.out.1).mono ?_;rintro _ w10 ⟨q8,bb,rfl,e1,e2,e3,rfl⟩
   have HF:=Lib.hid (hEo.out _ q8 (by trivial) (by trivial) g9 e1 (by rw [e2,H9.out.2.1]) (fun z => by have h8:=e3 z;have h9:=H9.out.2.2 h8.2;rw [h8.1];omega))
   clear e1 e2 e3 hEo
   go_wp2
   (first | exact HF.out | (go_ret2;exact HF.out))
  have d6 : (k == 6) = false:=beq_eq_false_iff_ne.2 k6
  have d3 : (k == 3) = false:=beq_eq_false_iff_ne.2 k3
  have HW:=HW0.out k6 k3
  subst HW
  clear HW6 HW3 HW0 k6 k3
  go_wp2_with fail
  refine (HPa.out _ h7).mono ?_;rintro _ w9 ⟨q',rfl,e1,e2,e3,hb9⟩
  have HF:=Lib.hid (hEo.out _ q' (by trivial) (by trivial) (below_then g7 hb9) e1 e2 (fun z => Nat.le_trans g7.size (e3 z)))
  clear e1 e2 e3 hb9 hEo
  go_wp2
  (first | exact HF.out | (go_ret2;exact HF.out))
 ·go_simp
  have q:=(Below.refl w4.heap.size w4).alloc (Nat.le_refl _) (.cells #[.slice none 0 0,.slice none 0 0,.int .i64 0,.bool false] 53)
  have B5:=Whole.new w4 53 #[.slice none 0 0,.slice none 0 0,.int .i64 0,.bool false]
  have hB8 : w1.heap.size < w4.heap.size:=Whole.lt N4
  generalize w4.alloc (.cells #[.slice none 0 0,.slice none 0 0,.int .i64 0,.bool false] 53) = w5 at q B5 ⊢
  have L5:=L4.below (top:=w.heap.size) (q.mono g4.size) hpb
  clear L4
  have N5:=Whole.below N4 q (Whole.lt N4)
  have g5:=below_then g4 q
  have h5:=below_then h4 q
  clear N4 g4 h4
  clear q
  refine hK.out _ _ (.inr ⟨N5,L5⟩) ?_
  clear hK KK
  try simp only [Act.put,actS]
  refine wpAnyT_ready (rs:=[5]) (by kernel_rfl) (by simp) ?_
  refine (AllT.cons rfl (fun KK hK => ?_) AllT.nil)
  go_simp
  go_at_call 22
  refine (HAdd.out _ h5 g5).mono ?_
  rintro _ w6 ⟨r',rfl,q1,q2,-,hb⟩
  have HR2:=Lib.hid q1
  have HI3:=Lib.hid q2
  have L6:=L5.below (top:=w.heap.size) (hb.mono g5.size) hpb
  clear q1 q2 HAdd L5
  have N6:=Whole.below N5 hb (Whole.lt N5)
  have B6:=Whole.below B5 hb (Whole.lt B5)
  have g6:=below_then g5 hb
  have h6:=below_then h5 hb
  clear N5 B5 g5 h5
  clear hb
  refine hK.out _ _ (.inr ⟨N6,L6⟩) ?_
  clear hK KK
  try simp only [Act.put,actS]
  refine tk (i:=6) rfl (by kernel_rfl) (by rfl) (fun _ _ _ h => h) ⟨N6,L6⟩ (by intro wS hSw;go_simp;try with_reducible rfl) ?_
  simp only [Act.put,actS]
  refine tk (i:=7) rfl (by kernel_rfl) (by rfl) (fun _ _ _ h => h) ⟨N6,L6⟩ (by intro wS hSw;go_simp;try with_reducible rfl) ?_
  simp only [Act.put,actS]
  refine tk (i:=8) rfl (by kernel_rfl) (by rfl) (fun _ _ _ h => h) ⟨N6,L6⟩ (by intro wS hSw;go_simp;try with_reducible rfl) ?_
  simp only [Act.put,actS]
  refine wpAnyT_ready (rs:=[10]) (by kernel_rfl) (by simp) ?_
  refine (AllT.cons rfl (fun KK hK => ?_) AllT.nil)
  rw [if_pos (by rfl)]
  refine wp_store_row 53 _ _ rfl (w4.heap.size) #[.slice r'.O.a r'.O.n r'.O.c,.slice r'.T.a r'.T.n r'.T.c,.int .i64 r'.nd,.bool r'.wrong] rfl rfl 53 _ B6 st_row rfl (st_one _ _ _ _ _ _ _ _) ?_
  have HR4 : Hid (r'.In (w6.setRow (w4.heap.size) #[.slice r'.O.a r'.O.n r'.O.c,.slice r'.T.a r'.T.n r'.T.c,.int .i64 r'.nd,.bool r'.wrong]) (w6.setRow (w4.heap.size) #[.slice r'.O.a r'.O.n r'.O.c,.slice r'.T.a r'.T.n r'.T.c,.int .i64 r'.nd,.bool r'.wrong]).heap.size):=Lib.hid (by
   rw [size_setRow]
   exact HR2.out.setRow ⟨_,_,_,_,_,_,_,_,_,B6⟩)
  have L7 : LiesAt (w6.setRow (w4.heap.size) #[.slice r'.O.a r'.O.n r'.O.c,.slice r'.T.a r'.T.n r'.T.c,.int .i64 r'.nd,.bool r'.wrong]) p.b (p.o + m * 15) #[.int .i64 k,.string key,.int .i64 V.h.k,.bool V.h.b,.bool V.h.n,.string V.h.d,.int .i64 V.h.e,.int .i64 V.h.tk,.int .i64 V.h.td,.int .i64 V.h.tn,.int .i64 V.h.tz,.string V.h.x,.slice V.h.ba V.h.bn V.h.bc,.slice V.h.la V.h.ln V.h.lc,.slice V.h.fa V.h.fn V.h.fc]:=lies_block L6 (setRow_other _ _ _ _ (by have:=g6.size;omega))
  clear HR2 L6
  have hsg:=g6.size
  have N7:=Whole.farRow (B':=w4.heap.size) N6 (by omega) #[.slice r'.O.a r'.O.n r'.O.c,.slice r'.T.a r'.T.n r'.T.c,.int .i64 r'.nd,.bool r'.wrong]
  have B7:=Whole.setRow B6 #[.slice r'.O.a r'.O.n r'.O.c,.slice r'.T.a r'.T.n r'.T.c,.int .i64 r'.nd,.bool r'.wrong]
  have g7:=below_setRow (g:=w4.heap.size) g6 (by omega) #[.slice r'.O.a r'.O.n r'.O.c,.slice r'.T.a r'.T.n r'.T.c,.int .i64 r'.nd,.bool r'.wrong]
  have h7:=below_setRow (g:=w4.heap.size) h6 (by omega) #[.slice r'.O.a r'.O.n r'.O.c,.slice r'.T.a r'.T.n r'.T.c,.int .i64 r'.nd,.bool r'.wrong]
  clear N6 B6 g6 h6
  generalize w6.setRow (w4.heap.size) #[.slice r'.O.a r'.O.n r'.O.c,.slice r'.T.a r'.T.n r'.T.c,.int .i64 r'.nd,.bool r'.wrong] = w7 at *
  refine hK.out _ _ (.inr ⟨N7,L7⟩) ?_
  clear hK KK
  try simp only [Act.put,actS]
  refine wpAnyT_ready (rs:=[11]) (by kernel_rfl) (by simp) ?_
  refine (AllT.cons rfl (fun KK hK => ?_) AllT.nil)
  go_simp
  refine hK.out _ _ (.inr ⟨N7,L7⟩) ?_
  clear hK KK
  try simp only [Act.put,actS]
  refine wpAnyT_done (by kernel_rfl) ?_ _
  by_cases h1 : E = 0
  rotate_left
  ·have dE : (E != 0) = true:=bne_iff_ne.2 h1
   have HF:=Lib.hid (hEa.out _ (by trivial) h1 g7)
   clear h1 hEa hEo
   go_wp2
   (first | exact HF.out | (go_ret2;exact HF.out))
  subst h1
  have HI4:=Lib.hid (HI3.out (by trivial))
  clear HI3 hEa
  obtain ⟨x0,x1,x2,x3,x4,x5,x6,x7,x8,x9,x10,x11,x12,x13,x14⟩:=L7.e15
  obtain ⟨n0,n1,n2,n3⟩:=Whole.o4s N7
  obtain ⟨b0,b1,b2,b3⟩:=Whole.o4s B7
  by_cases k6 : k = 6
  ·subst k6
   have HW:=HW6.out rfl
   subst HW
   clear HW3 HW0
   go_wp2_with fail
   refine (HPb.out r' _ HR4.out HI4.out HIn2.out).mono ?_;rintro _ w9 ⟨q',rfl,e1,e2,e3,hb9⟩
   have HF:=Lib.hid (hEo.out _ q' (by trivial) (by trivial) (below_then g7 hb9) e1 e2 (fun z => Nat.le_trans g7.size (e3 z)))
   clear e1 e2 e3 hb9 hEo
   go_wp2
   (first | exact HF.out | (go_ret2;exact HF.out))
  by_cases k3 : k = 3
  ·subst k3
   have HW:=HW3.out rfl
   subst HW
   clear HW0
   go_wp2_with fail
   refine (HPa.out _ h7).mono ?_;rintro _ w9 ⟨q',rfl,e1,e2,e3,hb9⟩
   have H9:=Lib.hid (And.intro e1 (And.intro e2 e3))
   have g9:=below_then g7 hb9
   have hs9:=g7.size
   clear e1 e2 e3 hb9
   go_wp2_with fail
   refine (HPar.out q' _ H9.out.1).mono ?_;rintro _ w10 ⟨q8,bb,rfl,e1,e2,e3,rfl⟩
   have HF:=Lib.hid (hEo.out _ q8 (by trivial) (by trivial) g9 e1 (by rw [e2,H9.out.2.1]) (fun z => by have h8:=e3 z;have h9:=H9.out.2.2 h8.2;rw [h8.1];omega))
   clear e1 e2 e3 hEo
   go_wp2
   (first | exact HF.out | (go_ret2;exact HF.out))
  have d6 : (k == 6) = false:=beq_eq_false_iff_ne.2 k6
  have d3 : (k == 3) = false:=beq_eq_false_iff_ne.2 k3
  have HW:=HW0.out k6 k3
  subst HW
  clear HW6 HW3 HW0 k6 k3
  go_wp2_with fail
  refine (HPa.out _ h7).mono ?_;rintro _ w9 ⟨q',rfl,e1,e2,e3,hb9⟩
  have HF:=Lib.hid (hEo.out _ q' (by trivial) (by trivial) (below_then g7 hb9) e1 e2 (fun z => Nat.le_trans g7.size (e3 z)))
  clear e1 e2 e3 hb9 hEo
  go_wp2
  (first | exact HF.out | (go_ret2;exact HF.out))
inductive TkIs (p : Evs) (P : List Stp) : Int -> List Ev -> Prop
 | bad : valE p ≠ 0 -> TkIs p P (valE p) []
 | none : valE p = 0 -> (∀ m,m < p.n -> (p.S m).k = 6 ∨ atE p m ≠ P) -> TkIs p P 7 []
 | some {i j : Nat} {L : List Ev} : valE p = 0 -> FI p P i -> i <= j -> j < p.n -> EndAt p P j -> (∀ k,i <= k -> k < j -> ¬ EndAt p P k) -> SameL L ((p.list.take (j + 1)).drop i) -> TkIs p P 0 L
theorem FI.one {p : Evs} {P : List Stp} {i j : Nat} (h : FI p P i) (g : FI p P j) : i = j:=by
 rcases Nat.lt_trichotomy i j with q | q | q
 ·rcases g.fst i q with z | z
  ·exact absurd z h.k
  ·exact absurd h.eq z
 ·exact q
 ·rcases h.fst j q with z | z
  ·exact absurd z g.k
  ·exact absurd g.eq z
theorem TkIs.one {p : Evs} {P : List Stp} {E E' : Int} {L L' : List Ev} (h : TkIs p P E L) (g : TkIs p P E' L') : E = E' /\ SameL L L':=by
 cases h with
 | bad a =>
  cases g with
  | bad b => exact ⟨rfl,.nil⟩
  | none b => exact absurd b a
  | some b => exact absurd b a
 | none a c =>
  cases g with
  | bad b => exact absurd a b
  | none b => exact ⟨rfl,.nil⟩
  | some b d =>
   rcases c _ d.lt with z | z
   ·exact absurd z d.k
   ·exact absurd d.eq z
 | some a c c1 c2 c3 c4 c5 =>
  cases g with
  | bad b => exact absurd a b
  | none b d =>
   rcases d _ c.lt with z | z
   ·exact absurd z c.k
   ·exact absurd c.eq z
  | some b d d1 d2 d3 d4 d5 =>
   obtain rfl:=c.one d
   rename_i j j'
   have hj : j = j':=by
    rcases Nat.lt_trichotomy j j' with q | q | q
    ·exact absurd c3 (d4 j c1 q)
    ·exact q
    ·exact absurd d3 (c4 j' d1 q)
   subst hj
   exact ⟨rfl,c5.trans d5.symm⟩
def TkOut (p : Evs) (P : List Stp) (w : World) (e : Ending) (w' : World) : Prop:=∃ (r : Evs) (E : Int),e = .returned (.tuple #[.slice r.a r.n r.c,.int .i64 E]) /\ r.In w' w'.heap.size /\ TkIs p P E r.list /\ Below w.heap.size w w'
theorem evs_nil (w : World) (top : Nat) : (Evs.mk none 0 0 0 0 (fun _ => default)).In w top:=⟨fun q => absurd q (Nat.lt_irrefl _),⟨Nat.zero_le _,Nat.le_refl _,by decide⟩,fun i q => absurd q (Nat.not_lt_zero _)⟩
theorem tk_nil {p : Evs} {P : List Stp} {E : Int} {w w' : World} (h : TkIs p P E []) (hb : Below w.heap.size w w') : TkOut p P w (.returned (.tuple #[.slice none 0 0,.int .i64 E])) w' :=
 ⟨⟨none,0,0,0,0,fun _ => default⟩,E,rfl,evs_nil _ _,h,hb⟩
theorem list_at {p : Evs} {k : Nat} (hk : k < p.n) : p.list[k]? = some (p.S k):=by
 rw [List.getElem?_eq_getElem (by rw [Evs.list_len];exact hk),Evs.list_get hk]
theorem seg_nth {p : Evs} {i j m : Nat} {l : List Ev} (hi : i <= j) (hj : j < p.n) (h : SameL ((p.list.take (j + 1)).drop i) l) (hm : m < l.length) : (p.S (i + m)).Same (nth l m):=by
 have hl:=h.length
 rw [List.length_drop,List.length_take,Evs.list_len] at hl
 refine h.get (i:=m) ?_ ?_
 ·rw [List.getElem?_drop,List.getElem?_take,if_pos (by omega)]
  exact list_at (by omega)
 ·unfold nth
  rw [List.getD_eq_getElem?_getD,List.getElem?_eq_getElem hm]
  rfl
theorem rofo_any {T : Vt} {top : Nat} {w : World} (hT : T.In w top) (ht : top <= w.heap.size) (hg : T.owd) (hl : (evs T).length <= 1000000) : Calls Tryd.prog 14 #[.agg T.h.cells] w fun e w' => ∃ p : Evs,e = .returned (.slice p.a p.n p.c) /\ p.In w' w'.heap.size /\ SameL p.list (evs T) /\ Below w.heap.size w w':=by
 refine (rof_any T top w hT ht hg hl).mono fun e w' hr => ?_
 obtain ⟨a,c,rfl,h1,h2⟩:=hr
 obtain ⟨p,h3,h4,h5,-,-⟩:=h1.evs (by omega)
 exact ⟨p,by rw [h3],h4,h5,h2⟩
theorem rtake_any {p : Evs} {q : Pth} {top : Nat} {w : World} (hp : p.In w top) (hq : q.In w top) (ht : top <= w.heap.size) (hl : p.n <= 1000000) : Calls Tryd.prog 35 #[.slice p.a p.n p.c,.slice q.a q.n q.c] w (TkOut p q.steps w):=by
 have hn1:=hp.2.1.1
 have hcap:=hp.2.1.2.1
 have hnj : ((p.n : Nat) : Int) <= 1048576:=by omega
 have hni : (0 : Int) <= ((p.n : Nat) : Int):=by omega
 have HCk:=Lib.hid (rcheck_any hp ht)
 have HW : Hid (∀ (j : Nat),j < p.n -> valE p = 0 -> ∀ (w1 : World),Below w.heap.size w w1 -> Calls Tryd.prog 19 #[.slice p.a p.n p.c,.int .i64 j] w1 fun e w2 => ∃ r : Pth,e = .returned (.tuple #[.slice r.a r.n r.c,.int .i64 0]) /\ r.In w2 w2.heap.size /\ r.steps = atE p j /\ Below w1.heap.size w1 w2) :=
  Lib.hid fun j hj hv w1 hb => (rwhere_any (i:=(j : Int)) (Evs.In.below hp (hb.mono ht)) (Nat.le_trans ht hb.size) ⟨by omega,by omega⟩).mono fun e w2 hr => by
   obtain ⟨r,h1,h2,h3,-,h5⟩:=hr
   rw [whE_at hv hj] at h1 h3
   exact ⟨r,h1,h2,h3,h5⟩
 have HEq:=Lib.hid (fun (r : Pth) (w1 : World) (hb : Below w.heap.size w w1) (hr : r.In w1 w1.heap.size) => equal_any (p:=q) (q:=r) (top:=w1.heap.size) (w:=w1) ((Pth.In.below hq (hb.mono ht)).up (Nat.le_trans ht hb.size)) hr (Nat.le_refl _))
 have HLa:=Lib.hid hp.1
 have HLi:=Lib.hid (fun (j : Nat) (hj : j < p.n) (w1 : World) (hb : Below w.heap.size w w1) => ((hp.2.2 j hj).1.below (hb.mono ht) (hp.1 (by omega)).2))
 have HTe:=Lib.hid (fun (i : Nat) (hv : valE p = 0) (h : FI p q.steps i) => take_end hp hv h)
 have HPz:=Lib.hid (fun (i j : Nat) (T : Vt) (hi : i <= j) (hj : j < p.n) (hc : T.cln) (hs : SameL ((p.list.take (j + 1)).drop i) (evs T)) (w1 : World) (hb : Below w.heap.size w w1) => rparse_any T (p.drop i) top w1 ((Evs.In.below hp (hb.mono ht)).drop (by omega)) (Nat.le_trans ht hb.size) hc (by
  have q:=hs.length
  rw [List.length_drop,List.length_take,Evs.list_len] at q
  show _ <= p.n - i
  omega) (fun m hm => seg_nth hi hj hs hm))
 unfold ParV Evs.drop at HPz
 dsimp only at HPz
 have HOf:=Lib.hid (fun (X : Vt) (w1 : World) (hX : X.In w1 w1.heap.size) (ho : X.owd) (hm : (evs X).length <= 1000000) => rofo_any hX (Nat.le_refl _) ho hm)
 simp only [Vh.cells] at HOf
 have HNil:=Lib.hid (fun (E : Int) (w1 : World) (h : TkIs p q.steps E []) (hb : Below w.heap.size w w1) => tk_nil h hb)
 have HSo : Hid (∀ (r : Evs) (w1 : World),r.In w1 w1.heap.size -> TkIs p q.steps 0 r.list -> Below w.heap.size w w1 -> TkOut p q.steps w (.returned (.tuple #[.slice r.a r.n r.c,.int .i64 0])) w1):=Lib.hid fun r w1 h1 h2 h3 => ⟨r,0,rfl,h1,h2,h3⟩
 clear hp hq ht
 generalize TkOut p q.steps w = Z at *
 go_enter Tryd.func35,Tryd.ntmps35
 go_wp2_with fail
 refine HCk.out.mono ?_;rintro _ w1 ⟨rfl,g1⟩
 clear HCk
 by_cases hv : valE p = 0
 rotate_left
 ·have dE : (valE p != 0) = true:=bne_iff_ne.2 hv
  have HF:=Lib.hid (HNil.out _ _ (.bad hv) g1)
  clear hv HW HEq HLa HLi HTe HPz HOf HNil HSo g1
  generalize valE p = E at *
  go_wp2
  (first | exact HF.out | (go_ret2;exact HF.out))
 rw [hv]
 have HV:=Lib.hid hv
 clear hv
 go_wp2_with fail
 go_loopw [7] (fun i wr => ∃ j : Nat,j <= p.n /\ i = .int .i64 j /\ Hid (∀ m,m < j -> (p.S m).k = 6 ∨ atE p m ≠ q.steps) /\ Below w.heap.size w wr) (fun i _ => p.n - (intOf i).toNat)
 case atStart => exact ⟨0,by omega,rfl,Lib.hid fun m hm => absurd hm (Nat.not_lt_zero _),g1⟩
 case round =>
  clear g1
  obtain ⟨j,hj,rfl,HN,g1⟩:=hrel
  have hji : (0 : Int) <= j:=by omega
  by_cases hjn : j < p.n
  ·have hjl : (j : Int) < p.n:=by omega
   go_wp2_with fail
   refine (HW.out j hjn HV.out wr g1).mono ?_;rintro _ w2 ⟨r,rfl,hr,hrs,hb2⟩
   have g2:=below_then g1 hb2
   have HEr:=Lib.hid (HEq.out r w2 g2 hr)
   rw [hrs] at HEr
   have L2:=HLi.out j hjn w2 g2
   have x0:=(LiesAt.e15 L2).1
   clear HW hr hrs hb2 g1 HEq L2
   obtain ⟨ek,hek⟩ : ∃ ek,(p.S j).k = ek:=⟨_,rfl⟩
   rw [hek] at x0
   have HEK:=Lib.hid hek
   clear hek
   obtain ⟨b,hb⟩ : ∃ b,eqS q.steps (atE p j) = b:=⟨_,rfl⟩
   rw [hb] at HEr
   have HB:=Lib.hid hb
   clear hb
   obtain ⟨ea,-⟩:=HLa.out (by omega)
   rw [ea]
   have HEa:=Lib.hid ea
   clear ea
   by_cases k6 : ek = 6
   ·have d6 : (ek != 6) = false:=by rw [k6];rfl
    have HN2 : Hid (∀ m,m < j + 1 -> (p.S m).k = 6 ∨ atE p m ≠ q.steps):=Lib.hid fun m hm => by
     by_cases z : m = j
     ·subst z;exact .inl (HEK.out.trans k6)
     ·exact HN.out m (by omega)
    clear k6 HEr HB HN HEK HTe HPz HOf HNil HSo
    go_wp2_with fail
    rw [<- HEa.out]
    go_roundw
    case rel => exact ⟨j + 1,by omega,by go_num,HN2,g2⟩
    case measure => simp [intOf];omega
   have d6 : (ek != 6) = true:=bne_iff_ne.2 k6
   have HK6:=Lib.hid k6
   clear k6
   go_wp2_with fail
   refine HEr.out.mono ?_;rintro _ w3 ⟨rfl,hb3⟩
   have g3:=below_then g2 hb3
   clear HEr g2 hb3 x0
   cases b
   ·have HN2 : Hid (∀ m,m < j + 1 -> (p.S m).k = 6 ∨ atE p m ≠ q.steps):=Lib.hid fun m hm => by
     by_cases z : m = j
     ·subst z
      refine .inr fun e => ?_
      have:=HB.out
      rw [eqS_yes e.symm] at this
      cases this
     ·exact HN.out m (by omega)
    clear HB HN HEK HK6 HTe HPz HOf HNil HSo
    go_wp2_with fail
    rw [<- HEa.out]
    go_roundw
    case rel => exact ⟨j + 1,by omega,by go_num,HN2,g3⟩
    case measure => simp [intOf];omega
   have hFI : FI p q.steps j:=⟨hjn,fun e => HK6.out (HEK.out.symm.trans e),(eqS_iff.1 HB.out).symm,HN.out⟩
   obtain ⟨j0,T,t1,t2,t3,t4,t5,t6,t7⟩:=HTe.out j HV.out hFI
   have HP:=Lib.hid (HPz.out j j0 T t1 t2 t5 t7 w3 g3)
   have hTl:=t7.length
   rw [List.length_drop,List.length_take,Evs.list_len] at hTl
   have HTl : Hid ((evs T).length <= 1000000):=Lib.hid (by omega)
   have HSm : Hid (∀ (L : List Ev),SameL L (evs T) -> TkIs p q.steps 0 L):=Lib.hid fun L hL => .some HV.out hFI t1 t2 t3 t4 (hL.trans t7.symm)
   have HOw:=Lib.hid t6
   clear HB HN HEK HK6 HTe HPz HNil hFI t1 t2 t3 t4 t5 t6 t7 HLi hTl HV
   obtain ⟨ll,hll⟩ : ∃ ll,(evs T).length = ll:=⟨_,rfl⟩
   rw [hll] at HP
   have HLL:=Lib.hid hll
   clear hll
   have c0 : ¬ p.c = j:=by omega
   have c1 : ¬ j = p.c:=by omega
   have c2 : (j : Int) <= p.n:=by omega
   have c3 : j <= p.n:=by omega
   go_wp2_with fail
   refine HP.out.mono ?_;rintro _ w4 ⟨X,rfl,hX,hXo,hXs,hb4⟩
   have g4:=below_then g3 hb4
   have q5:=(Below.refl w4.heap.size w4).alloc (Nat.le_refl _) (.cells #[.int .i64 X.h.k,.bool X.h.b,.bool X.h.n,.string X.h.d,.int .i64 X.h.e,.int .i64 X.h.tk,.int .i64 X.h.td,.int .i64 X.h.tn,.int .i64 X.h.tz,.string X.h.x,.slice X.h.ba X.h.bn X.h.bc,.slice X.h.la X.h.ln X.h.lc,.slice X.h.fa X.h.fn X.h.fc] 30)
   have A5:=Whole.new w4 30 #[.int .i64 X.h.k,.bool X.h.b,.bool X.h.n,.string X.h.d,.int .i64 X.h.e,.int .i64 X.h.tk,.int .i64 X.h.td,.int .i64 X.h.tn,.int .i64 X.h.tz,.string X.h.x,.slice X.h.ba X.h.bn X.h.bc,.slice X.h.la X.h.ln X.h.lc,.slice X.h.fa X.h.fn X.h.fc]
   have g5:=below_then g4 q5
   have HOX:=Lib.hid (HOf.out X (w4.alloc (.cells #[.int .i64 X.h.k,.bool X.h.b,.bool X.h.n,.string X.h.d,.int .i64 X.h.e,.int .i64 X.h.tk,.int .i64 X.h.td,.int .i64 X.h.tn,.int .i64 X.h.tz,.string X.h.x,.slice X.h.ba X.h.bn X.h.bc,.slice X.h.la X.h.ln X.h.lc,.slice X.h.fa X.h.fn X.h.fc] 30)) ((hX.below q5).up q5.size) (owd_same hXs HOw.out) (by rw [(evs_same hXs).length];exact HTl.out))
   have HXe:=Lib.hid (evs_same hXs)
   clear HP g3 hb4 g4 q5 hX hXo hXs HOw HTl HLL HOf c0 c1 c2 c3
   obtain ⟨a0,a1,a2,a3,a4,a5,a6,a7,a8,a9,a10,a11,a12⟩:=Whole.c13 (h:=X.h) A5
   clear A5
   go_wp2_with fail
   refine HOX.out.mono ?_;rintro _ w6 ⟨y,rfl,hy,hys,hb6⟩
   have g6:=below_then g5 hb6
   have HF:=Lib.hid (HSo.out y w6 hy (HSm.out _ (hys.trans HXe.out)) g6)
   clear HOX hy hys hb6 g5 g6 HSo HSm HXe a0 a1 a2 a3 a4 a5 a6 a7 a8 a9 a10 a11 a12
   go_wp2
   (first | exact HF.out | (go_ret2;exact HF.out))
  ·obtain rfl : j = p.n:=by omega
   have HF:=Lib.hid (HNil.out _ _ (.none HV.out HN.out) g1)
   clear HN HW HEq HLa HLi HTe HPz HOf HNil HSo g1
   go_wp2
   (first | exact HF.out | (go_ret2;exact HF.out))
end Go.Proofs.YtpcbhneaaibfiaaDoor
