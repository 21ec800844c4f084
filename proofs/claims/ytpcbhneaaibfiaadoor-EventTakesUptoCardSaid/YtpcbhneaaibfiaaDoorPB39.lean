/- Laid together. -/
import Derived.Test.YtpcbhneaaibfiaaDoorPB35
import Derived.Test.YtpcbhneaaibfiaaDoorPB36
import Derived.Test.YtpcbhneaaibfiaaDoorPB32
import Derived.Test.YtpcbhneaaibfiaaDoorPB23
import Derived.Deep.Cut
import Derived.Deep.DeepCutAuto
set_option linter.unusedVariables false
set_option linter.unusedSimpArgs false
set_option maxHeartbeats 16000000
set_option maxRecDepth 100000
namespace Go.Proofs.YtpcbhneaaibfiaaDoor
open Go.RowKit
theorem radd_ok0 {r : Rst} {x : Ev} {top : Nat} {w : World} (hr : r.In w top) (hx : x.ok) (hV : x.V.In w top) (ht : top <= w.heap.size) (hnd : r.nd <= 65536) (hTn : r.T.n + 1 <= 1048576) (h0 : r.addE x = 0) (hn : r.O.n = 0) :
 Calls Tryd.prog 22 #[.agg r.cells,.agg x.cells] w (RAddOut r x w):=by
 obtain ⟨hw0,hs0,hf0⟩:=radd_zero h0
 have hkk:=shape_kinds hs0
 have HBg:=Lib.hid (fun (q : x.k = 1 ∨ x.k = 2 ∨ x.k = 4) => rfol_beg hf0 q)
 have HNe:=Lib.hid (fun (q : x.k = 6 ∨ x.k = 3 ∨ x.k = 5) => (show False by have:=rfol_end hf0 q;omega))
 have HForm:=Lib.hid (fun (w1 : World) (hb : Below w.heap.size w w1) => form_any (x:=x) (top:=top) (w:=w1) hx (Vt.In.below (hb.mono ht) hV) (Nat.le_trans ht hb.size))
 have HFol:=Lib.hid (fun (w1 : World) (hb : Below w.heap.size w w1) => rfol_any (r:=r) (x:=x) (top:=top) (w:=w1) (hr.below (hb.mono ht)) (Nat.le_trans ht hb.size) hx hkk hnd)
 rw [hs0] at HForm
 rw [hf0] at HFol
 have HTin:=Lib.hid (fun (T' : Evs) (C : Nat) (W' : World) (hb : Below w.heap.size w W') (hT : T'.Row W' C) (h1 : T'.n = r.T.n + 1) (h2 : T'.S = fun i => if i < r.T.n then r.T.S i else x) => evs_ok hr hx hV ht hb hT h1 h2)
 have HOin:=Lib.hid (fun (W' : World) (hb : Below w.heap.size w W') => (hr.1.below (hb.mono ht)).up (Nat.le_trans ht hb.size))
 have HTop : Hid (∀ (T' : Evs) (w1 : World),r.O.In w1 w1.heap.size -> T'.In w1 w1.heap.size -> Calls Tryd.prog 44 #[.agg (Rst.cells ⟨r.O,T',r.nd,false⟩)] w1 fun e w' => e = .returned (.tuple #[.agg Opn.zero.cells,.bool false]) /\ Below w1.heap.size w1 w'):=Lib.hid fun T' w1 hO hT => by
  have q:=top_any (r:=⟨r.O,T',r.nd,false⟩) (top:=w1.heap.size) (w:=w1) ⟨hO,hT⟩ (Nat.le_refl _)
  unfold TopOut at q
  rw [topO_zero (r:=⟨r.O,T',r.nd,false⟩) hn] at q
  dsimp only at q
  rw [decide_eq_false (show ¬ 0 < r.O.n by omega)] at q
  exact q
 have HS:=Lib.hid (fun (q : x.k = 1) => out_sca0 hr hx hV ht h0 q hn)
 have HB:=Lib.hid (fun (q : x.k = 2 ∨ x.k = 4) => out_beg hr hx hV ht h0 q)
 unfold OutS at HS HB
 obtain ⟨news,hnews⟩ : ∃ news,catN (fun i => (r.T.S i).cells) r.T.n = news:=⟨_,rfl⟩
 have HT9 : Hid (∀ (a2 : Option Addr) (c2 : Nat) (B : Nat) (w' : World),w'.ownsRow B 57 15 (.slice a2 (r.T.n + 1) c2) (r.T.n + 1) (([] ++ news) ++ x.cells.toList) -> ∃ T' : Evs,Value.slice a2 (r.T.n + 1) c2 = .slice T'.a T'.n T'.c /\ T'.n = r.T.n + 1 /\ (T'.S = fun i => if i < r.T.n then r.T.S i else x) /\ T'.Row w' B):=Lib.hid fun a2 c2 B w' ho => by
  refine evs_row (S:=fun i => if i < r.T.n then r.T.S i else x) ?_ hTn
  have e : catN (fun i => (if i < r.T.n then r.T.S i else x : Ev).cells) (r.T.n + 1) = news ++ x.cells.toList:=by
   rw [<- hnews]
   exact catN_more (fun i hi => by rw [if_pos hi]) (by rw [if_neg (Nat.lt_irrefl _)])
  rw [e,<- List.nil_append news]
  exact ho
 have s1:=Lib.hid (fun (w1 : World) (hb : Below w.heap.size w w1) (h : 0 < r.T.n) => (⟨⟨r.T.b,r.T.o,none⟩,(hr.2.1 h).1,hnews ▸ rowL_src (fun j => (show (r.T.S j).cells.size = 15 from rfl)) (fun j hj => ((hr.2.2.2 j hj).1.below (hb.mono ht) (hr.2.1 h).2))⟩ : ∃ ad,r.T.a = some ad /\ ∀ j u,news[j]? = some u -> w1.cell? (ad.add j) = some u))
 have s2 : Hid (∀ u ∈ news,u.oneCell' = true):=Lib.hid (hnews ▸ catN_one (fun j => evc_one (r.T.S j)) r.T.n)
 have s0 : Hid (news.length = r.T.n * 15):=Lib.hid (hnews ▸ catN_len (fun j => (show (r.T.S j).cells.size = 15 from rfl)) r.T.n)
 have t2:=Lib.hid (evc_one x)
 have s3 : Hid (r.T.n <= maxLen):=Lib.hid (by unfold maxLen;omega)
 have s4 : Hid (r.T.n * 192 <= 140737488355328):=Lib.hid (by omega)
 have t3 : Hid (r.T.n + 1 <= maxLen):=Lib.hid (by unfold maxLen;omega)
 have t4 : Hid ((r.T.n + 1) * 192 <= 140737488355328):=Lib.hid (by omega)
 have HT26:=Lib.hid (fun (mp : Bool) => ops_one (mp:=mp))
 have os0 : Hid (([] : List Value).length = 0 * 4):=Lib.hid rfl
 have os1 : Hid (∀ w1 : World,Below w.heap.size w w1 -> 0 < 0 -> ∃ ad,r.O.a = some ad /\ ∀ (j : Nat) (u : Value),([] : List Value)[j]? = some u -> w1.cell? (ad.add j) = some u):=Lib.hid fun _ _ q => absurd q (Nat.lt_irrefl _)
 have os2 : Hid (∀ u ∈ ([] : List Value),u.oneCell' = true):=Lib.hid fun u q => by cases q
 have os3 : Hid (0 <= maxLen):=Lib.hid (by unfold maxLen;omega)
 have os4 : Hid (0 * 48 <= 140737488355328):=Lib.hid (by omega)
 have ot3 : Hid (1 <= maxLen):=Lib.hid (by unfold maxLen;omega)
 have ot4 : Hid (1 * 48 <= 140737488355328):=Lib.hid (by omega)
 obtain ⟨i0,hi0,hz0,hz1,hz2⟩:=info_parts Tryd.infoEvt
 obtain ⟨j0,hj0,hy0,hy1,hy2⟩:=info_parts info_open
 clear hr hx hV ht h0 hs0 hf0 hnews
 obtain ⟨k,key,V⟩:=x
 obtain ⟨⟨oa,on,oc,ob,oo,F⟩,⟨ta,tn,tc,tb,to',TS⟩,nd,wrong⟩:=r
 dsimp only at hw0 hn hnd hTn hkk HBg HS HB HTop HNe
 subst hw0
 have HN0:=Lib.hid hn
 clear hn
 generalize hM : ((nd : Nat) : Int) = M at *
 have HM:=Lib.hid hM
 have hM0 : 0 <= M:=by omega
 have hM1 : M <= 65536:=by omega
 clear hM
 have hM2 : IntKind.i64.wrap (M + 1) = M + 1:=by rw [IntKind.wrap_i64];omega
 have HK3:=Lib.hid hkk
 clear hkk hTn hnd
 have g0:=((Below.refl w.heap.size w).alloc (Nat.le_refl _) (.cells #[.slice oa on oc,.slice ta tn tc,.int .i64 M,.bool false] 53)).alloc (by simp) (.cells #[.int .i64 k,.string key,.int .i64 V.h.k,.bool V.h.b,.bool V.h.n,.string V.h.d,.int .i64 V.h.e,.int .i64 V.h.tk,.int .i64 V.h.td,.int .i64 V.h.tn,.int .i64 V.h.tz,.string V.h.x,.slice V.h.ba V.h.bn V.h.bc,.slice V.h.la V.h.ln V.h.lc,.slice V.h.fa V.h.fn V.h.fc] 57) |>.alloc (by simp;omega) (.cells #[.slice none 0 0,.slice none 0 0,.int .i64 0,.bool false] 53)
 have P0:=((Whole.new w 53 #[.slice oa on oc,.slice ta tn tc,.int .i64 M,.bool false]).alloc (.cells #[.int .i64 k,.string key,.int .i64 V.h.k,.bool V.h.b,.bool V.h.n,.string V.h.d,.int .i64 V.h.e,.int .i64 V.h.tk,.int .i64 V.h.td,.int .i64 V.h.tn,.int .i64 V.h.tz,.string V.h.x,.slice V.h.ba V.h.bn V.h.bc,.slice V.h.la V.h.ln V.h.lc,.slice V.h.fa V.h.fn V.h.fc] 57)).alloc (.cells #[.slice none 0 0,.slice none 0 0,.int .i64 0,.bool false] 53)
 have X0:=(Whole.new (w.alloc (.cells #[.slice oa on oc,.slice ta tn tc,.int .i64 M,.bool false] 53)) 57 #[.int .i64 k,.string key,.int .i64 V.h.k,.bool V.h.b,.bool V.h.n,.string V.h.d,.int .i64 V.h.e,.int .i64 V.h.tk,.int .i64 V.h.td,.int .i64 V.h.tn,.int .i64 V.h.tz,.string V.h.x,.slice V.h.ba V.h.bn V.h.bc,.slice V.h.la V.h.ln V.h.lc,.slice V.h.fa V.h.fn V.h.fc]).alloc (.cells #[.slice none 0 0,.slice none 0 0,.int .i64 0,.bool false] 53)
 have Q0:=Whole.new ((w.alloc (.cells #[.slice oa on oc,.slice ta tn tc,.int .i64 M,.bool false] 53)).alloc (.cells #[.int .i64 k,.string key,.int .i64 V.h.k,.bool V.h.b,.bool V.h.n,.string V.h.d,.int .i64 V.h.e,.int .i64 V.h.tk,.int .i64 V.h.td,.int .i64 V.h.tn,.int .i64 V.h.tz,.string V.h.x,.slice V.h.ba V.h.bn V.h.bc,.slice V.h.la V.h.ln V.h.lc,.slice V.h.fa V.h.fn V.h.fc] 57)) 53 #[.slice none 0 0,.slice none 0 0,.int .i64 0,.bool false]
 rw [World.size_alloc] at X0
 rw [World.size_alloc,World.size_alloc] at Q0
 simp only [Rst.cells,Ev.cells,evc,Opn.cells,Opn.zero] at HForm HFol HTop HT9 t2 ⊢
 try simp only [HM.out] at HForm HFol HTop ⊢
 obtain ⟨c0,c1,c2,c3⟩:=P0.o4s
 obtain ⟨x0,x1,x2,x3,x4,x5,x6,x7,x8,x9,x10,x11,x12,x13,x14⟩:=Whole.e15 (g:=V.h) X0
 go_enter Tryd.func22,Tryd.ntmps22
 go_wp2_with fail
 refine (HForm.out _ g0).mono ?_;rintro _ w1 ⟨rfl,hb1⟩
 clear c0 c1 c2 c3 x0 x1 x2 x3 x4 x5 x6 x7 x8 x9 x10 x11 x12 x13 x14
 have P1:=Whole.below P0 hb1 (Whole.lt P0)
 have X1:=Whole.below X0 hb1 (Whole.lt X0)
 have Q1:=Whole.below Q0 hb1 (Whole.lt Q0)
 have g1:=below_then g0 hb1
 clear P0 X0 Q0 g0
 clear hb1 HForm
 obtain ⟨c0,c1,c2,c3⟩:=P1.o4s
 obtain ⟨x0,x1,x2,x3,x4,x5,x6,x7,x8,x9,x10,x11,x12,x13,x14⟩:=Whole.e15 (g:=V.h) X1
 go_wp2_with fail
 refine (HFol.out _ g1).mono ?_;rintro _ w2 ⟨rfl,hb2⟩
 clear c0 c1 c2 c3 x0 x1 x2 x3 x4 x5 x6 x7 x8 x9 x10 x11 x12 x13 x14
 have P2:=Whole.below P1 hb2 (Whole.lt P1)
 have X2:=Whole.below X1 hb2 (Whole.lt X1)
 have Q2:=Whole.below Q1 hb2 (Whole.lt Q1)
 have g2:=below_then g1 hb2
 clear P1 X1 Q1 g1
 clear hb2 HFol
 go_upto_region 9 with (fail)
 go_cut [] (fun wx => ∃ (T' : Evs) (B : Nat),w.heap.size + 3 <= B /\ B <= wx.heap.size /\ Hid (T'.Row wx B /\ T'.n = tn + 1 /\ T'.S = fun i => if i < tn then TS i else ⟨k,key,V⟩) /\ Whole wx w.heap.size 53 #[.slice oa on oc,.slice T'.a T'.n T'.c,.int .i64 M,.bool false] /\ Whole wx (w.heap.size + 1) 57 #[.int .i64 k,.string key,.int .i64 V.h.k,.bool V.h.b,.bool V.h.n,.string V.h.d,.int .i64 V.h.e,.int .i64 V.h.tk,.int .i64 V.h.td,.int .i64 V.h.tn,.int .i64 V.h.tz,.string V.h.x,.slice V.h.ba V.h.bn V.h.bc,.slice V.h.la V.h.ln V.h.lc,.slice V.h.fa V.h.fn V.h.fc] /\ Whole wx (w.heap.size + 2) 53 #[.slice none 0 0,.slice none 0 0,.int .i64 0,.bool false] /\ Below w.heap.size w wx)
 case first =>
  refine wp_region_T (fun Wz => Whole Wz (w.heap.size) 53 #[.slice oa on oc,.slice ta tn tc,.int .i64 M,.bool false] /\ Whole Wz ((w.heap.size + 1)) 57 #[.int .i64 k,.string key,.int .i64 V.h.k,.bool V.h.b,.bool V.h.n,.string V.h.d,.int .i64 V.h.e,.int .i64 V.h.tk,.int .i64 V.h.td,.int .i64 V.h.tn,.int .i64 V.h.tz,.string V.h.x,.slice V.h.ba V.h.bn V.h.bc,.slice V.h.la V.h.ln V.h.lc,.slice V.h.fa V.h.fn V.h.fc]) [8] (by kernel_rfl) ?_
  have g3:=Below.drew g2
  have P3:=Whole.drew P2
  have X3:=Whole.drew X2
  have Q3:=Whole.drew Q2
  clear g2 P2 X2 Q2
  generalize w2.drew = w3 at *
  have hlq:=Q3.lt
  have h:=Below.refl w3.heap.size w3
  refine tk (i:=1) rfl (by kernel_rfl) (by rfl) (fun _ _ _ h => h) ⟨(P3.below h P3.lt),(X3.below h X3.lt)⟩ (by intro wS hSw;go_simp;try with_reducible rfl) ?_
  simp only [Act.put,actS]
  refine tk (i:=2) rfl (by kernel_rfl) (by rfl) (fun _ _ _ h => h) ⟨(P3.below h P3.lt),(X3.below h X3.lt)⟩ (by intro wS hSw;obtain ⟨Pz,Xz⟩:=hSw;obtain ⟨-,c1,-,-⟩:=Pz.o4s;go_simp;try with_reducible rfl) ?_
  simp only [Act.put,actS]
  refine tk (i:=4) rfl (by kernel_rfl) (by rfl) (fun _ _ _ h => h) ⟨(P3.below h P3.lt),(X3.below h X3.lt)⟩ (by intro wS hSw;obtain ⟨Pz,Xz⟩:=hSw;obtain ⟨x0,x1,x2,x3,x4,x5,x6,x7,x8,x9,x10,x11,x12,x13,x14⟩:=Whole.e15 (g:=V.h) Xz;go_simp;try with_reducible rfl) ?_
  simp only [Act.put,actS]
  refine wpAnyT_ready (rs:=[0,5]) (by kernel_rfl) (by simp) ?_
  refine (AllT.cons rfl (fun KK hK => ?_) (AllT.cons rfl (fun KK hK => ?_) AllT.nil))
  ·go_simp
   have q:=(Below.refl w3.heap.size w3).alloc (Nat.le_refl _) (.cells #[] 57)
   have A:=Whole.new w3 57 #[]
   generalize w3.alloc (.cells #[] 57) = w4 at q A ⊢
   have Vr:=Lib.hid (own_empty (C:=15) A h.size)
   replace h:=below_then h q
   clear q A
   refine hK.out _ _ (.inr ⟨(P3.below h P3.lt),(X3.below h X3.lt)⟩) ?_
   clear hK KK
   try simp only [Act.put,actS]
   refine wpAnyT_ready (rs:=[3,5]) (by kernel_rfl) (by simp) ?_
   refine (AllT.cons rfl (fun KK hK => ?_) (AllT.cons rfl (fun KK hK => ?_) AllT.nil))
   ·refine step_append_any _ (by rfl) _ _ _ (by rfl) _ 57 i0 _ 15 192 Tryd.underlying34 hi0 hz0 hz1 hz2 rfl (by decide) (.slice (some ⟨w3.heap.size,0,none⟩) 0 0) 0 [] (by rfl) Vr.out ta tn tc news (by rfl) s0.out (s1.out _ (below_then g3 h)) s2.out tn (by omega) s3.out s4.out h.size ?_
    intro a1 z1 w5 o hg ht
    replace h:=h.grown hg h.size (fun g q => (own_lt Vr.out q).1)
    replace Vr:=Lib.hid o
    clear o hg ht
    refine hK.out _ _ (.inr ⟨(P3.below h P3.lt),(X3.below h X3.lt)⟩) ?_
    clear hK KK
    try simp only [Act.put,actS]
    refine wpAnyT_ready (rs:=[5]) (by kernel_rfl) (by simp) ?_
    refine (AllT.cons rfl (fun KK hK => ?_) AllT.nil)
    go_simp
    have q:=(Below.refl w5.heap.size w5).alloc (Nat.le_refl _) (.cells #[.int .i64 k,.string key,.int .i64 V.h.k,.bool V.h.b,.bool V.h.n,.string V.h.d,.int .i64 V.h.e,.int .i64 V.h.tk,.int .i64 V.h.td,.int .i64 V.h.tn,.int .i64 V.h.tz,.string V.h.x,.slice V.h.ba V.h.bn V.h.bc,.slice V.h.la V.h.ln V.h.lc,.slice V.h.fa V.h.fn V.h.fc] 57)
    have A:=Whole.new w5 57 #[.int .i64 k,.string key,.int .i64 V.h.k,.bool V.h.b,.bool V.h.n,.string V.h.d,.int .i64 V.h.e,.int .i64 V.h.tk,.int .i64 V.h.td,.int .i64 V.h.tn,.int .i64 V.h.tz,.string V.h.x,.slice V.h.ba V.h.bn V.h.bc,.slice V.h.la V.h.ln V.h.lc,.slice V.h.fa V.h.fn V.h.fc]
    generalize w5.alloc (.cells #[.int .i64 k,.string key,.int .i64 V.h.k,.bool V.h.b,.bool V.h.n,.string V.h.d,.int .i64 V.h.e,.int .i64 V.h.tk,.int .i64 V.h.td,.int .i64 V.h.tn,.int .i64 V.h.tz,.string V.h.x,.slice V.h.ba V.h.bn V.h.bc,.slice V.h.la V.h.ln V.h.lc,.slice V.h.fa V.h.fn V.h.fc] 57) = w6 at q A ⊢
    replace Vr:=Lib.hid (own_below Vr.out q)
    have Xe:=A
    replace h:=below_then h q
    clear q A
    refine hK.out _ _ (.inr ⟨(P3.below h P3.lt),(X3.below h X3.lt)⟩) ?_
    clear hK KK
    try simp only [Act.put,actS]
    refine wpAnyT_ready (rs:=[6]) (by kernel_rfl) (by simp) ?_
    refine (AllT.cons rfl (fun KK hK => ?_) AllT.nil)
    refine step_append_any _ (by rfl) _ _ _ (by rfl) _ 57 i0 _ 15 192 Tryd.underlying34 hi0 hz0 hz1 hz2 rfl (by decide) (.slice a1 tn z1) tn _ (by rfl) Vr.out (some ⟨w5.heap.size,0,none⟩) 1 1 (#[.int .i64 k,.string key,.int .i64 V.h.k,.bool V.h.b,.bool V.h.n,.string V.h.d,.int .i64 V.h.e,.int .i64 V.h.tk,.int .i64 V.h.td,.int .i64 V.h.tn,.int .i64 V.h.tz,.string V.h.x,.slice V.h.ba V.h.bn V.h.bc,.slice V.h.la V.h.ln V.h.lc,.slice V.h.fa V.h.fn V.h.fc] : Array Value).toList (by rfl) (by rfl) (fun _ => ⟨_,rfl,World.news_of_block Xe⟩) t2.out (tn + 1) rfl t3.out t4.out h.size ?_
    intro a2 z2 w7 o hg ht
    clear Xe
    replace h:=h.grown hg h.size (fun g q => (own_lt Vr.out q).1)
    replace Vr:=Lib.hid o
    clear o hg ht
    refine hK.out _ _ (.inr ⟨(P3.below h P3.lt),(X3.below h X3.lt)⟩) ?_
    clear hK KK
    try simp only [Act.put,actS]
    refine tk (i:=7) rfl (by kernel_rfl) (by rfl) (fun _ _ _ h => h) ⟨(P3.below h P3.lt),(X3.below h X3.lt)⟩ (by intro wS hSw;go_simp;try with_reducible rfl) ?_
    simp only [Act.put,actS]
    refine wpAnyT_ready (rs:=[8]) (by kernel_rfl) (by simp) ?_
    refine (AllT.cons rfl (fun KK hK => ?_) AllT.nil)
    have hsW0:=h.size
    have P4:=Whole.below P3 h (Whole.lt P3)
    have X4:=Whole.below X3 h (Whole.lt X3)
    have Q4:=Whole.below Q3 h (Whole.lt Q3)
    have g4:=below_then g3 h
    clear P3 X3 Q3 g3
    have sc:=Whole.cell P4 1
    have sf:=Whole.frozen P4 1
    simp only [List.getElem?_toArray,List.getElem?_cons_succ,List.getElem?_cons_zero] at sc
    go_simp
    replace Vr:=Lib.hid (own_block (W':=w7.setCell ⟨w.heap.size,1,none⟩ (.slice a2 (tn + 1) z2)) Vr.out (fun g q => Below.heap_setCell _ _ _ _ (by have:=(own_lt Vr.out q).1;show g ≠ w.heap.size;omega)))
    have hsW : w3.heap.size <= (w7.setCell ⟨w.heap.size,1,none⟩ (.slice a2 (tn + 1) z2)).heap.size:=by rw [show (w7.setCell ⟨w.heap.size,1,none⟩ (.slice a2 (tn + 1) z2)).heap.size = w7.heap.size by simp];exact hsW0
    clear sc sf h hsW0
    have P5 : Whole (w7.setCell ⟨w.heap.size,1,none⟩ (.slice a2 (tn + 1) z2)) w.heap.size 53 #[.slice oa on oc,(.slice a2 (tn + 1) z2),.int .i64 M,.bool false]:=Whole.set P4 1 (.slice a2 (tn + 1) z2)
    have X5:=Whole.far (p:=⟨w.heap.size,1,none⟩) X4 (by show (w.heap.size + 1) ≠ w.heap.size;omega) (.slice a2 (tn + 1) z2)
    have Q5:=Whole.far (p:=⟨w.heap.size,1,none⟩) Q4 (by show (w.heap.size + 2) ≠ w.heap.size;omega) (.slice a2 (tn + 1) z2)
    have g5:=Below.setCell (p:=⟨w.heap.size,1,none⟩) g4 (by show _ <= w.heap.size;omega) (.slice a2 (tn + 1) z2)
    clear P4 X4 Q4 g4
    generalize w7.setCell ⟨w.heap.size,1,none⟩ (.slice a2 (tn + 1) z2) = w8 at *
    refine hK.out _ _ (.inl (by decide)) ?_
    clear hK KK
    try simp only [Act.put,actS]
    refine wpAnyT_done (by kernel_rfl) ?_ _
    go_wp2_with fail
    go_meet
    obtain ⟨T',e1,e2,e3,e4⟩:=HT9.out _ _ _ _ Vr.out
    exact ⟨T',w3.heap.size,by omega,hsW,Lib.hid ⟨e4,e2,e3⟩,e1 ▸ P5,X5,Q5,g5⟩
   ·go_simp
    have q:=(Below.refl w4.heap.size w4).alloc (Nat.le_refl _) (.cells #[.int .i64 k,.string key,.int .i64 V.h.k,.bool V.h.b,.bool V.h.n,.string V.h.d,.int .i64 V.h.e,.int .i64 V.h.tk,.int .i64 V.h.td,.int .i64 V.h.tn,.int .i64 V.h.tz,.string V.h.x,.slice V.h.ba V.h.bn V.h.bc,.slice V.h.la V.h.ln V.h.lc,.slice V.h.fa V.h.fn V.h.fc] 57)
    have A:=Whole.new w4 57 #[.int .i64 k,.string key,.int .i64 V.h.k,.bool V.h.b,.bool V.h.n,.string V.h.d,.int .i64 V.h.e,.int .i64 V.h.tk,.int .i64 V.h.td,.int .i64 V.h.tn,.int .i64 V.h.tz,.string V.h.x,.slice V.h.ba V.h.bn V.h.bc,.slice V.h.la V.h.ln V.h.lc,.slice V.h.fa V.h.fn V.h.fc]
    generalize w4.alloc (.cells #[.int .i64 k,.string key,.int .i64 V.h.k,.bool V.h.b,.bool V.h.n,.string V.h.d,.int .i64 V.h.e,.int .i64 V.h.tk,.int .i64 V.h.td,.int .i64 V.h.tn,.int .i64 V.h.tz,.string V.h.x,.slice V.h.ba V.h.bn V.h.bc,.slice V.h.la V.h.ln V.h.lc,.slice V.h.fa V.h.fn V.h.fc] 57) = w5 at q A ⊢
    have hne : w3.heap.size ≠ w4.heap.size:=by have:=(own_lt Vr.out (g:=w3.heap.size) rfl).2;omega
    replace Vr:=Lib.hid (own_below Vr.out q)
    have Xe:=A
    replace h:=below_then h q
    clear q A
    refine hK.out _ _ (.inr ⟨(P3.below h P3.lt),(X3.below h X3.lt)⟩) ?_
    clear hK KK
    try simp only [Act.put,actS]
    refine wpAnyT_ready (rs:=[3]) (by kernel_rfl) (by simp) ?_
    refine (AllT.cons rfl (fun KK hK => ?_) AllT.nil)
    refine step_append_any _ (by rfl) _ _ _ (by rfl) _ 57 i0 _ 15 192 Tryd.underlying34 hi0 hz0 hz1 hz2 rfl (by decide) (.slice (some ⟨w3.heap.size,0,none⟩) 0 0) 0 [] (by rfl) Vr.out ta tn tc news (by rfl) s0.out (s1.out _ (below_then g3 h)) s2.out tn (by omega) s3.out s4.out h.size ?_
    intro a1 z1 w6 o hg ht
    replace Xe:=Xe.kept hg (fun e => hne (Option.some.inj (show some _ = some _ from e)).symm)
    replace h:=h.grown hg h.size (fun g q => (own_lt Vr.out q).1)
    replace Vr:=Lib.hid o
    clear o hg ht
    refine hK.out _ _ (.inr ⟨(P3.below h P3.lt),(X3.below h X3.lt)⟩) ?_
    clear hK KK
    try simp only [Act.put,actS]
    refine wpAnyT_ready (rs:=[6]) (by kernel_rfl) (by simp) ?_
    refine (AllT.cons rfl (fun KK hK => ?_) AllT.nil)
    refine step_append_any _ (by rfl) _ _ _ (by rfl) _ 57 i0 _ 15 192 Tryd.underlying34 hi0 hz0 hz1 hz2 rfl (by decide) (.slice a1 tn z1) tn _ (by rfl) Vr.out (some ⟨w4.heap.size,0,none⟩) 1 1 (#[.int .i64 k,.string key,.int .i64 V.h.k,.bool V.h.b,.bool V.h.n,.string V.h.d,.int .i64 V.h.e,.int .i64 V.h.tk,.int .i64 V.h.td,.int .i64 V.h.tn,.int .i64 V.h.tz,.string V.h.x,.slice V.h.ba V.h.bn V.h.bc,.slice V.h.la V.h.ln V.h.lc,.slice V.h.fa V.h.fn V.h.fc] : Array Value).toList (by rfl) (by rfl) (fun _ => ⟨_,rfl,World.news_of_block Xe⟩) t2.out (tn + 1) rfl t3.out t4.out h.size ?_
    intro a2 z2 w7 o hg ht
    clear Xe
    replace h:=h.grown hg h.size (fun g q => (own_lt Vr.out q).1)
    replace Vr:=Lib.hid o
    clear o hg ht
    refine hK.out _ _ (.inr ⟨(P3.below h P3.lt),(X3.below h X3.lt)⟩) ?_
    clear hK KK
    try simp only [Act.put,actS]
    refine tk (i:=7) rfl (by kernel_rfl) (by rfl) (fun _ _ _ h => h) ⟨(P3.below h P3.lt),(X3.below h X3.lt)⟩ (by intro wS hSw;go_simp;try with_reducible rfl) ?_
    simp only [Act.put,actS]
    refine wpAnyT_ready (rs:=[8]) (by kernel_rfl) (by simp) ?_
    refine (AllT.cons rfl (fun KK hK => ?_) AllT.nil)
    have hsW0:=h.size
    have P4:=Whole.below P3 h (Whole.lt P3)
    have X4:=Whole.below X3 h (Whole.lt X3)
    have Q4:=Whole.below Q3 h (Whole.lt Q3)
    have g4:=below_then g3 h
    clear P3 X3 Q3 g3
    have sc:=Whole.cell P4 1
    have sf:=Whole.frozen P4 1
    simp only [List.getElem?_toArray,List.getElem?_cons_succ,List.getElem?_cons_zero] at sc
    go_simp
    replace Vr:=Lib.hid (own_block (W':=w7.setCell ⟨w.heap.size,1,none⟩ (.slice a2 (tn + 1) z2)) Vr.out (fun g q => Below.heap_setCell _ _ _ _ (by have:=(own_lt Vr.out q).1;show g ≠ w.heap.size;omega)))
    have hsW : w3.heap.size <= (w7.setCell ⟨w.heap.size,1,none⟩ (.slice a2 (tn + 1) z2)).heap.size:=by rw [show (w7.setCell ⟨w.heap.size,1,none⟩ (.slice a2 (tn + 1) z2)).heap.size = w7.heap.size by simp];exact hsW0
    clear sc sf h hsW0
    have P5 : Whole (w7.setCell ⟨w.heap.size,1,none⟩ (.slice a2 (tn + 1) z2)) w.heap.size 53 #[.slice oa on oc,(.slice a2 (tn + 1) z2),.int .i64 M,.bool false]:=Whole.set P4 1 (.slice a2 (tn + 1) z2)
    have X5:=Whole.far (p:=⟨w.heap.size,1,none⟩) X4 (by show (w.heap.size + 1) ≠ w.heap.size;omega) (.slice a2 (tn + 1) z2)
    have Q5:=Whole.far (p:=⟨w.heap.size,1,none⟩) Q4 (by show (w.heap.size + 2) ≠ w.heap.size;omega) (.slice a2 (tn + 1) z2)
    have g5:=Below.setCell (p:=⟨w.heap.size,1,none⟩) g4 (by show _ <= w.heap.size;omega) (.slice a2 (tn + 1) z2)
    clear P4 X4 Q4 g4
    generalize w7.setCell ⟨w.heap.size,1,none⟩ (.slice a2 (tn + 1) z2) = w8 at *
    refine hK.out _ _ (.inl (by decide)) ?_
    clear hK KK
    try simp only [Act.put,actS]
    refine wpAnyT_done (by kernel_rfl) ?_ _
    go_wp2_with fail
    go_meet
    obtain ⟨T',e1,e2,e3,e4⟩:=HT9.out _ _ _ _ Vr.out
    exact ⟨T',w3.heap.size,by omega,hsW,Lib.hid ⟨e4,e2,e3⟩,e1 ▸ P5,X5,Q5,g5⟩
  ·go_simp
   have q:=(Below.refl w3.heap.size w3).alloc (Nat.le_refl _) (.cells #[.int .i64 k,.string key,.int .i64 V.h.k,.bool V.h.b,.bool V.h.n,.string V.h.d,.int .i64 V.h.e,.int .i64 V.h.tk,.int .i64 V.h.td,.int .i64 V.h.tn,.int .i64 V.h.tz,.string V.h.x,.slice V.h.ba V.h.bn V.h.bc,.slice V.h.la V.h.ln V.h.lc,.slice V.h.fa V.h.fn V.h.fc] 57)
   have A:=Whole.new w3 57 #[.int .i64 k,.string key,.int .i64 V.h.k,.bool V.h.b,.bool V.h.n,.string V.h.d,.int .i64 V.h.e,.int .i64 V.h.tk,.int .i64 V.h.td,.int .i64 V.h.tn,.int .i64 V.h.tz,.string V.h.x,.slice V.h.ba V.h.bn V.h.bc,.slice V.h.la V.h.ln V.h.lc,.slice V.h.fa V.h.fn V.h.fc]
   generalize w3.alloc (.cells #[.int .i64 k,.string key,.int .i64 V.h.k,.bool V.h.b,.bool V.h.n,.string V.h.d,.int .i64 V.h.e,.int .i64 V.h.tk,.int .i64 V.h.td,.int .i64 V.h.tn,.int .i64 V.h.tz,.string V.h.x,.slice V.h.ba V.h.bn V.h.bc,.slice V.h.la V.h.ln V.h.lc,.slice V.h.fa V.h.fn V.h.fc] 57) = w4 at q A ⊢
   have Xe:=A
   replace h:=below_then h q
   clear q A
   refine hK.out _ _ (.inr ⟨(P3.below h P3.lt),(X3.below h X3.lt)⟩) ?_
   clear hK KK
   try simp only [Act.put,actS]
   refine wpAnyT_ready (rs:=[0]) (by kernel_rfl) (by simp) ?_
   refine (AllT.cons rfl (fun KK hK => ?_) AllT.nil)
   go_simp
   have q:=(Below.refl w4.heap.size w4).alloc (Nat.le_refl _) (.cells #[] 57)
   have A:=Whole.new w4 57 #[]
   generalize w4.alloc (.cells #[] 57) = w5 at q A ⊢
   have Vr:=Lib.hid (own_empty (C:=15) A h.size)
   have hne : w4.heap.size ≠ w3.heap.size:=by have:=Xe.lt;omega
   replace Xe:=Xe.below q Xe.lt
   replace h:=below_then h q
   clear q A
   refine hK.out _ _ (.inr ⟨(P3.below h P3.lt),(X3.below h X3.lt)⟩) ?_
   clear hK KK
   try simp only [Act.put,actS]
   refine wpAnyT_ready (rs:=[3]) (by kernel_rfl) (by simp) ?_
   refine (AllT.cons rfl (fun KK hK => ?_) AllT.nil)
   refine step_append_any _ (by rfl) _ _ _ (by rfl) _ 57 i0 _ 15 192 Tryd.underlying34 hi0 hz0 hz1 hz2 rfl (by decide) (.slice (some ⟨w4.heap.size,0,none⟩) 0 0) 0 [] (by rfl) Vr.out ta tn tc news (by rfl) s0.out (s1.out _ (below_then g3 h)) s2.out tn (by omega) s3.out s4.out h.size ?_
   intro a1 z1 w6 o hg ht
   replace Xe:=Xe.kept hg (fun e => hne (Option.some.inj (show some _ = some _ from e)).symm)
   replace h:=h.grown hg h.size (fun g q => (own_lt Vr.out q).1)
   replace Vr:=Lib.hid o
   clear o hg ht
   refine hK.out _ _ (.inr ⟨(P3.below h P3.lt),(X3.below h X3.lt)⟩) ?_
   clear hK KK
   try simp only [Act.put,actS]
   refine wpAnyT_ready (rs:=[6]) (by kernel_rfl) (by simp) ?_
   refine (AllT.cons rfl (fun KK hK => ?_) AllT.nil)
   refine step_append_any _ (by rfl) _ _ _ (by rfl) _ 57 i0 _ 15 192 Tryd.underlying34 hi0 hz0 hz1 hz2 rfl (by decide) (.slice a1 tn z1) tn _ (by rfl) Vr.out (some ⟨w3.heap.size,0,none⟩) 1 1 (#[.int .i64 k,.string key,.int .i64 V.h.k,.bool V.h.b,.bool V.h.n,.string V.h.d,.int .i64 V.h.e,.int .i64 V.h.tk,.int .i64 V.h.td,.int .i64 V.h.tn,.int .i64 V.h.tz,.string V.h.x,.slice V.h.ba V.h.bn V.h.bc,.slice V.h.la V.h.ln V.h.lc,.slice V.h.fa V.h.fn V.h.fc] : Array Value).toList (by rfl) (by rfl) (fun _ => ⟨_,rfl,World.news_of_block Xe⟩) t2.out (tn + 1) rfl t3.out t4.out h.size ?_
   intro a2 z2 w7 o hg ht
   clear Xe
   replace h:=h.grown hg h.size (fun g q => (own_lt Vr.out q).1)
   replace Vr:=Lib.hid o
   clear o hg ht
   refine hK.out _ _ (.inr ⟨(P3.below h P3.lt),(X3.below h X3.lt)⟩) ?_
   clear hK KK
   try simp only [Act.put,actS]
   refine tk (i:=7) rfl (by kernel_rfl) (by rfl) (fun _ _ _ h => h) ⟨(P3.below h P3.lt),(X3.below h X3.lt)⟩ (by intro wS hSw;go_simp;try with_reducible rfl) ?_
   simp only [Act.put,actS]
   refine wpAnyT_ready (rs:=[8]) (by kernel_rfl) (by simp) ?_
   refine (AllT.cons rfl (fun KK hK => ?_) AllT.nil)
   have hsW0:=h.size
   have P4:=Whole.below P3 h (Whole.lt P3)
   have X4:=Whole.below X3 h (Whole.lt X3)
   have Q4:=Whole.below Q3 h (Whole.lt Q3)
   have g4:=below_then g3 h
   clear P3 X3 Q3 g3
   have sc:=Whole.cell P4 1
   have sf:=Whole.frozen P4 1
   simp only [List.getElem?_toArray,List.getElem?_cons_succ,List.getElem?_cons_zero] at sc
   go_simp
   replace Vr:=Lib.hid (own_block (W':=w7.setCell ⟨w.heap.size,1,none⟩ (.slice a2 (tn + 1) z2)) Vr.out (fun g q => Below.heap_setCell _ _ _ _ (by have:=(own_lt Vr.out q).1;show g ≠ w.heap.size;omega)))
   have hsW : w3.heap.size <= (w7.setCell ⟨w.heap.size,1,none⟩ (.slice a2 (tn + 1) z2)).heap.size:=by rw [show (w7.setCell ⟨w.heap.size,1,none⟩ (.slice a2 (tn + 1) z2)).heap.size = w7.heap.size by simp];exact hsW0
   clear sc sf h hsW0
   have P5 : Whole (w7.setCell ⟨w.heap.size,1,none⟩ (.slice a2 (tn + 1) z2)) w.heap.size 53 #[.slice oa on oc,(.slice a2 (tn + 1) z2),.int .i64 M,.bool false]:=Whole.set P4 1 (.slice a2 (tn + 1) z2)
   have X5:=Whole.far (p:=⟨w.heap.size,1,none⟩) X4 (by show (w.heap.size + 1) ≠ w.heap.size;omega) (.slice a2 (tn + 1) z2)
   have Q5:=Whole.far (p:=⟨w.heap.size,1,none⟩) Q4 (by show (w.heap.size + 2) ≠ w.heap.size;omega) (.slice a2 (tn + 1) z2)
   have g5:=Below.setCell (p:=⟨w.heap.size,1,none⟩) g4 (by show _ <= w.heap.size;omega) (.slice a2 (tn + 1) z2)
   clear P4 X4 Q4 g4
   generalize w7.setCell ⟨w.heap.size,1,none⟩ (.slice a2 (tn + 1) z2) = w8 at *
   refine hK.out _ _ (.inl (by decide)) ?_
   clear hK KK
   try simp only [Act.put,actS]
   refine wpAnyT_done (by kernel_rfl) ?_ _
   go_wp2_with fail
   go_meet
   obtain ⟨T',e1,e2,e3,e4⟩:=HT9.out _ _ _ _ Vr.out
   exact ⟨T',w3.heap.size,by omega,hsW,Lib.hid ⟨e4,e2,e3⟩,e1 ▸ P5,X5,Q5,g5⟩
 case rest =>
 clear g2 P2 X2 Q2 s0 s1 s2 s3 s4 t2 t3 t4 HT9 hi0 hz0 hz1 hz2
 obtain ⟨T',BT,hBT,hBT2,HT',P9,X9,Q9,g9⟩:=hcut
 generalize wc = w9 at *
 have hq9:=Whole.lt Q9
 have k9:=Kept.refl (fun b => b < w.heap.size + 3) w9
 obtain ⟨c0,c1,c2,c3⟩:=P9.o4s
 go_wp2_with fail
 refine (HTop.out T' w9 (HOin.out _ g9) (HTin.out _ _ _ g9 HT'.out.1 HT'.out.2.1 HT'.out.2.2)).mono ?_;rintro _ w10 ⟨rfl,hb10⟩
 clear c0 c1 c2 c3
 have P10:=Whole.below P9 hb10 (Whole.lt P9)
 have X10:=Whole.below X9 hb10 (Whole.lt X9)
 have Q10:=Whole.below Q9 hb10 (Whole.lt Q9)
 have g10:=below_then g9 hb10
 have k10:=Kept.trans k9 (Kept.of (O:=(fun b => b < w.heap.size + 3)) hb10) (fun _ h => .inl h)
 clear P9 X9 Q9 g9 k9
 clear hb10 HTop
 have hq10:=Whole.lt Q10
 have hk10:=k10.size
 have q11:=(Below.refl w10.heap.size w10).alloc (Nat.le_refl _) (.cells #[.bool false,.slice none 0 0,.int .i64 0,.bool false] 90)
 have N11:=Whole.new w10 90 #[.bool false,.slice none 0 0,.int .i64 0,.bool false]
 have P11:=Whole.below P10 q11 (Whole.lt P10)
 have X11:=Whole.below X10 q11 (Whole.lt X10)
 have Q11:=Whole.below Q10 q11 (Whole.lt Q10)
 have g11:=below_then g10 q11
 have k11:=Kept.trans k10 (Kept.of (O:=(fun b => b < w.heap.size + 3)) q11) (fun _ h => .inl h)
 clear P10 X10 Q10 g10 k10
 clear q11
 have hone : Hid ((#[.bool false,.slice none 0 0,.int .i64 0,.bool false] : Array Value).all (·.oneCell') = true):=Lib.hid (by simp [Value.oneCell'])
 have Nb:=N11
 have P12:=Whole.farRow (B':=w10.heap.size) P11 (by omega) #[.bool false,.slice none 0 0,.int .i64 0,.bool false]
 have X12:=Whole.farRow (B':=w10.heap.size) X11 (by omega) #[.bool false,.slice none 0 0,.int .i64 0,.bool false]
 have Q12:=Whole.farRow (B':=w10.heap.size) Q11 (by omega) #[.bool false,.slice none 0 0,.int .i64 0,.bool false]
 have N12:=Whole.setRow N11 #[.bool false,.slice none 0 0,.int .i64 0,.bool false]
 have g12:=below_setRow (g:=w10.heap.size) g11 (by omega) #[.bool false,.slice none 0 0,.int .i64 0,.bool false]
 have k12:=Kept.trans k11 (kept_setRow (fun b => b = w10.heap.size) (w10.alloc (.cells #[.bool false,.slice none 0 0,.int .i64 0,.bool false] 90)) (w10.heap.size) #[.bool false,.slice none 0 0,.int .i64 0,.bool false] rfl) (fun b h => by subst h;omega)
 clear P11 X11 Q11 N11 g11 k11
 have x0:=(Whole.e15 (g:=V.h) X12).1
 go_upto_region 12 with (refine wpList_store_row rfl 90 _ _ rfl w10.heap.size #[.bool false,.slice none 0 0,.int .i64 0,.bool false] rfl rfl 90 _ Nb opn_row rfl hone.out ?_)
 clear x0 Nb
 generalize (w10.alloc (.cells #[.bool false,.slice none 0 0,.int .i64 0,.bool false] 90)).setRow (w10.heap.size) #[.bool false,.slice none 0 0,.int .i64 0,.bool false] = w12 at *
 clear hone
 have hn12:=Whole.lt N12
 have k6 : k ≠ 6:=fun q => HNe.out (.inl q)
 have k3 : k ≠ 3:=fun q => HNe.out (.inr (.inl q))
 have k5 : k ≠ 5:=fun q => HNe.out (.inr (.inr q))
 have d6 : (k == 6) = false:=beq_eq_false_iff_ne.2 k6
 have d3 : (k == 3) = false:=beq_eq_false_iff_ne.2 k3
 have d5 : (k == 5) = false:=beq_eq_false_iff_ne.2 k5
 have hk124 : k = 1 ∨ k = 2 ∨ k = 4:=by have:=HK3.out;omega
 have hb48:=(HBg.out hk124).1
 clear HBg HK3 k6 k3 k5 HNe
 have sf:=Whole.frozen P12 2
 obtain ⟨c0,c1,c2,c3⟩:=P12.o4s
 go_upto_region 21 with (fail)
 clear c0 c1 c2 c3
 clear sf
 have P13 : Whole (w12.setCell ⟨w.heap.size,2,none⟩ (.int .i64 (M + 1))) w.heap.size 53 #[.slice oa on oc,.slice T'.a T'.n T'.c,.int .i64 (M + 1),.bool false]:=Whole.set P12 2 (.int .i64 (M + 1))
 have X13:=Whole.far (p:=⟨w.heap.size,2,none⟩) X12 (by show (w.heap.size + 1) ≠ w.heap.size;omega) (.int .i64 (M + 1))
 have Q13:=Whole.far (p:=⟨w.heap.size,2,none⟩) Q12 (by show (w.heap.size + 2) ≠ w.heap.size;omega) (.int .i64 (M + 1))
 have N13:=Whole.far (p:=⟨w.heap.size,2,none⟩) N12 (by show w10.heap.size ≠ w.heap.size;omega) (.int .i64 (M + 1))
 have g13:=Below.setCell (p:=⟨w.heap.size,2,none⟩) g12 (by show _ <= w.heap.size;omega) (.int .i64 (M + 1))
 have k13:=Kept.trans k12 (kept_set (fun b => b = w.heap.size) w12 w.heap.size 2 (.int .i64 (M + 1)) rfl) (fun b h => by subst h;omega)
 clear P12 X12 Q12 N12 g12 k12
 generalize w12.setCell ⟨w.heap.size,2,none⟩ (.int .i64 (M + 1)) = w13 at *
 by_cases k1 : k = 1
 ·have d1 : (k != 1) = false:=by simp [k1]
  have HSo:=Lib.hid (HS.out k1)
  clear HS HB k1 hk124 HT26
  obtain ⟨c0,c1,c2,c3⟩:=P13.o4s
  have x0:=(Whole.e15 (g:=V.h) X13).1
  have ho2 : Hid ((#[.slice oa on oc,.slice T'.a T'.n T'.c,.int .i64 (M + 1),.bool false] : Array Value).all (·.oneCell') = true):=Lib.hid (by simp [Value.oneCell'])
  have Qb:=Q13
  have P14:=Whole.farRow (B':=(w.heap.size + 2)) P13 (by omega) #[.slice oa on oc,.slice T'.a T'.n T'.c,.int .i64 (M + 1),.bool false]
  have X14:=Whole.farRow (B':=(w.heap.size + 2)) X13 (by omega) #[.slice oa on oc,.slice T'.a T'.n T'.c,.int .i64 (M + 1),.bool false]
  have Q14:=Whole.setRow Q13 #[.slice oa on oc,.slice T'.a T'.n T'.c,.int .i64 (M + 1),.bool false]
  have N14:=Whole.farRow (B':=(w.heap.size + 2)) N13 (by omega) #[.slice oa on oc,.slice T'.a T'.n T'.c,.int .i64 (M + 1),.bool false]
  have g14:=below_setRow (g:=(w.heap.size + 2)) g13 (by omega) #[.slice oa on oc,.slice T'.a T'.n T'.c,.int .i64 (M + 1),.bool false]
  have k14:=Kept.trans k13 (kept_setRow (fun b => b = (w.heap.size + 2)) w13 ((w.heap.size + 2)) #[.slice oa on oc,.slice T'.a T'.n T'.c,.int .i64 (M + 1),.bool false] rfl) (fun b h => by subst h;omega)
  clear P13 X13 Q13 N13 g13 k13
  have HF:=Lib.hid (HSo.out T' (M + 1) _ _ rfl (by omega) (HT'.out.1.kept k14 (fun b hb => by omega)) HT'.out.2.1 HT'.out.2.2 g14)
  clear HSo
  go_wp2_with (refine wpList_store_row rfl 53 _ _ rfl (w.heap.size + 2) #[.slice oa on oc,.slice T'.a T'.n T'.c,.int .i64 (M + 1),.bool false] rfl rfl 53 _ Qb st_row rfl ho2.out ?_)
  exact bodyPost_ret (v:=.tuple #[.agg #[.slice oa on oc,.slice T'.a T'.n T'.c,.int .i64 (M + 1),.bool false],.int .i64 0]) (ret_rst2 (p:=4) (q:=5) rfl rfl Q14) rfl HF.out
 have d1 : (k != 1) = true:=bne_iff_ne.2 k1
 have HBo:=Lib.hid (HB.out (by omega))
 clear HS HB k1 hk124
 have x0:=(Whole.e15 (g:=V.h) X13).1
 go_upto_region 26 with (fail)
 clear x0
 obtain rfl : on = 0:=HN0.out
 have HO4:=Lib.hid (HT26.out (k == 4))
 clear HT26
 have ot2 : Hid (∀ u ∈ (#[.bool (k == 4),.slice none 0 0,.int .i64 0,.bool false] : Array Value).toList,u.oneCell' = true):=Lib.hid (by simp [Value.oneCell'])
 refine wp_region_T (fun Wz => Whole Wz w.heap.size 53 #[.slice oa 0 oc,.slice T'.a T'.n T'.c,.int .i64 (M + 1),.bool false] /\ Whole Wz (w.heap.size + 1) 57 #[.int .i64 k,.string key,.int .i64 V.h.k,.bool V.h.b,.bool V.h.n,.string V.h.d,.int .i64 V.h.e,.int .i64 V.h.tk,.int .i64 V.h.td,.int .i64 V.h.tn,.int .i64 V.h.tz,.string V.h.x,.slice V.h.ba V.h.bn V.h.bc,.slice V.h.la V.h.ln V.h.lc,.slice V.h.fa V.h.fn V.h.fc]) [11] (by kernel_rfl) ?_
 have qd : Below w13.heap.size w13 w13.drew:=(Below.refl _ w13).drew
 generalize w13.drew = w14 at *
 have P14:=Whole.below P13 qd (Whole.lt P13)
 have X14:=Whole.below X13 qd (Whole.lt X13)
 have Q14:=Whole.below Q13 qd (Whole.lt Q13)
 have N14:=Whole.below N13 qd (Whole.lt N13)
 have g14:=below_then g13 qd
 have k14:=Kept.trans k13 (Kept.of (O:=(fun b => b < w.heap.size + 3)) qd) (fun _ h => .inl h)
 clear P13 X13 Q13 N13 g13 k13
 clear qd
 have hlN:=Whole.lt N14
 have hlQ:=Whole.lt Q14
 have h:=Below.refl w14.heap.size w14
 refine tk (i:=1) rfl (by kernel_rfl) (by rfl) (fun _ _ _ h => h) ⟨(P14.below h P14.lt),(X14.below h X14.lt)⟩ (by intro wS hSw;go_simp;try with_reducible rfl) ?_
 simp only [Act.put,actS]
 refine tk (i:=2) rfl (by kernel_rfl) (by rfl) (fun _ _ _ h => h) ⟨(P14.below h P14.lt),(X14.below h X14.lt)⟩ (by intro wS hSw;obtain ⟨Pz,Xz⟩:=hSw;obtain ⟨c0,-,-,-⟩:=Pz.o4s;go_simp;try with_reducible rfl) ?_
 simp only [Act.put,actS]
 refine tk (i:=4) rfl (by kernel_rfl) (by rfl) (fun _ _ _ h => h) ⟨(P14.below h P14.lt),(X14.below h X14.lt)⟩ (by intro wS hSw;go_simp;try with_reducible rfl) ?_
 simp only [Act.put,actS]
 refine tk (i:=5) rfl (by kernel_rfl) (by rfl) (fun _ _ _ h => h) ⟨(P14.below h P14.lt),(X14.below h X14.lt)⟩ (by intro wS hSw;obtain ⟨Pz,Xz⟩:=hSw;have x0:=(Whole.e15 (g:=V.h) Xz).1;go_simp;try with_reducible rfl) ?_
 simp only [Act.put,actS]
 refine tk (i:=6) rfl (by kernel_rfl) (by rfl) (fun _ _ _ h => h) ⟨(P14.below h P14.lt),(X14.below h X14.lt)⟩ (by intro wS hSw;go_simp;try with_reducible rfl) ?_
 simp only [Act.put,actS]
 refine tk (i:=7) rfl (by kernel_rfl) (by rfl) (fun _ _ _ h => h) ⟨(P14.below h P14.lt),(X14.below h X14.lt)⟩ (by intro wS hSw;go_simp;try with_reducible rfl) ?_
 simp only [Act.put,actS]
 refine wpAnyT_ready (rs:=[0,8]) (by kernel_rfl) (by simp) ?_
 refine (AllT.cons rfl (fun KK hK => ?_) (AllT.cons rfl (fun KK hK => ?_) AllT.nil))
 ·go_simp
  have q:=(Below.refl w14.heap.size w14).alloc (Nat.le_refl _) (.cells #[] 90)
  have A:=Whole.new w14 90 #[]
  generalize w14.alloc (.cells #[] 90) = w15 at q A ⊢
  have Vr:=Lib.hid (own_empty (C:=4) A h.size)
  replace h:=below_then h q
  clear q A
  refine hK.out _ _ (.inr ⟨(P14.below h P14.lt),(X14.below h X14.lt)⟩) ?_
  clear hK KK
  try simp only [Act.put,actS]
  refine wpAnyT_ready (rs:=[3,8]) (by kernel_rfl) (by simp) ?_
  refine (AllT.cons rfl (fun KK hK => ?_) (AllT.cons rfl (fun KK hK => ?_) AllT.nil))
  ·refine step_append_any _ (by rfl) _ _ _ (by rfl) _ 90 j0 _ 4 48 Tryd.underlying51 hj0 hy0 hy1 hy2 rfl (by decide) (.slice (some ⟨w14.heap.size,0,none⟩) 0 0) 0 [] (by rfl) Vr.out oa 0 oc [] (by rfl) os0.out (os1.out _ (below_then g14 h)) os2.out 0 (by omega) os3.out os4.out h.size ?_
   intro a1 z1 w16 o hg ht
   replace h:=h.grown hg h.size (fun g q => (own_lt Vr.out q).1)
   replace Vr:=Lib.hid o
   clear o hg ht
   refine hK.out _ _ (.inr ⟨(P14.below h P14.lt),(X14.below h X14.lt)⟩) ?_
   clear hK KK
   try simp only [Act.put,actS]
   refine wpAnyT_ready (rs:=[8]) (by kernel_rfl) (by simp) ?_
   refine (AllT.cons rfl (fun KK hK => ?_) AllT.nil)
   go_simp
   have q:=(Below.refl w16.heap.size w16).alloc (Nat.le_refl _) (.cells #[.bool (k == 4),.slice none 0 0,.int .i64 0,.bool false] 90)
   have A:=Whole.new w16 90 #[.bool (k == 4),.slice none 0 0,.int .i64 0,.bool false]
   generalize w16.alloc (.cells #[.bool (k == 4),.slice none 0 0,.int .i64 0,.bool false] 90) = w17 at q A ⊢
   replace Vr:=Lib.hid (own_below Vr.out q)
   have Xe:=A
   replace h:=below_then h q
   clear q A
   refine hK.out _ _ (.inr ⟨(P14.below h P14.lt),(X14.below h X14.lt)⟩) ?_
   clear hK KK
   try simp only [Act.put,actS]
   refine wpAnyT_ready (rs:=[9]) (by kernel_rfl) (by simp) ?_
   refine (AllT.cons rfl (fun KK hK => ?_) AllT.nil)
   refine step_append_any _ (by rfl) _ _ _ (by rfl) _ 90 j0 _ 4 48 Tryd.underlying51 hj0 hy0 hy1 hy2 rfl (by decide) (.slice a1 0 z1) 0 _ (by rfl) Vr.out (some ⟨w16.heap.size,0,none⟩) 1 1 (#[.bool (k == 4),.slice none 0 0,.int .i64 0,.bool false] : Array Value).toList (by rfl) (by rfl) (fun _ => ⟨_,rfl,World.news_of_block Xe⟩) ot2.out 1 rfl ot3.out ot4.out h.size ?_
   intro a2 z2 w18 o hg ht
   clear Xe
   replace h:=h.grown hg h.size (fun g q => (own_lt Vr.out q).1)
   replace Vr:=Lib.hid o
   clear o hg ht
   refine hK.out _ _ (.inr ⟨(P14.below h P14.lt),(X14.below h X14.lt)⟩) ?_
   clear hK KK
   try simp only [Act.put,actS]
   refine tk (i:=10) rfl (by kernel_rfl) (by rfl) (fun _ _ _ h => h) ⟨(P14.below h P14.lt),(X14.below h X14.lt)⟩ (by intro wS hSw;go_simp;try with_reducible rfl) ?_
   simp only [Act.put,actS]
   refine wpAnyT_ready (rs:=[11]) (by kernel_rfl) (by simp) ?_
   refine (AllT.cons rfl (fun KK hK => ?_) AllT.nil)
   have P15:=Whole.below P14 h (Whole.lt P14)
   have X15:=Whole.below X14 h (Whole.lt X14)
   have Q15:=Whole.below Q14 h (Whole.lt Q14)
   have N15:=Whole.below N14 h (Whole.lt N14)
   have g15:=below_then g14 h
   have k15:=Kept.trans k14 (Kept.of (O:=(fun b => b < w.heap.size + 3)) h) (fun _ h => .inl h)
   clear P14 X14 Q14 N14 g14 k14
   have sc:=Whole.cell P15 0
   have sf:=Whole.frozen P15 0
   simp only [List.getElem?_toArray,List.getElem?_cons_succ,List.getElem?_cons_zero] at sc
   go_simp
   replace Vr:=Lib.hid (own_block (W':=w18.setCell ⟨w.heap.size,0,none⟩ (.slice a2 1 z2)) Vr.out (fun g q => Below.heap_setCell _ _ _ _ (by have:=(own_lt Vr.out q).1;show g ≠ w.heap.size;omega)))
   clear sc sf h
   have P16 : Whole (w18.setCell ⟨w.heap.size,0,none⟩ (.slice a2 1 z2)) w.heap.size 53 #[(.slice a2 1 z2),.slice T'.a T'.n T'.c,.int .i64 (M + 1),.bool false]:=Whole.set P15 0 (.slice a2 1 z2)
   have X16:=Whole.far (p:=⟨w.heap.size,0,none⟩) X15 (by show (w.heap.size + 1) ≠ w.heap.size;omega) (.slice a2 1 z2)
   have Q16:=Whole.far (p:=⟨w.heap.size,0,none⟩) Q15 (by show (w.heap.size + 2) ≠ w.heap.size;omega) (.slice a2 1 z2)
   have N16:=Whole.far (p:=⟨w.heap.size,0,none⟩) N15 (by show w10.heap.size ≠ w.heap.size;omega) (.slice a2 1 z2)
   have g16:=Below.setCell (p:=⟨w.heap.size,0,none⟩) g15 (by show _ <= w.heap.size;omega) (.slice a2 1 z2)
   have k16:=Kept.trans k15 (kept_set (fun b => b = w.heap.size) w18 w.heap.size 0 (.slice a2 1 z2) rfl) (fun b h => by subst h;omega)
   clear P15 X15 Q15 N15 g15 k15
   generalize w18.setCell ⟨w.heap.size,0,none⟩ (.slice a2 1 z2) = w19 at *
   refine hK.out _ _ (.inl (by decide)) ?_
   clear hK KK
   try simp only [Act.put,actS]
   refine wpAnyT_done (by kernel_rfl) ?_ _
   obtain ⟨c0,c1,c2,c3⟩:=P16.o4s
   have HP26:=Lib.hid (HO4.out _ _ _ _ Vr.out)
   have z16:=Kept.refl (fun b => b < w14.heap.size) w19
   have ho2 : Hid ((#[.slice a2 1 z2,.slice T'.a T'.n T'.c,.int .i64 (M + 1),.bool false] : Array Value).all (·.oneCell') = true):=Lib.hid (by simp [Value.oneCell'])
   have Qb:=Q16
   have P17:=Whole.farRow (B':=(w.heap.size + 2)) P16 (by omega) #[.slice a2 1 z2,.slice T'.a T'.n T'.c,.int .i64 (M + 1),.bool false]
   have X17:=Whole.farRow (B':=(w.heap.size + 2)) X16 (by omega) #[.slice a2 1 z2,.slice T'.a T'.n T'.c,.int .i64 (M + 1),.bool false]
   have Q17:=Whole.setRow Q16 #[.slice a2 1 z2,.slice T'.a T'.n T'.c,.int .i64 (M + 1),.bool false]
   have N17:=Whole.farRow (B':=(w.heap.size + 2)) N16 (by omega) #[.slice a2 1 z2,.slice T'.a T'.n T'.c,.int .i64 (M + 1),.bool false]
   have g17:=below_setRow (g:=(w.heap.size + 2)) g16 (by omega) #[.slice a2 1 z2,.slice T'.a T'.n T'.c,.int .i64 (M + 1),.bool false]
   have k17:=Kept.trans k16 (kept_setRow (fun b => b = (w.heap.size + 2)) w19 ((w.heap.size + 2)) #[.slice a2 1 z2,.slice T'.a T'.n T'.c,.int .i64 (M + 1),.bool false] rfl) (fun b h => by subst h;omega)
   have z17:=Kept.trans z16 (kept_setRow (fun b => b = (w.heap.size + 2)) w19 ((w.heap.size + 2)) #[.slice a2 1 z2,.slice T'.a T'.n T'.c,.int .i64 (M + 1),.bool false] rfl) (fun b h => by subst h;omega)
   clear P16 X16 Q16 N16 g16 k16 z16
   have HF : Hid (RAddOut _ _ w (.returned (.tuple #[.agg #[.slice a2 1 z2,.slice T'.a T'.n T'.c,.int .i64 (M + 1),.bool false],.int .i64 0])) (w19.setRow ((w.heap.size + 2)) #[.slice a2 1 z2,.slice T'.a T'.n T'.c,.int .i64 (M + 1),.bool false])):=Lib.hid (by
    obtain ⟨p2,e1,e2,e3,e5⟩:=HP26.out
    have q:=HBo.out T' p2 (M + 1) _ _ rfl (by omega) (HT'.out.1.kept k17 (fun b hb => by omega)) HT'.out.2.1 HT'.out.2.2 (Ops.Row.low (B:=w14.heap.size) (e5.kept z17 (fun b hb => hb)) (by omega)) e2 (fun i hi => by omega) (fun q => absurd q (Nat.lt_irrefl _)) e3 g17
    rw [<- e1] at q
    exact q)
   clear HBo
   go_wp2_with (refine wpList_store_row rfl 53 _ _ rfl (w.heap.size + 2) #[.slice a2 1 z2,.slice T'.a T'.n T'.c,.int .i64 (M + 1),.bool false] rfl rfl 53 _ Qb st_row rfl ho2.out ?_)
   exact bodyPost_ret (v:=.tuple #[.agg #[.slice a2 1 z2,.slice T'.a T'.n T'.c,.int .i64 (M + 1),.bool false],.int .i64 0]) (ret_rst2 (p:=4) (q:=5) rfl rfl Q17) rfl HF.out
  ·go_simp
   have q:=(Below.refl w15.heap.size w15).alloc (Nat.le_refl _) (.cells #[.bool (k == 4),.slice none 0 0,.int .i64 0,.bool false] 90)
   have A:=Whole.new w15 90 #[.bool (k == 4),.slice none 0 0,.int .i64 0,.bool false]
   generalize w15.alloc (.cells #[.bool (k == 4),.slice none 0 0,.int .i64 0,.bool false] 90) = w16 at q A ⊢
   have hne : w14.heap.size ≠ w15.heap.size:=by have:=(own_lt Vr.out (g:=w14.heap.size) rfl).2;omega
   replace Vr:=Lib.hid (own_below Vr.out q)
   have Xe:=A
   replace h:=below_then h q
   clear q A
   refine hK.out _ _ (.inr ⟨(P14.below h P14.lt),(X14.below h X14.lt)⟩) ?_
   clear hK KK
   try simp only [Act.put,actS]
   refine wpAnyT_ready (rs:=[3]) (by kernel_rfl) (by simp) ?_
   refine (AllT.cons rfl (fun KK hK => ?_) AllT.nil)
   refine step_append_any _ (by rfl) _ _ _ (by rfl) _ 90 j0 _ 4 48 Tryd.underlying51 hj0 hy0 hy1 hy2 rfl (by decide) (.slice (some ⟨w14.heap.size,0,none⟩) 0 0) 0 [] (by rfl) Vr.out oa 0 oc [] (by rfl) os0.out (os1.out _ (below_then g14 h)) os2.out 0 (by omega) os3.out os4.out h.size ?_
   intro a1 z1 w17 o hg ht
   replace Xe:=Xe.kept hg (fun e => hne (Option.some.inj (show some _ = some _ from e)).symm)
   replace h:=h.grown hg h.size (fun g q => (own_lt Vr.out q).1)
   replace Vr:=Lib.hid o
   clear o hg ht
   refine hK.out _ _ (.inr ⟨(P14.below h P14.lt),(X14.below h X14.lt)⟩) ?_
   clear hK KK
   try simp only [Act.put,actS]
   refine wpAnyT_ready (rs:=[9]) (by kernel_rfl) (by simp) ?_
   refine (AllT.cons rfl (fun KK hK => ?_) AllT.nil)
   refine step_append_any _ (by rfl) _ _ _ (by rfl) _ 90 j0 _ 4 48 Tryd.underlying51 hj0 hy0 hy1 hy2 rfl (by decide) (.slice a1 0 z1) 0 _ (by rfl) Vr.out (some ⟨w15.heap.size,0,none⟩) 1 1 (#[.bool (k == 4),.slice none 0 0,.int .i64 0,.bool false] : Array Value).toList (by rfl) (by rfl) (fun _ => ⟨_,rfl,World.news_of_block Xe⟩) ot2.out 1 rfl ot3.out ot4.out h.size ?_
   intro a2 z2 w18 o hg ht
   clear Xe
   replace h:=h.grown hg h.size (fun g q => (own_lt Vr.out q).1)
   replace Vr:=Lib.hid o
   clear o hg ht
   refine hK.out _ _ (.inr ⟨(P14.below h P14.lt),(X14.below h X14.lt)⟩) ?_
   clear hK KK
   try simp only [Act.put,actS]
   refine tk (i:=10) rfl (by kernel_rfl) (by rfl) (fun _ _ _ h => h) ⟨(P14.below h P14.lt),(X14.below h X14.lt)⟩ (by intro wS hSw;go_simp;try with_reducible rfl) ?_
   simp only [Act.put,actS]
   refine wpAnyT_ready (rs:=[11]) (by kernel_rfl) (by simp) ?_
   refine (AllT.cons rfl (fun KK hK => ?_) AllT.nil)
   have P15:=Whole.below P14 h (Whole.lt P14)
   have X15:=Whole.below X14 h (Whole.lt X14)
   have Q15:=Whole.below Q14 h (Whole.lt Q14)
   have N15:=Whole.below N14 h (Whole.lt N14)
   have g15:=below_then g14 h
   have k15:=Kept.trans k14 (Kept.of (O:=(fun b => b < w.heap.size + 3)) h) (fun _ h => .inl h)
   clear P14 X14 Q14 N14 g14 k14
   have sc:=Whole.cell P15 0
   have sf:=Whole.frozen P15 0
   simp only [List.getElem?_toArray,List.getElem?_cons_succ,List.getElem?_cons_zero] at sc
   go_simp
   replace Vr:=Lib.hid (own_block (W':=w18.setCell ⟨w.heap.size,0,none⟩ (.slice a2 1 z2)) Vr.out (fun g q => Below.heap_setCell _ _ _ _ (by have:=(own_lt Vr.out q).1;show g ≠ w.heap.size;omega)))
   clear sc sf h
   have P16 : Whole (w18.setCell ⟨w.heap.size,0,none⟩ (.slice a2 1 z2)) w.heap.size 53 #[(.slice a2 1 z2),.slice T'.a T'.n T'.c,.int .i64 (M + 1),.bool false]:=Whole.set P15 0 (.slice a2 1 z2)
   have X16:=Whole.far (p:=⟨w.heap.size,0,none⟩) X15 (by show (w.heap.size + 1) ≠ w.heap.size;omega) (.slice a2 1 z2)
   have Q16:=Whole.far (p:=⟨w.heap.size,0,none⟩) Q15 (by show (w.heap.size + 2) ≠ w.heap.size;omega) (.slice a2 1 z2)
   have N16:=Whole.far (p:=⟨w.heap.size,0,none⟩) N15 (by show w10.heap.size ≠ w.heap.size;omega) (.slice a2 1 z2)
   have g16:=Below.setCell (p:=⟨w.heap.size,0,none⟩) g15 (by show _ <= w.heap.size;omega) (.slice a2 1 z2)
   have k16:=Kept.trans k15 (kept_set (fun b => b = w.heap.size) w18 w.heap.size 0 (.slice a2 1 z2) rfl) (fun b h => by subst h;omega)
   clear P15 X15 Q15 N15 g15 k15
   generalize w18.setCell ⟨w.heap.size,0,none⟩ (.slice a2 1 z2) = w19 at *
   refine hK.out _ _ (.inl (by decide)) ?_
   clear hK KK
   try simp only [Act.put,actS]
   refine wpAnyT_done (by kernel_rfl) ?_ _
   obtain ⟨c0,c1,c2,c3⟩:=P16.o4s
   have HP26:=Lib.hid (HO4.out _ _ _ _ Vr.out)
   have z16:=Kept.refl (fun b => b < w14.heap.size) w19
   have ho2 : Hid ((#[.slice a2 1 z2,.slice T'.a T'.n T'.c,.int .i64 (M + 1),.bool false] : Array Value).all (·.oneCell') = true):=Lib.hid (by simp [Value.oneCell'])
   have Qb:=Q16
   have P17:=Whole.farRow (B':=(w.heap.size + 2)) P16 (by omega) #[.slice a2 1 z2,.slice T'.a T'.n T'.c,.int .i64 (M + 1),.bool false]
   have X17:=Whole.farRow (B':=(w.heap.size + 2)) X16 (by omega) #[.slice a2 1 z2,.slice T'.a T'.n T'.c,.int .i64 (M + 1),.bool false]
   have Q17:=Whole.setRow Q16 #[.slice a2 1 z2,.slice T'.a T'.n T'.c,.int .i64 (M + 1),.bool false]
   have N17:=Whole.farRow (B':=(w.heap.size + 2)) N16 (by omega) #[.slice a2 1 z2,.slice T'.a T'.n T'.c,.int .i64 (M + 1),.bool false]
   have g17:=below_setRow (g:=(w.heap.size + 2)) g16 (by omega) #[.slice a2 1 z2,.slice T'.a T'.n T'.c,.int .i64 (M + 1),.bool false]
   have k17:=Kept.trans k16 (kept_setRow (fun b => b = (w.heap.size + 2)) w19 ((w.heap.size + 2)) #[.slice a2 1 z2,.slice T'.a T'.n T'.c,.int .i64 (M + 1),.bool false] rfl) (fun b h => by subst h;omega)
   have z17:=Kept.trans z16 (kept_setRow (fun b => b = (w.heap.size + 2)) w19 ((w.heap.size + 2)) #[.slice a2 1 z2,.slice T'.a T'.n T'.c,.int .i64 (M + 1),.bool false] rfl) (fun b h => by subst h;omega)
   clear P16 X16 Q16 N16 g16 k16 z16
   have HF : Hid (RAddOut _ _ w (.returned (.tuple #[.agg #[.slice a2 1 z2,.slice T'.a T'.n T'.c,.int .i64 (M + 1),.bool false],.int .i64 0])) (w19.setRow ((w.heap.size + 2)) #[.slice a2 1 z2,.slice T'.a T'.n T'.c,.int .i64 (M + 1),.bool false])):=Lib.hid (by
    obtain ⟨p2,e1,e2,e3,e5⟩:=HP26.out
    have q:=HBo.out T' p2 (M + 1) _ _ rfl (by omega) (HT'.out.1.kept k17 (fun b hb => by omega)) HT'.out.2.1 HT'.out.2.2 (Ops.Row.low (B:=w14.heap.size) (e5.kept z17 (fun b hb => hb)) (by omega)) e2 (fun i hi => by omega) (fun q => absurd q (Nat.lt_irrefl _)) e3 g17
    rw [<- e1] at q
    exact q)
   clear HBo
   go_wp2_with (refine wpList_store_row rfl 53 _ _ rfl (w.heap.size + 2) #[.slice a2 1 z2,.slice T'.a T'.n T'.c,.int .i64 (M + 1),.bool false] rfl rfl 53 _ Qb st_row rfl ho2.out ?_)
   exact bodyPost_ret (v:=.tuple #[.agg #[.slice a2 1 z2,.slice T'.a T'.n T'.c,.int .i64 (M + 1),.bool false],.int .i64 0]) (ret_rst2 (p:=4) (q:=5) rfl rfl Q17) rfl HF.out
 ·go_simp
  have q:=(Below.refl w14.heap.size w14).alloc (Nat.le_refl _) (.cells #[.bool (k == 4),.slice none 0 0,.int .i64 0,.bool false] 90)
  have A:=Whole.new w14 90 #[.bool (k == 4),.slice none 0 0,.int .i64 0,.bool false]
  generalize w14.alloc (.cells #[.bool (k == 4),.slice none 0 0,.int .i64 0,.bool false] 90) = w15 at q A ⊢
  have Xe:=A
  replace h:=below_then h q
  clear q A
  refine hK.out _ _ (.inr ⟨(P14.below h P14.lt),(X14.below h X14.lt)⟩) ?_
  clear hK KK
  try simp only [Act.put,actS]
  refine wpAnyT_ready (rs:=[0]) (by kernel_rfl) (by simp) ?_
  refine (AllT.cons rfl (fun KK hK => ?_) AllT.nil)
  go_simp
  have q:=(Below.refl w15.heap.size w15).alloc (Nat.le_refl _) (.cells #[] 90)
  have A:=Whole.new w15 90 #[]
  generalize w15.alloc (.cells #[] 90) = w16 at q A ⊢
  have Vr:=Lib.hid (own_empty (C:=4) A h.size)
  have hne : w15.heap.size ≠ w14.heap.size:=by have:=Xe.lt;omega
  replace Xe:=Xe.below q Xe.lt
  replace h:=below_then h q
  clear q A
  refine hK.out _ _ (.inr ⟨(P14.below h P14.lt),(X14.below h X14.lt)⟩) ?_
  clear hK KK
  try simp only [Act.put,actS]
  refine wpAnyT_ready (rs:=[3]) (by kernel_rfl) (by simp) ?_
  refine (AllT.cons rfl (fun KK hK => ?_) AllT.nil)
  refine step_append_any _ (by rfl) _ _ _ (by rfl) _ 90 j0 _ 4 48 Tryd.underlying51 hj0 hy0 hy1 hy2 rfl (by decide) (.slice (some ⟨w15.heap.size,0,none⟩) 0 0) 0 [] (by rfl) Vr.out oa 0 oc [] (by rfl) os0.out (os1.out _ (below_then g14 h)) os2.out 0 (by omega) os3.out os4.out h.size ?_
  intro a1 z1 w17 o hg ht
  replace Xe:=Xe.kept hg (fun e => hne (Option.some.inj (show some _ = some _ from e)).symm)
  replace h:=h.grown hg h.size (fun g q => (own_lt Vr.out q).1)
  replace Vr:=Lib.hid o
  clear o hg ht
  refine hK.out _ _ (.inr ⟨(P14.below h P14.lt),(X14.below h X14.lt)⟩) ?_
  clear hK KK
  try simp only [Act.put,actS]
  refine wpAnyT_ready (rs:=[9]) (by kernel_rfl) (by simp) ?_
  refine (AllT.cons rfl (fun KK hK => ?_) AllT.nil)
  refine step_append_any _ (by rfl) _ _ _ (by rfl) _ 90 j0 _ 4 48 Tryd.underlying51 hj0 hy0 hy1 hy2 rfl (by decide) (.slice a1 0 z1) 0 _ (by rfl) Vr.out (some ⟨w14.heap.size,0,none⟩) 1 1 (#[.bool (k == 4),.slice none 0 0,.int .i64 0,.bool false] : Array Value).toList (by rfl) (by rfl) (fun _ => ⟨_,rfl,World.news_of_block Xe⟩) ot2.out 1 rfl ot3.out ot4.out h.size ?_
  intro a2 z2 w18 o hg ht
  clear Xe
  replace h:=h.grown hg h.size (fun g q => (own_lt Vr.out q).1)
  replace Vr:=Lib.hid o
  clear o hg ht
  refine hK.out _ _ (.inr ⟨(P14.below h P14.lt),(X14.below h X14.lt)⟩) ?_
  clear hK KK
  try simp only [Act.put,actS]
  refine tk (i:=10) rfl (by kernel_rfl) (by rfl) (fun _ _ _ h => h) ⟨(P14.below h P14.lt),(X14.below h X14.lt)⟩ (by intro wS hSw;go_simp;try with_reducible rfl) ?_
  simp only [Act.put,actS]
  refine wpAnyT_ready (rs:=[11]) (by kernel_rfl) (by simp) ?_
  refine (AllT.cons rfl (fun KK hK => ?_) AllT.nil)
  have P15:=Whole.below P14 h (Whole.lt P14)
  have X15:=Whole.below X14 h (Whole.lt X14)
  have Q15:=Whole.below Q14 h (Whole.lt Q14)
  have N15:=Whole.below N14 h (Whole.lt N14)
  have g15:=below_then g14 h
  have k15:=Kept.trans k14 (Kept.of (O:=(fun b => b < w.heap.size + 3)) h) (fun _ h => .inl h)
  clear P14 X14 Q14 N14 g14 k14
  have sc:=Whole.cell P15 0
  have sf:=Whole.frozen P15 0
  simp only [List.getElem?_toArray,List.getElem?_cons_succ,List.getElem?_cons_zero] at sc
  go_simp
  replace Vr:=Lib.hid (own_block (W':=w18.setCell ⟨w.heap.size,0,none⟩ (.slice a2 1 z2)) Vr.out (fun g q => Below.heap_setCell _ _ _ _ (by have:=(own_lt Vr.out q).1;show g ≠ w.heap.size;omega)))
  clear sc sf h
  have P16 : Whole (w18.setCell ⟨w.heap.size,0,none⟩ (.slice a2 1 z2)) w.heap.size 53 #[(.slice a2 1 z2),.slice T'.a T'.n T'.c,.int .i64 (M + 1),.bool false]:=Whole.set P15 0 (.slice a2 1 z2)
  have X16:=Whole.far (p:=⟨w.heap.size,0,none⟩) X15 (by show (w.heap.size + 1) ≠ w.heap.size;omega) (.slice a2 1 z2)
  have Q16:=Whole.far (p:=⟨w.heap.size,0,none⟩) Q15 (by show (w.heap.size + 2) ≠ w.heap.size;omega) (.slice a2 1 z2)
  have N16:=Whole.far (p:=⟨w.heap.size,0,none⟩) N15 (by show w10.heap.size ≠ w.heap.size;omega) (.slice a2 1 z2)
  have g16:=Below.setCell (p:=⟨w.heap.size,0,none⟩) g15 (by show _ <= w.heap.size;omega) (.slice a2 1 z2)
  have k16:=Kept.trans k15 (kept_set (fun b => b = w.heap.size) w18 w.heap.size 0 (.slice a2 1 z2) rfl) (fun b h => by subst h;omega)
  clear P15 X15 Q15 N15 g15 k15
  generalize w18.setCell ⟨w.heap.size,0,none⟩ (.slice a2 1 z2) = w19 at *
  refine hK.out _ _ (.inl (by decide)) ?_
  clear hK KK
  try simp only [Act.put,actS]
  refine wpAnyT_done (by kernel_rfl) ?_ _
  obtain ⟨c0,c1,c2,c3⟩:=P16.o4s
  have HP26:=Lib.hid (HO4.out _ _ _ _ Vr.out)
  have z16:=Kept.refl (fun b => b < w14.heap.size) w19
  have ho2 : Hid ((#[.slice a2 1 z2,.slice T'.a T'.n T'.c,.int .i64 (M + 1),.bool false] : Array Value).all (·.oneCell') = true):=Lib.hid (by simp [Value.oneCell'])
  have Qb:=Q16
  have P17:=Whole.farRow (B':=(w.heap.size + 2)) P16 (by omega) #[.slice a2 1 z2,.slice T'.a T'.n T'.c,.int .i64 (M + 1),.bool false]
  have X17:=Whole.farRow (B':=(w.heap.size + 2)) X16 (by omega) #[.slice a2 1 z2,.slice T'.a T'.n T'.c,.int .i64 (M + 1),.bool false]
  have Q17:=Whole.setRow Q16 #[.slice a2 1 z2,.slice T'.a T'.n T'.c,.int .i64 (M + 1),.bool false]
  have N17:=Whole.farRow (B':=(w.heap.size + 2)) N16 (by omega) #[.slice a2 1 z2,.slice T'.a T'.n T'.c,.int .i64 (M + 1),.bool false]
  have g17:=below_setRow (g:=(w.heap.size + 2)) g16 (by omega) #[.slice a2 1 z2,.slice T'.a T'.n T'.c,.int .i64 (M + 1),.bool false]
  have k17:=Kept.trans k16 (kept_setRow (fun b => b = (w.heap.size + 2)) w19 ((w.heap.size + 2)) #[.slice a2 1 z2,.slice T'.a T'.n T'.c,.int .i64 (M + 1),.bool false] rfl) (fun b h => by subst h;omega)
  have z17:=Kept.trans z16 (kept_setRow (fun b => b = (w.heap.size + 2)) w19 ((w.heap.size + 2)) #[.slice a2 1 z2,.slice T'.a T'.n T'.c,.int .i64 (M + 1),.bool false] rfl) (fun b h => by subst h;omega)
  clear P16 X16 Q16 N16 g16 k16 z16
  have HF : Hid (RAddOut _ _ w (.returned (.tuple #[.agg #[.slice a2 1 z2,.slice T'.a T'.n T'.c,.int .i64 (M + 1),.bool false],.int .i64 0])) (w19.setRow ((w.heap.size + 2)) #[.slice a2 1 z2,.slice T'.a T'.n T'.c,.int .i64 (M + 1),.bool false])):=Lib.hid (by
   obtain ⟨p2,e1,e2,e3,e5⟩:=HP26.out
   have q:=HBo.out T' p2 (M + 1) _ _ rfl (by omega) (HT'.out.1.kept k17 (fun b hb => by omega)) HT'.out.2.1 HT'.out.2.2 (Ops.Row.low (B:=w14.heap.size) (e5.kept z17 (fun b hb => hb)) (by omega)) e2 (fun i hi => by omega) (fun q => absurd q (Nat.lt_irrefl _)) e3 g17
   rw [<- e1] at q
   exact q)
  clear HBo
  go_wp2_with (refine wpList_store_row rfl 53 _ _ rfl (w.heap.size + 2) #[.slice a2 1 z2,.slice T'.a T'.n T'.c,.int .i64 (M + 1),.bool false] rfl rfl 53 _ Qb st_row rfl ho2.out ?_)
  exact bodyPost_ret (v:=.tuple #[.agg #[.slice a2 1 z2,.slice T'.a T'.n T'.c,.int .i64 (M + 1),.bool false],.int .i64 0]) (ret_rst2 (p:=4) (q:=5) rfl rfl Q17) rfl HF.out
end Go.Proofs.YtpcbhneaaibfiaaDoor
