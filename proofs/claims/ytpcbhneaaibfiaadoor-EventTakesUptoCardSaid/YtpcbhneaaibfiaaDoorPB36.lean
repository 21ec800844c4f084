/- Laid together. -/
import Derived.Test.YtpcbhneaaibfiaaDoorPB34
import Derived.Test.YtpcbhneaaibfiaaDoorPB35
import Derived.Test.YtpcbhneaaibfiaaDoorPB29
import Derived.Test.YtpcbhneaaibfiaaDoorPB32
import Derived.Test.YtpcbhneaaibfiaaDoorPB33
set_option linter.unusedVariables false
set_option linter.unusedSimpArgs false
set_option maxHeartbeats 16000000
set_option maxRecDepth 100000
namespace Go.Proofs.YtpcbhneaaibfiaaDoor
open Go.RowKit
theorem ret_rst {fn : Func} {p : Tmp} (h : fn.results = #[.cell p 53]) {tmps : Array Value} {W : World} {B : Nat} {cs : Array Value} (hp : tmps.getD p undef = .pointer (some ⟨B,0,none⟩)) (H : Whole W B 53 cs) (hc : cs.size = 4:=by rfl) :
 (results fn tmps).run Tryd.prog W = .ok (.agg cs) W :=
 results_cell_row h tmps W B 53 cs (0,0) _ hp H Tryd.underlying53 rfl (by rw [hc];exact st_row)
theorem ret_rst2 {fn : Func} {p q : Tmp} (h : fn.results = #[.cell p 53,.tmp q]) {tmps : Array Value} {W : World} {B : Nat} {cs : Array Value} (hp : tmps.getD p undef = .pointer (some ⟨B,0,none⟩)) (H : Whole W B 53 cs) (hc : cs.size = 4:=by rfl) :
 (results fn tmps).run Tryd.prog W = .ok (.tuple #[.agg cs,tmps.getD q undef]) W:=by
 have hp' : tmps[p]?.getD undef = .pointer (some ⟨B,0,none⟩):=by simpa using hp
 simp [results,h,hp',asAddr,run_loadVar_row W B 53 53 cs (0,0) _ H Tryd.underlying53 rfl (by rw [hc];exact st_row)]
theorem info_open : (Tryd.prog.info? 90).map (fun i => (i.zero,i.size,i.bytes)) = some (some (.agg #[.bool false,.slice none 0 0,.int .i64 0,.bool false]),4,48):=by kernel_rfl
def SetOut (r : Rst) (y : Opn) (w : World) (e : Ending) (w' : World) : Prop:=∃ p : Ops,e = .returned (.agg #[.slice p.a p.n p.c,.slice r.T.a r.T.n r.T.c,.int .i64 r.nd,.bool r.wrong]) /\ p.n = r.O.n /\ (∀ i,i + 1 < r.O.n -> p.O i = r.O.O i) /\ p.O (r.O.n - 1) = y /\ p.Row w' w.heap.size /\ Below w.heap.size w w'
theorem rset_any {r : Rst} {y : Opn} {top : Nat} {w : World} (hr : r.In w top) (ht : top <= w.heap.size) (hn : 0 < r.O.n) : Calls Tryd.prog 45 #[.agg r.cells,.agg y.cells] w (SetOut r y w):=by
 obtain ⟨i0,hi0,hz0,hz1,hz2⟩:=info_parts info_open
 obtain ⟨⟨oa,on,oc,ob,oo,F⟩,⟨ta,tn,tc,tb,to',TS⟩,nd,wrong⟩:=r
 obtain ⟨ymp,⟨ka,kn,kc,kb,ko,K⟩,ycnt,ydue⟩:=y
 have hO:=hr.1
 dsimp only at hn
 obtain ⟨ea,hlt⟩:=hO.1 hn
 dsimp only at ea hlt
 subst ea
 obtain ⟨m,hm⟩ : ∃ m,on = m + 1:=⟨on - 1,by omega⟩
 have hmn : m + 1 = on:=hm.symm
 have hc48:=hO.2.1.1
 have hcap:=hO.2.1.2.1
 dsimp only at hc48 hcap
 obtain ⟨news,hnews⟩ : ∃ news,catN (fun i => (F i).cells) m = news:=⟨_,rfl⟩
 have HEnd : Hid (∀ (a2 : Option Addr) (c2 : Nat) (B : Nat) (w' : World),w.heap.size <= B -> w'.ownsRow B 90 4 (.slice a2 on c2) on (([] ++ news) ++ (#[.bool ymp,.slice ka kn kc,.int .i64 ycnt,.bool ydue] : Array Value).toList) -> Below w.heap.size w w' -> SetOut ⟨⟨some ⟨ob,oo,none⟩,on,oc,ob,oo,F⟩,⟨ta,tn,tc,tb,to',TS⟩,nd,wrong⟩ ⟨ymp,⟨ka,kn,kc,kb,ko,K⟩,ycnt,ydue⟩ w (.returned (.agg #[.slice a2 on c2,.slice ta tn tc,.int .i64 nd,.bool wrong])) w'):=Lib.hid fun a2 c2 B w' hB ho hb => by
  obtain ⟨p,e1,e2,e3,e4⟩:=ops_row (n:=on) (O:=fun i => if i < m then F i else ⟨ymp,⟨ka,kn,kc,kb,ko,K⟩,ycnt,ydue⟩) (v:=.slice a2 on c2) (W:=w') (B:=B) (by
   have e : catN (fun i => (if i < m then F i else ⟨ymp,⟨ka,kn,kc,kb,ko,K⟩,ycnt,ydue⟩ : Opn).cells) on = news ++ (#[.bool ymp,.slice ka kn kc,.int .i64 ycnt,.bool ydue] : Array Value).toList:=by
    rw [hm,<- hnews]
    exact catN_more (fun i hi => by rw [if_pos hi]) (by rw [if_neg (Nat.lt_irrefl m)];rfl)
   rw [e,<- List.nil_append news]
   exact ho) hc48
  replace e4:=e4.low hB
  injection e1 with f1 f2 f3
  refine ⟨p,by rw [f1,f2,f3],e2,fun i hi => ?_,?_,e4,hb⟩
  ·have hi' : i + 1 < on:=hi
   rw [e3]
   exact if_pos (by omega)
  ·show p.O (on - 1) = _
   rw [e3]
   exact if_neg (by omega)
 have s1:=Lib.hid (fun (w1 : World) (hb : Below w.heap.size w w1) (_ : 0 < m) => (⟨⟨ob,oo,none⟩,rfl,hnews ▸ rowL_src (fun j => (show (F j).cells.size = 4 from rfl)) (fun j hj => ((hO.2.2 j (by show j < on;omega)).1.below (hb.mono ht) hlt))⟩ : ∃ ad,some (⟨ob,oo,none⟩ : Addr) = some ad /\ ∀ j u,news[j]? = some u -> w1.cell? (ad.add j) = some u))
 have s2 : Hid (∀ u ∈ news,u.oneCell' = true):=Lib.hid (hnews ▸ catN_one (fun j u hu => by simp only [Opn.cells,List.mem_cons,List.not_mem_nil,or_false] at hu;rcases hu with rfl | rfl | rfl | rfl <;> rfl) m)
 have s0 : Hid (news.length = m * 4):=Lib.hid (hnews ▸ catN_len (fun j => (show (F j).cells.size = 4 from rfl)) m)
 have s3 : Hid (m <= maxLen):=Lib.hid (by unfold maxLen;omega)
 have s4 : Hid (m * 48 <= 140737488355328):=Lib.hid (by omega)
 have t2 : Hid (∀ u ∈ (#[.bool ymp,.slice ka kn kc,.int .i64 ycnt,.bool ydue] : Array Value).toList,u.oneCell' = true):=Lib.hid (by simp [Value.oneCell'])
 have t3 : Hid (on <= maxLen):=Lib.hid (by unfold maxLen;omega)
 have t4 : Hid (on * 48 <= 140737488355328):=Lib.hid (by omega)
 clear hO hr ht hlt hnews
 have g0:=((Below.refl w.heap.size w).alloc (Nat.le_refl _) (.cells #[.slice (some ⟨ob,oo,none⟩) on oc,.slice ta tn tc,.int .i64 nd,.bool wrong] 53)).alloc (by simp) (.cells #[.bool ymp,.slice ka kn kc,.int .i64 ycnt,.bool ydue] 90) |>.alloc (by simp;omega) (.cells #[.slice none 0 0,.slice none 0 0,.int .i64 0,.bool false] 53)
 have P0:=((Whole.new w 53 #[.slice (some ⟨ob,oo,none⟩) on oc,.slice ta tn tc,.int .i64 nd,.bool wrong]).alloc (.cells #[.bool ymp,.slice ka kn kc,.int .i64 ycnt,.bool ydue] 90)).alloc (.cells #[.slice none 0 0,.slice none 0 0,.int .i64 0,.bool false] 53)
 have O0:=(Whole.new (w.alloc (.cells #[.slice (some ⟨ob,oo,none⟩) on oc,.slice ta tn tc,.int .i64 nd,.bool wrong] 53)) 90 #[.bool ymp,.slice ka kn kc,.int .i64 ycnt,.bool ydue]).alloc (.cells #[.slice none 0 0,.slice none 0 0,.int .i64 0,.bool false] 53)
 have Q0:=Whole.new ((w.alloc (.cells #[.slice (some ⟨ob,oo,none⟩) on oc,.slice ta tn tc,.int .i64 nd,.bool wrong] 53)).alloc (.cells #[.bool ymp,.slice ka kn kc,.int .i64 ycnt,.bool ydue] 90)) 53 #[.slice none 0 0,.slice none 0 0,.int .i64 0,.bool false]
 rw [World.size_alloc] at O0
 rw [World.size_alloc,World.size_alloc] at Q0
 have ei : ((on : Nat) : Int) - 1 = m:=by omega
 have b0 : (0 : Int) <= m:=by omega
 have b1 : (m : Int) <= oc:=by omega
 have b2 : (m : Int) <= on:=by omega
 have b3 : m <= oc:=by omega
 have b4 : IntKind.i64.wrap (m : Int) = m:=by rw [IntKind.wrap_i64];omega
 clear hm
 simp only [Rst.cells,Opn.cells]
 go_enter Tryd.func45,Tryd.ntmps45
 go_upto_region 1 with (fail)
 generalize ((w.alloc (.cells #[.slice (some ⟨ob,oo,none⟩) on oc,.slice ta tn tc,.int .i64 nd,.bool wrong] 53)).alloc (.cells #[.bool ymp,.slice ka kn kc,.int .i64 ycnt,.bool ydue] 90)).alloc (.cells #[.slice none 0 0,.slice none 0 0,.int .i64 0,.bool false] 53) = w0 at *
 refine wp_region_T (fun Wz => Whole Wz (w.heap.size) 53 #[.slice (some ⟨ob,oo,none⟩) on oc,.slice ta tn tc,.int .i64 nd,.bool wrong] /\ Whole Wz ((w.heap.size + 1)) 90 #[.bool ymp,.slice ka kn kc,.int .i64 ycnt,.bool ydue]) [13] (by kernel_rfl) ?_
 have g1:=Below.drew g0
 have P1:=Whole.drew P0
 have O1:=Whole.drew O0
 have Q1:=Whole.drew Q0
 clear g0 P0 O0 Q0
 generalize w0.drew = w1 at *
 have hlq:=Whole.lt Q1
 have hq1:=g1.size
 have h:=Below.refl w1.heap.size w1
 refine tk (i:=1) rfl (by kernel_rfl) (by rfl) (fun _ _ _ h => h) ⟨(P1.below h P1.lt),(O1.below h O1.lt)⟩ (by intro wS hSw;go_simp;try with_reducible rfl) ?_
 simp only [Act.put,actS]
 refine tk (i:=2) rfl (by kernel_rfl) (by rfl) (fun _ _ _ h => h) ⟨(P1.below h P1.lt),(O1.below h O1.lt)⟩ (by intro wS hSw;obtain ⟨Pz,Oz⟩:=hSw;obtain ⟨c0,-,-,-⟩:=Pz.o4s;go_simp;try with_reducible rfl) ?_
 simp only [Act.put,actS]
 refine tk (i:=3) rfl (by kernel_rfl) (by rfl) (fun _ _ _ h => h) ⟨(P1.below h P1.lt),(O1.below h O1.lt)⟩ (by intro wS hSw;go_simp;try with_reducible rfl) ?_
 simp only [Act.put,actS]
 refine tk (i:=4) rfl (by kernel_rfl) (by rfl) (fun _ _ _ h => h) ⟨(P1.below h P1.lt),(O1.below h O1.lt)⟩ (by intro wS hSw;obtain ⟨Pz,Oz⟩:=hSw;obtain ⟨c0,-,-,-⟩:=Pz.o4s;go_simp;try with_reducible rfl) ?_
 simp only [Act.put,actS]
 refine tk (i:=5) rfl (by kernel_rfl) (by rfl) (fun _ _ _ h => h) ⟨(P1.below h P1.lt),(O1.below h O1.lt)⟩ (by intro wS hSw;go_simp;try with_reducible rfl) ?_
 simp only [Act.put,actS]
 refine tk (i:=6) rfl (by kernel_rfl) (by rfl) (fun _ _ _ h => h) ⟨(P1.below h P1.lt),(O1.below h O1.lt)⟩ (by intro wS hSw;go_simp;try with_reducible rfl) ?_
 simp only [Act.put,actS]
 refine tk (i:=7) rfl (by kernel_rfl) (by rfl) (fun _ _ _ h => h) ⟨(P1.below h P1.lt),(O1.below h O1.lt)⟩ (by intro wS hSw;go_simp;try with_reducible rfl) ?_
 simp only [Act.put,actS]
 refine tk (i:=9) rfl (by kernel_rfl) (by rfl) (fun _ _ _ h => h) ⟨(P1.below h P1.lt),(O1.below h O1.lt)⟩ (by intro wS hSw;obtain ⟨Pz,Oz⟩:=hSw;obtain ⟨c0,c1,c2,c3⟩:=Oz.o4;go_simp;try with_reducible rfl) ?_
 simp only [Act.put,actS]
 refine wpAnyT_ready (rs:=[0,10]) (by kernel_rfl) (by simp) ?_
 refine (AllT.cons rfl (fun KK hK => ?_) (AllT.cons rfl (fun KK hK => ?_) AllT.nil))
 ·go_simp
  have q:=(Below.refl w1.heap.size w1).alloc (Nat.le_refl _) (.cells #[] 90)
  have A:=Whole.new w1 90 #[]
  generalize w1.alloc (.cells #[] 90) = w2 at q A ⊢
  have Vr:=Lib.hid (own_empty (C:=4) A h.size)
  replace h:=below_then h q
  clear q A
  refine hK.out _ _ (.inr ⟨(P1.below h P1.lt),(O1.below h O1.lt)⟩) ?_
  clear hK KK
  try simp only [Act.put,actS]
  refine wpAnyT_ready (rs:=[8,10]) (by kernel_rfl) (by simp) ?_
  refine (AllT.cons rfl (fun KK hK => ?_) (AllT.cons rfl (fun KK hK => ?_) AllT.nil))
  ·refine step_append_any _ (by rfl) _ _ _ (by rfl) _ 90 i0 _ 4 48 Tryd.underlying51 hi0 hz0 hz1 hz2 rfl (by decide) (.slice (some ⟨w1.heap.size,0,none⟩) 0 0) 0 [] (by rfl) Vr.out (some ⟨ob,oo,none⟩) m oc news (by rfl) s0.out (s1.out _ (below_then g1 h)) s2.out m (by omega) s3.out s4.out h.size ?_
   intro a1 z1 w3 o hg ht
   replace h:=h.grown hg h.size (fun g q => (own_lt Vr.out q).1)
   replace Vr:=Lib.hid o
   clear o hg ht
   refine hK.out _ _ (.inr ⟨(P1.below h P1.lt),(O1.below h O1.lt)⟩) ?_
   clear hK KK
   try simp only [Act.put,actS]
   refine wpAnyT_ready (rs:=[10]) (by kernel_rfl) (by simp) ?_
   refine (AllT.cons rfl (fun KK hK => ?_) AllT.nil)
   go_simp
   have q:=(Below.refl w3.heap.size w3).alloc (Nat.le_refl _) (.cells #[.bool ymp,.slice ka kn kc,.int .i64 ycnt,.bool ydue] 90)
   have A:=Whole.new w3 90 #[.bool ymp,.slice ka kn kc,.int .i64 ycnt,.bool ydue]
   generalize w3.alloc (.cells #[.bool ymp,.slice ka kn kc,.int .i64 ycnt,.bool ydue] 90) = w4 at q A ⊢
   replace Vr:=Lib.hid (own_below Vr.out q)
   have Xe:=A
   replace h:=below_then h q
   clear q A
   refine hK.out _ _ (.inr ⟨(P1.below h P1.lt),(O1.below h O1.lt)⟩) ?_
   clear hK KK
   try simp only [Act.put,actS]
   refine wpAnyT_ready (rs:=[11]) (by kernel_rfl) (by simp) ?_
   refine (AllT.cons rfl (fun KK hK => ?_) AllT.nil)
   refine step_append_any _ (by rfl) _ _ _ (by rfl) _ 90 i0 _ 4 48 Tryd.underlying51 hi0 hz0 hz1 hz2 rfl (by decide) (.slice a1 m z1) m _ (by rfl) Vr.out (some ⟨w3.heap.size,0,none⟩) 1 1 (#[.bool ymp,.slice ka kn kc,.int .i64 ycnt,.bool ydue] : Array Value).toList (by rfl) (by rfl) (fun _ => ⟨_,rfl,World.news_of_block Xe⟩) t2.out on hmn t3.out t4.out h.size ?_
   intro a2 z2 w5 o hg ht
   clear Xe
   replace h:=h.grown hg h.size (fun g q => (own_lt Vr.out q).1)
   replace Vr:=Lib.hid o
   clear o hg ht
   refine hK.out _ _ (.inr ⟨(P1.below h P1.lt),(O1.below h O1.lt)⟩) ?_
   clear hK KK
   try simp only [Act.put,actS]
   refine tk (i:=12) rfl (by kernel_rfl) (by rfl) (fun _ _ _ h => h) ⟨(P1.below h P1.lt),(O1.below h O1.lt)⟩ (by intro wS hSw;go_simp;try with_reducible rfl) ?_
   simp only [Act.put,actS]
   refine wpAnyT_ready (rs:=[13]) (by kernel_rfl) (by simp) ?_
   refine (AllT.cons rfl (fun KK hK => ?_) AllT.nil)
   have P2:=Whole.below P1 h (Whole.lt P1)
   have O2:=Whole.below O1 h (Whole.lt O1)
   have Q2:=Whole.below Q1 h (Whole.lt Q1)
   have g2:=below_then g1 h
   clear P1 O1 Q1 g1
   have sc:=Whole.cell P2 0
   have sf:=Whole.frozen P2 0
   simp only [List.getElem?_toArray,List.getElem?_cons_succ,List.getElem?_cons_zero] at sc
   go_simp
   replace Vr:=Lib.hid (own_block (W':=w5.setCell ⟨w.heap.size,0,none⟩ (.slice a2 on z2)) Vr.out (fun g q => Below.heap_setCell _ _ _ _ (by have:=(own_lt Vr.out q).1;show g ≠ w.heap.size;omega)))
   clear sc sf h
   have P3 : Whole (w5.setCell ⟨w.heap.size,0,none⟩ (.slice a2 on z2)) w.heap.size 53 #[(.slice a2 on z2),.slice ta tn tc,.int .i64 nd,.bool wrong]:=Whole.set P2 0 (.slice a2 on z2)
   have O3:=Whole.far (p:=⟨w.heap.size,0,none⟩) O2 (by show (w.heap.size + 1) ≠ w.heap.size;omega) (.slice a2 on z2)
   have Q3:=Whole.far (p:=⟨w.heap.size,0,none⟩) Q2 (by show (w.heap.size + 2) ≠ w.heap.size;omega) (.slice a2 on z2)
   have g3:=Below.setCell (p:=⟨w.heap.size,0,none⟩) g2 (by show _ <= w.heap.size;omega) (.slice a2 on z2)
   clear P2 O2 Q2 g2
   generalize w5.setCell ⟨w.heap.size,0,none⟩ (.slice a2 on z2) = w6 at *
   refine hK.out _ _ (.inl (by decide)) ?_
   clear hK KK
   try simp only [Act.put,actS]
   refine wpAnyT_done (by kernel_rfl) ?_ _
   obtain ⟨d0,d1,d2,d3⟩:=P3.o4s
   have HEn:=Lib.hid (HEnd.out a2 z2 _ (w6.setRow (w.heap.size + 2) #[.slice a2 on z2,.slice ta tn tc,.int .i64 nd,.bool wrong]) hq1 (own_block Vr.out (fun g hg => setRow_other _ _ _ _ (by have:=(own_lt Vr.out hg).1;omega))) (below_setRow g3 (by omega) _))
   go_wp2_with (refine wpList_store_row rfl 53 _ _ rfl (w.heap.size + 2) #[.slice a2 on z2,.slice ta tn tc,.int .i64 nd,.bool wrong] rfl rfl 53 _ Q3 st_row rfl (by simp [Value.oneCell']) ?_)
   exact bodyPost_ret (v:=.agg #[.slice a2 on z2,.slice ta tn tc,.int .i64 nd,.bool wrong]) (ret_rst (p:=4) rfl rfl (Whole.setRow Q3 _)) rfl HEn.out
  ·go_simp
   have q:=(Below.refl w2.heap.size w2).alloc (Nat.le_refl _) (.cells #[.bool ymp,.slice ka kn kc,.int .i64 ycnt,.bool ydue] 90)
   have A:=Whole.new w2 90 #[.bool ymp,.slice ka kn kc,.int .i64 ycnt,.bool ydue]
   generalize w2.alloc (.cells #[.bool ymp,.slice ka kn kc,.int .i64 ycnt,.bool ydue] 90) = w3 at q A ⊢
   have hne : w1.heap.size ≠ w2.heap.size:=by have:=(own_lt Vr.out (g:=w1.heap.size) rfl).2;omega
   replace Vr:=Lib.hid (own_below Vr.out q)
   have Xe:=A
   replace h:=below_then h q
   clear q A
   refine hK.out _ _ (.inr ⟨(P1.below h P1.lt),(O1.below h O1.lt)⟩) ?_
   clear hK KK
   try simp only [Act.put,actS]
   refine wpAnyT_ready (rs:=[8]) (by kernel_rfl) (by simp) ?_
   refine (AllT.cons rfl (fun KK hK => ?_) AllT.nil)
   refine step_append_any _ (by rfl) _ _ _ (by rfl) _ 90 i0 _ 4 48 Tryd.underlying51 hi0 hz0 hz1 hz2 rfl (by decide) (.slice (some ⟨w1.heap.size,0,none⟩) 0 0) 0 [] (by rfl) Vr.out (some ⟨ob,oo,none⟩) m oc news (by rfl) s0.out (s1.out _ (below_then g1 h)) s2.out m (by omega) s3.out s4.out h.size ?_
   intro a1 z1 w4 o hg ht
   replace Xe:=Xe.kept hg (fun e => hne (Option.some.inj (show some _ = some _ from e)).symm)
   replace h:=h.grown hg h.size (fun g q => (own_lt Vr.out q).1)
   replace Vr:=Lib.hid o
   clear o hg ht
   refine hK.out _ _ (.inr ⟨(P1.below h P1.lt),(O1.below h O1.lt)⟩) ?_
   clear hK KK
   try simp only [Act.put,actS]
   refine wpAnyT_ready (rs:=[11]) (by kernel_rfl) (by simp) ?_
   refine (AllT.cons rfl (fun KK hK => ?_) AllT.nil)
   refine step_append_any _ (by rfl) _ _ _ (by rfl) _ 90 i0 _ 4 48 Tryd.underlying51 hi0 hz0 hz1 hz2 rfl (by decide) (.slice a1 m z1) m _ (by rfl) Vr.out (some ⟨w2.heap.size,0,none⟩) 1 1 (#[.bool ymp,.slice ka kn kc,.int .i64 ycnt,.bool ydue] : Array Value).toList (by rfl) (by rfl) (fun _ => ⟨_,rfl,World.news_of_block Xe⟩) t2.out on hmn t3.out t4.out h.size ?_
   intro a2 z2 w5 o hg ht
   clear Xe
   replace h:=h.grown hg h.size (fun g q => (own_lt Vr.out q).1)
   replace Vr:=Lib.hid o
   clear o hg ht
   refine hK.out _ _ (.inr ⟨(P1.below h P1.lt),(O1.below h O1.lt)⟩) ?_
   clear hK KK
   try simp only [Act.put,actS]
   refine tk (i:=12) rfl (by kernel_rfl) (by rfl) (fun _ _ _ h => h) ⟨(P1.below h P1.lt),(O1.below h O1.lt)⟩ (by intro wS hSw;go_simp;try with_reducible rfl) ?_
   simp only [Act.put,actS]
   refine wpAnyT_ready (rs:=[13]) (by kernel_rfl) (by simp) ?_
   refine (AllT.cons rfl (fun KK hK => ?_) AllT.nil)
   have P2:=Whole.below P1 h (Whole.lt P1)
   have O2:=Whole.below O1 h (Whole.lt O1)
   have Q2:=Whole.below Q1 h (Whole.lt Q1)
   have g2:=below_then g1 h
   clear P1 O1 Q1 g1
   have sc:=Whole.cell P2 0
   have sf:=Whole.frozen P2 0
   simp only [List.getElem?_toArray,List.getElem?_cons_succ,List.getElem?_cons_zero] at sc
   go_simp
   replace Vr:=Lib.hid (own_block (W':=w5.setCell ⟨w.heap.size,0,none⟩ (.slice a2 on z2)) Vr.out (fun g q => Below.heap_setCell _ _ _ _ (by have:=(own_lt Vr.out q).1;show g ≠ w.heap.size;omega)))
   clear sc sf h
   have P3 : Whole (w5.setCell ⟨w.heap.size,0,none⟩ (.slice a2 on z2)) w.heap.size 53 #[(.slice a2 on z2),.slice ta tn tc,.int .i64 nd,.bool wrong]:=Whole.set P2 0 (.slice a2 on z2)
   have O3:=Whole.far (p:=⟨w.heap.size,0,none⟩) O2 (by show (w.heap.size + 1) ≠ w.heap.size;omega) (.slice a2 on z2)
   have Q3:=Whole.far (p:=⟨w.heap.size,0,none⟩) Q2 (by show (w.heap.size + 2) ≠ w.heap.size;omega) (.slice a2 on z2)
   have g3:=Below.setCell (p:=⟨w.heap.size,0,none⟩) g2 (by show _ <= w.heap.size;omega) (.slice a2 on z2)
   clear P2 O2 Q2 g2
   generalize w5.setCell ⟨w.heap.size,0,none⟩ (.slice a2 on z2) = w6 at *
   refine hK.out _ _ (.inl (by decide)) ?_
   clear hK KK
   try simp only [Act.put,actS]
   refine wpAnyT_done (by kernel_rfl) ?_ _
   obtain ⟨d0,d1,d2,d3⟩:=P3.o4s
   have HEn:=Lib.hid (HEnd.out a2 z2 _ (w6.setRow (w.heap.size + 2) #[.slice a2 on z2,.slice ta tn tc,.int .i64 nd,.bool wrong]) hq1 (own_block Vr.out (fun g hg => setRow_other _ _ _ _ (by have:=(own_lt Vr.out hg).1;omega))) (below_setRow g3 (by omega) _))
   go_wp2_with (refine wpList_store_row rfl 53 _ _ rfl (w.heap.size + 2) #[.slice a2 on z2,.slice ta tn tc,.int .i64 nd,.bool wrong] rfl rfl 53 _ Q3 st_row rfl (by simp [Value.oneCell']) ?_)
   exact bodyPost_ret (v:=.agg #[.slice a2 on z2,.slice ta tn tc,.int .i64 nd,.bool wrong]) (ret_rst (p:=4) rfl rfl (Whole.setRow Q3 _)) rfl HEn.out
 ·go_simp
  have q:=(Below.refl w1.heap.size w1).alloc (Nat.le_refl _) (.cells #[.bool ymp,.slice ka kn kc,.int .i64 ycnt,.bool ydue] 90)
  have A:=Whole.new w1 90 #[.bool ymp,.slice ka kn kc,.int .i64 ycnt,.bool ydue]
  generalize w1.alloc (.cells #[.bool ymp,.slice ka kn kc,.int .i64 ycnt,.bool ydue] 90) = w2 at q A ⊢
  have Xe:=A
  replace h:=below_then h q
  clear q A
  refine hK.out _ _ (.inr ⟨(P1.below h P1.lt),(O1.below h O1.lt)⟩) ?_
  clear hK KK
  try simp only [Act.put,actS]
  refine wpAnyT_ready (rs:=[0]) (by kernel_rfl) (by simp) ?_
  refine (AllT.cons rfl (fun KK hK => ?_) AllT.nil)
  go_simp
  have q:=(Below.refl w2.heap.size w2).alloc (Nat.le_refl _) (.cells #[] 90)
  have A:=Whole.new w2 90 #[]
  generalize w2.alloc (.cells #[] 90) = w3 at q A ⊢
  have Vr:=Lib.hid (own_empty (C:=4) A h.size)
  have hne : w2.heap.size ≠ w1.heap.size:=by have:=Xe.lt;omega
  replace Xe:=Xe.below q Xe.lt
  replace h:=below_then h q
  clear q A
  refine hK.out _ _ (.inr ⟨(P1.below h P1.lt),(O1.below h O1.lt)⟩) ?_
  clear hK KK
  try simp only [Act.put,actS]
  refine wpAnyT_ready (rs:=[8]) (by kernel_rfl) (by simp) ?_
  refine (AllT.cons rfl (fun KK hK => ?_) AllT.nil)
  refine step_append_any _ (by rfl) _ _ _ (by rfl) _ 90 i0 _ 4 48 Tryd.underlying51 hi0 hz0 hz1 hz2 rfl (by decide) (.slice (some ⟨w2.heap.size,0,none⟩) 0 0) 0 [] (by rfl) Vr.out (some ⟨ob,oo,none⟩) m oc news (by rfl) s0.out (s1.out _ (below_then g1 h)) s2.out m (by omega) s3.out s4.out h.size ?_
  intro a1 z1 w4 o hg ht
  replace Xe:=Xe.kept hg (fun e => hne (Option.some.inj (show some _ = some _ from e)).symm)
  replace h:=h.grown hg h.size (fun g q => (own_lt Vr.out q).1)
  replace Vr:=Lib.hid o
  clear o hg ht
  refine hK.out _ _ (.inr ⟨(P1.below h P1.lt),(O1.below h O1.lt)⟩) ?_
  clear hK KK
  try simp only [Act.put,actS]
  refine wpAnyT_ready (rs:=[11]) (by kernel_rfl) (by simp) ?_
  refine (AllT.cons rfl (fun KK hK => ?_) AllT.nil)
  refine step_append_any _ (by rfl) _ _ _ (by rfl) _ 90 i0 _ 4 48 Tryd.underlying51 hi0 hz0 hz1 hz2 rfl (by decide) (.slice a1 m z1) m _ (by rfl) Vr.out (some ⟨w1.heap.size,0,none⟩) 1 1 (#[.bool ymp,.slice ka kn kc,.int .i64 ycnt,.bool ydue] : Array Value).toList (by rfl) (by rfl) (fun _ => ⟨_,rfl,World.news_of_block Xe⟩) t2.out on hmn t3.out t4.out h.size ?_
  intro a2 z2 w5 o hg ht
  clear Xe
  replace h:=h.grown hg h.size (fun g q => (own_lt Vr.out q).1)
  replace Vr:=Lib.hid o
  clear o hg ht
  refine hK.out _ _ (.inr ⟨(P1.below h P1.lt),(O1.below h O1.lt)⟩) ?_
  clear hK KK
  try simp only [Act.put,actS]
  refine tk (i:=12) rfl (by kernel_rfl) (by rfl) (fun _ _ _ h => h) ⟨(P1.below h P1.lt),(O1.below h O1.lt)⟩ (by intro wS hSw;go_simp;try with_reducible rfl) ?_
  simp only [Act.put,actS]
  refine wpAnyT_ready (rs:=[13]) (by kernel_rfl) (by simp) ?_
  refine (AllT.cons rfl (fun KK hK => ?_) AllT.nil)
  have P2:=Whole.below P1 h (Whole.lt P1)
  have O2:=Whole.below O1 h (Whole.lt O1)
  have Q2:=Whole.below Q1 h (Whole.lt Q1)
  have g2:=below_then g1 h
  clear P1 O1 Q1 g1
  have sc:=Whole.cell P2 0
  have sf:=Whole.frozen P2 0
  simp only [List.getElem?_toArray,List.getElem?_cons_succ,List.getElem?_cons_zero] at sc
  go_simp
  replace Vr:=Lib.hid (own_block (W':=w5.setCell ⟨w.heap.size,0,none⟩ (.slice a2 on z2)) Vr.out (fun g q => Below.heap_setCell _ _ _ _ (by have:=(own_lt Vr.out q).1;show g ≠ w.heap.size;omega)))
  clear sc sf h
  have P3 : Whole (w5.setCell ⟨w.heap.size,0,none⟩ (.slice a2 on z2)) w.heap.size 53 #[(.slice a2 on z2),.slice ta tn tc,.int .i64 nd,.bool wrong]:=Whole.set P2 0 (.slice a2 on z2)
  have O3:=Whole.far (p:=⟨w.heap.size,0,none⟩) O2 (by show (w.heap.size + 1) ≠ w.heap.size;omega) (.slice a2 on z2)
  have Q3:=Whole.far (p:=⟨w.heap.size,0,none⟩) Q2 (by show (w.heap.size + 2) ≠ w.heap.size;omega) (.slice a2 on z2)
  have g3:=Below.setCell (p:=⟨w.heap.size,0,none⟩) g2 (by show _ <= w.heap.size;omega) (.slice a2 on z2)
  clear P2 O2 Q2 g2
  generalize w5.setCell ⟨w.heap.size,0,none⟩ (.slice a2 on z2) = w6 at *
  refine hK.out _ _ (.inl (by decide)) ?_
  clear hK KK
  try simp only [Act.put,actS]
  refine wpAnyT_done (by kernel_rfl) ?_ _
  obtain ⟨d0,d1,d2,d3⟩:=P3.o4s
  have HEn:=Lib.hid (HEnd.out a2 z2 _ (w6.setRow (w.heap.size + 2) #[.slice a2 on z2,.slice ta tn tc,.int .i64 nd,.bool wrong]) hq1 (own_block Vr.out (fun g hg => setRow_other _ _ _ _ (by have:=(own_lt Vr.out hg).1;omega))) (below_setRow g3 (by omega) _))
  go_wp2_with (refine wpList_store_row rfl 53 _ _ rfl (w.heap.size + 2) #[.slice a2 on z2,.slice ta tn tc,.int .i64 nd,.bool wrong] rfl rfl 53 _ Q3 st_row rfl (by simp [Value.oneCell']) ?_)
  exact bodyPost_ret (v:=.agg #[.slice a2 on z2,.slice ta tn tc,.int .i64 nd,.bool wrong]) (ret_rst (p:=4) rfl rfl (Whole.setRow Q3 _)) rfl HEn.out
end Go.Proofs.YtpcbhneaaibfiaaDoor
