/- Laid together. -/
import Derived.Test.YtpcbhneaaibfiaaDoorPB29
set_option linter.unusedVariables false
set_option linter.unusedSimpArgs false
set_option maxHeartbeats 16000000
set_option maxRecDepth 100000
namespace Go.Proofs.YtpcbhneaaibfiaaDoor
open Go.RowKit
theorem par_sca {T : Vt} (hT : T ≠ .nil) (h6 : T.h.k ≠ 6) (h7 : T.h.k ≠ 7) : ParIs T:=by
 intro p top w hp ht hc hl hs
 have he : evs T = [evS T]:=by
  cases T with
  | nil => exact absurd rfl hT
  | mk h Y L K F => show (if h.k = 6 then _ else if h.k = 7 then _ else _) = _;rw [if_neg (show ¬ h.k = 6 from h6),if_neg (show ¬ h.k = 7 from h7)]
 have h0:=hs 0 (by rw [he];exact Nat.one_pos)
 rw [he] at h0 hl
 have hn0 : 0 < p.n:=hl
 have hk1 : (p.S 0).k = 1:=h0.k
 have hL:=(hp.2.2 0 hn0).1
 rw [Nat.zero_mul,Nat.add_zero] at hL
 have hx : (p.S 0).V.Same T:=h0.V
 have hxi:=(hp.2.2 0 hn0).2.2
 have HE : Hid (∀ W',Below w.heap.size w W' -> ParV T top w (.returned (.tuple #[.agg #[.int .i64 (p.S 0).V.h.k,.bool (p.S 0).V.h.b,.bool (p.S 0).V.h.n,.string (p.S 0).V.h.d,.int .i64 (p.S 0).V.h.e,.int .i64 (p.S 0).V.h.tk,.int .i64 (p.S 0).V.h.td,.int .i64 (p.S 0).V.h.tn,.int .i64 (p.S 0).V.h.tz,.string (p.S 0).V.h.x,.slice (p.S 0).V.h.ba (p.S 0).V.h.bn (p.S 0).V.h.bc,.slice (p.S 0).V.h.la (p.S 0).V.h.ln (p.S 0).V.h.lc,.slice (p.S 0).V.h.fa (p.S 0).V.h.fn (p.S 0).V.h.fc],.int .i64 1])) W'):=Lib.hid fun W' hb => ⟨(p.S 0).V,by rw [he];rfl,(Vt.In.below (hb.mono ht) hxi).up (Nat.le_trans ht hb.size),hxi.off.mono fun b hb => .inl hb,hx,hb⟩
 have ea:=(hp.1 hn0).1
 have hlt:=Nat.lt_of_lt_of_le (hp.1 hn0).2 ht
 have hcap:=hp.2.1
 obtain ⟨a,n,c,b,o,S⟩:=p
 dsimp only at hn0 hk1 hL HE ea hlt hcap
 clear hs hl h0 hx hxi he hp ht hc
 subst ea
 generalize S 0 = x at *
 obtain ⟨k,key,V⟩:=x
 dsimp only at hk1 hL HE
 subst hk1
 have Q0:=Whole.new w 30 #[.int .i64 0,.bool false,.bool false,.string ⟨#[]⟩,.int .i64 0,.int .i64 0,.int .i64 0,.int .i64 0,.int .i64 0,.string ⟨#[]⟩,.slice none 0 0,.slice none 0 0,.slice none 0 0]
 have g0:=(Below.refl w.heap.size w).alloc (Nat.le_refl _) (.cells #[.int .i64 0,.bool false,.bool false,.string ⟨#[]⟩,.int .i64 0,.int .i64 0,.int .i64 0,.int .i64 0,.int .i64 0,.string ⟨#[]⟩,.slice none 0 0,.slice none 0 0,.slice none 0 0] 30)
 have L0:=hL.below g0 hlt
 obtain ⟨x0,xk,x1,x2,x3,x4,x5,x6,x7,x8,x9,x10,x11,x12,x13⟩:=LiesAt.e15 (g:=V.h) L0
 have hone:=Lib.hid (vh_all V.h)
 have hc1:=hcap.1
 have hc2:=hcap.2.1
 have i0 : (0 : Int) < n:=by omega
 have i1 : (n : Int) <= 1048576:=by omega
 clear hL L0 hcap
 go_enter Tryd.func51,Tryd.ntmps51
 go_wp2_with (refine wpList_store_row rfl 30 _ _ rfl w.heap.size V.h.cells rfl rfl 30 _ Q0 vh_row rfl hone.out ?_)
 exact bodyPost_ret (v:=.tuple #[.agg V.h.cells,.int .i64 1]) (ret_val2 (p:=2) (q:=3) rfl rfl (Q0.setRow V.h.cells)) rfl (HE.out _ (below_setRow g0 (Nat.le_refl _) _))
theorem ret_val2l {fn : Func} {p q : Tmp} (h : fn.results = #[.cell p 30,.tmp q]) {tmps : Array Value} {W : World} {B : Nat} {cs : Array Value} (hp : tmps.getD p undef = .pointer (some ⟨B,0,none⟩)) (H : Whole W B 30 cs) (hc : cs.size = 13:=by rfl) :
 (results fn tmps).run Tryd.prog W = .ok (.tuple #[.agg cs,tmps.getD q undef]) W:=by
 have hp' : tmps[p]?.getD undef = .pointer (some ⟨B,0,none⟩):=by simpa using hp
 simp [results,h,hp',asAddr,run_loadVar_row W B 30 30 cs (0,0) _ H Tryd.underlying30 rfl (by rw [hc];exact vh_row)]
theorem par_list {h : Vh} {Y : Nat -> Int} {L : Nat -> Vt} {K : Nat -> ByteArray} {F : Nat -> Vt} (kk : h.k = 6) (ih : ∀ i,ParIs (L i)) : ParIs (.mk h Y L K F):=by
 intro p top w hp ht hc hl hs
 have he : evs (.mk h Y L K F) = evM 2 :: (catL (fun i => evs (L i)) h.ln ++ [evM 3]):=if_pos kk
 have hcl:=hc
 unfold Vt.cln at hcl
 rw [if_pos kk] at hcl
 obtain ⟨hnm,hso,hch⟩:=hcl
 rw [he] at hl hs
 rw [offE_len] at hl hs
 obtain ⟨off,hoff⟩ : ∃ off,offE (fun i => evs (L i)) = off:=⟨_,rfl⟩
 have HSucc : Hid (∀ j,off (j + 1) = off j + ((fun i => evs (L i)) j).length):=Lib.hid fun j => by rw [<- hoff];exact offE_succ _ j
 have HMono : Hid (∀ j,j <= h.ln -> off j <= off h.ln):=Lib.hid fun j hj => by rw [<- hoff];exact offE_mono hj
 have HAt : Hid (∀ j i,j < h.ln -> i < ((fun i => evs (L i)) j).length -> (p.S (off j + i)).Same (nth ((fun i => evs (L i)) j) i)):=Lib.hid fun j i hj hi => by
  have e1:=HSucc.out j
  have e2:=HMono.out (j + 1) (by omega)
  have q:=hs (off j + i) (by rw [hoff];omega)
  rw [<- hoff,offE_at (f:=(fun i => evs (L i))) hj hi] at q
  rw [<- hoff]
  exact q
 have HEk : Hid ((p.S (off h.ln)).k = 3):=Lib.hid (by
  have q:=hs (off h.ln) (by rw [hoff];omega)
  rw [<- hoff,offE_end (f:=(fun i => evs (L i)))] at q
  rw [<- hoff]
  exact q.k)
 have HK0 : (p.S 0).k = 2:=(hs 0 (by omega)).k
 have HO0 : Hid (off 0 = 1):=Lib.hid (by rw [<- hoff];rfl)
 rw [hoff] at hl
 have hn0 : 0 < p.n:=by omega
 have HNe:=Lib.hid (fun (j : Nat) (hj : j < h.ln) => (show L j ≠ .nil by intro e;have:=hch j hj;rw [e] at this;exact this))
 have HKj : Hid (∀ j,j < h.ln -> (p.S (off j)).k = 1 ∨ (p.S (off j)).k = 2 ∨ (p.S (off j)).k = 4):=Lib.hid fun j hj => by
  have q:=HAt.out j 0 hj (evs_some (HNe.out j hj))
  have q2:=evs_first (HNe.out j hj)
  rw [<- q.k] at q2
  exact q2
 have HPos:=Lib.hid (fun (j : Nat) (hj : j < h.ln) => evs_some (HNe.out j hj))
 have HI:=Lib.hid (fun (j : Nat) (hj : j < h.ln) (w1 : World) (hb : Below w.heap.size w w1) => ih j (p.drop (off j)) top w1 ((Evs.In.below hp (hb.mono ht)).drop (by have:=HMono.out j (by omega);omega)) (Nat.le_trans ht hb.size) (hch j hj) (by have e1:=HSucc.out j;have e2:=HMono.out (j + 1) (by omega);show (evs (L j)).length <= p.n - off j;dsimp only at e1;omega) (fun i hi => HAt.out j i hj hi))
 have HLi:=Lib.hid (fun (i : Nat) (hi : i < p.n) (W : World) (hb : Below w.heap.size w W) => ((hp.2.2 i hi).1.below (hb.mono ht) (hp.1 (by omega)).2))
 have HEnd:=Lib.hid (fun (W W' : World) (a : Option Addr) (c : Nat) (hr : RowG (fun x : Vt => x.h.cells) id 13 30 (w.heap.size + 2) (fun b => b < top ∨ w.heap.size + 2 <= b) (fun i X => X.Same (L i)) W (.slice a h.ln c) h.ln) => par_lst (T:=.mk h Y L K F) (W:=W) (W':=W') (n:=off h.ln + 1) hr hnm (Nat.le_refl _) (by rw [he,offE_len,hoff]) hso ht)
 unfold ParV at HI
 unfold Evs.drop at HI
 dsimp only at HI
 have ea:=(hp.1 hn0).1
 have hcap:=hp.2.1
 have htw:=ht
 have HL:=Lib.hid hl
 clear hp ht hc hl hs hch hso ih he kk
 obtain ⟨pa,pn,pc,pb,po,S⟩:=p
 dsimp only at ea hcap HK0 HKj HLi HI HAt HEk hn0 HL
 subst ea
 clear HAt
 have hc1:=hcap.1
 have hc2:=hcap.2.1
 have j0 : (0 : Int) < pn:=by omega
 have j1 : (pn : Int) <= 1048576:=by omega
 have j2 : (pn : Int) <= pc:=by omega
 clear hcap
 clear hoff
 generalize h.ln = m at *
 obtain ⟨i0,hi0,hz0,hz1,hz2⟩:=info_parts Tryd.infoVal
 have Q0:=(Whole.new w 30 #[.int .i64 0,.bool false,.bool false,.string ⟨#[]⟩,.int .i64 0,.int .i64 0,.int .i64 0,.int .i64 0,.int .i64 0,.string ⟨#[]⟩,.slice none 0 0,.slice none 0 0,.slice none 0 0]).alloc (.cells #[.int .i64 6,.bool false,.bool false,.string ⟨#[]⟩,.int .i64 0,.int .i64 0,.int .i64 0,.int .i64 0,.int .i64 0,.string ⟨#[]⟩,.slice none 0 0,.slice none 0 0,.slice none 0 0] 30)
 have N0:=Whole.new (w.alloc (.cells #[.int .i64 0,.bool false,.bool false,.string ⟨#[]⟩,.int .i64 0,.int .i64 0,.int .i64 0,.int .i64 0,.int .i64 0,.string ⟨#[]⟩,.slice none 0 0,.slice none 0 0,.slice none 0 0] 30)) 30 #[.int .i64 6,.bool false,.bool false,.string ⟨#[]⟩,.int .i64 0,.int .i64 0,.int .i64 0,.int .i64 0,.int .i64 0,.string ⟨#[]⟩,.slice none 0 0,.slice none 0 0,.slice none 0 0]
 rw [World.size_alloc] at N0
 have g0:=((Below.refl w.heap.size w).alloc (Nat.le_refl _) (.cells #[.int .i64 0,.bool false,.bool false,.string ⟨#[]⟩,.int .i64 0,.int .i64 0,.int .i64 0,.int .i64 0,.int .i64 0,.string ⟨#[]⟩,.slice none 0 0,.slice none 0 0,.slice none 0 0] 30)).alloc (by simp) (.cells #[.int .i64 6,.bool false,.bool false,.string ⟨#[]⟩,.int .i64 0,.int .i64 0,.int .i64 0,.int .i64 0,.int .i64 0,.string ⟨#[]⟩,.slice none 0 0,.slice none 0 0,.slice none 0 0] 30)
 have g00:=(Below.refl w.heap.size w).alloc (Nat.le_refl _) (.cells #[.int .i64 0,.bool false,.bool false,.string ⟨#[]⟩,.int .i64 0,.int .i64 0,.int .i64 0,.int .i64 0,.int .i64 0,.string ⟨#[]⟩,.slice none 0 0,.slice none 0 0,.slice none 0 0] 30)
 have l0:=HLi.out 0 hn0 _ g00
 have l1:=HLi.out 0 hn0 _ g0
 rw [Nat.zero_mul,Nat.add_zero] at l0 l1
 have xa:=(LiesAt.e15 l0).1
 have xb:=(LiesAt.e15 l1).1
 rw [HK0] at xa xb
 clear l0 l1 g00 HK0
 go_enter Tryd.func51,Tryd.ntmps51
 go_wp2_with fail
 go_loopw [5] (fun i wr => ∃ (j : Nat) (v : Value),j <= m /\ i = .int .i64 (off j) /\ Hid (RowG (fun x : Vt => x.h.cells) id 13 30 (w.heap.size + 2) (fun b => b < top ∨ w.heap.size + 2 <= b) (fun i X => X.Same (L i)) wr v j) /\ Whole wr w.heap.size 30 #[.int .i64 0,.bool false,.bool false,.string ⟨#[]⟩,.int .i64 0,.int .i64 0,.int .i64 0,.int .i64 0,.int .i64 0,.string ⟨#[]⟩,.slice none 0 0,.slice none 0 0,.slice none 0 0] /\ Whole wr (w.heap.size + 1) 30 #[.int .i64 6,.bool false,.bool false,.string ⟨#[]⟩,.int .i64 0,.int .i64 0,.int .i64 0,.int .i64 0,.int .i64 0,.string ⟨#[]⟩,.slice none 0 0,v,.slice none 0 0] /\ Below w.heap.size w wr) (fun i _ => pn - (intOf i).toNat)
 case atStart => exact ⟨0,_,by omega,by rw [HO0.out];rfl,Lib.hid RowG.nil,Q0,N0,g0⟩
 case round =>
  clear Q0 N0 g0 xa xb
  obtain ⟨j,v,hj,rfl,HR,Q1,N1,g1⟩:=hrel
  obtain ⟨va,vc,hv⟩:=own_slv HR.out.choose_spec.1
  subst hv
  have hom:=HMono.out j hj
  have hsz:=Whole.lt N1
  obtain ⟨o,ho⟩ : ∃ o,off j = o:=⟨_,rfl⟩
  rw [ho] at hom ⊢
  have HO:=Lib.hid ho
  have HOL : Hid (o + 1 <= pn):=Lib.hid (by have:=HL.out;omega)
  have o0 : (0 : Int) <= o:=by omega
  have o1 : (o : Int) < pn:=by have:=HOL.out;omega
  clear ho hom
  have lx:=HLi.out o (by have:=HOL.out;omega) wr g1
  have x0:=(LiesAt.e15 lx).1
  have y0:=Whole.cell N1 0
  have y1:=Whole.cell N1 11
  simp only [List.getElem?_toArray,List.getElem?_cons_succ,List.getElem?_cons_zero] at y0 y1
  by_cases hjm : j < m
  ·have hk:=HKj.out j hjm
   rw [HO.out] at hk
   generalize (S o).k = ek at *
   have d3 : (ek != 3) = true:=bne_iff_ne.2 (by omega)
   have d5 : (ek != 5) = true:=bne_iff_ne.2 (by omega)
   clear hk lx
   have HC:=Lib.hid (HI.out j hjm wr g1)
   rw [HO.out] at HC
   have c0 : ¬ pc = o:=by omega
   have c1 : ¬ o = pc:=by omega
   have c2 : (o : Int) <= pn:=by omega
   have c3 : o <= pn:=by have:=HOL.out;omega
   obtain ⟨ll,hll⟩ : ∃ ll,(evs (L j)).length = ll:=⟨_,rfl⟩
   rw [hll] at HC
   have HLL:=Lib.hid hll
   clear hll
   go_wp2_with fail
   refine HC.out.mono ?_;rintro _ w3 ⟨X,rfl,hX,hXo,hXs,hb3⟩
   clear x0 y0 y1 HC c0 c1 c2 c3
   have HX:=Lib.hid hX
   have HXo:=Lib.hid hXo
   have HXs:=Lib.hid hXs
   have hs3:=hb3.size
   have HR3:=Lib.hid (HR.out.below hb3)
   have HOw : Hid (∀ g,(Value.slice va j vc).ownBlock = some g -> w.heap.size + 2 <= g /\ g < wr.heap.size):=Lib.hid (by
    obtain ⟨f,hw,-⟩:=HR.out
    exact fun g hg => own_lt hw hg)
   clear hX hXo hXs HR
   have Q2:=Whole.below Q1 hb3 (Whole.lt Q1)
   have N2:=Whole.below N1 hb3 (Whole.lt N1)
   have g2:=below_then g1 hb3
   clear Q1 N1 g1
   clear hb3
   have q4:=(Below.refl w3.heap.size w3).alloc (Nat.le_refl _) (.cells #[.int .i64 X.h.k,.bool X.h.b,.bool X.h.n,.string X.h.d,.int .i64 X.h.e,.int .i64 X.h.tk,.int .i64 X.h.td,.int .i64 X.h.tn,.int .i64 X.h.tz,.string X.h.x,.slice X.h.ba X.h.bn X.h.bc,.slice X.h.la X.h.ln X.h.lc,.slice X.h.fa X.h.fn X.h.fc] 30)
   have X4:=Whole.new w3 30 #[.int .i64 X.h.k,.bool X.h.b,.bool X.h.n,.string X.h.d,.int .i64 X.h.e,.int .i64 X.h.tk,.int .i64 X.h.td,.int .i64 X.h.tn,.int .i64 X.h.tz,.string X.h.x,.slice X.h.ba X.h.bn X.h.bc,.slice X.h.la X.h.ln X.h.lc,.slice X.h.fa X.h.fn X.h.fc]
   have Q3:=Whole.below Q2 q4 (Whole.lt Q2)
   have N3:=Whole.below N2 q4 (Whole.lt N2)
   have g3:=below_then g2 q4
   clear Q2 N2 g2
   have HR4:=Lib.hid (HR3.out.below q4)
   have HX4:=Lib.hid (HX.out.later q4)
   clear HR3 HX q4
   obtain ⟨o2,ho2⟩ : ∃ o2,o + ll = o2:=⟨_,rfl⟩
   have es : (o : Int) + ll = o2:=by omega
   have HO2 : Hid (off (j + 1) = o2):=Lib.hid (by have e:=HSucc.out j;rw [HO.out] at e;have e2:=HLL.out;omega)
   have hol2 : o2 + 1 <= pn:=by have e:=HL.out;have e2:=HMono.out (j + 1) (by omega);rw [HO2.out] at e2;omega
   have es1 : (o2 : Int) <= 1048576:=by omega
   have es0 : (0 : Int) <= o2:=by omega
   have HLp:=Lib.hid (HPos.out j hjm)
   have HS2:=Lib.hid ho2
   clear ho2 hol2
   obtain ⟨z0,z1,z2,z3,z4,z5,z6,z7,z8,z9,z10,z11,z12⟩:=Whole.c13 (h:=X.h) X4
   have y0:=Whole.cell N3 0
   simp only [List.getElem?_toArray,List.getElem?_cons_succ,List.getElem?_cons_zero] at y0
   go_upto_region 16 with (fail)
   generalize w3.alloc (.cells #[.int .i64 X.h.k,.bool X.h.b,.bool X.h.n,.string X.h.d,.int .i64 X.h.e,.int .i64 X.h.tk,.int .i64 X.h.td,.int .i64 X.h.tn,.int .i64 X.h.tz,.string X.h.x,.slice X.h.ba X.h.bn X.h.bc,.slice X.h.la X.h.ln X.h.lc,.slice X.h.fa X.h.fn X.h.fc] 30) = w5 at *
   have q6:=(Below.refl w5.heap.size w5).alloc (Nat.le_refl _) (.cells #[.int .i64 X.h.k,.bool X.h.b,.bool X.h.n,.string X.h.d,.int .i64 X.h.e,.int .i64 X.h.tk,.int .i64 X.h.td,.int .i64 X.h.tn,.int .i64 X.h.tz,.string X.h.x,.slice X.h.ba X.h.bn X.h.bc,.slice X.h.la X.h.ln X.h.lc,.slice X.h.fa X.h.fn X.h.fc] 30)
   clear y0
   have y1:=Whole.cell N3 11
   simp only [List.getElem?_toArray,List.getElem?_cons_succ,List.getElem?_cons_zero] at y1
   have Q4:=Whole.below Q3 q6 (Whole.lt Q3)
   have N4:=Whole.below N3 q6 (Whole.lt N3)
   have g4:=below_then g3 q6
   clear Q3 N3 g3
   obtain ⟨f,hw,hf⟩:=HR4.out.below q6
   have HOn:=Lib.hid hw
   have Hf:=Lib.hid hf
   have HX6:=Lib.hid (HX4.out.later q6)
   clear hw hf HR4 HX4
   have s1:=Lib.hid (cells_new w5 30 #[.int .i64 X.h.k,.bool X.h.b,.bool X.h.n,.string X.h.d,.int .i64 X.h.e,.int .i64 X.h.tk,.int .i64 X.h.td,.int .i64 X.h.tn,.int .i64 X.h.tz,.string X.h.x,.slice X.h.ba X.h.bn X.h.bc,.slice X.h.la X.h.ln X.h.lc,.slice X.h.fa X.h.fn X.h.fc])
   have s2:=Lib.hid (vh_one X.h)
   have s3 : Hid (j + 1 <= maxLen):=Lib.hid (by unfold maxLen;omega)
   have s4 : Hid ((j + 1) * 168 <= 140737488355328):=Lib.hid (by omega)
   have s5 : Hid (w.heap.size + 2 <= (w5.alloc (.cells #[.int .i64 X.h.k,.bool X.h.b,.bool X.h.n,.string X.h.d,.int .i64 X.h.e,.int .i64 X.h.tk,.int .i64 X.h.td,.int .i64 X.h.tn,.int .i64 X.h.tz,.string X.h.x,.slice X.h.ba X.h.bn X.h.bc,.slice X.h.la X.h.ln X.h.lc,.slice X.h.fa X.h.fn X.h.fc] 30)).heap.size):=Lib.hid (by have:=Whole.lt N4;omega)
   clear q6
   go_wp2_with (first | (at_builtin;refine wpList_append_told _ rfl _ _ 27 rfl (w.heap.size + 2) 30 i0 _ 13 168 Tryd.underlying27 hi0 hz0 hz1 hz2 rfl (by decide) _ _ _ rfl HOn.out ⟨w5.heap.size,0,none⟩ 1 1 (#[.int .i64 X.h.k,.bool X.h.b,.bool X.h.n,.string X.h.d,.int .i64 X.h.e,.int .i64 X.h.tk,.int .i64 X.h.td,.int .i64 X.h.tn,.int .i64 X.h.tz,.string X.h.x,.slice X.h.ba X.h.bn X.h.bc,.slice X.h.la X.h.ln X.h.lc,.slice X.h.fa X.h.fn X.h.fc] : Array Value).toList rfl rfl (by simpa using s1.out) s2.out s3.out s4.out s5.out Nat.one_pos ?_))
   intro v2 w7 ho7 hg7 hv7
   obtain ⟨ua,uc,rfl⟩:=own_slv ho7
   clear y1 z0 z1 z2 z3 z4 z5 z6 z7 z8 z9 z10 z11 z12 s1 s2 s3 s4 s5
   have HR7 : Hid (RowG (fun x : Vt => x.h.cells) id 13 30 (w.heap.size + 2) (fun b => b < top ∨ w.heap.size + 2 <= b) (fun i X => X.Same (L i)) w7 (.slice ua (j + 1 : Nat) uc) (j + 1)):=Lib.hid (RowG.push (x:=X) HOn.out Hf.out HX6.out (HXo.out.mono fun b hb => by omega) (fun g hg => HXo.out.mono fun b hb => by have:=HOw.out g hg;omega) HXs.out ho7 hg7 (by rw [World.size_alloc];exact hv7))
   have Q5:=Whole.kept Q4 hg7 (fun e => by have:=(own_lt HOn.out e.symm).1;omega)
   have N5:=Whole.kept N4 hg7 (fun e => by have:=(own_lt HOn.out e.symm).1;omega)
   have g5:=Below.grown g4 hg7 g4.size (fun g hg => by have:=(own_lt HOn.out hg).1;omega)
   clear Q4 N4 g4
   clear ho7 hg7 hv7 HOn Hf HX6 HXo HXs HOw
   have sf:=Whole.frozen N5 11
   have sc:=Whole.cell N5 11
   simp only [List.getElem?_toArray,List.getElem?_cons_succ,List.getElem?_cons_zero] at sc
   go_wp2
   clear sf sc
   have Q6:=Whole.far (p:=⟨(w.heap.size + 1),11,none⟩) Q5 (by show w.heap.size ≠ (w.heap.size + 1);omega) (.slice ua (j + 1) uc)
   have N6 : Whole (w7.setCell ⟨(w.heap.size + 1),11,none⟩ (.slice ua (j + 1) uc)) (w.heap.size + 1) 30 #[.int .i64 6,.bool false,.bool false,.string ⟨#[]⟩,.int .i64 0,.int .i64 0,.int .i64 0,.int .i64 0,.int .i64 0,.string ⟨#[]⟩,.slice none 0 0,.slice ua (j + 1) uc,.slice none 0 0]:=Whole.set N5 11 (.slice ua (j + 1) uc)
   have g6:=Below.setCell (p:=⟨(w.heap.size + 1),11,none⟩) g5 (by show _ <= (w.heap.size + 1);omega) (.slice ua (j + 1) uc)
   clear Q5 N5 g5
   have HR8:=Lib.hid (HR7.out.turn (grown_set w7 (w.heap.size + 1) 11 (.slice ua (j + 1) uc)) (by omega) (fun b hb => by omega))
   clear HR7
   go_roundw
   case rel => exact ⟨j + 1,.slice ua (j + 1) uc,by omega,by rw [HO2.out],HR8,Q6,N6,g6⟩
   case measure => (have e1:=HO2.out;have e2:=HLp.out;have e3:=HLL.out;have e4:=HS2.out;have e5:=HOL.out;simp [intOf];omega)
  ·obtain rfl : j = m:=by omega
   have hk:=HEk.out
   rw [HO.out] at hk
   rw [hk] at x0
   clear hk lx hjm HI HKj HMono
   clear y0 y1
   have hone : Hid ((#[.int .i64 6,.bool false,.bool false,.string ⟨#[]⟩,.int .i64 0,.int .i64 0,.int .i64 0,.int .i64 0,.int .i64 0,.string ⟨#[]⟩,.slice none 0 0,.slice va j vc,.slice none 0 0] : Array Value).all (·.oneCell') = true):=Lib.hid (by simp [Value.oneCell'])
   obtain ⟨y0,y1,y2,y3,y4,y5,y6,y7,y8,y9,y10,y11,y12⟩ : _ /\ _ /\ _ /\ _ /\ _ /\ _ /\ _ /\ _ /\ _ /\ _ /\ _ /\ _ /\ _:=⟨N1.cell 0,N1.cell 1,N1.cell 2,N1.cell 3,N1.cell 4,N1.cell 5,N1.cell 6,N1.cell 7,N1.cell 8,N1.cell 9,N1.cell 10,N1.cell 11,N1.cell 12⟩
   simp only [List.getElem?_toArray,List.getElem?_cons_succ,List.getElem?_cons_zero] at y0 y1 y2 y3 y4 y5 y6 y7 y8 y9 y10 y11 y12
   have Qb:=Q1
   have Q2:=Whole.setRow Q1 #[.int .i64 6,.bool false,.bool false,.string ⟨#[]⟩,.int .i64 0,.int .i64 0,.int .i64 0,.int .i64 0,.int .i64 0,.string ⟨#[]⟩,.slice none 0 0,.slice va j vc,.slice none 0 0]
   have N2:=Whole.farRow (B':=w.heap.size) N1 (by omega) #[.int .i64 6,.bool false,.bool false,.string ⟨#[]⟩,.int .i64 0,.int .i64 0,.int .i64 0,.int .i64 0,.int .i64 0,.string ⟨#[]⟩,.slice none 0 0,.slice va j vc,.slice none 0 0]
   have g2:=below_setRow (g:=w.heap.size) g1 (by omega) #[.int .i64 6,.bool false,.bool false,.string ⟨#[]⟩,.int .i64 0,.int .i64 0,.int .i64 0,.int .i64 0,.int .i64 0,.string ⟨#[]⟩,.slice none 0 0,.slice va j vc,.slice none 0 0]
   have HF:=Lib.hid (HEnd.out wr (wr.setRow w.heap.size #[.int .i64 6,.bool false,.bool false,.string ⟨#[]⟩,.int .i64 0,.int .i64 0,.int .i64 0,.int .i64 0,.int .i64 0,.string ⟨#[]⟩,.slice none 0 0,.slice va j vc,.slice none 0 0]) va vc HR.out (fun b hb => setRow_other _ _ _ _ hb) (by rw [size_setRow];exact Nat.le_refl _) g2)
   rw [HO.out] at HF
   go_wp2_with (refine wpList_store_row rfl 30 _ _ rfl w.heap.size #[.int .i64 6,.bool false,.bool false,.string ⟨#[]⟩,.int .i64 0,.int .i64 0,.int .i64 0,.int .i64 0,.int .i64 0,.string ⟨#[]⟩,.slice none 0 0,.slice va j vc,.slice none 0 0] rfl rfl 30 _ Qb vh_row rfl hone.out ?_)
   exact bodyPost_ret (v:=.tuple #[.agg #[.int .i64 6,.bool false,.bool false,.string ⟨#[]⟩,.int .i64 0,.int .i64 0,.int .i64 0,.int .i64 0,.int .i64 0,.string ⟨#[]⟩,.slice none 0 0,.slice va j vc,.slice none 0 0],.int .i64 ((o : Int) + 1)]) (ret_val2l (p:=2) (q:=3) rfl rfl Q2) rfl HF.out
theorem par_map {h : Vh} {Y : Nat -> Int} {L : Nat -> Vt} {K : Nat -> ByteArray} {F : Nat -> Vt} (kk : h.k = 7) (ih : ∀ i,ParIs (F i)) : ParIs (.mk h Y L K F):=by
 intro p top w hp ht hc hl hs
 have he : evs (.mk h Y L K F) = evM 4 :: (catL (fun i => evK (K i) :: evs (F i)) h.fn ++ [evM 5]):=(if_neg (show ¬ h.k = 6 by omega)).trans (if_pos kk)
 have hcl:=hc
 unfold Vt.cln at hcl
 rw [if_neg (show ¬ h.k = 6 by omega),if_pos kk] at hcl
 obtain ⟨hnm,hso,hch⟩:=hcl
 rw [he] at hl hs
 rw [offE_len] at hl hs
 obtain ⟨off,hoff⟩ : ∃ off,offE (fun i => evK (K i) :: evs (F i)) = off:=⟨_,rfl⟩
 have HSucc : Hid (∀ j,off (j + 1) = off j + ((fun i => evK (K i) :: evs (F i)) j).length):=Lib.hid fun j => by rw [<- hoff];exact offE_succ _ j
 have HMono : Hid (∀ j,j <= h.fn -> off j <= off h.fn):=Lib.hid fun j hj => by rw [<- hoff];exact offE_mono hj
 have HAt : Hid (∀ j i,j < h.fn -> i < ((fun i => evK (K i) :: evs (F i)) j).length -> (p.S (off j + i)).Same (nth ((fun i => evK (K i) :: evs (F i)) j) i)):=Lib.hid fun j i hj hi => by
  have e1:=HSucc.out j
  have e2:=HMono.out (j + 1) (by omega)
  have q:=hs (off j + i) (by rw [hoff];omega)
  rw [<- hoff,offE_at (f:=(fun i => evK (K i) :: evs (F i))) hj hi] at q
  rw [<- hoff]
  exact q
 have HEk : Hid ((p.S (off h.fn)).k = 5):=Lib.hid (by
  have q:=hs (off h.fn) (by rw [hoff];omega)
  rw [<- hoff,offE_end (f:=(fun i => evK (K i) :: evs (F i)))] at q
  rw [<- hoff]
  exact q.k)
 have HK0 : (p.S 0).k = 4:=(hs 0 (by omega)).k
 have HO0 : Hid (off 0 = 1):=Lib.hid (by rw [<- hoff];rfl)
 rw [hoff] at hl
 have hn0 : 0 < p.n:=by omega
 have HKj : Hid (∀ j,j < h.fn -> (p.S (off j)).k = 6 /\ (p.S (off j)).key = K j):=Lib.hid fun j hj => by
  have q:=HAt.out j 0 hj (Nat.succ_pos _)
  exact ⟨q.k,q.key⟩
 have HPos:=Lib.hid (fun (j : Nat) (hj : j < h.fn) => evs_some (T:=F j) (by intro e;have:=(hch j hj).2;rw [e] at this;exact this))
 have HKs:=Lib.hid (fun (j : Nat) (hj : j < h.fn) => (hch j hj).1)
 have HI:=Lib.hid (fun (j : Nat) (hj : j < h.fn) (w1 : World) (hb : Below w.heap.size w w1) => ih j (p.drop (off j + 1)) top w1 ((Evs.In.below hp (hb.mono ht)).drop (by have e1:=HSucc.out j;have e2:=HMono.out (j + 1) (by omega);have e3:=HPos.out j hj;dsimp only [List.length_cons] at e1;omega)) (Nat.le_trans ht hb.size) (hch j hj).2 (by have e1:=HSucc.out j;have e2:=HMono.out (j + 1) (by omega);show (evs (F j)).length <= p.n - (off j + 1);dsimp only [List.length_cons] at e1;omega) (fun i hi => by have q:=HAt.out j (i + 1) hj (Nat.succ_lt_succ hi);rw [show off j + (i + 1) = off j + 1 + i by omega] at q;exact q))
 have HLi:=Lib.hid (fun (i : Nat) (hi : i < p.n) (W : World) (hb : Below w.heap.size w W) => ((hp.2.2 i hi).1.below (hb.mono ht) (hp.1 (by omega)).2))
 have HEnd:=Lib.hid (fun (W W' : World) (a : Option Addr) (c : Nat) (hr : RowG fcs Prod.snd 14 76 (w.heap.size + 2) (fun b => b < top ∨ w.heap.size + 2 <= b) (fun i x => x.1 = K i /\ x.1.size <= 1048576 /\ x.2.Same (F i)) W (.slice a h.fn c) h.fn) => par_fld (T:=.mk h Y L K F) (W:=W) (W':=W') (n:=off h.fn + 1) hr hnm (Nat.le_refl _) (by rw [he,offE_len,hoff]) hso ht)
 unfold ParV at HI
 unfold Evs.drop at HI
 dsimp only at HI
 have ea:=(hp.1 hn0).1
 have hcap:=hp.2.1
 have htw:=ht
 have HL:=Lib.hid hl
 clear hp ht hc hl hs hch hso ih he kk
 obtain ⟨pa,pn,pc,pb,po,S⟩:=p
 dsimp only at ea hcap HK0 HKj HLi HI HAt HEk hn0 HL
 subst ea
 clear HAt
 have hc1:=hcap.1
 have hc2:=hcap.2.1
 have j0 : (0 : Int) < pn:=by omega
 have j1 : (pn : Int) <= 1048576:=by omega
 have j2 : (pn : Int) <= pc:=by omega
 clear hcap
 clear hoff
 generalize h.fn = m at *
 obtain ⟨i0,hi0,hz0,hz1,hz2⟩:=info_parts Tryd.infoFld
 have Q0:=(Whole.new w 30 #[.int .i64 0,.bool false,.bool false,.string ⟨#[]⟩,.int .i64 0,.int .i64 0,.int .i64 0,.int .i64 0,.int .i64 0,.string ⟨#[]⟩,.slice none 0 0,.slice none 0 0,.slice none 0 0]).alloc (.cells #[.int .i64 6,.bool false,.bool false,.string ⟨#[]⟩,.int .i64 0,.int .i64 0,.int .i64 0,.int .i64 0,.int .i64 0,.string ⟨#[]⟩,.slice none 0 0,.slice none 0 0,.slice none 0 0] 30)
 have N0:=Whole.new (w.alloc (.cells #[.int .i64 0,.bool false,.bool false,.string ⟨#[]⟩,.int .i64 0,.int .i64 0,.int .i64 0,.int .i64 0,.int .i64 0,.string ⟨#[]⟩,.slice none 0 0,.slice none 0 0,.slice none 0 0] 30)) 30 #[.int .i64 6,.bool false,.bool false,.string ⟨#[]⟩,.int .i64 0,.int .i64 0,.int .i64 0,.int .i64 0,.int .i64 0,.string ⟨#[]⟩,.slice none 0 0,.slice none 0 0,.slice none 0 0]
 rw [World.size_alloc] at N0
 have g0:=((Below.refl w.heap.size w).alloc (Nat.le_refl _) (.cells #[.int .i64 0,.bool false,.bool false,.string ⟨#[]⟩,.int .i64 0,.int .i64 0,.int .i64 0,.int .i64 0,.int .i64 0,.string ⟨#[]⟩,.slice none 0 0,.slice none 0 0,.slice none 0 0] 30)).alloc (by simp) (.cells #[.int .i64 6,.bool false,.bool false,.string ⟨#[]⟩,.int .i64 0,.int .i64 0,.int .i64 0,.int .i64 0,.int .i64 0,.string ⟨#[]⟩,.slice none 0 0,.slice none 0 0,.slice none 0 0] 30)
 have g00:=(Below.refl w.heap.size w).alloc (Nat.le_refl _) (.cells #[.int .i64 0,.bool false,.bool false,.string ⟨#[]⟩,.int .i64 0,.int .i64 0,.int .i64 0,.int .i64 0,.int .i64 0,.string ⟨#[]⟩,.slice none 0 0,.slice none 0 0,.slice none 0 0] 30)
 have l0:=HLi.out 0 hn0 _ g00
 have l1:=HLi.out 0 hn0 _ g0
 rw [Nat.zero_mul,Nat.add_zero] at l0 l1
 have xa:=(LiesAt.e15 l0).1
 have xb:=(LiesAt.e15 l1).1
 rw [HK0] at xa xb
 clear l0 l1 g00 HK0
 go_enter Tryd.func51,Tryd.ntmps51
 have Q1:=(Whole.new w 30 #[.int .i64 0,.bool false,.bool false,.string ⟨#[]⟩,.int .i64 0,.int .i64 0,.int .i64 0,.int .i64 0,.int .i64 0,.string ⟨#[]⟩,.slice none 0 0,.slice none 0 0,.slice none 0 0]).alloc (.cells #[.int .i64 7,.bool false,.bool false,.string ⟨#[]⟩,.int .i64 0,.int .i64 0,.int .i64 0,.int .i64 0,.int .i64 0,.string ⟨#[]⟩,.slice none 0 0,.slice none 0 0,.slice none 0 0] 30)
 have N1:=Whole.new (w.alloc (.cells #[.int .i64 0,.bool false,.bool false,.string ⟨#[]⟩,.int .i64 0,.int .i64 0,.int .i64 0,.int .i64 0,.int .i64 0,.string ⟨#[]⟩,.slice none 0 0,.slice none 0 0,.slice none 0 0] 30)) 30 #[.int .i64 7,.bool false,.bool false,.string ⟨#[]⟩,.int .i64 0,.int .i64 0,.int .i64 0,.int .i64 0,.int .i64 0,.string ⟨#[]⟩,.slice none 0 0,.slice none 0 0,.slice none 0 0]
 rw [World.size_alloc] at N1
 have g1:=((Below.refl w.heap.size w).alloc (Nat.le_refl _) (.cells #[.int .i64 0,.bool false,.bool false,.string ⟨#[]⟩,.int .i64 0,.int .i64 0,.int .i64 0,.int .i64 0,.int .i64 0,.string ⟨#[]⟩,.slice none 0 0,.slice none 0 0,.slice none 0 0] 30)).alloc (by simp) (.cells #[.int .i64 7,.bool false,.bool false,.string ⟨#[]⟩,.int .i64 0,.int .i64 0,.int .i64 0,.int .i64 0,.int .i64 0,.string ⟨#[]⟩,.slice none 0 0,.slice none 0 0,.slice none 0 0] 30)
 have sf:=Whole.frozen N0 0
 have sc:=Whole.cell N0 0
 simp only [List.getElem?_toArray,List.getElem?_cons_succ,List.getElem?_cons_zero] at sc
 go_upto_region 6 with (fail)
 clear sf sc Q0 N0 g0
 clear xa xb
 go_wp2_with fail
 go_loopw [5] (fun i wr => ∃ (j : Nat) (v : Value),j <= m /\ i = .int .i64 (off j) /\ Hid (RowG fcs Prod.snd 14 76 (w.heap.size + 2) (fun b => b < top ∨ w.heap.size + 2 <= b) (fun i x => x.1 = K i /\ x.1.size <= 1048576 /\ x.2.Same (F i)) wr v j) /\ Whole wr w.heap.size 30 #[.int .i64 0,.bool false,.bool false,.string ⟨#[]⟩,.int .i64 0,.int .i64 0,.int .i64 0,.int .i64 0,.int .i64 0,.string ⟨#[]⟩,.slice none 0 0,.slice none 0 0,.slice none 0 0] /\ Whole wr (w.heap.size + 1) 30 #[.int .i64 7,.bool false,.bool false,.string ⟨#[]⟩,.int .i64 0,.int .i64 0,.int .i64 0,.int .i64 0,.int .i64 0,.string ⟨#[]⟩,.slice none 0 0,.slice none 0 0,v] /\ Below w.heap.size w wr) (fun i _ => pn - (intOf i).toNat)
 case atStart => exact ⟨0,_,by omega,by rw [HO0.out];rfl,Lib.hid RowG.nil,Q1,N1,g1⟩
 case round =>
  clear Q1 N1 g1
  obtain ⟨j,v,hj,rfl,HR,Q1,N1,g1⟩:=hrel
  obtain ⟨va,vc,hv⟩:=own_slv HR.out.choose_spec.1
  subst hv
  have hom:=HMono.out j hj
  have hsz:=Whole.lt N1
  obtain ⟨o,ho⟩ : ∃ o,off j = o:=⟨_,rfl⟩
  rw [ho] at hom ⊢
  have HO:=Lib.hid ho
  have HOL : Hid (o + 1 <= pn):=Lib.hid (by have:=HL.out;omega)
  have o0 : (0 : Int) <= o:=by omega
  have o1 : (o : Int) < pn:=by have:=HOL.out;omega
  clear ho hom
  have lx:=HLi.out o (by have:=HOL.out;omega) wr g1
  have x0:=(LiesAt.e15 lx).1
  have y0:=Whole.cell N1 0
  have y1:=Whole.cell N1 12
  simp only [List.getElem?_toArray,List.getElem?_cons_succ,List.getElem?_cons_zero] at y0 y1
  by_cases hjm : j < m
  ·have hk:=HKj.out j hjm
   rw [HO.out] at hk
   have xk:=(LiesAt.e15 lx).2.1
   rw [hk.1] at x0
   rw [hk.2] at xk
   clear hk lx
   have hpos:=HPos.out j hjm
   have hsu:=HSucc.out j
   have hmo:=HMono.out (j + 1) (by omega)
   rw [HO.out] at hsu
   dsimp only [List.length_cons] at hsu
   have HO2L : Hid (o + 1 + 1 <= pn):=Lib.hid (by have:=HL.out;omega)
   clear hpos hsu hmo
   obtain ⟨q,hq⟩ : ∃ q,o + 1 = q:=⟨_,rfl⟩
   have HC:=Lib.hid (HI.out j hjm wr g1)
   rw [HO.out,hq] at HC
   have eq1 : (o : Int) + 1 = q:=by omega
   have HQ:=Lib.hid hq
   have q0 : (0 : Int) <= q:=by omega
   have c2 : (q : Int) <= pn:=by have:=HO2L.out;omega
   have c0 : ¬ pc = q:=by have:=HO2L.out;omega
   have c1 : ¬ q = pc:=by have:=HO2L.out;omega
   have c3 : q <= pn:=by have:=HO2L.out;omega
   clear hq
   obtain ⟨key,hkey⟩ : ∃ key,K j = key:=⟨_,rfl⟩
   rw [hkey] at xk
   have HKey:=Lib.hid hkey
   clear hkey
   obtain ⟨ll,hll⟩ : ∃ ll,(evs (F j)).length = ll:=⟨_,rfl⟩
   rw [hll] at HC
   have HLL:=Lib.hid hll
   clear hll
   go_wp2_with fail
   refine HC.out.mono ?_;rintro _ w3 ⟨X,rfl,hX,hXo,hXs,hb3⟩
   clear x0 y0 y1 HC c0 c1 c2 c3 xk
   have HX:=Lib.hid hX
   have HXo:=Lib.hid hXo
   have HXs:=Lib.hid hXs
   have hs3:=hb3.size
   have HR3:=Lib.hid (HR.out.below hb3)
   have HOw : Hid (∀ g,(Value.slice va j vc).ownBlock = some g -> w.heap.size + 2 <= g /\ g < wr.heap.size):=Lib.hid (by
    obtain ⟨f,hw,-⟩:=HR.out
    exact fun g hg => own_lt hw hg)
   clear hX hXo hXs HR
   have Q2:=Whole.below Q1 hb3 (Whole.lt Q1)
   have N2:=Whole.below N1 hb3 (Whole.lt N1)
   have g2:=below_then g1 hb3
   clear Q1 N1 g1
   clear hb3
   have q4:=(Below.refl w3.heap.size w3).alloc (Nat.le_refl _) (.cells #[.int .i64 X.h.k,.bool X.h.b,.bool X.h.n,.string X.h.d,.int .i64 X.h.e,.int .i64 X.h.tk,.int .i64 X.h.td,.int .i64 X.h.tn,.int .i64 X.h.tz,.string X.h.x,.slice X.h.ba X.h.bn X.h.bc,.slice X.h.la X.h.ln X.h.lc,.slice X.h.fa X.h.fn X.h.fc] 30)
   have X4:=Whole.new w3 30 #[.int .i64 X.h.k,.bool X.h.b,.bool X.h.n,.string X.h.d,.int .i64 X.h.e,.int .i64 X.h.tk,.int .i64 X.h.td,.int .i64 X.h.tn,.int .i64 X.h.tz,.string X.h.x,.slice X.h.ba X.h.bn X.h.bc,.slice X.h.la X.h.ln X.h.lc,.slice X.h.fa X.h.fn X.h.fc]
   have Q3:=Whole.below Q2 q4 (Whole.lt Q2)
   have N3:=Whole.below N2 q4 (Whole.lt N2)
   have g3:=below_then g2 q4
   clear Q2 N2 g2
   have HR4:=Lib.hid (HR3.out.below q4)
   have HX4:=Lib.hid (HX.out.later q4)
   clear HR3 HX q4
   obtain ⟨o2,ho2⟩ : ∃ o2,q + ll = o2:=⟨_,rfl⟩
   have es : (q : Int) + ll = o2:=by omega
   have HO2 : Hid (off (j + 1) = o2):=Lib.hid (by have e:=HSucc.out j;rw [HO.out] at e;have e2:=HLL.out;have e3:=HQ.out;dsimp only [List.length_cons] at e;omega)
   have hol2 : o2 + 1 <= pn:=by have e:=HL.out;have e2:=HMono.out (j + 1) (by omega);rw [HO2.out] at e2;omega
   have es1 : (o2 : Int) <= 1048576:=by omega
   have es0 : (0 : Int) <= o2:=by omega
   have HLp:=Lib.hid (HPos.out j hjm)
   have HS2:=Lib.hid ho2
   clear ho2 hol2
   obtain ⟨z0,z1,z2,z3,z4,z5,z6,z7,z8,z9,z10,z11,z12⟩:=Whole.c13 (h:=X.h) X4
   have y0:=Whole.cell N3 0
   simp only [List.getElem?_toArray,List.getElem?_cons_succ,List.getElem?_cons_zero] at y0
   go_upto_region 15 with (fail)
   generalize w3.alloc (.cells #[.int .i64 X.h.k,.bool X.h.b,.bool X.h.n,.string X.h.d,.int .i64 X.h.e,.int .i64 X.h.tk,.int .i64 X.h.td,.int .i64 X.h.tn,.int .i64 X.h.tz,.string X.h.x,.slice X.h.ba X.h.bn X.h.bc,.slice X.h.la X.h.ln X.h.lc,.slice X.h.fa X.h.fn X.h.fc] 30) = w5 at *
   have q6:=(Below.refl w5.heap.size w5).alloc (Nat.le_refl _) (.cells #[.string key,.int .i64 X.h.k,.bool X.h.b,.bool X.h.n,.string X.h.d,.int .i64 X.h.e,.int .i64 X.h.tk,.int .i64 X.h.td,.int .i64 X.h.tn,.int .i64 X.h.tz,.string X.h.x,.slice X.h.ba X.h.bn X.h.bc,.slice X.h.la X.h.ln X.h.lc,.slice X.h.fa X.h.fn X.h.fc] 76)
   clear y0
   have y1:=Whole.cell N3 12
   simp only [List.getElem?_toArray,List.getElem?_cons_succ,List.getElem?_cons_zero] at y1
   have Q4:=Whole.below Q3 q6 (Whole.lt Q3)
   have N4:=Whole.below N3 q6 (Whole.lt N3)
   have g4:=below_then g3 q6
   clear Q3 N3 g3
   obtain ⟨f,hw,hf⟩:=HR4.out.below q6
   have HOn:=Lib.hid hw
   have Hf:=Lib.hid hf
   have HX6:=Lib.hid (HX4.out.later q6)
   clear hw hf HR4 HX4
   have s1:=Lib.hid (cells_new w5 76 #[.string key,.int .i64 X.h.k,.bool X.h.b,.bool X.h.n,.string X.h.d,.int .i64 X.h.e,.int .i64 X.h.tk,.int .i64 X.h.td,.int .i64 X.h.tn,.int .i64 X.h.tz,.string X.h.x,.slice X.h.ba X.h.bn X.h.bc,.slice X.h.la X.h.ln X.h.lc,.slice X.h.fa X.h.fn X.h.fc])
   have s2:=Lib.hid (fcs_one (key,X))
   have s3 : Hid (j + 1 <= maxLen):=Lib.hid (by unfold maxLen;omega)
   have s4 : Hid ((j + 1) * 184 <= 140737488355328):=Lib.hid (by omega)
   have s5 : Hid (w.heap.size + 2 <= (w5.alloc (.cells #[.string key,.int .i64 X.h.k,.bool X.h.b,.bool X.h.n,.string X.h.d,.int .i64 X.h.e,.int .i64 X.h.tk,.int .i64 X.h.td,.int .i64 X.h.tn,.int .i64 X.h.tz,.string X.h.x,.slice X.h.ba X.h.bn X.h.bc,.slice X.h.la X.h.ln X.h.lc,.slice X.h.fa X.h.fn X.h.fc] 76)).heap.size):=Lib.hid (by have:=Whole.lt N4;omega)
   clear q6
   go_wp2_with (first | (at_builtin;refine wpList_append_told _ rfl _ _ 28 rfl (w.heap.size + 2) 76 i0 _ 14 184 Tryd.underlying28 hi0 hz0 hz1 hz2 rfl (by decide) _ _ _ rfl HOn.out ⟨w5.heap.size,0,none⟩ 1 1 (#[.string key,.int .i64 X.h.k,.bool X.h.b,.bool X.h.n,.string X.h.d,.int .i64 X.h.e,.int .i64 X.h.tk,.int .i64 X.h.td,.int .i64 X.h.tn,.int .i64 X.h.tz,.string X.h.x,.slice X.h.ba X.h.bn X.h.bc,.slice X.h.la X.h.ln X.h.lc,.slice X.h.fa X.h.fn X.h.fc] : Array Value).toList rfl rfl (by simpa using s1.out) s2.out s3.out s4.out s5.out Nat.one_pos ?_))
   intro v2 w7 ho7 hg7 hv7
   obtain ⟨ua,uc,rfl⟩:=own_slv ho7
   clear y1 z0 z1 z2 z3 z4 z5 z6 z7 z8 z9 z10 z11 z12 s1 s2 s3 s4 s5
   have HR7 : Hid (RowG fcs Prod.snd 14 76 (w.heap.size + 2) (fun b => b < top ∨ w.heap.size + 2 <= b) (fun i x => x.1 = K i /\ x.1.size <= 1048576 /\ x.2.Same (F i)) w7 (.slice ua (j + 1 : Nat) uc) (j + 1)):=Lib.hid (RowG.push (x:=(key,X)) HOn.out Hf.out HX6.out (HXo.out.mono fun b hb => by omega) (fun g hg => HXo.out.mono fun b hb => by have:=HOw.out g hg;omega) ⟨HKey.out.symm,by rw [<- HKey.out];exact HKs.out j hjm,HXs.out⟩ ho7 hg7 (by rw [World.size_alloc];exact hv7))
   have Q5:=Whole.kept Q4 hg7 (fun e => by have:=(own_lt HOn.out e.symm).1;omega)
   have N5:=Whole.kept N4 hg7 (fun e => by have:=(own_lt HOn.out e.symm).1;omega)
   have g5:=Below.grown g4 hg7 g4.size (fun g hg => by have:=(own_lt HOn.out hg).1;omega)
   clear Q4 N4 g4
   clear ho7 hg7 hv7 HOn Hf HX6 HXo HXs HOw
   have sf:=Whole.frozen N5 12
   have sc:=Whole.cell N5 12
   simp only [List.getElem?_toArray,List.getElem?_cons_succ,List.getElem?_cons_zero] at sc
   go_wp2
   clear sf sc
   have Q6:=Whole.far (p:=⟨(w.heap.size + 1),12,none⟩) Q5 (by show w.heap.size ≠ (w.heap.size + 1);omega) (.slice ua (j + 1) uc)
   have N6 : Whole (w7.setCell ⟨(w.heap.size + 1),12,none⟩ (.slice ua (j + 1) uc)) (w.heap.size + 1) 30 #[.int .i64 7,.bool false,.bool false,.string ⟨#[]⟩,.int .i64 0,.int .i64 0,.int .i64 0,.int .i64 0,.int .i64 0,.string ⟨#[]⟩,.slice none 0 0,.slice none 0 0,.slice ua (j + 1) uc]:=Whole.set N5 12 (.slice ua (j + 1) uc)
   have g6:=Below.setCell (p:=⟨(w.heap.size + 1),12,none⟩) g5 (by show _ <= (w.heap.size + 1);omega) (.slice ua (j + 1) uc)
   clear Q5 N5 g5
   have HR8:=Lib.hid (HR7.out.turn (grown_set w7 (w.heap.size + 1) 12 (.slice ua (j + 1) uc)) (by omega) (fun b hb => by omega))
   clear HR7
   go_roundw
   case rel => exact ⟨j + 1,.slice ua (j + 1) uc,by omega,by rw [HO2.out],HR8,Q6,N6,g6⟩
   case measure => (have e1:=HO2.out;have e2:=HLp.out;have e3:=HLL.out;have e4:=HS2.out;have e5:=HOL.out;have e6:=HQ.out;simp [intOf];omega)
  ·obtain rfl : j = m:=by omega
   have hk:=HEk.out
   rw [HO.out] at hk
   rw [hk] at x0
   clear hk lx hjm HI HKj HMono
   clear y0 y1
   have hone : Hid ((#[.int .i64 7,.bool false,.bool false,.string ⟨#[]⟩,.int .i64 0,.int .i64 0,.int .i64 0,.int .i64 0,.int .i64 0,.string ⟨#[]⟩,.slice none 0 0,.slice none 0 0,.slice va j vc] : Array Value).all (·.oneCell') = true):=Lib.hid (by simp [Value.oneCell'])
   obtain ⟨y0,y1,y2,y3,y4,y5,y6,y7,y8,y9,y10,y11,y12⟩ : _ /\ _ /\ _ /\ _ /\ _ /\ _ /\ _ /\ _ /\ _ /\ _ /\ _ /\ _ /\ _:=⟨N1.cell 0,N1.cell 1,N1.cell 2,N1.cell 3,N1.cell 4,N1.cell 5,N1.cell 6,N1.cell 7,N1.cell 8,N1.cell 9,N1.cell 10,N1.cell 11,N1.cell 12⟩
   simp only [List.getElem?_toArray,List.getElem?_cons_succ,List.getElem?_cons_zero] at y0 y1 y2 y3 y4 y5 y6 y7 y8 y9 y10 y11 y12
   have Qb:=Q1
   have Q2:=Whole.setRow Q1 #[.int .i64 7,.bool false,.bool false,.string ⟨#[]⟩,.int .i64 0,.int .i64 0,.int .i64 0,.int .i64 0,.int .i64 0,.string ⟨#[]⟩,.slice none 0 0,.slice none 0 0,.slice va j vc]
   have N2:=Whole.farRow (B':=w.heap.size) N1 (by omega) #[.int .i64 7,.bool false,.bool false,.string ⟨#[]⟩,.int .i64 0,.int .i64 0,.int .i64 0,.int .i64 0,.int .i64 0,.string ⟨#[]⟩,.slice none 0 0,.slice none 0 0,.slice va j vc]
   have g2:=below_setRow (g:=w.heap.size) g1 (by omega) #[.int .i64 7,.bool false,.bool false,.string ⟨#[]⟩,.int .i64 0,.int .i64 0,.int .i64 0,.int .i64 0,.int .i64 0,.string ⟨#[]⟩,.slice none 0 0,.slice none 0 0,.slice va j vc]
   have HF:=Lib.hid (HEnd.out wr (wr.setRow w.heap.size #[.int .i64 7,.bool false,.bool false,.string ⟨#[]⟩,.int .i64 0,.int .i64 0,.int .i64 0,.int .i64 0,.int .i64 0,.string ⟨#[]⟩,.slice none 0 0,.slice none 0 0,.slice va j vc]) va vc HR.out (fun b hb => setRow_other _ _ _ _ hb) (by rw [size_setRow];exact Nat.le_refl _) g2)
   rw [HO.out] at HF
   go_wp2_with (refine wpList_store_row rfl 30 _ _ rfl w.heap.size #[.int .i64 7,.bool false,.bool false,.string ⟨#[]⟩,.int .i64 0,.int .i64 0,.int .i64 0,.int .i64 0,.int .i64 0,.string ⟨#[]⟩,.slice none 0 0,.slice none 0 0,.slice va j vc] rfl rfl 30 _ Qb vh_row rfl hone.out ?_)
   exact bodyPost_ret (v:=.tuple #[.agg #[.int .i64 7,.bool false,.bool false,.string ⟨#[]⟩,.int .i64 0,.int .i64 0,.int .i64 0,.int .i64 0,.int .i64 0,.string ⟨#[]⟩,.slice none 0 0,.slice none 0 0,.slice va j vc],.int .i64 ((o : Int) + 1)]) (ret_val2l (p:=2) (q:=3) rfl rfl Q2) rfl HF.out
theorem rparse_any : ∀ T : Vt,ParIs T:=by
 intro T
 induction T with
 | nil => exact fun p top w hp ht hc => hc.elim
 | mk h Y L K F ihL ihF =>
  by_cases h6 : h.k = 6
  ·exact par_list h6 ihL
  by_cases h7 : h.k = 7
  ·exact par_map h7 ihF
  ·exact par_sca (fun e => by cases e) h6 h7
end Go.Proofs.YtpcbhneaaibfiaaDoor
