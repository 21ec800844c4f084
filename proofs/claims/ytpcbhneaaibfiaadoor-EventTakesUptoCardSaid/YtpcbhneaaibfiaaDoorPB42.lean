/- Laid together. -/
import Derived.Test.YtpcbhneaaibfiaaDoorPB41
import Derived.Test.YtpcbhneaaibfiaaDoorPB40
import Derived.Test.YtpcbhneaaibfiaaDoorPB26
import Derived.Test.YtpcbhneaaibfiaaDoorPB08
import Derived.Deep.DeepMust
set_option linter.unusedVariables false
set_option linter.unusedSimpArgs false
set_option maxHeartbeats 16000000
set_option maxRecDepth 100000
namespace Go.Proofs.YtpcbhneaaibfiaaDoor
open Go.RowKit
theorem catE_one {f : Nat -> Array Value} (h : ∀ i,∀ u ∈ (f i).toList,u.oneCell' = true) : ∀ {n : Nat},∀ u ∈ catN f n,u.oneCell' = true:=by
 intro n
 induction n with
 | zero => intro u hu;cases hu
 | succ n ih =>
  intro u hu
  rcases List.mem_append.1 hu with hu | hu
  ·exact ih u hu
  ·exact h n u hu
theorem in_ne {W : World} {top : Nat} {T : Vt} (h : T.In W top) : T ≠ .nil:=by rintro rfl;exact h
theorem evs_pos {T : Vt} (hT : T ≠ .nil) : 0 < (evs T).length:=by
 cases T with
 | nil => exact absurd rfl hT
 | mk h Y L K F =>
  show 0 < (if h.k = 6 then _ else if h.k = 7 then _ else _ : List Ev).length
  split
  ·simp
  split
  ·simp
  ·simp
def RofOut (T : Vt) (top : Nat) (w : World) (e : Ending) (w' : World) : Prop:=∃ (a : Option Addr) (c : Nat),e = .returned (.slice a (evs T).length c) /\ RowE w.heap.size (· < top) w' (.slice a (evs T).length c) (evs T) /\ Below w.heap.size w w'
def RofIs (T : Vt) : Prop:=∀ (top : Nat) (w : World),T.In w top -> top <= w.heap.size -> T.owd -> (evs T).length <= 1000000 -> Calls Tryd.prog 14 #[.agg T.h.cells] w (RofOut T top w)
theorem rof_sca {h : Vh} {Y : Nat -> Int} {L : Nat -> Vt} {K : Nat -> ByteArray} {F : Nat -> Vt} (k6 : h.k < 6) : RofIs (.mk h Y L K F):=by
 intro top w hT ht hgd hlen
 have hb0:=(Below.refl w.heap.size w).alloc (Nat.le_refl _) (.cells h.cells 30)
 have P:=Whole.new w 30 h.cells
 have he : evs (.mk h Y L K F) = [evS (.mk h Y L K F)]:=by show (if h.k = 6 then _ else _) = _;rw [if_neg (by omega),if_neg (by omega)]
 have HEnd : Hid (RofOut (.mk h Y L K F) top w (.returned (.slice (some ⟨w.heap.size + 1,0,none⟩) 1 1)) ((w.alloc (.cells h.cells 30)).alloc (.cells (Ev.mk 1 ⟨#[]⟩ (.mk h Y L K F)).cells 57))):=Lib.hid (by
  have hb1:=hb0.alloc hb0.size (.cells (Ev.mk 1 ⟨#[]⟩ (.mk h Y L K F)).cells 57)
  have P1:=Whole.new (w.alloc (.cells h.cells 30)) 57 (Ev.mk 1 ⟨#[]⟩ (.mk h Y L K F)).cells
  rw [World.size_alloc] at P1
  refine ⟨some ⟨w.heap.size + 1,0,none⟩,1,by rw [he];rfl,?_,hb1⟩
  rw [he]
  exact RowE.one (x:=⟨1,⟨#[]⟩,.mk h Y L K F⟩) P1 (Nat.le_succ _) ((Vt.In.below (hb1.mono ht) hT).up (Nat.le_trans ht hb1.size)) hT.off (fun c hc => by omega) ⟨rfl,rfl,Vt.Same.rfl' hT.whole⟩ ⟨(show w64 1 from ⟨by decide,by decide⟩),Nat.zero_le _⟩)
 have hk6 : h.k < 6:=k6
 obtain ⟨c0,c1,c2,c3,c4,c5,c6,c7,c8,c9,c10,c11,c12⟩:=Whole.c13 (h:=h) P
 clear hT hgd hlen he P k6 hb0 ht
 simp only [Vt.h,Vh.cells,Ev.cells,evc] at HEnd c0 c1 c2 c3 c4 c5 c6 c7 c8 c9 c10 c11 c12 ⊢
 go_enter Tryd.func14,Tryd.ntmps14
 go_wp2
 (first | exact HEnd.out | (go_ret;exact HEnd.out))
theorem rof_lst {h : Vh} {Y : Nat -> Int} {L : Nat -> Vt} {K : Nat -> ByteArray} {F : Nat -> Vt} (k6 : h.k = 6) (ih : ∀ i,RofIs (L i)) : RofIs (.mk h Y L K F):=by
 intro top w hT ht hgd hlen
 have hb0:=(Below.refl w.heap.size w).alloc (Nat.le_refl _) (.cells h.cells 30)
 have P:=Whole.new w 30 h.cells
 have ow:=Vh.own_parts hgd.1
 have hoz : h.fn = 0:=ow.2.2.2.2.2.2.2.2 (show h.k ≠ 7 by omega)
 have he : evs (.mk h Y L K F) = evM 2 :: (catL (fun i => evs (L i)) h.ln ++ [evM 3]):=if_pos k6
 have hkn:=hT.1.ln
 obtain ⟨i0,hi0,hz0,hz1,hz2⟩:=info_parts Tryd.infoEvt
 have n2 : (0 : Int) <= h.ln:=by omega
 have n3 : (h.ln : Int) <= 1048576:=by omega
 rw [he] at hlen
 have hsum : Hid (∀ j,j <= h.ln -> ([evM 2] ++ catL (fun i => evs (L i)) j).length + 1 <= 1000000):=Lib.hid fun j hj => by
  have e:=sumN_mono (f:=fun i => (evs (L i)).length) hj
  have hl:=hlen
  rw [List.length_cons,List.length_append,List.length_singleton,catL_len] at hl
  rw [List.length_append,List.length_singleton,catL_len]
  omega
 have HI:=Lib.hid (fun (j : Nat) (hj : j < h.ln) (w1 : World) (hb : Below w.heap.size w w1) (hm : (evs (L j)).length <= 1000000) => ih j top w1 (Vt.In.below (hb.mono ht) ((hT.2.2.2.2.1 j hj).2)) (Nat.le_trans ht hb.size) (hgd.2.1 j hj) hm)
 have HNe:=Lib.hid (fun (j : Nat) (hj : j < h.ln) => evs_pos (in_ne ((hT.2.2.2.2.1 j hj).2)))
 have HLa : Hid (0 < h.ln -> h.la = some ⟨h.lb,h.lo,none⟩ /\ h.lb < w.heap.size):=Lib.hid fun q => ⟨(hT.2.2.2.1 q).1,Nat.lt_of_lt_of_le (hT.2.2.2.1 q).2 ht⟩
 have HLs:=Lib.hid (hT.2.2.2.2.1)
 have HEnd : Hid (∀ (w1 : World) (v : Value) (M : List Ev),M = evM 2 :: (catL (fun i => evs (L i)) h.ln ++ [evM 3]) -> RowE (w.heap.size + 1) (· < top) w1 v M -> Below w.heap.size w w1 -> RofOut (.mk h Y L K F) top w (.returned v) w1):=Lib.hid (fun w1 v M hM hr hb => by
  rw [<- he] at hM
  subst hM
  obtain ⟨a,c,rfl⟩:=hr.sl
  exact ⟨a,c,rfl,hr.lower (Nat.le_succ _) (fun _ q => q),hb⟩)
 have HSt : Hid (∀ b,b < top -> b < w.heap.size):=Lib.hid fun b q => Nat.lt_of_lt_of_le q ht
 clear hT ht hgd hlen he ih ow
 obtain ⟨kids,hkids⟩ : ∃ kids : Nat -> List Ev,kids = catL (fun i => evs (L i)):=⟨_,rfl⟩
 have HSucc : Hid (∀ j,kids (j + 1) = kids j ++ (evs (L j))):=Lib.hid fun j => by rw [hkids];rfl
 have HZero : Hid (kids 0 = []):=Lib.hid (by rw [hkids];rfl)
 rw [<- hkids] at hsum HEnd
 clear hkids
 have hw0 : (w.alloc (.cells h.cells 30)).heap.size = w.heap.size + 1:=World.size_alloc _ _
 simp only [Vt.h,Vh.cells] at hb0 P hw0 ⊢
 have HKK:=Lib.hid k6
 have HOZ:=Lib.hid hoz
 clear k6 hoz
 go_enter Tryd.func14,Tryd.ntmps14
 go_upto_region 1 with (fail)
 obtain ⟨w0,hw0'⟩ : ∃ w0,w.alloc (.cells #[.int .i64 h.k,.bool h.b,.bool h.n,.string h.d,.int .i64 h.e,.int .i64 h.tk,.int .i64 h.td,.int .i64 h.tn,.int .i64 h.tz,.string h.x,.slice h.ba h.bn h.bc,.slice h.la h.ln h.lc,.slice h.fa h.fn h.fc] 30) = w0:=⟨_,rfl⟩
 simp only [hw0'] at hb0 hw0 P ⊢
 clear hw0'
 rw [HKK.out,HOZ.out] at P
 have c0:=Whole.cell P 0
 simp only [List.getElem?_toArray,List.getElem?_cons_succ,List.getElem?_cons_zero] at c0
 go_upto_region 4 with (fail)
 have hw1 : (w0.alloc (.cells #[.int .i64 2,.string ⟨#[]⟩,.int .i64 0,.bool false,.bool false,.string ⟨#[]⟩,.int .i64 0,.int .i64 0,.int .i64 0,.int .i64 0,.int .i64 0,.string ⟨#[]⟩,.slice none 0 0,.slice none 0 0,.slice none 0 0] 57)).heap.size = w.heap.size + 2:=by rw [World.size_alloc,hw0]
 have g1:=hb0.alloc hb0.size (.cells #[.int .i64 2,.string ⟨#[]⟩,.int .i64 0,.bool false,.bool false,.string ⟨#[]⟩,.int .i64 0,.int .i64 0,.int .i64 0,.int .i64 0,.int .i64 0,.string ⟨#[]⟩,.slice none 0 0,.slice none 0 0,.slice none 0 0] 57)
 have P1:=P.alloc (.cells #[.int .i64 2,.string ⟨#[]⟩,.int .i64 0,.bool false,.bool false,.string ⟨#[]⟩,.int .i64 0,.int .i64 0,.int .i64 0,.int .i64 0,.int .i64 0,.string ⟨#[]⟩,.slice none 0 0,.slice none 0 0,.slice none 0 0] 57)
 have E1:=Whole.new w0 57 #[.int .i64 2,.string ⟨#[]⟩,.int .i64 0,.bool false,.bool false,.string ⟨#[]⟩,.int .i64 0,.int .i64 0,.int .i64 0,.int .i64 0,.int .i64 0,.string ⟨#[]⟩,.slice none 0 0,.slice none 0 0,.slice none 0 0]
 rw [hw0] at E1
 obtain ⟨w1,hw1'⟩ : ∃ w1,w0.alloc (.cells #[.int .i64 2,.string ⟨#[]⟩,.int .i64 0,.bool false,.bool false,.string ⟨#[]⟩,.int .i64 0,.int .i64 0,.int .i64 0,.int .i64 0,.int .i64 0,.string ⟨#[]⟩,.slice none 0 0,.slice none 0 0,.slice none 0 0] 57) = w1:=⟨_,rfl⟩
 simp only [hw1'] at g1 P1 E1 hw1 ⊢
 clear hw1' hb0 P c0 hw0
 have HM0 : Hid (RowE (w.heap.size + 1) (· < top) w1 (.slice (some ⟨w.heap.size + 1,0,none⟩) 1 1) [evM 2]):=Lib.hid (RowE.one (x:=evM 2) (y:=evM 2) E1 (Nat.le_refl _) (Vt.z_in _ _) (off_z _) (fun c hc => by have:=HSt.out c hc;omega) (evM_same _) ⟨(show w64 2 from ⟨by decide,by decide⟩),Nat.zero_le _⟩)
 clear E1 hw1
 go_wp2_with fail
 go_loopw [3,4] (fun v i wr => ∃ j : Nat,j <= h.ln /\ i = .int .i64 j /\ Hid (RowE (w.heap.size + 1) (· < top) wr v ([evM 2] ++ kids j)) /\ Whole wr w.heap.size 30 #[.int .i64 6,.bool h.b,.bool h.n,.string h.d,.int .i64 h.e,.int .i64 h.tk,.int .i64 h.td,.int .i64 h.tn,.int .i64 h.tz,.string h.x,.slice h.ba h.bn h.bc,.slice h.la h.ln h.lc,.slice h.fa 0 h.fc] /\ Below w.heap.size w wr) (fun _ i _ => h.ln - (intOf i).toNat)
 case atStart => exact ⟨0,by omega,rfl,Lib.hid (by rw [HZero.out,List.append_nil];exact HM0.out),P1,g1⟩
 case round =>
  clear HM0 P1 g1
  obtain ⟨j,hj,rfl,HRr,Pr,hbr⟩:=hrel
  have hji : (0 : Int) <= j:=by omega
  have hsz:=hbr.size
  have hpl:=Pr.lt
  have hml:=hsum.out j hj
  obtain ⟨M,hM⟩ : ∃ M,[evM 2] ++ kids j = M:=⟨_,rfl⟩
  rw [hM] at HRr hml
  have HM:=Lib.hid hM
  clear hM
  obtain ⟨ar,cr,hvr⟩:=HRr.out.sl
  subst hvr
  have HOb : Hid (∀ g,(Value.slice ar M.length cr).ownBlock = some g -> w.heap.size + 1 <= g /\ g < wr.heap.size):=Lib.hid (by
   obtain ⟨f,ho,-⟩:=HRr.out
   exact fun g hg => own_lt ho hg)
  have HSo : Hid (∀ b,b < top -> some b ≠ (Value.slice ar M.length cr).ownBlock):=Lib.hid fun b hb e => by have:=(HOb.out b e.symm).1;have:=HSt.out b hb;omega
  have cl:=Whole.cell Pr 11
  simp only [List.getElem?_toArray,List.getElem?_cons_succ,List.getElem?_cons_zero] at cl
  by_cases hjn : j < h.ln
  ·have hjl : (j : Int) < h.ln:=by omega
   obtain ⟨ea,elt⟩:=HLa.out (by omega)
   have hm1:=hsum.out (j + 1) hjn
   rw [HSucc.out,<- List.append_assoc,HM.out] at hm1
   have q1:=HLs.out j hjn
   have hl:=q1.1.below hbr elt
   obtain ⟨c0,c1,c2,c3,c4,c5,c6,c7,c8,c9,c10,c11,c12⟩:=hl.c13
   have HC:=Lib.hid (HI.out j hjn wr hbr (by rw [List.length_append] at hm1;omega))
   have hne:=HNe.out j hjn
   rw [List.length_append] at hm1
   have HSj : Hid ([evM 2] ++ kids (j + 1) = M ++ evs (L j)):=Lib.hid (by rw [HSucc.out,<- List.append_assoc,HM.out])
   unfold RofOut at HC
   obtain ⟨M2,hM2⟩ : ∃ M2,evs (L j) = M2:=⟨_,rfl⟩
   rw [hM2] at HC HSj hm1 hne
   generalize hG : (L j).h = G at *
   clear hG q1 hl hM2
   simp only [Vh.cells] at HC
   rw [ea] at cl
   clear ea
   go_wp2_with fail
   refine HC.out.mono ?_;rintro _ w3 ⟨a3,c3x,rfl,hr3,hb3⟩
   have HR3:=Lib.hid hr3
   have HRr3:=Lib.hid (HRr.out.below hb3)
   have g3:=below_then hbr hb3
   have P3:=Pr.below hb3 Pr.lt
   have hsz3:=hb3.size
   have HSl : Hid (∀ b,b < top -> b < w3.heap.size):=Lib.hid fun b hb => by have:=HSt.out b hb;omega
   clear HC hr3 hb3 HRr hbr Pr c0 c1 c2 c3 c4 c5 c6 c7 c8 c9 c10 c11 c12 cl
   obtain ⟨f,hown,hf⟩:=HRr3.out
   obtain ⟨g,hown',hg⟩:=HR3.out
   obtain ⟨bc,cc,cur,ecc,-,hbc,-⟩:=own_open hown' (by omega)
   injection ecc with e1 e2 e3
   subst e1
   have Hf:=Lib.hid hf
   have Hg:=Lib.hid hg
   have HOwn:=Lib.hid hown
   have s1:=Lib.hid (hown'.cells (g:=bc) rfl)
   have s2 : Hid (∀ u ∈ catN (fun i => (g i).cells) M2.length,u.oneCell' = true):=Lib.hid (catE_one (fun i => evc_one (g i)))
   have s3 : Hid (M.length + M2.length <= maxLen):=Lib.hid (by unfold maxLen;omega)
   have s4 : Hid ((M.length + M2.length) * 192 <= 140737488355328):=Lib.hid (by omega)
   have s5 : Hid (w.heap.size + 1 <= w3.heap.size):=Lib.hid (by omega)
   have s6 : Hid ((catN (fun i => (g i).cells) M2.length).length = M2.length * 15):=Lib.hid hown'.1
   have s7 : Hid (0 < M2.length):=Lib.hid (by omega)
   clear hf hg hown' e2 e3
   go_wp2_with (first | (at_builtin;go_must (refine wpList_append_told _ rfl _ _ 34 rfl (w.heap.size + 1) 57 i0 _ 15 192 Tryd.underlying34 hi0 hz0 hz1 hz2 rfl (by decide) _ _ _ rfl hown ⟨bc,0,none⟩ M2.length _ (catN (fun i => (g i).cells) M2.length) rfl s6.out s1.out s2.out s3.out s4.out s5.out s7.out ?_)))
   clear s1 s2 s3 s4 s5 s6 s7 hown
   intro v4 w4 ho2 hg2 hv2
   have HR4:=Lib.hid (RowE.join HOwn.out Hf.out Hg.out HSo.out ho2 hg2 hv2 HSl.out)
   have g4:=g3.grown hg2 (by omega) (fun g hg => by have:=HOb.out g hg;omega)
   have P4:=P3.kept hg2 (fun e => by have:=HOb.out _ e.symm;omega)
   clear HRr3 HR3 HOwn Hf Hg ho2 hg2 hv2 g3 P3
   go_wp2
   go_roundw
   case rel => exact ⟨j + 1,by omega,by go_num,by rw [HSj.out];exact HR4,P4,g4⟩
   case measure => simp [intOf];omega
  ·obtain rfl : j = h.ln:=by omega
   go_wp2_with fail
   go_loopw [3,5] (fun v i wr => v = .slice ar M.length cr /\ i = .int .i64 0 /\ Hid (RowE (w.heap.size + 1) (· < top) wr (.slice ar M.length cr) (M)) /\ Whole wr w.heap.size 30 #[.int .i64 6,.bool h.b,.bool h.n,.string h.d,.int .i64 h.e,.int .i64 h.tk,.int .i64 h.td,.int .i64 h.tn,.int .i64 h.tz,.string h.x,.slice h.ba h.bn h.bc,.slice h.la h.ln h.lc,.slice h.fa 0 h.fc] /\ Below w.heap.size w wr) (fun _ i _ => 0)
   case atStart => exact ⟨rfl,rfl,HRr,Pr,hbr⟩
   case round =>
    clear HRr Pr hbr cl
    obtain ⟨rfl,rfl,HMz,Pz,gz⟩:=hrel
    have cz:=Whole.cell Pz 12
    simp only [List.getElem?_toArray,List.getElem?_cons_succ,List.getElem?_cons_zero] at cz
    go_upto_region 13 with (fail)
    have c0:=Whole.cell Pz 0
    simp only [List.getElem?_toArray,List.getElem?_cons_succ,List.getElem?_cons_zero] at c0
    have hpl:=Pz.lt
    have gzz:=gz.size
    obtain ⟨f,hown,hf⟩:=HMz.out.below ((Below.refl wr.heap.size wr).alloc (Nat.le_refl _) (.cells #[.int .i64 3,.string ⟨#[]⟩,.int .i64 0,.bool false,.bool false,.string ⟨#[]⟩,.int .i64 0,.int .i64 0,.int .i64 0,.int .i64 0,.int .i64 0,.string ⟨#[]⟩,.slice none 0 0,.slice none 0 0,.slice none 0 0] 57))
    have Hf:=Lib.hid hf
    have HOwn:=Lib.hid hown
    have s1:=Lib.hid (cells_new wr 57 #[.int .i64 3,.string ⟨#[]⟩,.int .i64 0,.bool false,.bool false,.string ⟨#[]⟩,.int .i64 0,.int .i64 0,.int .i64 0,.int .i64 0,.int .i64 0,.string ⟨#[]⟩,.slice none 0 0,.slice none 0 0,.slice none 0 0])
    have s2 : Hid (∀ u ∈ (#[.int .i64 3,.string ⟨#[]⟩,.int .i64 0,.bool false,.bool false,.string ⟨#[]⟩,.int .i64 0,.int .i64 0,.int .i64 0,.int .i64 0,.int .i64 0,.string ⟨#[]⟩,.slice none 0 0,.slice none 0 0,.slice none 0 0] : Array Value).toList,u.oneCell' = true):=Lib.hid (by simp [Value.oneCell'])
    have s3 : Hid (M.length + 1 <= maxLen):=Lib.hid (by unfold maxLen;omega)
    have s4 : Hid ((M.length + 1) * 192 <= 140737488355328):=Lib.hid (by omega)
    have s5 : Hid (w.heap.size + 1 <= (wr.alloc (.cells #[.int .i64 3,.string ⟨#[]⟩,.int .i64 0,.bool false,.bool false,.string ⟨#[]⟩,.int .i64 0,.int .i64 0,.int .i64 0,.int .i64 0,.int .i64 0,.string ⟨#[]⟩,.slice none 0 0,.slice none 0 0,.slice none 0 0] 57)).heap.size):=Lib.hid (by rw [World.size_alloc];omega)
    clear hf
    go_wp2_with (first | (at_builtin;go_must (refine wpList_append_told _ rfl _ _ 34 rfl (w.heap.size + 1) 57 i0 _ 15 192 Tryd.underlying34 hi0 hz0 hz1 hz2 rfl (by decide) _ _ _ rfl hown ⟨wr.heap.size,0,none⟩ 1 1 (#[.int .i64 3,.string ⟨#[]⟩,.int .i64 0,.bool false,.bool false,.string ⟨#[]⟩,.int .i64 0,.int .i64 0,.int .i64 0,.int .i64 0,.int .i64 0,.string ⟨#[]⟩,.slice none 0 0,.slice none 0 0,.slice none 0 0] : Array Value).toList rfl rfl (by simpa using s1.out) s2.out s3.out s4.out s5.out Nat.one_pos ?_)))
    clear s1 s2 s3 s4 s5 hown
    intro v9 w9 ho2 hg2 hv2
    have HR9:=Lib.hid (RowE.push (x:=⟨3,⟨#[]⟩,Vt.z⟩) (y:=⟨3,⟨#[]⟩,Vt.z⟩) HOwn.out Hf.out (Vt.z_in _ _) (off_z _) (fun g hg => off_z _) ⟨rfl,rfl,Vt.z_same⟩ ⟨(show w64 3 from ⟨by decide,by decide⟩),Nat.zero_le _⟩ ho2 hg2 (by rw [World.size_alloc];exact hv2))
    have g9:=(gz.alloc gz.size (.cells #[.int .i64 3,.string ⟨#[]⟩,.int .i64 0,.bool false,.bool false,.string ⟨#[]⟩,.int .i64 0,.int .i64 0,.int .i64 0,.int .i64 0,.int .i64 0,.string ⟨#[]⟩,.slice none 0 0,.slice none 0 0,.slice none 0 0] 57)).grown hg2 (by have:=gz.size;rw [World.size_alloc];omega) (fun g hg => by have:=HOb.out g hg;omega)
    have HE:=Lib.hid (HEnd.out w9 v9 _ (by rw [<- HM.out];rfl) HR9.out g9)
    clear HR9 HOwn Hf ho2 hg2 hv2 g9 HEnd HM HMz gz Pz c0
    go_wp2
    (first | exact HE.out | (go_ret;exact HE.out))
theorem rof_map {h : Vh} {Y : Nat -> Int} {L : Nat -> Vt} {K : Nat -> ByteArray} {F : Nat -> Vt} (k7 : h.k = 7) (ih : ∀ i,RofIs (F i)) : RofIs (.mk h Y L K F):=by
 intro top w hT ht hgd hlen
 have hb0:=(Below.refl w.heap.size w).alloc (Nat.le_refl _) (.cells h.cells 30)
 have P:=Whole.new w 30 h.cells
 have ow:=Vh.own_parts hgd.1
 have hoz : h.ln = 0:=ow.2.2.2.2.2.2.2.1 (show h.k ≠ 6 by omega)
 have he : evs (.mk h Y L K F) = evM 4 :: (catL (fun i => evK (K i) :: evs (F i)) h.fn ++ [evM 5]):=(if_neg (show ¬ h.k = 6 by omega)).trans (if_pos k7)
 have hkn:=hT.1.fn
 obtain ⟨i0,hi0,hz0,hz1,hz2⟩:=info_parts Tryd.infoEvt
 have n2 : (0 : Int) <= h.fn:=by omega
 have n3 : (h.fn : Int) <= 1048576:=by omega
 rw [he] at hlen
 have hsum : Hid (∀ j,j <= h.fn -> ([evM 4] ++ catL (fun i => evK (K i) :: evs (F i)) j).length + 1 <= 1000000):=Lib.hid fun j hj => by
  have e:=sumN_mono (f:=fun i => (evK (K i) :: evs (F i)).length) hj
  have hl:=hlen
  rw [List.length_cons,List.length_append,List.length_singleton,catL_len] at hl
  rw [List.length_append,List.length_singleton,catL_len]
  omega
 have HI:=Lib.hid (fun (j : Nat) (hj : j < h.fn) (w1 : World) (hb : Below w.heap.size w w1) (hm : (evs (F j)).length <= 1000000) => ih j top w1 (Vt.In.below (hb.mono ht) ((hT.2.2.2.2.2.2 j hj).2.2.2)) (Nat.le_trans ht hb.size) (hgd.2.2 j hj) hm)
 have HNe:=Lib.hid (fun (j : Nat) (hj : j < h.fn) => evs_pos (in_ne ((hT.2.2.2.2.2.2 j hj).2.2.2)))
 have HLa : Hid (0 < h.fn -> h.fa = some ⟨h.fb,h.fo,none⟩ /\ h.fb < w.heap.size):=Lib.hid fun q => ⟨(hT.2.2.2.2.2.1 q).1,Nat.lt_of_lt_of_le (hT.2.2.2.2.2.1 q).2 ht⟩
 have HLs:=Lib.hid (hT.2.2.2.2.2.2)
 have HEnd : Hid (∀ (w1 : World) (v : Value) (M : List Ev),M = evM 4 :: (catL (fun i => evK (K i) :: evs (F i)) h.fn ++ [evM 5]) -> RowE (w.heap.size + 1) (· < top) w1 v M -> Below w.heap.size w w1 -> RofOut (.mk h Y L K F) top w (.returned v) w1):=Lib.hid (fun w1 v M hM hr hb => by
  rw [<- he] at hM
  subst hM
  obtain ⟨a,c,rfl⟩:=hr.sl
  exact ⟨a,c,rfl,hr.lower (Nat.le_succ _) (fun _ q => q),hb⟩)
 have HSt : Hid (∀ b,b < top -> b < w.heap.size):=Lib.hid fun b q => Nat.lt_of_lt_of_le q ht
 clear hT ht hgd hlen he ih ow
 obtain ⟨kids,hkids⟩ : ∃ kids : Nat -> List Ev,kids = catL (fun i => evK (K i) :: evs (F i)):=⟨_,rfl⟩
 have HSucc : Hid (∀ j,kids (j + 1) = kids j ++ (evK (K j) :: evs (F j))):=Lib.hid fun j => by rw [hkids];rfl
 have HZero : Hid (kids 0 = []):=Lib.hid (by rw [hkids];rfl)
 rw [<- hkids] at hsum HEnd
 clear hkids
 have hw0 : (w.alloc (.cells h.cells 30)).heap.size = w.heap.size + 1:=World.size_alloc _ _
 simp only [Vt.h,Vh.cells] at hb0 P hw0 ⊢
 have HKK:=Lib.hid k7
 have HOZ:=Lib.hid hoz
 clear k7 hoz
 go_enter Tryd.func14,Tryd.ntmps14
 go_upto_region 1 with (fail)
 obtain ⟨w0,hw0'⟩ : ∃ w0,w.alloc (.cells #[.int .i64 h.k,.bool h.b,.bool h.n,.string h.d,.int .i64 h.e,.int .i64 h.tk,.int .i64 h.td,.int .i64 h.tn,.int .i64 h.tz,.string h.x,.slice h.ba h.bn h.bc,.slice h.la h.ln h.lc,.slice h.fa h.fn h.fc] 30) = w0:=⟨_,rfl⟩
 simp only [hw0'] at hb0 hw0 P ⊢
 clear hw0'
 rw [HKK.out,HOZ.out] at P
 have c0:=Whole.cell P 0
 simp only [List.getElem?_toArray,List.getElem?_cons_succ,List.getElem?_cons_zero] at c0
 go_upto_region 4 with (fail)
 have hw1 : (w0.alloc (.cells #[.int .i64 4,.string ⟨#[]⟩,.int .i64 0,.bool false,.bool false,.string ⟨#[]⟩,.int .i64 0,.int .i64 0,.int .i64 0,.int .i64 0,.int .i64 0,.string ⟨#[]⟩,.slice none 0 0,.slice none 0 0,.slice none 0 0] 57)).heap.size = w.heap.size + 2:=by rw [World.size_alloc,hw0]
 have g1:=hb0.alloc hb0.size (.cells #[.int .i64 4,.string ⟨#[]⟩,.int .i64 0,.bool false,.bool false,.string ⟨#[]⟩,.int .i64 0,.int .i64 0,.int .i64 0,.int .i64 0,.int .i64 0,.string ⟨#[]⟩,.slice none 0 0,.slice none 0 0,.slice none 0 0] 57)
 have P1:=P.alloc (.cells #[.int .i64 4,.string ⟨#[]⟩,.int .i64 0,.bool false,.bool false,.string ⟨#[]⟩,.int .i64 0,.int .i64 0,.int .i64 0,.int .i64 0,.int .i64 0,.string ⟨#[]⟩,.slice none 0 0,.slice none 0 0,.slice none 0 0] 57)
 have E1:=Whole.new w0 57 #[.int .i64 4,.string ⟨#[]⟩,.int .i64 0,.bool false,.bool false,.string ⟨#[]⟩,.int .i64 0,.int .i64 0,.int .i64 0,.int .i64 0,.int .i64 0,.string ⟨#[]⟩,.slice none 0 0,.slice none 0 0,.slice none 0 0]
 rw [hw0] at E1
 obtain ⟨w1,hw1'⟩ : ∃ w1,w0.alloc (.cells #[.int .i64 4,.string ⟨#[]⟩,.int .i64 0,.bool false,.bool false,.string ⟨#[]⟩,.int .i64 0,.int .i64 0,.int .i64 0,.int .i64 0,.int .i64 0,.string ⟨#[]⟩,.slice none 0 0,.slice none 0 0,.slice none 0 0] 57) = w1:=⟨_,rfl⟩
 simp only [hw1'] at g1 P1 E1 hw1 ⊢
 clear hw1' hb0 P c0 hw0
 have HM0 : Hid (RowE (w.heap.size + 1) (· < top) w1 (.slice (some ⟨w.heap.size + 1,0,none⟩) 1 1) [evM 4]):=Lib.hid (RowE.one (x:=evM 4) (y:=evM 4) E1 (Nat.le_refl _) (Vt.z_in _ _) (off_z _) (fun c hc => by have:=HSt.out c hc;omega) (evM_same _) ⟨(show w64 4 from ⟨by decide,by decide⟩),Nat.zero_le _⟩)
 clear E1 hw1
 go_wp2_with fail
 go_loopw [3,4] (fun v i wr => v = .slice (some ⟨w.heap.size + 1,0,none⟩) 1 1 /\ i = .int .i64 0 /\ Hid (RowE (w.heap.size + 1) (· < top) wr (.slice (some ⟨w.heap.size + 1,0,none⟩) 1 1) ([evM 4])) /\ Whole wr w.heap.size 30 #[.int .i64 7,.bool h.b,.bool h.n,.string h.d,.int .i64 h.e,.int .i64 h.tk,.int .i64 h.td,.int .i64 h.tn,.int .i64 h.tz,.string h.x,.slice h.ba h.bn h.bc,.slice h.la 0 h.lc,.slice h.fa h.fn h.fc] /\ Below w.heap.size w wr) (fun _ i _ => 0)
 case atStart => exact ⟨rfl,rfl,HM0,P1,g1⟩
 case round =>
  clear HM0 P1 g1
  obtain ⟨rfl,rfl,HMz,Pz,gz⟩:=hrel
  have cz:=Whole.cell Pz 11
  simp only [List.getElem?_toArray,List.getElem?_cons_succ,List.getElem?_cons_zero] at cz
  go_wp2_with fail
  go_loopw [3,5] (fun v i wr => ∃ j : Nat,j <= h.fn /\ i = .int .i64 j /\ Hid (RowE (w.heap.size + 1) (· < top) wr v ([evM 4] ++ kids j)) /\ Whole wr w.heap.size 30 #[.int .i64 7,.bool h.b,.bool h.n,.string h.d,.int .i64 h.e,.int .i64 h.tk,.int .i64 h.td,.int .i64 h.tn,.int .i64 h.tz,.string h.x,.slice h.ba h.bn h.bc,.slice h.la 0 h.lc,.slice h.fa h.fn h.fc] /\ Below w.heap.size w wr) (fun _ i _ => h.fn - (intOf i).toNat)
  case atStart => exact ⟨0,by omega,rfl,Lib.hid (by rw [HZero.out,List.append_nil];exact HMz.out),Pz,gz⟩
  case round =>
   clear HMz Pz gz cz
   obtain ⟨j,hj,rfl,HRr,Pr,hbr⟩:=hrel
   have hji : (0 : Int) <= j:=by omega
   have hsz:=hbr.size
   have hpl:=Pr.lt
   have hml:=hsum.out j hj
   obtain ⟨M,hM⟩ : ∃ M,[evM 4] ++ kids j = M:=⟨_,rfl⟩
   rw [hM] at HRr hml
   have HM:=Lib.hid hM
   clear hM
   obtain ⟨ar,cr,hvr⟩:=HRr.out.sl
   subst hvr
   have HOb : Hid (∀ g,(Value.slice ar M.length cr).ownBlock = some g -> w.heap.size + 1 <= g /\ g < wr.heap.size):=Lib.hid (by
    obtain ⟨f,ho,-⟩:=HRr.out
    exact fun g hg => own_lt ho hg)
   have HSo : Hid (∀ b,b < top -> some b ≠ (Value.slice ar M.length cr).ownBlock):=Lib.hid fun b hb e => by have:=(HOb.out b e.symm).1;have:=HSt.out b hb;omega
   have cl:=Whole.cell Pr 12
   simp only [List.getElem?_toArray,List.getElem?_cons_succ,List.getElem?_cons_zero] at cl
   by_cases hjn : j < h.fn
   ·have hjl : (j : Int) < h.fn:=by omega
    obtain ⟨ea,elt⟩:=HLa.out (by omega)
    have hm1:=hsum.out (j + 1) hjn
    rw [HSucc.out,<- List.append_assoc,HM.out] at hm1
    obtain ⟨k0,k1,k2,k3⟩:=HLs.out j hjn
    have ck:=(hbr.cell (p:=⟨h.fb,h.fo + j * 14,none⟩) elt).trans k0
    have hl:=k2.below hbr elt
    have HSj : Hid ([evM 4] ++ kids (j + 1) = (M ++ [evK (K j)]) ++ evs (F j)):=Lib.hid (by rw [HSucc.out,<- List.append_assoc,HM.out];simp)
    have HC:=Lib.hid (fun (w1 : World) (hb : Below w.heap.size w w1) (hm : (evs (F j)).length <= 1000000) => HI.out j hjn w1 hb hm)
    have hne:=HNe.out j hjn
    have hm2 : M.length + 1 + (evs (F j)).length + 1 <= 1000000:=by rw [List.length_append,List.length_cons] at hm1;omega
    unfold RofOut at HC
    obtain ⟨M2,hM2⟩ : ∃ M2,evs (F j) = M2:=⟨_,rfl⟩
    simp only [hM2] at HC
    rw [hM2] at HSj hm1 hm2 hne
    have HLl : Hid (LiesAt w h.fb (h.fo + j * 14 + 1) (F j).h.cells):=Lib.hid k2
    generalize K j = y at *
    generalize hG : (F j).h = G at *
    clear hG hM2 k0 k2 k3 hl hm1
    simp only [Vh.cells] at HC
    rw [ea] at cl
    have HEA:=Lib.hid ea
    clear ea
    obtain ⟨f,hown,hf⟩:=HRr.out.below ((Below.refl wr.heap.size wr).alloc (Nat.le_refl _) (.cells #[.int .i64 6,.string y,.int .i64 0,.bool false,.bool false,.string ⟨#[]⟩,.int .i64 0,.int .i64 0,.int .i64 0,.int .i64 0,.int .i64 0,.string ⟨#[]⟩,.slice none 0 0,.slice none 0 0,.slice none 0 0] 57))
    have Hf:=Lib.hid hf
    have HOwn:=Lib.hid hown
    have s1:=Lib.hid (cells_new wr 57 #[.int .i64 6,.string y,.int .i64 0,.bool false,.bool false,.string ⟨#[]⟩,.int .i64 0,.int .i64 0,.int .i64 0,.int .i64 0,.int .i64 0,.string ⟨#[]⟩,.slice none 0 0,.slice none 0 0,.slice none 0 0])
    have s2 : Hid (∀ u ∈ (#[.int .i64 6,.string y,.int .i64 0,.bool false,.bool false,.string ⟨#[]⟩,.int .i64 0,.int .i64 0,.int .i64 0,.int .i64 0,.int .i64 0,.string ⟨#[]⟩,.slice none 0 0,.slice none 0 0,.slice none 0 0] : Array Value).toList,u.oneCell' = true):=Lib.hid (by simp [Value.oneCell'])
    have s3 : Hid (M.length + 1 <= maxLen):=Lib.hid (by unfold maxLen;omega)
    have s4 : Hid ((M.length + 1) * 192 <= 140737488355328):=Lib.hid (by omega)
    have s5 : Hid (w.heap.size + 1 <= (wr.alloc (.cells #[.int .i64 6,.string y,.int .i64 0,.bool false,.bool false,.string ⟨#[]⟩,.int .i64 0,.int .i64 0,.int .i64 0,.int .i64 0,.int .i64 0,.string ⟨#[]⟩,.slice none 0 0,.slice none 0 0,.slice none 0 0] 57)).heap.size):=Lib.hid (by rw [World.size_alloc];omega)
    clear hf
    go_wp2_with (first | (at_builtin;go_must (refine wpList_append_told _ rfl _ _ 34 rfl (w.heap.size + 1) 57 i0 _ 15 192 Tryd.underlying34 hi0 hz0 hz1 hz2 rfl (by decide) _ _ _ rfl hown ⟨wr.heap.size,0,none⟩ 1 1 (#[.int .i64 6,.string y,.int .i64 0,.bool false,.bool false,.string ⟨#[]⟩,.int .i64 0,.int .i64 0,.int .i64 0,.int .i64 0,.int .i64 0,.string ⟨#[]⟩,.slice none 0 0,.slice none 0 0,.slice none 0 0] : Array Value).toList rfl rfl (by simpa using s1.out) s2.out s3.out s4.out s5.out Nat.one_pos ?_)))
    clear s1 s2 s3 s4 s5 hown
    intro v5 w5 ho2 hg2 hv2
    have HR5:=Lib.hid (RowE.push (x:=⟨6,y,Vt.z⟩) (y:=⟨6,y,Vt.z⟩) HOwn.out Hf.out (Vt.z_in _ _) (off_z _) (fun g hg => off_z _) ⟨rfl,rfl,Vt.z_same⟩ ⟨(show w64 6 from ⟨by decide,by decide⟩),k1⟩ ho2 hg2 (by rw [World.size_alloc];exact hv2))
    have g5:=(hbr.alloc hbr.size (.cells #[.int .i64 6,.string y,.int .i64 0,.bool false,.bool false,.string ⟨#[]⟩,.int .i64 0,.int .i64 0,.int .i64 0,.int .i64 0,.int .i64 0,.string ⟨#[]⟩,.slice none 0 0,.slice none 0 0,.slice none 0 0] 57)).grown hg2 (by rw [World.size_alloc];omega) (fun g hg => by have:=HOb.out g hg;omega)
    have P5:=(Pr.alloc (.cells #[.int .i64 6,.string y,.int .i64 0,.bool false,.bool false,.string ⟨#[]⟩,.int .i64 0,.int .i64 0,.int .i64 0,.int .i64 0,.int .i64 0,.string ⟨#[]⟩,.slice none 0 0,.slice none 0 0,.slice none 0 0] 57)).kept hg2 (fun e => by have:=HOb.out _ e.symm;omega)
    have cl5:=Whole.cell P5 12
    simp only [List.getElem?_toArray,List.getElem?_cons_succ,List.getElem?_cons_zero] at cl5
    rw [HEA.out] at cl5
    have hl5:=HLl.out.below g5 elt
    obtain ⟨c0,c1,c2,c3,c4,c5,c6,c7,c8,c9,c10,c11,c12⟩:=hl5.c13
    obtain ⟨M1,hM1⟩ : ∃ M1,M ++ [Ev.mk 6 y Vt.z] = M1:=⟨_,rfl⟩
    have hl1 : M1.length = M.length + 1:=by rw [<- hM1];simp
    rw [hM1] at HR5
    have HM1 : Hid (M ++ [evK y] = M1):=Lib.hid hM1
    have HL1:=Lib.hid hl1
    rw [<- hl1] at hm2
    have HC5:=Lib.hid (HC.out w5 g5 (by omega))
    have hsz5:=g5.size
    have hpl5:=P5.lt
    clear hM1 hl1 HOwn Hf ho2 hg2 hv2 cl ck hbr Pr HRr HC hl5 HEA HOb HSo
    obtain ⟨a5,c5',hv5⟩:=HR5.out.sl
    subst hv5
    have HOb : Hid (∀ g,(Value.slice a5 M1.length c5').ownBlock = some g -> w.heap.size + 1 <= g /\ g < w5.heap.size):=Lib.hid (by
     obtain ⟨f,ho,-⟩:=HR5.out
     exact fun g hg => own_lt ho hg)
    have HSo : Hid (∀ b,b < top -> some b ≠ (Value.slice a5 M1.length c5').ownBlock):=Lib.hid fun b hb e => by have:=(HOb.out b e.symm).1;have:=HSt.out b hb;omega
    go_wp2_with fail
    refine HC5.out.mono ?_;rintro _ w3 ⟨a3,c3x,rfl,hr3,hb3⟩
    have HR3:=Lib.hid hr3
    have HRr3:=Lib.hid (HR5.out.below hb3)
    have g3:=below_then g5 hb3
    have P3:=P5.below hb3 P5.lt
    have hsz3:=hb3.size
    have HSl : Hid (∀ b,b < top -> b < w3.heap.size):=Lib.hid fun b hb => by have:=HSt.out b hb;omega
    clear HC5 hr3 hb3 HR5 g5 P5 c0 c1 c2 c3 c4 c5 c6 c7 c8 c9 c10 c11 c12 cl5
    obtain ⟨f,hown,hf⟩:=HRr3.out
    obtain ⟨g,hown',hg⟩:=HR3.out
    obtain ⟨bc,cc,cur,ecc,-,hbc,-⟩:=own_open hown' (by omega)
    injection ecc with e1 e2 e3
    subst e1
    have Hf:=Lib.hid hf
    have Hg:=Lib.hid hg
    have HOwn:=Lib.hid hown
    have s1:=Lib.hid (hown'.cells (g:=bc) rfl)
    have s2 : Hid (∀ u ∈ catN (fun i => (g i).cells) M2.length,u.oneCell' = true):=Lib.hid (catE_one (fun i => evc_one (g i)))
    have s3 : Hid (M1.length + M2.length <= maxLen):=Lib.hid (by unfold maxLen;omega)
    have s4 : Hid ((M1.length + M2.length) * 192 <= 140737488355328):=Lib.hid (by omega)
    have s5 : Hid (w.heap.size + 1 <= w3.heap.size):=Lib.hid (by omega)
    have s6 : Hid ((catN (fun i => (g i).cells) M2.length).length = M2.length * 15):=Lib.hid hown'.1
    have s7 : Hid (0 < M2.length):=Lib.hid (by omega)
    clear hf hg hown' e2 e3
    go_wp2_with (first | (at_builtin;go_must (refine wpList_append_told _ rfl _ _ 34 rfl (w.heap.size + 1) 57 i0 _ 15 192 Tryd.underlying34 hi0 hz0 hz1 hz2 rfl (by decide) _ _ _ rfl hown ⟨bc,0,none⟩ M2.length _ (catN (fun i => (g i).cells) M2.length) rfl s6.out s1.out s2.out s3.out s4.out s5.out s7.out ?_)))
    clear s1 s2 s3 s4 s5 s6 s7 hown
    intro v4 w4 ho2 hg2 hv2
    have HR4:=Lib.hid (RowE.join HOwn.out Hf.out Hg.out HSo.out ho2 hg2 hv2 HSl.out)
    have g4:=g3.grown hg2 (by omega) (fun g hg => by have:=HOb.out g hg;omega)
    have P4:=P3.kept hg2 (fun e => by have:=HOb.out _ e.symm;omega)
    clear HRr3 HR3 HOwn Hf Hg ho2 hg2 hv2 g3 P3
    go_wp2
    go_roundw
    case rel => exact ⟨j + 1,by omega,by go_num,by rw [HSj.out];exact (Lib.hid (by rw [HM1.out];exact HR4.out)),P4,g4⟩
    case measure => simp [intOf];omega
   ·obtain rfl : j = h.fn:=by omega
    go_upto_region 13 with (fail)
    clear cl
    have c0:=Whole.cell Pr 0
    simp only [List.getElem?_toArray,List.getElem?_cons_succ,List.getElem?_cons_zero] at c0
    have hpl:=Pr.lt
    have gzz:=hbr.size
    obtain ⟨f,hown,hf⟩:=HRr.out.below ((Below.refl wr.heap.size wr).alloc (Nat.le_refl _) (.cells #[.int .i64 5,.string ⟨#[]⟩,.int .i64 0,.bool false,.bool false,.string ⟨#[]⟩,.int .i64 0,.int .i64 0,.int .i64 0,.int .i64 0,.int .i64 0,.string ⟨#[]⟩,.slice none 0 0,.slice none 0 0,.slice none 0 0] 57))
    have Hf:=Lib.hid hf
    have HOwn:=Lib.hid hown
    have s1:=Lib.hid (cells_new wr 57 #[.int .i64 5,.string ⟨#[]⟩,.int .i64 0,.bool false,.bool false,.string ⟨#[]⟩,.int .i64 0,.int .i64 0,.int .i64 0,.int .i64 0,.int .i64 0,.string ⟨#[]⟩,.slice none 0 0,.slice none 0 0,.slice none 0 0])
    have s2 : Hid (∀ u ∈ (#[.int .i64 5,.string ⟨#[]⟩,.int .i64 0,.bool false,.bool false,.string ⟨#[]⟩,.int .i64 0,.int .i64 0,.int .i64 0,.int .i64 0,.int .i64 0,.string ⟨#[]⟩,.slice none 0 0,.slice none 0 0,.slice none 0 0] : Array Value).toList,u.oneCell' = true):=Lib.hid (by simp [Value.oneCell'])
    have s3 : Hid (M.length + 1 <= maxLen):=Lib.hid (by unfold maxLen;omega)
    have s4 : Hid ((M.length + 1) * 192 <= 140737488355328):=Lib.hid (by omega)
    have s5 : Hid (w.heap.size + 1 <= (wr.alloc (.cells #[.int .i64 5,.string ⟨#[]⟩,.int .i64 0,.bool false,.bool false,.string ⟨#[]⟩,.int .i64 0,.int .i64 0,.int .i64 0,.int .i64 0,.int .i64 0,.string ⟨#[]⟩,.slice none 0 0,.slice none 0 0,.slice none 0 0] 57)).heap.size):=Lib.hid (by rw [World.size_alloc];omega)
    clear hf
    go_wp2_with (first | (at_builtin;go_must (refine wpList_append_told _ rfl _ _ 34 rfl (w.heap.size + 1) 57 i0 _ 15 192 Tryd.underlying34 hi0 hz0 hz1 hz2 rfl (by decide) _ _ _ rfl hown ⟨wr.heap.size,0,none⟩ 1 1 (#[.int .i64 5,.string ⟨#[]⟩,.int .i64 0,.bool false,.bool false,.string ⟨#[]⟩,.int .i64 0,.int .i64 0,.int .i64 0,.int .i64 0,.int .i64 0,.string ⟨#[]⟩,.slice none 0 0,.slice none 0 0,.slice none 0 0] : Array Value).toList rfl rfl (by simpa using s1.out) s2.out s3.out s4.out s5.out Nat.one_pos ?_)))
    clear s1 s2 s3 s4 s5 hown
    intro v9 w9 ho2 hg2 hv2
    have HR9:=Lib.hid (RowE.push (x:=⟨5,⟨#[]⟩,Vt.z⟩) (y:=⟨5,⟨#[]⟩,Vt.z⟩) HOwn.out Hf.out (Vt.z_in _ _) (off_z _) (fun g hg => off_z _) ⟨rfl,rfl,Vt.z_same⟩ ⟨(show w64 5 from ⟨by decide,by decide⟩),Nat.zero_le _⟩ ho2 hg2 (by rw [World.size_alloc];exact hv2))
    have g9:=(hbr.alloc hbr.size (.cells #[.int .i64 5,.string ⟨#[]⟩,.int .i64 0,.bool false,.bool false,.string ⟨#[]⟩,.int .i64 0,.int .i64 0,.int .i64 0,.int .i64 0,.int .i64 0,.string ⟨#[]⟩,.slice none 0 0,.slice none 0 0,.slice none 0 0] 57)).grown hg2 (by have:=hbr.size;rw [World.size_alloc];omega) (fun g hg => by have:=HOb.out g hg;omega)
    have HE:=Lib.hid (HEnd.out w9 v9 _ (by rw [<- HM.out];rfl) HR9.out g9)
    clear HR9 HOwn Hf ho2 hg2 hv2 g9 HEnd HM HRr hbr Pr c0
    go_wp2
    (first | exact HE.out | (go_ret;exact HE.out))
theorem rof_any : ∀ T : Vt,RofIs T:=by
 intro T
 induction T with
 | nil => intro top w h;exact h.elim
 | mk h Y L K F ihL ihF =>
  by_cases k6 : h.k = 6
  ·exact rof_lst k6 ihL
  by_cases k7 : h.k = 7
  ·exact rof_map k7 ihF
  ·intro top w hT ht hgd
   have ow:=Vh.own_parts hgd.1
   have h7 : h.k <= 7:=ow.2.1
   exact rof_sca (by omega) top w hT ht hgd
end Go.Proofs.YtpcbhneaaibfiaaDoor
