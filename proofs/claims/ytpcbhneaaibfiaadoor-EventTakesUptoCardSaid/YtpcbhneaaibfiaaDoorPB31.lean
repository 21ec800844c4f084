/- Laid together. -/
import Derived.Test.YtpcbhneaaibfiaaDoorPB25
import Derived.Test.YtpcbhneaaibfiaaDoorPB05
import Derived.Test.YtpcbhneaaibfiaaDoorPB04
import Derived.Test.YtpcbhneaaibfiaaDoorPB07
import Derived.StillTailTactics
import Derived.Deep.QuietTactic
import Derived.BigQuiet
import Derived.WalkSmall
set_option linter.unusedVariables false
set_option linter.unusedSimpArgs false
set_option maxHeartbeats 16000000
set_option maxRecDepth 100000
namespace Go.Proofs.YtpcbhneaaibfiaaDoor
open Go.RowKit
noncomputable def sameB (T U : Vt) : Bool:=@decide (T.Same U) (Classical.propDecidable _)
theorem sameB_iff {T U : Vt} : sameB T U = true ↔ T.Same U:=@decide_eq_true_iff _ (Classical.propDecidable _)
theorem sameB_no {T U : Vt} : sameB T U = false ↔ ¬ T.Same U:=@decide_eq_false_iff_not _ (Classical.propDecidable _)
def SameIs (T : Vt) : Prop:=∀ (U : Vt) (top : Nat) (w : World),T.In w top -> U.In w top -> top <= w.heap.size ->
 Calls Tryd.prog 17 #[.agg T.h.cells,.agg U.h.cells] w fun r w' => r = .returned (.bool (sameB T U)) /\ Below w.heap.size w w'
theorem same_any : ∀ T : Vt,SameIs T:=by
 intro T
 induction T with
 | nil => exact fun _ _ _ h => h.elim
 | mk h Y L K F ihL ihF =>
 intro U top w hT hU ht
 cases U with
 | nil => exact hU.elim
 | mk g Y' L' K' F' =>
 have hb0:=((Below.refl w.heap.size w).alloc (Nat.le_refl _) (.cells h.cells 30)).alloc (by simp) (.cells g.cells 30)
 have P:=(Whole.new w 30 h.cells).alloc (.cells g.cells 30)
 have Q:=Whole.new (w.alloc (.cells h.cells 30)) 30 g.cells
 rw [World.size_alloc] at Q
 have cv1:=conv_bs (Vt.In.below (hb0.mono ht) hT)
 have cv2:=conv_bs (Vt.In.below (hb0.mono ht) hU)
 have hbs:=bs_eq hT hU
 have hk:=hT.1.k
 have hk':=hU.1.k
 have hln:=hT.1.ln
 have hln':=hU.1.ln
 have hfn:=hT.1.fn
 have hfn':=hU.1.fn
 have HT:=Lib.hid hT
 have HU:=Lib.hid hU
 have HL:=Lib.hid ihL
 have HF:=Lib.hid ihF
 clear hT hU ihL ihF
 obtain ⟨R,hR⟩ : ∃ R,sameB (.mk h Y L K F) (.mk g Y' L' K' F') = R:=⟨_,rfl⟩
 rw [hR]
 have HR:=Lib.hid hR
 clear hR
 have HN : Hid (¬ h.flat g -> R = false):=Lib.hid fun q => by rw [<- HR.out];exact sameB_no.2 fun s => q s.flat
 have HNb : Hid ((Vt.mk h Y L K F).bs ≠ (Vt.mk g Y' L' K' F').bs -> R = false):=Lib.hid fun q => by rw [<- HR.out];exact sameB_no.2 fun s => q (hbs.2 ⟨s.flat.bn,fun i hi => s.Y hi⟩)
 have HY : Hid ((Vt.mk h Y L K F).bs = (Vt.mk g Y' L' K' F').bs -> h.bn = g.bn /\ ∀ i,i < h.bn -> Y i = Y' i):=Lib.hid fun q => hbs.1 q
 clear hbs
 obtain ⟨X,hX⟩ : ∃ X,(Vt.mk h Y L K F).bs = X:=⟨_,rfl⟩
 obtain ⟨X',hX'⟩ : ∃ X',(Vt.mk g Y' L' K' F').bs = X':=⟨_,rfl⟩
 rw [hX] at cv1 HNb HY
 rw [hX'] at cv2 HNb HY
 clear hX hX'
 obtain ⟨k,b,n,d,e,tk,td,tn,tz,x,ba,bn,bc,la,ln,lc,fa,fn,fc,bb,bo,lb,lo,fb,fo⟩:=h
 obtain ⟨k',b',n',d',e',tk',td',tn',tz',x',ba',bn',bc',la',ln',lc',fa',fn',fc',bb',bo',lb',lo',fb',fo'⟩:=g
 dsimp only at hk hk' hln hln' hfn hfn' HY
 have hk1:=hk.1
 have hk2:=hk.2
 have hk1':=hk'.1
 have hk2':=hk'.2
 clear hk hk'
 simp only [Vt.h,Vh.cells] at hb0 P Q cv1 cv2 ⊢
 by_cases c1 : k = k'
 case neg =>
  have hR : R = false:=HN.out fun q => c1 q.k
  subst hR
  have d1 : (k == k') = false:=beq_eq_false_iff_ne.2 c1
  have d2 : (k != k') = true:=by simpa using c1
  clear HR HN HNb HY HL HF HT HU P Q c1
  go_enter Tryd.func17,Tryd.ntmps17
  go_wp2_with fail
  go_ret
  exact ⟨rfl,hb0⟩
 subst c1
 by_cases c2 : b = b'
 case neg =>
  have hR : R = false:=HN.out fun q => c2 q.b
  subst hR
  clear HR HN HNb HY HL HF HT HU P Q
  cases b <;> cases b' <;> first
   | exact absurd rfl c2
   | (clear c2
      go_enter Tryd.func17,Tryd.ntmps17
      go_wp2_with fail
      go_ret
      exact ⟨rfl,hb0⟩)
 subst c2
 by_cases c3 : n = n' /\ d.toList = d'.toList /\ e = e'
 case neg =>
  have hR : R = false:=HN.out fun q => c3 ⟨q.n,by rw [show d = d' from q.d],q.e⟩
  subst hR
  have qn:=num_neq2 n d e n' d' e'
  rw [decide_eq_false c3] at qn
  clear HR HN HNb HY HL HF HT HU P Q c3
  go_enter Tryd.func17,Tryd.ntmps17
  go_wp2_with fail
  go_ret
  exact ⟨rfl,hb0⟩
 obtain ⟨c3,c3',c3''⟩:=c3
 have c3:=c3
 obtain rfl:=ba_eq c3'
 subst c3 c3''
 clear c3'
 have qn:=num_neq2 n d e n d e
 rw [decide_eq_true ⟨rfl,rfl,rfl⟩] at qn
 by_cases c4 : tk = tk' /\ td = td' /\ tn = tn' /\ tz = tz'
 case neg =>
  have hR : R = false:=HN.out fun q => c4 ⟨q.tk,q.td,q.tn,q.tz⟩
  subst hR
  have qt:=tim_neq2 tk td tn tz tk' td' tn' tz'
  rw [decide_eq_false c4] at qt
  clear HR HN HNb HY HL HF HT HU P Q c4
  go_enter Tryd.func17,Tryd.ntmps17
  go_wp2_with fail
  go_ret
  exact ⟨rfl,hb0⟩
 obtain ⟨rfl,rfl,rfl,rfl⟩:=c4
 have qt:=tim_neq2 tk td tn tz tk td tn tz
 rw [decide_eq_true ⟨rfl,rfl,rfl,rfl⟩] at qt
 by_cases c5 : x.toList = x'.toList
 case neg =>
  have hR : R = false:=HN.out fun q => c5 (by rw [show x = x' from q.x])
  subst hR
  have d1 : (x.toList == x'.toList) = false:=beq_eq_false_iff_ne.2 c5
  clear HR HN HNb HY HL HF HT HU P Q c5
  go_enter Tryd.func17,Tryd.ntmps17
  go_wp2_with fail
  go_ret
  exact ⟨rfl,hb0⟩
 obtain rfl:=ba_eq c5
 clear c5
 by_cases c6 : X.toList = X'.toList
 case neg =>
  have hR : R = false:=HNb.out fun q => c6 (by rw [q])
  subst hR
  have d1 : (X.toList == X'.toList) = false:=beq_eq_false_iff_ne.2 c6
  clear HR HN HNb HY HL HF HT HU P Q c6
  go_enter Tryd.func17,Tryd.ntmps17
  go_wp2_with fail
  go_ret
  exact ⟨rfl,hb0⟩
 obtain rfl:=ba_eq c6
 clear c6
 obtain ⟨ebn,hYY⟩:=HY.out rfl
 have HYY:=Lib.hid hYY
 have HBN:=Lib.hid ebn
 clear HY hYY ebn HNb
 by_cases c7 : ln = ln'
 case neg =>
  have hR : R = false:=HN.out fun q => c7 q.ln
  subst hR
  have d1 : (ln == ln') = false:=beq_eq_false_iff_ne.2 c7
  have d2 : (ln != ln') = true:=by simpa using c7
  have d3 : ((ln : Int) == (ln' : Int)) = false:=beq_eq_false_iff_ne.2 (by omega)
  have d4 : ((ln : Int) != (ln' : Int)) = true:=bne_iff_ne.2 (by omega)
  clear HR HN HL HF HT HU P Q HYY HBN c7
  go_enter Tryd.func17,Tryd.ntmps17
  go_wp2_with fail
  go_ret
  exact ⟨rfl,hb0⟩
 subst c7
 by_cases c8 : fn = fn'
 case neg =>
  have hR : R = false:=HN.out fun q => c8 q.fn
  subst hR
  have d1 : (fn == fn') = false:=beq_eq_false_iff_ne.2 c8
  have d2 : (fn != fn') = true:=by simpa using c8
  have d3 : ((fn : Int) == (fn' : Int)) = false:=beq_eq_false_iff_ne.2 (by omega)
  have d4 : ((fn : Int) != (fn' : Int)) = true:=bne_iff_ne.2 (by omega)
  clear HR HN HL HF HT HU P Q HYY HBN c8
  go_enter Tryd.func17,Tryd.ntmps17
  go_wp2_with fail
  go_ret
  exact ⟨rfl,hb0⟩
 subst c8
 have hla:=HT.out.2.2.2.1
 have hlb:=HU.out.2.2.2.1
 have hla':=HT.out.2.2.2.2.2.1
 have hlb':=HU.out.2.2.2.2.2.1
 have HLa : Hid (0 < ln -> la = some ⟨lb,lo,none⟩ /\ lb < w.heap.size):=Lib.hid fun hp => ⟨(hla hp).1,Nat.lt_of_lt_of_le (hla hp).2 ht⟩
 have HLb : Hid (0 < ln -> la' = some ⟨lb',lo',none⟩ /\ lb' < w.heap.size):=Lib.hid fun hp => ⟨(hlb hp).1,Nat.lt_of_lt_of_le (hlb hp).2 ht⟩
 have HFa : Hid (0 < fn -> fa = some ⟨fb,fo,none⟩ /\ fb < w.heap.size):=Lib.hid fun hp => ⟨(hla' hp).1,Nat.lt_of_lt_of_le (hla' hp).2 ht⟩
 have HFb : Hid (0 < fn -> fa' = some ⟨fb',fo',none⟩ /\ fb' < w.heap.size):=Lib.hid fun hp => ⟨(hlb' hp).1,Nat.lt_of_lt_of_le (hlb' hp).2 ht⟩
 clear hla hlb hla' hlb'
 have HRl : Hid (∀ i,i < ln -> ¬ (L i).Same (L' i) -> R = false):=Lib.hid fun i hi q => by rw [<- HR.out];exact sameB_no.2 fun s => q (s.L hi)
 have HRk : Hid (∀ i,i < fn -> ¬ (K i = K' i /\ (F i).Same (F' i)) -> R = false):=Lib.hid fun i hi q => by rw [<- HR.out];exact sameB_no.2 fun s => q ⟨s.K hi,s.F hi⟩
 have HRt : Hid ((∀ i,i < ln -> (L i).Same (L' i)) -> (∀ i,i < fn -> K i = K' i /\ (F i).Same (F' i)) -> R = true):=Lib.hid fun q1 q2 => by
  rw [<- HR.out]
  exact sameB_iff.2 ⟨(fun e => by cases e),⟨rfl,rfl,rfl,rfl,rfl,rfl,rfl,rfl,rfl,rfl,HBN.out,rfl,rfl⟩,HYY.out,q1,q2⟩
 clear HR HYY HBN HN
 have n0 : (0 : Int) <= ln:=by omega
 have n1 : (ln : Int) <= 1048576:=by omega
 have n2 : (0 : Int) <= fn:=by omega
 have n3 : (fn : Int) <= 1048576:=by omega
 go_enter Tryd.func17,Tryd.ntmps17
 go_wp2_with fail
 clear qn qt cv1 cv2
 go_loopw [5] (fun i wr => ∃ j : Nat,j <= ln /\ i = .int .i64 j /\ Hid (∀ t,t < j -> (L t).Same (L' t)) /\ Whole wr w.heap.size 30 (Vh.cells ⟨k,b,n,d,e,tk,td,tn,tz,x,ba,bn,bc,la,ln,lc,fa,fn,fc,bb,bo,lb,lo,fb,fo⟩) /\ Whole wr (w.heap.size + 1) 30 (Vh.cells ⟨k,b,n,d,e,tk,td,tn,tz,x,ba',bn',bc',la',ln,lc',fa',fn,fc',bb',bo',lb',lo',fb',fo'⟩) /\ Below w.heap.size w wr) (fun i _ => ln - (intOf i).toNat)
 case atStart => exact ⟨0,by omega,rfl,Lib.hid fun t h => absurd h (Nat.not_lt_zero _),P,Q,hb0⟩
 case round =>
  clear P Q hb0
  obtain ⟨j,hj,rfl,HJ,P,Q,hbr⟩:=hrel
  have hji : (0 : Int) <= j:=by omega
  obtain ⟨-,-,-,-,-,-,-,-,-,-,-,p11,p12⟩:=Whole.c13 P
  obtain ⟨-,-,-,-,-,-,-,-,-,-,-,q11,q12⟩:=Whole.c13 Q
  by_cases hjn : j < ln
  ·have hji2 : (j : Int) < ln:=by omega
   obtain ⟨e1,hlt⟩:=HLa.out (by omega)
   obtain ⟨e2,hlt'⟩:=HLb.out (by omega)
   have hl:=(HT.out.2.2.2.2.1 j hjn).1.below (hbr.mono ht) (HT.out.2.2.2.1 (show 0 < ln by omega)).2
   have hl':=(HU.out.2.2.2.2.1 j hjn).1.below (hbr.mono ht) (HU.out.2.2.2.1 (show 0 < ln by omega)).2
   have hrec:=HL.out j (L' j) top wr.drew (Vt.In.below (hbr.drew.mono ht) (HT.out.2.2.2.2.1 j hjn).2) (Vt.In.below (hbr.drew.mono ht) (HU.out.2.2.2.2.1 j hjn).2) (Nat.le_trans ht hbr.size)
   dsimp only at hl hl' e1 e2
   rw [e1] at p11
   rw [e2] at q11
   obtain ⟨l0,l1,l2,l3,l4,l5,l6,l7,l8,l9,l10,l11,l12⟩:=hl.c13
   obtain ⟨m0,m1,m2,m3,m4,m5,m6,m7,m8,m9,m10,m11,m12⟩:=hl'.c13
   have hdr : wr.drew = wr.drew:=rfl
   clear hl hl' e1 e2 p12 q12 hdr
   have HC:=Lib.hid hrec
   clear hrec
   obtain ⟨c,hc⟩ : ∃ c,sameB (L j) (L' j) = c:=⟨_,rfl⟩
   rw [hc] at HC
   have HCc:=Lib.hid hc
   clear hc
   generalize (L j).h = G at *
   generalize (L' j).h = G' at *
   go_wp2_with fail
   go_still_tail 10,(by kernel_rfl)
   change wpList _ _ _ _ _ wr.drew
   have P2:=P.drew
   have Q2:=Q.drew
   have hb2:=hbr.drew
   clear l0 l1 l2 l3 l4 l5 l6 l7 l8 l9 l10 l11 l12 m0 m1 m2 m3 m4 m5 m6 m7 m8 m9 m10 m11 m12 p11 q11 P Q hbr
   generalize wr.drew = w2 at *
   cases c
   ·have hR : R = false:=HRl.out j hjn (sameB_no.1 HCc.out)
    subst hR
    go_wp2_with fail
    refine HC.out.mono ?_;rintro _ w3 ⟨rfl,hb3⟩
    clear HRl HRk HRt
    go_wp2
    go_ret
    exact ⟨rfl,below_then hb2 hb3⟩
   ·have HJ2 : Hid (∀ t,t < j + 1 -> (L t).Same (L' t)):=Lib.hid fun t ht => by
     by_cases q : t = j
     ·subst q;exact sameB_iff.1 HCc.out
     ·exact HJ.out t (by omega)
    go_wp2_with fail
    refine HC.out.mono ?_;rintro _ w3 ⟨rfl,hb3⟩
    have P3:=Whole.below P2 hb3 (Whole.lt P2)
    have Q3:=Whole.below Q2 hb3 (Whole.lt Q2)
    have hbr:=below_then hb2 hb3
    clear P2 Q2 hb2 hb3
    go_wp2
    go_roundw
    case rel => exact ⟨j + 1,by omega,by go_num,HJ2,P3,Q3,hbr⟩
    case measure => simp [intOf];omega
  ·obtain rfl : j = ln:=by omega
   clear hjn p12 q12 HL
   go_wp2_with fail
   clear p11 q11
   go_loopw [6] (fun i wr => ∃ i' : Nat,i' <= fn /\ i = .int .i64 i' /\ Hid (∀ t,t < i' -> K t = K' t /\ (F t).Same (F' t)) /\ Whole wr w.heap.size 30 (Vh.cells ⟨k,b,n,d,e,tk,td,tn,tz,x,ba,bn,bc,la,j,lc,fa,fn,fc,bb,bo,lb,lo,fb,fo⟩) /\ Whole wr (w.heap.size + 1) 30 (Vh.cells ⟨k,b,n,d,e,tk,td,tn,tz,x,ba',bn',bc',la',j,lc',fa',fn,fc',bb',bo',lb',lo',fb',fo'⟩) /\ Below w.heap.size w wr) (fun i _ => fn - (intOf i).toNat)
   case atStart => exact ⟨0,by omega,rfl,Lib.hid fun t h => absurd h (Nat.not_lt_zero _),P,Q,hbr⟩
   case round =>
    clear P Q hbr
    obtain ⟨i,hi,rfl,HI,P,Q,hbr⟩:=hrel
    have hii : (0 : Int) <= i:=by omega
    obtain ⟨-,-,-,-,-,-,-,-,-,-,-,-,p12⟩:=Whole.c13 P
    obtain ⟨-,-,-,-,-,-,-,-,-,-,-,-,q12⟩:=Whole.c13 Q
    by_cases hin : i < fn
    ·have hii2 : (i : Int) < fn:=by omega
     obtain ⟨e1,hlt⟩:=HFa.out (by omega)
     obtain ⟨e2,hlt'⟩:=HFb.out (by omega)
     obtain ⟨k0,k1,k2,k3⟩:=HT.out.2.2.2.2.2.2 i hin
     obtain ⟨k0',k1',k2',k3'⟩:=HU.out.2.2.2.2.2.2 i hin
     have hf:=(HT.out.2.2.2.2.2.1 (show 0 < fn by omega)).2
     have hf':=(HU.out.2.2.2.2.2.1 (show 0 < fn by omega)).2
     have hl:=k2.below (hbr.mono ht) hf
     have hl':=k2'.below (hbr.mono ht) hf'
     have z0:=((hbr.mono ht).cell (p:=⟨fb,fo + i * 14,none⟩) hf).trans k0
     have z0':=((hbr.mono ht).cell (p:=⟨fb',fo' + i * 14,none⟩) hf').trans k0'
     have hrec:=HF.out i (F' i) top wr.drew (Vt.In.below (hbr.drew.mono ht) k3) (Vt.In.below (hbr.drew.mono ht) k3') (Nat.le_trans ht hbr.size)
     dsimp only at hl hl' e1 e2 hf hf' z0 z0'
     rw [e1] at p12
     rw [e2] at q12
     have HS:=Lib.hid (HRk.out i hin)
     clear k0 k1 k2 k3 k0' k1' k2' k3' hf hf' e1 e2
     by_cases hK : K i = K' i
     ·have d1 : ((K i).toList == (K' i).toList) = true:=by rw [hK];exact beq_self_eq_true _
      have HK:=Lib.hid hK
      clear hK
      obtain ⟨l0,l1,l2,l3,l4,l5,l6,l7,l8,l9,l10,l11,l12⟩:=hl.c13
      obtain ⟨m0,m1,m2,m3,m4,m5,m6,m7,m8,m9,m10,m11,m12⟩:=hl'.c13
      clear hl hl'
      have HC:=Lib.hid hrec
      clear hrec
      obtain ⟨c,hc⟩ : ∃ c,sameB (F i) (F' i) = c:=⟨_,rfl⟩
      rw [hc] at HC
      have HCc:=Lib.hid hc
      clear hc
      generalize (F i).h = G at *
      generalize (F' i).h = G' at *
      generalize hy : K i = y at *
      generalize hy' : K' i = y' at *
      have Hy:=Lib.hid hy
      have Hy':=Lib.hid hy'
      clear hy hy'
      go_wp2_with fail
      go_still_tail 26,(by kernel_rfl)
      change wpList _ _ _ _ _ wr.drew
      have P2:=P.drew
      have Q2:=Q.drew
      have hb2:=hbr.drew
      clear l0 l1 l2 l3 l4 l5 l6 l7 l8 l9 l10 l11 l12 m0 m1 m2 m3 m4 m5 m6 m7 m8 m9 m10 m11 m12 p12 q12 P Q hbr z0 z0'
      generalize wr.drew = w2 at *
      cases c
      ·have hR : R = false:=HS.out fun q => sameB_no.1 HCc.out q.2
       subst hR
       go_wp2_with fail
       refine HC.out.mono ?_;rintro _ w3 ⟨rfl,hb3⟩
       clear HRl HRk HRt HS
       go_wp2
       go_ret
       exact ⟨rfl,below_then hb2 hb3⟩
      ·have HI2 : Hid (∀ t,t < i + 1 -> K t = K' t /\ (F t).Same (F' t)):=Lib.hid fun t ht => by
        by_cases q : t = i
        ·subst q;exact ⟨by rw [Hy.out,Hy'.out];exact HK.out,sameB_iff.1 HCc.out⟩
        ·exact HI.out t (by omega)
       go_wp2_with fail
       refine HC.out.mono ?_;rintro _ w3 ⟨rfl,hb3⟩
       have P3:=Whole.below P2 hb3 (Whole.lt P2)
       have Q3:=Whole.below Q2 hb3 (Whole.lt Q2)
       have hbr:=below_then hb2 hb3
       clear P2 Q2 hb2 hb3
       go_wp2
       go_roundw
       case rel => exact ⟨i + 1,by omega,by go_num,HI2,P3,Q3,hbr⟩
       case measure => simp [intOf];omega
     ·have d1 : ((K i).toList == (K' i).toList) = false:=beq_eq_false_iff_ne.2 fun q => hK (ba_eq q)
      have hR : R = false:=HS.out fun q => hK q.1
      subst hR
      clear hl hl' hrec HRl HRk HRt HS hK HT HU HF HI
      generalize K i = y at *
      generalize K' i = y' at *
      go_wp2_with fail
      go_quiet (fail)
      clear z0 z0' p12 q12 P Q
      go_wp2
      go_ret
      exact ⟨rfl,below_drewN hbr _⟩
    ·obtain rfl : i = fn:=by omega
     have hR : R = true:=HRt.out HJ.out HI.out
     subst hR
     clear hin HRl HRk HRt HJ HI HT HU HF P Q
     go_wp2
     go_ret
     exact ⟨rfl,hbr⟩
end Go.Proofs.YtpcbhneaaibfiaaDoor
