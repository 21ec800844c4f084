/- Laid together. -/
import Derived.Test.YtpcbhneaaibfiaaDoorPB05
import Derived.Test.YtpcbhneaaibfiaaDoorPB15
import Derived.Test.YtpcbhneaaibfiaaDoorPB04
import Derived.Test.YtpcbhneaaibfiaaDoorPB08
import Derived.Test.YtpcbhneaaibfiaaDoorPB07
import Derived.Test.YtpcbhneaaibfiaaDoorPB11
import Derived.Test.YtpcbhneaaibfiaaDoorPB01
set_option linter.unusedVariables false
set_option linter.unusedSimpArgs false
set_option maxHeartbeats 16000000
set_option maxRecDepth 100000
namespace Go.Proofs.YtpcbhneaaibfiaaDoor
open Go.RowKit
theorem vt_k {T : Vt} {W : World} {top : Nat} (h : T.In W top) : w64 T.h.k:=by
 cases T with
 | nil => exact absurd h id
 | mk h' Y L K F => exact h.1.k
noncomputable def shapeE (x : Ev) : Int :=
 if decide (x.k < 1) = true ∨ decide (6 < x.k) = true ∨ ((x.k == 6) = false /\ (x.key.toList == []) = false) ∨ ((x.k == 1) = false /\ x.V.h.plain = false) then 6
 else if (x.k == 1) = true then (if x.V.h.k < 0 ∨ 6 <= x.V.h.k then 6 else (x.V.look 1 0).2)
 else if utfB x.key = false then 5 else if 1024 < x.key.size then 10 else 0
theorem shape_any {x : Ev} {top : Nat} {w : World} (hx : x.ok) (hV : x.V.In w top) (ht : top <= w.heap.size) :
 Calls Tryd.prog 46 #[.agg x.cells] w fun r w' => r = .returned (.int .i64 (shapeE x)) /\ Below w.heap.size w w':=by
 have hb0:=(Below.refl w.heap.size w).alloc (Nat.le_refl _) (.cells x.cells 57)
 have P:=Whole.new w 57 x.cells
 have hkV : w64 x.V.h.k:=vt_k hV
 have HPl:=Lib.hid (plain_any x.V.h hkV (w.alloc (.cells x.cells 57)))
 have HCk:=Lib.hid (fun (w1 : World) (hb : Below w.heap.size w w1) => vcheck_any (T:=x.V) (top:=top) (w:=w1) (Vt.In.below (hb.mono ht) hV) (Nat.le_trans ht hb.size))
 have HUt:=Lib.hid (fun (w1 : World) => putf_any (s:=x.key) hx.key w1)
 have hkk:=hx.k
 have hks:=hx.key
 obtain ⟨k,key,V⟩:=x
 dsimp only at HPl HCk HUt hkV hkk hks
 obtain ⟨R,hR⟩ : ∃ R,shapeE ⟨k,key,V⟩ = R:=⟨_,rfl⟩
 have HR:=hR
 rw [hR]
 unfold shapeE at HR
 dsimp only at HR
 obtain ⟨pl,hpl⟩ : ∃ c,V.h.plain = c:=⟨_,rfl⟩
 obtain ⟨lk,hlk⟩ : ∃ c,(V.look 1 0).2 = c:=⟨_,rfl⟩
 obtain ⟨ut,hut⟩ : ∃ c,utfB key = c:=⟨_,rfl⟩
 rw [hpl,hlk,hut] at HR
 rw [hpl] at HPl
 rw [hlk] at HCk
 rw [hut] at HUt
 obtain ⟨⟨K,b',n',dd,e,tk,td,tn,tz,X,ba,bn,bc,la,ln,lc,fa,fn,fc,bb,bo,lb,lo,fb,fo⟩,hvh⟩ : ∃ g,V.h = g:=⟨_,rfl⟩
 simp only [Ev.cells,hvh] at hb0 P HPl ⊢
 rw [hvh] at HR hkV
 simp only [hvh] at HCk
 obtain ⟨c0,c1,c2,c3,c4,c5,c6,c7,c8,c9,c10,c11,c12,c13,c14⟩:=Whole.e15 P
 clear hR hpl hlk hut hV hx hvh
 simp only [Vh.cells,evc] at hb0 P HPl HCk HUt c0 c1 c2 c3 c4 c5 c6 c7 c8 c9 c10 c11 c12 c13 c14 ⊢
 by_cases a : k < 1
 ·obtain rfl : 6 = R:=by rw [<- HR];rw [if_pos (.inl (decide_eq_true a))]
  have a1 : decide (k < 1) = true:=decide_eq_true a
  clear P HPl HCk HUt HR
  go_enter Tryd.func46,Tryd.ntmps46
  go_wp2
  go_ret
  exact ⟨rfl,hb0⟩
 ·by_cases b : 6 < k
  ·obtain rfl : 6 = R:=by rw [<- HR];rw [if_pos (.inr (.inl (decide_eq_true b)))]
   have a1 : decide (k < 1) = false:=decide_eq_false a
   have b1 : decide (6 < k) = true:=decide_eq_true b
   clear P HPl HCk HUt HR
   go_enter Tryd.func46,Tryd.ntmps46
   go_wp2
   go_ret
   exact ⟨rfl,hb0⟩
  ·by_cases s : k = 6
   ·subst s
    have o : ¬ ((6 : Int) = 1):=by decide
    cases pl
    ·obtain rfl : 6 = R:=by rw [<- HR];rw [if_pos (.inr (.inr (.inr ⟨beq_eq_false_iff_ne.2 o,rfl⟩)))]
     go_enter Tryd.func46,Tryd.ntmps46
     go_wp2_with fail
     refine HPl.out.mono ?_;rintro _ w1 ⟨rfl,hq⟩
     have hb1:=below_then hb0 hq
     have P1:=Whole.below P hq P.lt
     have d0:=Whole.cell P1 0
     have d1:=Whole.cell P1 1
     simp only [List.getElem?_toArray,List.getElem?_cons_succ,List.getElem?_cons_zero] at d0 d1
     clear hq hb0 P HPl c0 c1 c2 c3 c4 c5 c6 c7 c8 c9 c10 c11 c12 c13 c14
     clear HR HCk HUt
     go_wp2
     go_ret
     exact ⟨rfl,hb1⟩
    ·rw [if_neg (by rintro (z | z | ⟨z,-⟩ | ⟨-,z⟩) <;> simp_all),if_neg (fun e => o (beq_iff_eq.1 e))] at HR
     cases ut
     ·obtain rfl : 5 = R:=by rw [<- HR];rfl
      go_enter Tryd.func46,Tryd.ntmps46
      go_wp2_with fail
      refine HPl.out.mono ?_;rintro _ w1 ⟨rfl,hq⟩
      have hb1:=below_then hb0 hq
      have P1:=Whole.below P hq P.lt
      have d0:=Whole.cell P1 0
      have d1:=Whole.cell P1 1
      simp only [List.getElem?_toArray,List.getElem?_cons_succ,List.getElem?_cons_zero] at d0 d1
      clear hq hb0 P HPl c0 c1 c2 c3 c4 c5 c6 c7 c8 c9 c10 c11 c12 c13 c14
      go_wp2_with fail
      refine (HUt.out _).mono ?_;rintro _ w2 ⟨rfl,rfl⟩
      clear HR HCk HUt
      go_wp2
      go_ret
      exact ⟨rfl,hb1⟩
     ·by_cases z : 1024 < key.size
      ·obtain rfl : 10 = R:=by rw [<- HR,if_neg (by decide),if_pos z]
       have z1 : decide ((1024 : Int) < key.size) = true:=decide_eq_true (by omega)
       go_enter Tryd.func46,Tryd.ntmps46
       go_wp2_with fail
       refine HPl.out.mono ?_;rintro _ w1 ⟨rfl,hq⟩
       have hb1:=below_then hb0 hq
       have P1:=Whole.below P hq P.lt
       have d0:=Whole.cell P1 0
       have d1:=Whole.cell P1 1
       simp only [List.getElem?_toArray,List.getElem?_cons_succ,List.getElem?_cons_zero] at d0 d1
       clear hq hb0 P HPl c0 c1 c2 c3 c4 c5 c6 c7 c8 c9 c10 c11 c12 c13 c14
       go_wp2_with fail
       refine (HUt.out _).mono ?_;rintro _ w2 ⟨rfl,rfl⟩
       clear HR HCk HUt
       go_wp2
       go_ret
       exact ⟨rfl,hb1⟩
      ·obtain rfl : 0 = R:=by rw [<- HR,if_neg (by decide),if_neg z]
       have z1 : decide ((1024 : Int) < key.size) = false:=decide_eq_false (by omega)
       go_enter Tryd.func46,Tryd.ntmps46
       go_wp2_with fail
       refine HPl.out.mono ?_;rintro _ w1 ⟨rfl,hq⟩
       have hb1:=below_then hb0 hq
       have P1:=Whole.below P hq P.lt
       have d0:=Whole.cell P1 0
       have d1:=Whole.cell P1 1
       simp only [List.getElem?_toArray,List.getElem?_cons_succ,List.getElem?_cons_zero] at d0 d1
       clear hq hb0 P HPl c0 c1 c2 c3 c4 c5 c6 c7 c8 c9 c10 c11 c12 c13 c14
       go_wp2_with fail
       refine (HUt.out _).mono ?_;rintro _ w2 ⟨rfl,rfl⟩
       clear HR HCk HUt
       go_wp2
       go_ret
       exact ⟨rfl,hb1⟩
   ·by_cases q : key.toList = []
    ·have a1 : decide (k < 1) = false:=decide_eq_false a
     have b1 : decide (6 < k) = false:=decide_eq_false b
     have s1 : (k == 6) = false:=beq_eq_false_iff_ne.2 s
     have s2 : (k != 6) = true:=bne_iff_ne.2 s
     have q1 : (key.toList == ([] : List UInt8)) = true:=beq_iff_eq.2 q
     have q2 : (key.toList != ([] : List UInt8)) = false:=by rw [bne,q1];rfl
     by_cases o : k = 1
     ·clear s1 s2 s
      subst o
      have HR1 : (if K < 0 ∨ 6 <= K then 6 else lk) = R:=by
       rw [if_neg (by rintro (z | z | ⟨-,z⟩ | ⟨z,-⟩) <;> simp_all),if_pos (by decide)] at HR
       exact HR
      clear HR HUt HPl
      by_cases v : K < 0
      ·obtain rfl : 6 = R:=by rw [<- HR1,if_pos (.inl v)]
       have v1 : decide (K < 0) = true:=decide_eq_true v
       clear HCk HR1 P
       go_enter Tryd.func46,Tryd.ntmps46
       go_wp2
       go_ret
       exact ⟨rfl,hb0⟩
      ·by_cases u : 6 <= K
       ·obtain rfl : 6 = R:=by rw [<- HR1,if_pos (.inr u)]
        have v1 : decide (K < 0) = false:=decide_eq_false v
        have u1 : decide (6 <= K) = true:=decide_eq_true u
        clear HCk HR1 P
        go_enter Tryd.func46,Tryd.ntmps46
        go_wp2
        go_ret
        exact ⟨rfl,hb0⟩
       ·obtain rfl : lk = R:=by rw [<- HR1,if_neg (by omega)]
        have v1 : decide (K < 0) = false:=decide_eq_false v
        have u1 : decide (6 <= K) = false:=decide_eq_false u
        clear HR1 P
        go_enter Tryd.func46,Tryd.ntmps46
        go_wp2_with fail
        refine (HCk.out _ hb0).mono ?_;rintro _ w1 ⟨rfl,hq⟩
        have hb1:=below_then hb0 hq
        clear HCk hq hb0 c0 c1 c2 c3 c4 c5 c6 c7 c8 c9 c10 c11 c12 c13 c14
        go_wp2
        go_ret
        exact ⟨rfl,hb1⟩
     ·have o1 : (k == 1) = false:=beq_eq_false_iff_ne.2 o
      have o2 : (k != 1) = true:=bne_iff_ne.2 o
      cases pl
      ·obtain rfl : 6 = R:=by rw [<- HR];rw [if_pos (.inr (.inr (.inr ⟨beq_eq_false_iff_ne.2 o,rfl⟩)))]
       go_enter Tryd.func46,Tryd.ntmps46
       go_wp2_with fail
       refine HPl.out.mono ?_;rintro _ w1 ⟨rfl,hq⟩
       have hb1:=below_then hb0 hq
       have P1:=Whole.below P hq P.lt
       have d0:=Whole.cell P1 0
       have d1:=Whole.cell P1 1
       simp only [List.getElem?_toArray,List.getElem?_cons_succ,List.getElem?_cons_zero] at d0 d1
       clear hq hb0 P HPl c0 c1 c2 c3 c4 c5 c6 c7 c8 c9 c10 c11 c12 c13 c14
       clear HR HCk HUt
       go_wp2
       go_ret
       exact ⟨rfl,hb1⟩
      ·rw [if_neg (by rintro (z | z | ⟨-,z⟩ | ⟨-,z⟩) <;> simp_all),if_neg (fun e => o (beq_iff_eq.1 e))] at HR
       cases ut
       ·obtain rfl : 5 = R:=by rw [<- HR];rfl
        go_enter Tryd.func46,Tryd.ntmps46
        go_wp2_with fail
        refine HPl.out.mono ?_;rintro _ w1 ⟨rfl,hq⟩
        have hb1:=below_then hb0 hq
        have P1:=Whole.below P hq P.lt
        have d0:=Whole.cell P1 0
        have d1:=Whole.cell P1 1
        simp only [List.getElem?_toArray,List.getElem?_cons_succ,List.getElem?_cons_zero] at d0 d1
        clear hq hb0 P HPl c0 c1 c2 c3 c4 c5 c6 c7 c8 c9 c10 c11 c12 c13 c14
        go_wp2_with fail
        refine (HUt.out _).mono ?_;rintro _ w2 ⟨rfl,rfl⟩
        clear HR HCk HUt
        go_wp2
        go_ret
        exact ⟨rfl,hb1⟩
       ·by_cases z : 1024 < key.size
        ·obtain rfl : 10 = R:=by rw [<- HR,if_neg (by decide),if_pos z]
         have z1 : decide ((1024 : Int) < key.size) = true:=decide_eq_true (by omega)
         go_enter Tryd.func46,Tryd.ntmps46
         go_wp2_with fail
         refine HPl.out.mono ?_;rintro _ w1 ⟨rfl,hq⟩
         have hb1:=below_then hb0 hq
         have P1:=Whole.below P hq P.lt
         have d0:=Whole.cell P1 0
         have d1:=Whole.cell P1 1
         simp only [List.getElem?_toArray,List.getElem?_cons_succ,List.getElem?_cons_zero] at d0 d1
         clear hq hb0 P HPl c0 c1 c2 c3 c4 c5 c6 c7 c8 c9 c10 c11 c12 c13 c14
         go_wp2_with fail
         refine (HUt.out _).mono ?_;rintro _ w2 ⟨rfl,rfl⟩
         clear HR HCk HUt
         go_wp2
         go_ret
         exact ⟨rfl,hb1⟩
        ·obtain rfl : 0 = R:=by rw [<- HR,if_neg (by decide),if_neg z]
         have z1 : decide ((1024 : Int) < key.size) = false:=decide_eq_false (by omega)
         go_enter Tryd.func46,Tryd.ntmps46
         go_wp2_with fail
         refine HPl.out.mono ?_;rintro _ w1 ⟨rfl,hq⟩
         have hb1:=below_then hb0 hq
         have P1:=Whole.below P hq P.lt
         have d0:=Whole.cell P1 0
         have d1:=Whole.cell P1 1
         simp only [List.getElem?_toArray,List.getElem?_cons_succ,List.getElem?_cons_zero] at d0 d1
         clear hq hb0 P HPl c0 c1 c2 c3 c4 c5 c6 c7 c8 c9 c10 c11 c12 c13 c14
         go_wp2_with fail
         refine (HUt.out _).mono ?_;rintro _ w2 ⟨rfl,rfl⟩
         clear HR HCk HUt
         go_wp2
         go_ret
         exact ⟨rfl,hb1⟩
    ·obtain rfl : 6 = R:=by rw [<- HR];rw [if_pos (.inr (.inr (.inl ⟨beq_eq_false_iff_ne.2 s,beq_eq_false_iff_ne.2 q⟩)))]
     have a1 : decide (k < 1) = false:=decide_eq_false a
     have b1 : decide (6 < k) = false:=decide_eq_false b
     have s1 : (k == 6) = false:=beq_eq_false_iff_ne.2 s
     have s2 : (k != 6) = true:=bne_iff_ne.2 s
     have q1 : (key.toList == ([] : List UInt8)) = false:=beq_eq_false_iff_ne.2 q
     have q2 : (key.toList != ([] : List UInt8)) = true:=bne_iff_ne.2 q
     clear P HPl HCk HUt HR
     go_enter Tryd.func46,Tryd.ntmps46
     go_wp2
     go_ret
     exact ⟨rfl,hb0⟩
noncomputable def hasF (h : Vh) (K : Nat -> ByteArray) (key : ByteArray) : Bool:=(h.k == 7) && decide (fidx K key h.fn < h.fn)
theorem field_any {T : Vt} {top : Nat} {key : ByteArray} {w : World} (hT : T.In w top) (ht : top <= w.heap.size) (hu : ∀ j,j < T.h.fn -> (T.F j).upto 65536) :
 Calls Tryd.prog 63 #[.agg T.h.cells,.string key] w fun r w' => (∃ X : Vt,r = .returned (.tuple #[.agg X.h.cells,.bool (hasF T.h T.K key)])) /\ Below w.heap.size w w':=by
 cases T with
 | nil => exact hT.elim
 | mk h Y L K F =>
 have hb0:=((Below.refl w.heap.size w).alloc (Nat.le_refl _) (.cells h.cells 30)).alloc (by simp) (.cells Vh.zero.cells 30)
 have P:=(Whole.new w 30 h.cells).alloc (.cells Vh.zero.cells 30)
 have Q:=Whole.new (w.alloc (.cells h.cells 30)) 30 Vh.zero.cells
 rw [World.size_alloc] at Q
 have hfn:=hT.1.fn
 have HFa : Hid (0 < h.fn -> h.fa = some ⟨h.fb,h.fo,none⟩ /\ h.fb < w.heap.size):=Lib.hid fun hp => ⟨(hT.2.2.2.2.2.1 hp).1,Nat.lt_of_lt_of_le (hT.2.2.2.2.2.1 hp).2 ht⟩
 have HT:=Lib.hid hT.2.2.2.2.2.2
 have HC:=Lib.hid (fun j (hj : j < h.fn) (w1 : World) (hb : Below w.heap.size w w1) => copied_any (F j) 65536 65536 top w1 rfl (Vt.In.below (hb.mono ht) (hT.2.2.2.2.2.2 j hj).2.2.2) (Nat.le_trans ht hb.size) (hu j hj) (Nat.le_refl _))
 clear hT hu
 obtain ⟨R,hR⟩ : ∃ R,hasF h K key = R:=⟨_,rfl⟩
 simp only [Vt.h,Vt.K]
 rw [hR]
 unfold hasF at hR
 obtain ⟨k,b,n,dd,e,tk,td,tn,tz,x,ba,bn,bc,la,ln,lc,fa,fn,fc,bb,bo,lb,lo,fb,fo⟩:=h
 dsimp only at HFa HT hfn hR HC
 obtain ⟨k7,hk7⟩ : ∃ c,(k == 7) = c:=⟨_,rfl⟩
 rw [hk7] at hR
 have HR:=Lib.hid hR
 clear hR
 simp only [Vh.cells,Vh.zero] at hb0 P Q ⊢
 have n2 : (0 : Int) <= fn:=by omega
 have n3 : (fn : Int) <= 1048576:=by omega
 obtain ⟨-,-,-,-,-,-,-,-,-,-,-,-,c12⟩:=Whole.c13 (h:=⟨k,b,n,dd,e,tk,td,tn,tz,x,ba,bn,bc,la,ln,lc,fa,fn,fc,bb,bo,lb,lo,fb,fo⟩) P
 simp only [] at c12
 go_enter Tryd.func63,Tryd.ntmps63
 go_wp2_with fail
 -- loop
 go_loopw [11] (fun i wr => ∃ j : Nat,j <= fn /\ i = .int .i64 j /\ Hid (k7 = true -> ∀ t,t < j -> K t ≠ key) /\ Whole wr w.heap.size 30 #[.int .i64 k,.bool b,.bool n,.string dd,.int .i64 e,.int .i64 tk,.int .i64 td,.int .i64 tn,.int .i64 tz,.string x,.slice ba bn bc,.slice la ln lc,.slice fa fn fc] /\ Whole wr (w.heap.size + 1) 30 #[.int .i64 0,.bool false,.bool false,.string ⟨#[]⟩,.int .i64 0,.int .i64 0,.int .i64 0,.int .i64 0,.int .i64 0,.string ⟨#[]⟩,.slice none 0 0,.slice none 0 0,.slice none 0 0] /\ Below w.heap.size w wr) (fun i _ => fn - (intOf i).toNat)
 case atStart => exact ⟨0,by omega,rfl,Lib.hid fun _ t h => absurd h (Nat.not_lt_zero _),P,Q,hb0⟩
 case round =>
  clear hb0 P Q c12
  obtain ⟨j,hj,rfl,HJ,P,Q,hbr⟩:=hrel
  have hji : (0 : Int) <= j:=by omega
  by_cases hjn : j < fn
  ·obtain ⟨e1,hlt⟩:=HFa.out (by omega)
   subst e1
   have hji2 : (j : Int) < fn:=by omega
   obtain ⟨k0,k1,k2,k3⟩:=HT.out j hjn
   have hl:=lies_c14 (lies_fcs ((hbr.cell (p:=⟨fb,fo + j * 14,none⟩) hlt).trans k0) (k2.below hbr hlt))
   obtain ⟨l0,l1,l2,l3,l4,l5,l6,l7,l8,l9,l10,l11,l12,l13⟩:=hl
   clear k0 k1 k2 k3
   have HCj:=Lib.hid (HC.out j hjn)
   obtain ⟨y,hy⟩ : ∃ y,K j = y:=⟨_,rfl⟩
   rw [hy] at l0
   generalize F j = U at *
   have hpw:=P.lt
   have hqw:=Q.lt
   obtain ⟨G,hG⟩ : ∃ G,U.h = G:=⟨_,rfl⟩
   rw [hG] at l1 l2 l3 l4 l5 l6 l7 l8 l9 l10 l11 l12 l13 HCj
   simp only [Vh.cells] at HCj
   clear HC
   have N2:=Whole.new wr 76 #[.string y,.int .i64 G.k,.bool G.b,.bool G.n,.string G.d,.int .i64 G.e,.int .i64 G.tk,.int .i64 G.td,.int .i64 G.tn,.int .i64 G.tz,.string G.x,.slice G.ba G.bn G.bc,.slice G.la G.ln G.lc,.slice G.fa G.fn G.fc]
   have g2:=hbr.alloc hbr.size (.cells #[.string y,.int .i64 G.k,.bool G.b,.bool G.n,.string G.d,.int .i64 G.e,.int .i64 G.tk,.int .i64 G.td,.int .i64 G.tn,.int .i64 G.tz,.string G.x,.slice G.ba G.bn G.bc,.slice G.la G.ln G.lc,.slice G.fa G.fn G.fc] 76)
   have P2:=P.alloc (.cells #[.string y,.int .i64 G.k,.bool G.b,.bool G.n,.string G.d,.int .i64 G.e,.int .i64 G.tk,.int .i64 G.td,.int .i64 G.tn,.int .i64 G.tz,.string G.x,.slice G.ba G.bn G.bc,.slice G.la G.ln G.lc,.slice G.fa G.fn G.fc] 76)
   have Q2:=Q.alloc (.cells #[.string y,.int .i64 G.k,.bool G.b,.bool G.n,.string G.d,.int .i64 G.e,.int .i64 G.tk,.int .i64 G.td,.int .i64 G.tn,.int .i64 G.tz,.string G.x,.slice G.ba G.bn G.bc,.slice G.la G.ln G.lc,.slice G.fa G.fn G.fc] 76)
   clear P Q hbr
   have p0:=Whole.cell P2 0
   have n0:=Whole.cell N2 0
   simp only [List.getElem?_toArray,List.getElem?_cons_succ,List.getElem?_cons_zero] at p0 n0
   cases k7
   ·have HJ2 : Hid (false = true -> ∀ t,t < j + 1 -> K t ≠ key):=Lib.hid fun q => by cases q
    clear HJ HCj
    go_wp2_with fail
    go_roundw
    case rel => exact ⟨j + 1,by omega,by go_num,HJ2,P2,Q2,g2⟩
    case measure => simp [intOf];omega
   ·by_cases c : y = key
    ·have hR : R = true:=by
      rw [<- HR.out,fidx_first (HJ.out rfl) (hy.trans c) hjn]
      exact decide_eq_true hjn
     subst hR
     have d1 : (y.toList == key.toList) = true:=by rw [c];exact beq_self_eq_true _
     have f0:=Whole.cell N2 1
     have f1:=Whole.cell N2 2
     have f2:=Whole.cell N2 3
     have f3:=Whole.cell N2 4
     have f4:=Whole.cell N2 5
     have f5:=Whole.cell N2 6
     have f6:=Whole.cell N2 7
     have f7:=Whole.cell N2 8
     have f8:=Whole.cell N2 9
     have f9:=Whole.cell N2 10
     have f10:=Whole.cell N2 11
     have f11:=Whole.cell N2 12
     have f12:=Whole.cell N2 13
     simp only [List.getElem?_toArray,List.getElem?_cons_succ,List.getElem?_cons_zero] at f0 f1 f2 f3 f4 f5 f6 f7 f8 f9 f10 f11 f12
     clear HR HJ c
     go_wp2_with fail
     refine (HCj.out _ g2).mono ?_;rintro _ w3 ⟨X,rfl,hX,hXo,hXs,hb3⟩
     have Q3:=Q2.below hb3 Q2.lt
     have g3:=below_then g2 hb3
     have hone:=Lib.hid (vh_all X.h)
     clear HCj hX hXo hXs hb3 f0 f1 f2 f3 f4 f5 f6 f7 f8 f9 f10 f11 f12 p0 n0 N2 P2 Q2 g2
     go_wp2_with (refine wpList_store_row rfl 30 _ _ rfl (w.heap.size + 1) X.h.cells rfl rfl 30 _ Q3 vh_row rfl hone.out ?_)
     exact bodyPost_ret (v:=.tuple #[.agg X.h.cells,.bool true]) (ret_val2 (p:=4) (q:=5) rfl rfl (Whole.setRow Q3 X.h.cells)) rfl ⟨⟨X,rfl⟩,below_setRow g3 (by omega) _⟩
    ·have d1 : (y.toList == key.toList) = false:=beq_eq_false_iff_ne.2 fun q => c (ba_eq q)
     have HJ2 : Hid (true = true -> ∀ t,t < j + 1 -> K t ≠ key):=Lib.hid fun q t ht => by
      by_cases z : t = j
      ·subst z;rw [hy];exact c
      ·exact HJ.out q t (by omega)
     clear HJ c HCj
     go_wp2_with fail
     go_roundw
     case rel => exact ⟨j + 1,by omega,by go_num,Lib.hid (fun _ => HJ2.out rfl),P2,Q2,g2⟩
     case measure => simp [intOf];omega
  ·obtain rfl : j = fn:=by omega
   have hR : R = false:=by
    rw [<- HR.out]
    cases k7
    ·rfl
    ·rw [fidx_none (HJ.out rfl)];exact decide_eq_false (Nat.lt_irrefl _)
   subst hR
   clear HR HJ HT hjn HC
   have hone:=Lib.hid (vh_all Vh.zero)
   go_wp2_with (refine wpList_store_row rfl 30 _ _ rfl (w.heap.size + 1) Vh.zero.cells rfl rfl 30 _ Q vh_row rfl hone.out ?_)
   exact bodyPost_ret (v:=.tuple #[.agg Vh.zero.cells,.bool false]) (ret_val2 (p:=4) (q:=5) rfl rfl (Whole.setRow Q Vh.zero.cells)) rfl ⟨⟨Vt.z,rfl⟩,below_setRow hbr (by omega) _⟩
noncomputable def followE (s : Bst) (x : Ev) : Int :=
 if s.dn = true then 29
 else if s.d = 0 then (if x.k = 6 ∨ x.k = 3 ∨ x.k = 5 then 29 else 0)
 else if x.k = 6 then (if (s.fr (s.d - 1)).mp = false ∨ (s.fr (s.d - 1)).kd = true then 29 else if fidx (s.fr (s.d - 1)).K x.key (s.fr (s.d - 1)).n < (s.fr (s.d - 1)).n then 8 else 0)
 else if x.k = 3 then (if (s.fr (s.d - 1)).mp = true then 29 else 0)
 else if x.k = 5 then (if (s.fr (s.d - 1)).mp = false ∨ (s.fr (s.d - 1)).kd = true then 29 else 0)
 else (if (s.fr (s.d - 1)).mp = true /\ (s.fr (s.d - 1)).kd = false then 29 else 0)
theorem fidx_congr {K K' : Nat -> ByteArray} {key : ByteArray} : ∀ {n : Nat},(∀ j,j < n -> K j = K' j) -> fidx K key n = fidx K' key n:=by
 intro n
 induction n with
 | zero => intro _;rfl
 | succ n ih =>
  intro h
  have e:=ih (fun j hj => h j (by omega))
  by_cases c : fidx K' key n < n
  ·simp only [fidx,e,h n (by omega)]
  ·simp only [fidx,e,h n (by omega)]
theorem frV_h {f : Fr} {Y : Vt} (h : Y.Same (frV f)) (hm : f.mp = true) : Y.h.k = 7 /\ Y.h.fn = f.n /\ (∀ j,j < f.n -> Y.K j = f.K j /\ (Y.F j).Same (f.M j)):=by
 unfold frV at h
 rw [if_pos hm] at h
 cases Y with
 | nil => exact absurd h id
 | mk g Yy L K F =>
  obtain ⟨_,⟨e1,_,_,_,_,_,_,_,_,_,_,_,e13⟩,_,_,hf⟩:=h
  exact ⟨e1,e13,fun j hj => hf j (by rw [e13];exact hj)⟩
theorem Vt.upto_sameE : ∀ {X U : Vt} {d : Nat},X.Same U -> U.upto d -> X.upto d:=by
 intro X
 induction X with
 | nil => intro U d h;exact h.elim
 | mk h Y L K F ihL ihF =>
  intro U d hs hu
  cases U with
  | nil => exact absurd rfl hs.1
  | mk h' Y' L' K' F' =>
   obtain ⟨_,hf,_,hl,hk⟩:=hs
   have e1 : h.ln = h'.ln:=hf.ln
   have e2 : h.fn = h'.fn:=hf.fn
   exact ⟨hu.1,fun i hi => ihL i (hl i hi) (hu.2.1 i (by omega)),fun i hi => ihF i (hk i hi).2 (hu.2.2 i (by omega))⟩
end Go.Proofs.YtpcbhneaaibfiaaDoor
namespace Go.Proofs.YtpcbhneaaibfiaaDoor
theorem keyE_congr {K K' : Nat -> ByteArray} {i : Nat} (h : ∀ j,j <= i -> K j = K' j) : keyE K i = keyE K' i:=by
 unfold keyE
 have e : (∃ k,k < i /\ K k = K i) ↔ (∃ k,k < i /\ K' k = K' i):=by
  constructor
  ·rintro ⟨k,h1,h2⟩;exact ⟨k,h1,by rw [<- h k (by omega),<- h i (Nat.le_refl _)];exact h2⟩
  ·rintro ⟨k,h1,h2⟩;exact ⟨k,h1,by rw [h k (by omega),h i (Nat.le_refl _)];exact h2⟩
 rw [h i (Nat.le_refl _)] at e ⊢
 by_cases c : ∃ k,k < i /\ K k = K' i
 ·simp only [if_pos c,if_pos (e.1 c)]
 ·simp only [if_neg c,if_neg (fun q => c (e.2 q))]
theorem keysE_congr {K K' : Nat -> ByteArray} : ∀ {n : Nat},(∀ i,i < n -> K i = K' i) -> keysE K n = keysE K' n:=by
 intro n
 induction n with
 | zero => intro _;rfl
 | succ n ih =>
  intro h
  have e1:=ih (fun i hi => h i (by omega))
  have e2:=keyE_congr (K:=K) (K':=K') (i:=n) (fun j hj => h j (by omega))
  show (if keysE K n ≠ 0 then keysE K n else keyE K n) = (if keysE K' n ≠ 0 then keysE K' n else keyE K' n)
  rw [e1,e2]
theorem foldE_congr {f g : Nat -> Int -> Int × Int} {s : Int} : ∀ {n : Nat},(∀ i,i < n -> ∀ t,f i t = g i t) -> foldE f n s = foldE g n s:=by
 intro n
 induction n with
 | zero => intro _;rfl
 | succ n ih =>
  intro h
  have e1:=ih (fun i hi => h i (by omega))
  show (if (foldE f n s).2 ≠ 0 then foldE f n s else f n (foldE f n s).1) = (if (foldE g n s).2 ≠ 0 then foldE g n s else g n (foldE g n s).1)
  rw [e1,h n (Nat.lt_succ_self n)]
theorem look_same : ∀ {T U : Vt} {d s : Int},T.Same U -> T.look d s = U.look d s:=by
 intro T
 induction T with
 | nil => intro U d s h;exact h.elim
 | mk h Y L K F ihL ihF =>
  intro U d s hS
  cases U with
  | nil => exact absurd rfl hS.right
  | mk g Y' L' K' F' =>
   obtain ⟨-,hf,-,hL,hF⟩:=hS
   replace hf : h.flat g:=hf
   have q1 : h.k = g.k:=hf.1
   have q12 : h.ln = g.ln:=hf.ln
   have q13 : h.fn = g.fn:=hf.fn
   have e1 : oneE (.mk h Y L K F) = oneE (.mk g Y' L' K' F'):=by
    have hk : keysE K h.fn = keysE K' g.fn:=by rw [<- q13];exact keysE_congr (fun i hi => (hF i hi).1)
    have ho : h.own = g.own:=by unfold Vh.own Vh.nz Vh.tz0;rw [hf.k,hf.b,hf.n,hf.d,hf.e,hf.tk,hf.td,hf.tn,hf.tz,hf.x,hf.bn,hf.ln,hf.fn]
    unfold oneE
    show (if h.own = false then (6 : Int) else if ¬ Dec.vd h.n h.d h.e ∨ (h.k = 3 /\ ¬ Mom.Ok h.tk h.td h.tn h.tz) then 2 else if utfB h.x = false then 5 else if 65536 < h.x.size ∨ 65536 < h.bn then 10 else keysE K h.fn) =
     (if g.own = false then (6 : Int) else if ¬ Dec.vd g.n g.d g.e ∨ (g.k = 3 /\ ¬ Mom.Ok g.tk g.td g.tn g.tz) then 2 else if utfB g.x = false then 5 else if 65536 < g.x.size ∨ 65536 < g.bn then 10 else keysE K' g.fn)
    simp only [hk,ho,hf.k,hf.n,hf.d,hf.e,hf.tk,hf.td,hf.tn,hf.tz,hf.x,hf.bn]
   unfold Vt.look
   rw [e1,q1]
   have e2 : foldE (fun i t => (F i).look (d + 1) t) h.fn (s + 1) = foldE (fun i t => (F' i).look (d + 1) t) g.fn (s + 1):=by
    rw [<- q13];exact foldE_congr (fun i hi t => ihF i (hF i hi).2)
   have e3 : foldE (fun i t => (L i).look (d + 1) t) h.ln (s + 1) = foldE (fun i t => (L' i).look (d + 1) t) g.ln (s + 1):=by
    rw [<- q12];exact foldE_congr (fun i hi t => ihL i (hL i hi))
   rw [e2,e3]
end Go.Proofs.YtpcbhneaaibfiaaDoor
namespace Go.Proofs.YtpcbhneaaibfiaaDoor
open Go.RowKit
def Bst.zero : Bst:=⟨0,fun _ => default,false,.nil,0,false⟩
def begE (x : Ev) : Prop:=x.k = 1 ∨ x.k = 2 ∨ x.k = 4
instance (x : Ev) : Decidable (begE x):=by unfold begE;exact inferInstance
noncomputable def addE (s : Bst) (x : Ev) : Int :=
 if s.bad = true then 29
 else if shapeE x ≠ 0 then shapeE x
 else if followE s x ≠ 0 then followE s x
 else if begE x /\ 48 <= s.d then 9
 else if begE x /\ 65536 <= s.nd then 10
 else 0
def fr0 (mp : Bool) : Fr:=⟨mp,0,fun _ => ⟨#[]⟩,fun _ => .nil,⟨#[]⟩,false⟩
def pushS (s : Bst) (mp : Bool) : Bst:={ s with d:=s.d + 1,fr:=upd s.fr s.d (fr0 mp) }
def keyF (f : Fr) (key : ByteArray) : Fr:=⟨f.mp,f.n,f.K,f.M,key,true⟩
def keyS (s : Bst) (key : ByteArray) : Bst:={ s with fr:=upd s.fr (s.d - 1) (keyF (s.fr (s.d - 1)) key) }
def popS (s : Bst) : Bst:=putS { s with d:=s.d - 1 } (frV (s.fr (s.d - 1)))
def stepS (s : Bst) (x : Ev) : Bst :=
 if x.k = 1 then putS { s with nd:=s.nd + 1 } x.V
 else if x.k = 6 then keyS s x.key
 else if x.k = 2 then pushS { s with nd:=s.nd + 1 } false
 else if x.k = 4 then pushS { s with nd:=s.nd + 1 } true
 else popS s
noncomputable def addS (s : Bst) (x : Ev) : Bst :=
 if s.bad = true then s else if addE s x = 0 then stepS s x else { s with bad:=true }
theorem addE_ok {s : Bst} {x : Ev} (h : addE s x = 0) : s.bad = false /\ shapeE x = 0 /\ followE s x = 0 /\ (begE x -> s.d < 48 /\ s.nd < 65536):=by
 unfold addE at h
 split at h
 ·omega
 rename_i h1
 split at h
 ·rename_i q;exact absurd h q
 rename_i h2
 split at h
 ·rename_i q;exact absurd h q
 rename_i h3
 split at h
 ·omega
 rename_i h4
 split at h
 ·omega
 rename_i h5
 exact ⟨by simpa using h1,Classical.byContradiction h2,Classical.byContradiction h3,fun hb => ⟨by
  by_cases q : 48 <= s.d
  ·exact absurd ⟨hb,q⟩ h4
  ·omega,by
  by_cases q : 65536 <= s.nd
  ·exact absurd ⟨hb,q⟩ h5
  ·omega⟩⟩
theorem addS_ok {s : Bst} {x : Ev} (h : addE s x = 0) : addS s x = stepS s x:=by
 unfold addS
 rw [if_neg (by rw [(addE_ok h).1];decide),if_pos h]
theorem addS_bad {s : Bst} {x : Ev} (hb : s.bad = false) (h : addE s x ≠ 0) : addS s x = { s with bad:=true }:=by
 unfold addS
 rw [if_neg (by rw [hb];decide),if_neg h]
theorem shapeE_ok {x : Ev} (h : shapeE x = 0) : (x.k = 1 ∨ x.k = 2 ∨ x.k = 3 ∨ x.k = 4 ∨ x.k = 5 ∨ x.k = 6) /\ (x.k ≠ 6 -> x.key = ⟨#[]⟩) /\ (x.k ≠ 1 -> x.V.h.plain = true) /\ (x.k = 1 -> 0 <= x.V.h.k /\ x.V.h.k < 6 /\ (x.V.look 1 0).2 = 0) /\ (x.k ≠ 1 -> utfB x.key = true /\ x.key.size <= 1024):=by
 unfold shapeE at h
 split at h
 ·omega
 rename_i h1
 simp only [not_or,not_and,decide_eq_true_eq,Bool.not_eq_false] at h1
 obtain ⟨a,b,c,d⟩:=h1
 have hk : x.key.toList == [] -> x.key = ⟨#[]⟩:=fun q => ba_emp.1 (by
  cases e : x.key.toList with
  | nil => rfl
  | cons y l => rw [e] at q;simp at q)
 refine ⟨by omega,fun q => hk (c (beq_eq_false_iff_ne.2 q)),fun q => d (beq_eq_false_iff_ne.2 q),fun q => ?_,fun q => ?_⟩
 ·rw [if_pos (by rw [q];rfl)] at h
  split at h
  ·omega
  ·rename_i e
   exact ⟨by omega,by omega,h⟩
 ·rw [if_neg (by simpa using q)] at h
  split at h
  ·omega
  rename_i e1
  split at h
  ·omega
  exact ⟨by simpa using e1,by omega⟩
structure Vt.sca (T : Vt) : Prop where
 lt : T.h.k < 6
 ge : 0 <= T.h.k
 good : T.good
 one : oneE T = 0
 ln : T.h.ln = 0
 fn : T.h.fn = 0
theorem look_one {T : Vt} (hT : T ≠ .nil) (h : (T.look 1 0).2 = 0) : oneE T = 0:=by
 rw [Vt.look_eq hT,if_neg (by omega),if_neg (by omega)] at h
 split at h
 ·rename_i q;exact absurd h q
 ·rename_i q;exact Classical.byContradiction q
theorem sca_of {T : Vt} (hw : T.whole) (h0 : 0 <= T.h.k) (h6 : T.h.k < 6) (h : (T.look 1 0).2 = 0) : T.sca:=by
 have hT : T ≠ .nil:=by rintro rfl;exact hw
 have h1:=look_one hT h
 have ow:=Vh.own_parts (oneE_own h1)
 exact ⟨h6,h0,(Vt.look_ok (d:=1) (s:=0) hw h).1,h1,ow.2.2.2.2.2.2.2.1 (by omega),ow.2.2.2.2.2.2.2.2 (by omega)⟩
theorem Vt.sca.upto {T : Vt} (h : T.sca) {d : Nat} (hd : 0 < d) : T.upto d:=by
 cases T with
 | nil => trivial
 | mk g Y L K F =>
  refine ⟨hd,fun i hi => ?_,fun i hi => ?_⟩
  ·have:=h.ln;simp only [Vt.h] at this;omega
  ·have:=h.fn;simp only [Vt.h] at this;omega
def catL {α : Type} (f : Nat -> List α) : Nat -> List α
 | 0 => []
 | n + 1 => catL f n ++ f n
theorem catL_congr {α : Type} {f g : Nat -> List α} : ∀ {n : Nat},(∀ i,i < n -> f i = g i) -> catL f n = catL g n:=by
 intro n
 induction n with
 | zero => intro _;rfl
 | succ n ih =>
  intro h
  show catL f n ++ f n = catL g n ++ g n
  rw [ih (fun i hi => h i (by omega)),h n (by omega)]
theorem catL_len {α : Type} {f : Nat -> List α} : ∀ {n : Nat},(catL f n).length = sumN (fun i => (f i).length) n:=by
 intro n
 induction n with
 | zero => rfl
 | succ n ih => show (catL f n ++ f n).length = _ + _;rw [List.length_append,ih]
def evS (V : Vt) : Ev:=⟨1,⟨#[]⟩,V⟩
def evM (k : Int) : Ev:=⟨k,⟨#[]⟩,Vt.z⟩
def evK (key : ByteArray) : Ev:=⟨6,key,Vt.z⟩
def evs : Vt -> List Ev
 | .nil => []
 | .mk h Y L K F =>
  if h.k = 6 then evM 2 :: (catL (fun i => evs (L i)) h.ln ++ [evM 3])
  else if h.k = 7 then evM 4 :: (catL (fun i => evK (K i) :: evs (F i)) h.fn ++ [evM 5])
  else [evS (.mk h Y L K F)]
theorem evs_sca {T : Vt} (hT : T ≠ .nil) (h6 : T.h.k < 6) : evs T = [evS T]:=by
 cases T with
 | nil => exact absurd rfl hT
 | mk h Y L K F =>
  simp only [Vt.h] at h6
  show (if h.k = 6 then _ else _) = _
  rw [if_neg (by omega),if_neg (by omega)]
theorem evs_lst {T : Vt} (hT : T ≠ .nil) (h6 : T.h.k = 6) : evs T = evM 2 :: (catL (fun i => evs (T.L i)) T.h.ln ++ [evM 3]):=by
 cases T with
 | nil => exact absurd rfl hT
 | mk h Y L K F =>
  simp only [Vt.h] at h6
  show (if h.k = 6 then _ else _) = _
  rw [if_pos h6]
  rfl
theorem evs_map {T : Vt} (hT : T ≠ .nil) (h7 : T.h.k = 7) : evs T = evM 4 :: (catL (fun i => evK (T.K i) :: evs (T.F i)) T.h.fn ++ [evM 5]):=by
 cases T with
 | nil => exact absurd rfl hT
 | mk h Y L K F =>
  simp only [Vt.h] at h7
  show (if h.k = 6 then _ else _) = _
  rw [if_neg (by omega),if_pos h7]
  rfl
structure Ev.Same (x y : Ev) : Prop where
 k : x.k = y.k
 key : x.key = y.key
 V : x.V.Same y.V
theorem Ev.Same.symm {x y : Ev} (h : x.Same y) : y.Same x:=⟨h.k.symm,h.key.symm,h.V.symm⟩
theorem Ev.Same.trans {x y z : Ev} (h : x.Same y) (g : y.Same z) : x.Same z:=⟨h.k.trans g.k,h.key.trans g.key,h.V.trans g.V⟩
inductive SameL : List Ev -> List Ev -> Prop
 | nil : SameL [] []
 | cons {x y : Ev} {a b : List Ev} : x.Same y -> SameL a b -> SameL (x :: a) (y :: b)
theorem SameL.symm {a b : List Ev} (h : SameL a b) : SameL b a:=by
 induction h with
 | nil => exact .nil
 | cons h _ ih => exact .cons h.symm ih
theorem SameL.trans {a b c : List Ev} (h : SameL a b) : SameL b c -> SameL a c:=by
 induction h generalizing c with
 | nil => intro g;exact g
 | cons h _ ih =>
  intro g
  cases g with
  | cons g1 g2 => exact .cons (h.trans g1) (ih g2)
theorem SameL.length {a b : List Ev} (h : SameL a b) : a.length = b.length:=by
 induction h with
 | nil => rfl
 | cons _ _ ih => simp [ih]
theorem SameL.append {a b c d : List Ev} (h : SameL a b) (g : SameL c d) : SameL (a ++ c) (b ++ d):=by
 induction h with
 | nil => exact g
 | cons h _ ih => exact .cons h ih
theorem SameL.split {c d : List Ev} : ∀ {a b : List Ev},SameL (a ++ c) (b ++ d) -> a.length = b.length -> SameL a b /\ SameL c d:=by
 intro a
 induction a with
 | nil => intro b h e;cases b with
  | nil => exact ⟨.nil,h⟩
  | cons y b => simp at e
 | cons x a ih => intro b h e;cases b with
  | nil => simp at e
  | cons y b =>
   cases h with
   | cons h1 h2 =>
    obtain ⟨p,q⟩:=ih h2 (by simpa using e)
    exact ⟨.cons h1 p,q⟩
theorem SameL.get {a b : List Ev} (h : SameL a b) : ∀ {i : Nat} {x y : Ev},a[i]? = some x -> b[i]? = some y -> x.Same y:=by
 induction h with
 | nil => intro i x y h;simp at h
 | cons h _ ih =>
  intro i x y
  cases i with
  | zero => intro e1 e2;simp at e1 e2;rw [<- e1,<- e2];exact h
  | succ i => intro e1 e2;simp at e1 e2;exact ih e1 e2
theorem SameL.of_get : ∀ {a b : List Ev},a.length = b.length -> (∀ (i : Nat) (x y : Ev),a[i]? = some x -> b[i]? = some y -> x.Same y) -> SameL a b:=by
 intro a
 induction a with
 | nil => intro b e h;cases b with
  | nil => exact .nil
  | cons y b => simp at e
 | cons x a ih => intro b e h;cases b with
  | nil => simp at e
  | cons y b => exact .cons (h 0 x y rfl rfl) (ih (by simpa using e) fun i u v h1 h2 => h (i + 1) u v (by rw [List.getElem?_cons_succ];exact h1) (by rw [List.getElem?_cons_succ];exact h2))
theorem SameL.rfl' {a : List Ev} (h : ∀ x,x ∈ a -> x.V.whole) : SameL a a:=by
 induction a with
 | nil => exact .nil
 | cons x a ih => exact .cons ⟨rfl,rfl,Vt.Same.rfl' (h x (by simp))⟩ (ih fun y hy => h y (by simp [hy]))
theorem catL_same {f g : Nat -> List Ev} : ∀ {n : Nat},(∀ i,i < n -> SameL (f i) (g i)) -> SameL (catL f n) (catL g n):=by
 intro n
 induction n with
 | zero => intro _;exact .nil
 | succ n ih => intro h;exact SameL.append (ih fun i hi => h i (by omega)) (h n (by omega))
theorem evM_same (k : Int) : (evM k).Same (evM k):=⟨rfl,rfl,Vt.z_same⟩
theorem evK_same (key : ByteArray) : (evK key).Same (evK key):=⟨rfl,rfl,Vt.z_same⟩
theorem evs_same : ∀ {T U : Vt},T.Same U -> SameL (evs T) (evs U):=by
 intro T
 induction T with
 | nil => intro U h;exact h.elim
 | mk h Y L K F ihL ihF =>
  intro U hs
  have hT : Vt.mk h Y L K F ≠ .nil:=by intro e;cases e
  have hU:=hs.right
  have hk : (Vt.mk h Y L K F).h.k = U.h.k:=hs.flat.k
  have hl : (Vt.mk h Y L K F).h.ln = U.h.ln:=hs.flat.ln
  have hf : (Vt.mk h Y L K F).h.fn = U.h.fn:=hs.flat.fn
  by_cases k6 : (Vt.mk h Y L K F).h.k = 6
  ·rw [evs_lst hT k6,evs_lst hU (by rw [<- hk];exact k6),<- hl]
   exact .cons (evM_same 2) ((catL_same fun i hi => ihL i (hs.L hi)).append (.cons (evM_same 3) .nil))
  by_cases k7 : (Vt.mk h Y L K F).h.k = 7
  ·rw [evs_map hT k7,evs_map hU (by rw [<- hk];exact k7),<- hf]
   refine .cons (evM_same 4) ((catL_same fun i hi => ?_).append (.cons (evM_same 5) .nil))
   rw [<- hs.K hi]
   exact .cons (evK_same _) (ihF i (hs.F hi))
  ·have e : evs U = [evS U]:=by
    cases U with
    | nil => exact absurd rfl hU
    | mk g Y' L' K' F' =>
     simp only [Vt.h] at hk k6 k7
     show (if g.k = 6 then _ else _) = _
     rw [if_neg (by rw [<- hk];exact k6),if_neg (by rw [<- hk];exact k7)]
   have e' : evs (.mk h Y L K F) = [evS (.mk h Y L K F)]:=by
    simp only [Vt.h] at k6 k7
    show (if h.k = 6 then _ else _) = _
    rw [if_neg k6,if_neg k7]
   rw [e,e']
   exact .cons ⟨rfl,rfl,hs⟩ .nil
end Go.Proofs.YtpcbhneaaibfiaaDoor
