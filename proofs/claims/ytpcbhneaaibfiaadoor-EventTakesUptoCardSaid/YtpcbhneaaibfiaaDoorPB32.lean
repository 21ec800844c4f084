/- Laid together. -/
import Derived.Test.YtpcbhneaaibfiaaDoorPB16
import Derived.Test.YtpcbhneaaibfiaaDoorPB31
import Derived.Test.YtpcbhneaaibfiaaDoorPB28
import Derived.Test.YtpcbhneaaibfiaaDoorPB26
import Derived.Test.YtpcbhneaaibfiaaDoorPB08
set_option linter.unusedVariables false
set_option linter.unusedSimpArgs false
set_option maxHeartbeats 16000000
set_option maxRecDepth 100000
namespace Go.Proofs.YtpcbhneaaibfiaaDoor
open Go.RowKit
theorem look_neg {T : Vt} (hT : T ≠ .nil) (h : T.h.k < 0) : (T.look 1 0).2 = 6:=by
 have ho : T.h.own = false:=by
  cases e : T.h.own with
  | false => rfl
  | true => have:=(Vh.own_parts e).1;omega
 have h1 : oneE T = 6:=by unfold oneE;rw [if_pos ho]
 rw [Vt.look_eq hT,if_neg (by omega),if_neg (by omega),h1,if_pos (by decide)]
theorem plain_k {h : Vh} (hp : h.plain = true) : h.k = 0:=by
 unfold Vh.plain at hp
 simp only [Bool.and_eq_true,decide_eq_true_eq] at hp
 exact hp.1.1.1.1.1.1.1
theorem sameB_plain {T : Vt} (hT : T ≠ .nil) : sameB T Vt.z = T.h.plain:=by
 cases e : T.h.plain with
 | true => exact sameB_iff.2 ((plain_same hT).1 e)
 | false => exact sameB_no.2 fun q => by rw [(plain_same hT).2 q] at e;cases e
theorem form_any {x : Ev} {top : Nat} {w : World} (hx : x.ok) (hV : x.V.In w top) (ht : top <= w.heap.size) :
 Calls Tryd.prog 42 #[.agg x.cells] w fun r w' => r = .returned (.int .i64 (shapeE x)) /\ Below w.heap.size w w':=by
 have hb0:=(Below.refl w.heap.size w).alloc (Nat.le_refl _) (.cells x.cells 57)
 have P:=Whole.new w 57 x.cells
 have hne : x.V ≠ .nil:=by intro e;rw [e] at hV;exact hV
 have HPl : Hid (Calls Tryd.prog 17 #[.agg x.V.h.cells,.agg Vt.z.h.cells] (w.alloc (.cells x.cells 57)) fun r w' => r = .returned (.bool x.V.h.plain) /\ Below (w.alloc (.cells x.cells 57)).heap.size (w.alloc (.cells x.cells 57)) w'):=Lib.hid (by
  have h:=same_any x.V Vt.z top (w.alloc (.cells x.cells 57)) (Vt.In.below (hb0.mono ht) hV) (Vt.z_in _ _) (Nat.le_trans ht hb0.size)
  rw [sameB_plain hne] at h
  exact h)
 have HCk:=Lib.hid (fun (w1 : World) (hb : Below w.heap.size w w1) => check_any (T:=x.V) (top:=top) (w:=w1) (Vt.In.below (hb.mono ht) hV) (Nat.le_trans ht hb.size))
 have HUt:=Lib.hid (fun (w1 : World) => rutf_any (s:=x.key) hx.key w1)
 have hpk : x.V.h.plain = true -> x.V.h.k = 0:=plain_k
 have hln : x.V.h.k < 0 -> (x.V.look 1 0).2 = 6:=look_neg hne
 have hkk:=hx.k
 have hks:=hx.key
 have hkV : w64 x.V.h.k:=by
  cases e : x.V with
  | nil => exact absurd e hne
  | mk h Y L K F => rw [e] at hV;exact hV.1.k
 obtain ⟨k,key,V⟩:=x
 dsimp only at HPl HCk HUt hkV hkk hks hpk hln
 obtain ⟨R,hR⟩ : ∃ R,shapeE ⟨k,key,V⟩ = R:=⟨_,rfl⟩
 have HR:=hR
 rw [hR]
 unfold shapeE at HR
 dsimp only at HR
 obtain ⟨pl,hpl⟩ : ∃ c,V.h.plain = c:=⟨_,rfl⟩
 obtain ⟨lk,hlk⟩ : ∃ c,(V.look 1 0).2 = c:=⟨_,rfl⟩
 obtain ⟨ut,hut⟩ : ∃ c,utfB key = c:=⟨_,rfl⟩
 have HUn : Hid (key.toList = [] -> ut = true):=Lib.hid fun q => by
  have e : key = ⟨#[]⟩:=ba_emp.1 (by rw [q];rfl)
  rw [<- hut,e]
  exact utfB_nil rfl
 have HSz : Hid (key.toList = [] -> key.size = 0):=Lib.hid fun q => by
  have e : key = ⟨#[]⟩:=ba_emp.1 (by rw [q];rfl)
  rw [e]
  rfl
 rw [hpl,hlk,hut] at HR
 rw [hpl] at HPl hpk
 rw [hlk] at HCk hln
 rw [hut] at HUt
 obtain ⟨⟨K,b',n',dd,e,tk,td,tn,tz,X,ba,bn,bc,la,ln,lc,fa,fn,fc,bb,bo,lb,lo,fb,fo⟩,hvh⟩ : ∃ g,V.h = g:=⟨_,rfl⟩
 simp only [Ev.cells,hvh] at hb0 P HPl ⊢
 rw [hvh] at HR hkV hpk hln
 simp only [hvh] at HCk
 have HPK:=Lib.hid hpk
 have HLN:=Lib.hid hln
 obtain ⟨c0,c1,c2,c3,c4,c5,c6,c7,c8,c9,c10,c11,c12,c13,c14⟩:=Whole.e15 P
 clear hR hpl hlk hut hV hx hvh hne hpk hln
 simp only [Vh.cells,evc,Vt.z,Vt.h,Vh.zero] at hb0 P HPl HCk HUt c0 c1 c2 c3 c4 c5 c6 c7 c8 c9 c10 c11 c12 c13 c14 HPK HLN ⊢
 by_cases a : k < 1
 ·obtain rfl : 6 = R:=by rw [<- HR];rw [if_pos (.inl (decide_eq_true a))]
  have a1 : decide (k < 1) = true:=decide_eq_true a
  clear P HPl HCk HUt HR
  go_enter Tryd.func42,Tryd.ntmps42
  go_wp2
  go_ret
  exact ⟨rfl,hb0⟩
 ·by_cases b : 6 < k
  ·obtain rfl : 6 = R:=by rw [<- HR];rw [if_pos (.inr (.inl (decide_eq_true b)))]
   have a1 : decide (k < 1) = false:=decide_eq_false a
   have b1 : decide (6 < k) = true:=decide_eq_true b
   clear P HPl HCk HUt HR
   go_enter Tryd.func42,Tryd.ntmps42
   go_wp2
   go_ret
   exact ⟨rfl,hb0⟩
  ·by_cases s : k = 6
   ·subst s
    have o : ¬ ((6 : Int) = 1):=by decide
    cases pl
    ·obtain rfl : 6 = R:=by rw [<- HR];rw [if_pos (.inr (.inr (.inr ⟨beq_eq_false_iff_ne.2 o,rfl⟩)))]
     go_enter Tryd.func42,Tryd.ntmps42
     go_wp2_with fail
     refine HPl.out.mono ?_;rintro _ w1 ⟨rfl,hq⟩
     have hb1:=below_then hb0 hq
     have P1:=Whole.below P hq P.lt
     have d0:=Whole.cell P1 0
     have d1:=Whole.cell P1 1
     have d2:=Whole.cell P1 2
     simp only [List.getElem?_toArray,List.getElem?_cons_succ,List.getElem?_cons_zero] at d0 d1 d2
     clear hq hb0 P HPl c0 c1 c2 c3 c4 c5 c6 c7 c8 c9 c10 c11 c12 c13 c14
     clear HR HCk HUt
     go_wp2
     go_ret
     exact ⟨rfl,hb1⟩
    ·obtain rfl : K = 0:=HPK.out (by trivial)
     rw [if_neg (by rintro (z | z | ⟨z,-⟩ | ⟨-,z⟩) <;> simp_all),if_neg (fun e => o (beq_iff_eq.1 e))] at HR
     cases ut
     ·obtain rfl : 5 = R:=by rw [<- HR];rfl
      go_enter Tryd.func42,Tryd.ntmps42
      go_wp2_with fail
      refine HPl.out.mono ?_;rintro _ w1 ⟨rfl,hq⟩
      have hb1:=below_then hb0 hq
      have P1:=Whole.below P hq P.lt
      have d0:=Whole.cell P1 0
      have d1:=Whole.cell P1 1
      have d2:=Whole.cell P1 2
      simp only [List.getElem?_toArray,List.getElem?_cons_succ,List.getElem?_cons_zero] at d0 d1 d2
      clear hq hb0 P HPl c0 c1 c2 c3 c4 c5 c6 c7 c8 c9 c10 c11 c12 c13 c14
      go_wp2_with fail
      refine (HUt.out _).mono ?_;rintro _ w2 ⟨rfl,hu⟩
      have hb2:=below_then hb1 hu
      have P2:=Whole.below P1 hu P1.lt
      have d1:=Whole.cell P2 1
      simp only [List.getElem?_toArray,List.getElem?_cons_succ,List.getElem?_cons_zero] at d1
      clear HR HCk HUt hu hb1
      go_wp2
      go_ret
      exact ⟨rfl,hb2⟩
     ·by_cases z : 1024 < key.size
      ·obtain rfl : 10 = R:=by rw [<- HR,if_neg (by decide),if_pos z]
       have z1 : decide ((1024 : Int) < key.size) = true:=decide_eq_true (by omega)
       go_enter Tryd.func42,Tryd.ntmps42
       go_wp2_with fail
       refine HPl.out.mono ?_;rintro _ w1 ⟨rfl,hq⟩
       have hb1:=below_then hb0 hq
       have P1:=Whole.below P hq P.lt
       have d0:=Whole.cell P1 0
       have d1:=Whole.cell P1 1
       have d2:=Whole.cell P1 2
       simp only [List.getElem?_toArray,List.getElem?_cons_succ,List.getElem?_cons_zero] at d0 d1 d2
       clear hq hb0 P HPl c0 c1 c2 c3 c4 c5 c6 c7 c8 c9 c10 c11 c12 c13 c14
       go_wp2_with fail
       refine (HUt.out _).mono ?_;rintro _ w2 ⟨rfl,hu⟩
       have hb2:=below_then hb1 hu
       have P2:=Whole.below P1 hu P1.lt
       have d1:=Whole.cell P2 1
       simp only [List.getElem?_toArray,List.getElem?_cons_succ,List.getElem?_cons_zero] at d1
       clear HR HCk HUt hu hb1
       go_wp2
       go_ret
       exact ⟨rfl,hb2⟩
      ·obtain rfl : 0 = R:=by rw [<- HR,if_neg (by decide),if_neg z]
       have z1 : decide ((1024 : Int) < key.size) = false:=decide_eq_false (by omega)
       go_enter Tryd.func42,Tryd.ntmps42
       go_wp2_with fail
       refine HPl.out.mono ?_;rintro _ w1 ⟨rfl,hq⟩
       have hb1:=below_then hb0 hq
       have P1:=Whole.below P hq P.lt
       have d0:=Whole.cell P1 0
       have d1:=Whole.cell P1 1
       have d2:=Whole.cell P1 2
       simp only [List.getElem?_toArray,List.getElem?_cons_succ,List.getElem?_cons_zero] at d0 d1 d2
       clear hq hb0 P HPl c0 c1 c2 c3 c4 c5 c6 c7 c8 c9 c10 c11 c12 c13 c14
       go_wp2_with fail
       refine (HUt.out _).mono ?_;rintro _ w2 ⟨rfl,hu⟩
       have hb2:=below_then hb1 hu
       have P2:=Whole.below P1 hu P1.lt
       have d1:=Whole.cell P2 1
       simp only [List.getElem?_toArray,List.getElem?_cons_succ,List.getElem?_cons_zero] at d1
       clear HR HCk HUt hu hb1
       go_wp2
       go_ret
       exact ⟨rfl,hb2⟩
   ·by_cases q : key.toList = []
    ·have a1 : decide (k < 1) = false:=decide_eq_false a
     have b1 : decide (6 < k) = false:=decide_eq_false b
     have s1 : (k == 6) = false:=beq_eq_false_iff_ne.2 s
     have s2 : (k != 6) = true:=bne_iff_ne.2 s
     have q1 : (key.toList == ([] : List UInt8)) = true:=beq_iff_eq.2 q
     have q2 : (key.toList != ([] : List UInt8)) = false:=by rw [bne,q1];rfl
     by_cases o : k = 1
     ·clear s1 s2 s
      subst o
      have HU1:=Lib.hid (HUn.out q)
      have HS1:=Lib.hid (HSz.out q)
      have HR1 : (if K < 0 ∨ 6 <= K then 6 else lk) = R:=by
       rw [if_neg (by rintro (z | z | ⟨-,z⟩ | ⟨z,-⟩) <;> simp_all),if_pos (by decide)] at HR
       exact HR
      clear HR HPl
      by_cases v : K < 0
      ·obtain rfl : 6 = R:=by rw [<- HR1,if_pos (.inl v)]
       have u1 : decide (5 < K) = false:=decide_eq_false (by omega)
       obtain rfl : lk = 6:=HLN.out v
       clear HR1 HUt
       go_enter Tryd.func42,Tryd.ntmps42
       go_wp2_with fail
       refine (HCk.out _ hb0).mono ?_;rintro _ w1 ⟨rfl,hq⟩
       have hb1:=below_then hb0 hq
       have P1:=Whole.below P hq P.lt
       have d1:=Whole.cell P1 1
       simp only [List.getElem?_toArray,List.getElem?_cons_succ,List.getElem?_cons_zero] at d1
       clear HCk hq hb0 P c0 c1 c2 c3 c4 c5 c6 c7 c8 c9 c10 c11 c12 c13 c14
       go_wp2
       go_ret
       exact ⟨rfl,hb1⟩
      ·by_cases u : 6 <= K
       ·obtain rfl : 6 = R:=by rw [<- HR1,if_pos (.inr u)]
        have u1 : decide (5 < K) = true:=decide_eq_true (by omega)
        clear HCk HR1 P HUt
        go_enter Tryd.func42,Tryd.ntmps42
        go_wp2
        go_ret
        exact ⟨rfl,hb0⟩
       ·obtain rfl : lk = R:=by rw [<- HR1,if_neg (by omega)]
        have u1 : decide (5 < K) = false:=decide_eq_false (by omega)
        clear HR1
        by_cases hl0 : lk = 0
        ·subst hl0
         go_enter Tryd.func42,Tryd.ntmps42
         go_wp2_with fail
         refine (HCk.out _ hb0).mono ?_;rintro _ w1 ⟨rfl,hq⟩
         have hb1:=below_then hb0 hq
         have P1:=Whole.below P hq P.lt
         have d1:=Whole.cell P1 1
         simp only [List.getElem?_toArray,List.getElem?_cons_succ,List.getElem?_cons_zero] at d1
         clear HCk hq hb0 P c0 c1 c2 c3 c4 c5 c6 c7 c8 c9 c10 c11 c12 c13 c14
         go_wp2_with fail
         refine (HUt.out _).mono ?_;rintro _ w2 ⟨rfl,hu⟩
         have hb2:=below_then hb1 hu
         have P2:=Whole.below P1 hu P1.lt
         have d1:=Whole.cell P2 1
         simp only [List.getElem?_toArray,List.getElem?_cons_succ,List.getElem?_cons_zero] at d1
         obtain rfl : ut = true:=HU1.out
         have z1 : decide ((1024 : Int) < key.size) = false:=decide_eq_false (by have:=HS1.out;omega)
         clear HUt hu hb1
         go_wp2
         go_ret
         exact ⟨rfl,hb2⟩
        ·have l1 : (lk != 0) = true:=bne_iff_ne.2 hl0
         clear HUt
         go_enter Tryd.func42,Tryd.ntmps42
         go_wp2_with fail
         refine (HCk.out _ hb0).mono ?_;rintro _ w1 ⟨rfl,hq⟩
         have hb1:=below_then hb0 hq
         have P1:=Whole.below P hq P.lt
         have d1:=Whole.cell P1 1
         simp only [List.getElem?_toArray,List.getElem?_cons_succ,List.getElem?_cons_zero] at d1
         clear HCk hq hb0 P c0 c1 c2 c3 c4 c5 c6 c7 c8 c9 c10 c11 c12 c13 c14
         go_wp2
         go_ret
         exact ⟨rfl,hb1⟩
     ·have o1 : (k == 1) = false:=beq_eq_false_iff_ne.2 o
      have o2 : (k != 1) = true:=bne_iff_ne.2 o
      cases pl
      ·obtain rfl : 6 = R:=by rw [<- HR];rw [if_pos (.inr (.inr (.inr ⟨beq_eq_false_iff_ne.2 o,rfl⟩)))]
       go_enter Tryd.func42,Tryd.ntmps42
       go_wp2_with fail
       refine HPl.out.mono ?_;rintro _ w1 ⟨rfl,hq⟩
       have hb1:=below_then hb0 hq
       have P1:=Whole.below P hq P.lt
       have d0:=Whole.cell P1 0
       have d1:=Whole.cell P1 1
       have d2:=Whole.cell P1 2
       simp only [List.getElem?_toArray,List.getElem?_cons_succ,List.getElem?_cons_zero] at d0 d1 d2
       clear hq hb0 P HPl c0 c1 c2 c3 c4 c5 c6 c7 c8 c9 c10 c11 c12 c13 c14
       clear HR HCk HUt
       go_wp2
       go_ret
       exact ⟨rfl,hb1⟩
      ·obtain rfl : K = 0:=HPK.out (by trivial)
       rw [if_neg (by rintro (z | z | ⟨-,z⟩ | ⟨-,z⟩) <;> simp_all),if_neg (fun e => o (beq_iff_eq.1 e))] at HR
       cases ut
       ·obtain rfl : 5 = R:=by rw [<- HR];rfl
        go_enter Tryd.func42,Tryd.ntmps42
        go_wp2_with fail
        refine HPl.out.mono ?_;rintro _ w1 ⟨rfl,hq⟩
        have hb1:=below_then hb0 hq
        have P1:=Whole.below P hq P.lt
        have d0:=Whole.cell P1 0
        have d1:=Whole.cell P1 1
        have d2:=Whole.cell P1 2
        simp only [List.getElem?_toArray,List.getElem?_cons_succ,List.getElem?_cons_zero] at d0 d1 d2
        clear hq hb0 P HPl c0 c1 c2 c3 c4 c5 c6 c7 c8 c9 c10 c11 c12 c13 c14
        go_wp2_with fail
        refine (HUt.out _).mono ?_;rintro _ w2 ⟨rfl,hu⟩
        have hb2:=below_then hb1 hu
        have P2:=Whole.below P1 hu P1.lt
        have d1:=Whole.cell P2 1
        simp only [List.getElem?_toArray,List.getElem?_cons_succ,List.getElem?_cons_zero] at d1
        clear HR HCk HUt hu hb1
        go_wp2
        go_ret
        exact ⟨rfl,hb2⟩
       ·by_cases z : 1024 < key.size
        ·obtain rfl : 10 = R:=by rw [<- HR,if_neg (by decide),if_pos z]
         have z1 : decide ((1024 : Int) < key.size) = true:=decide_eq_true (by omega)
         go_enter Tryd.func42,Tryd.ntmps42
         go_wp2_with fail
         refine HPl.out.mono ?_;rintro _ w1 ⟨rfl,hq⟩
         have hb1:=below_then hb0 hq
         have P1:=Whole.below P hq P.lt
         have d0:=Whole.cell P1 0
         have d1:=Whole.cell P1 1
         have d2:=Whole.cell P1 2
         simp only [List.getElem?_toArray,List.getElem?_cons_succ,List.getElem?_cons_zero] at d0 d1 d2
         clear hq hb0 P HPl c0 c1 c2 c3 c4 c5 c6 c7 c8 c9 c10 c11 c12 c13 c14
         go_wp2_with fail
         refine (HUt.out _).mono ?_;rintro _ w2 ⟨rfl,hu⟩
         have hb2:=below_then hb1 hu
         have P2:=Whole.below P1 hu P1.lt
         have d1:=Whole.cell P2 1
         simp only [List.getElem?_toArray,List.getElem?_cons_succ,List.getElem?_cons_zero] at d1
         clear HR HCk HUt hu hb1
         go_wp2
         go_ret
         exact ⟨rfl,hb2⟩
        ·obtain rfl : 0 = R:=by rw [<- HR,if_neg (by decide),if_neg z]
         have z1 : decide ((1024 : Int) < key.size) = false:=decide_eq_false (by omega)
         go_enter Tryd.func42,Tryd.ntmps42
         go_wp2_with fail
         refine HPl.out.mono ?_;rintro _ w1 ⟨rfl,hq⟩
         have hb1:=below_then hb0 hq
         have P1:=Whole.below P hq P.lt
         have d0:=Whole.cell P1 0
         have d1:=Whole.cell P1 1
         have d2:=Whole.cell P1 2
         simp only [List.getElem?_toArray,List.getElem?_cons_succ,List.getElem?_cons_zero] at d0 d1 d2
         clear hq hb0 P HPl c0 c1 c2 c3 c4 c5 c6 c7 c8 c9 c10 c11 c12 c13 c14
         go_wp2_with fail
         refine (HUt.out _).mono ?_;rintro _ w2 ⟨rfl,hu⟩
         have hb2:=below_then hb1 hu
         have P2:=Whole.below P1 hu P1.lt
         have d1:=Whole.cell P2 1
         simp only [List.getElem?_toArray,List.getElem?_cons_succ,List.getElem?_cons_zero] at d1
         clear HR HCk HUt hu hb1
         go_wp2
         go_ret
         exact ⟨rfl,hb2⟩
    ·obtain rfl : 6 = R:=by rw [<- HR];rw [if_pos (.inr (.inr (.inl ⟨beq_eq_false_iff_ne.2 s,beq_eq_false_iff_ne.2 q⟩)))]
     have a1 : decide (k < 1) = false:=decide_eq_false a
     have b1 : decide (6 < k) = false:=decide_eq_false b
     have s1 : (k == 6) = false:=beq_eq_false_iff_ne.2 s
     have s2 : (k != 6) = true:=bne_iff_ne.2 s
     have q1 : (key.toList == ([] : List UInt8)) = false:=beq_eq_false_iff_ne.2 q
     have q2 : (key.toList != ([] : List UInt8)) = true:=bne_iff_ne.2 q
     clear P HPl HCk HUt HR
     go_enter Tryd.func42,Tryd.ntmps42
     go_wp2
     go_ret
     exact ⟨rfl,hb0⟩
structure Sts where
 a : Option Addr
 n : Nat
 c : Nat
 b : Nat
 o : Nat
 K : Nat -> ByteArray
def Sts.In (W : World) (top : Nat) (p : Sts) : Prop:=(0 < p.n -> p.a = some ⟨p.b,p.o,none⟩ /\ p.b < top) /\ (p.n <= 1048576 /\ p.n <= p.c /\ p.c <= maxLen) /\ ∀ i,i < p.n -> W.cell? ⟨p.b,p.o + i,none⟩ = some (.string (p.K i)) /\ (p.K i).size <= 1048576
theorem Sts.In.below {W W' : World} {top : Nat} {p : Sts} (h : p.In W top) (hb : Below top W W') : p.In W' top :=
 ⟨h.1,h.2.1,fun i hi => ⟨by rw [hb.cell (h.1 (by omega)).2];exact (h.2.2 i hi).1,(h.2.2 i hi).2⟩⟩
theorem Sts.In.up {W : World} {top top' : Nat} {p : Sts} (h : p.In W top) (hle : top <= top') : p.In W top' :=
 ⟨fun q => ⟨(h.1 q).1,Nat.lt_of_lt_of_le (h.1 q).2 hle⟩,h.2.1,h.2.2⟩
structure Opn where
 mp : Bool
 k : Sts
 cnt : Nat
 due : Bool
def Opn.cells (o : Opn) : Array Value:=#[.bool o.mp,.slice o.k.a o.k.n o.k.c,.int .i64 o.cnt,.bool o.due]
structure Opn.is (o : Opn) (f : Fr) (last : Bool) : Prop where
 mp : o.mp = f.mp
 kn : o.k.n = if f.mp = true then (if f.kd = true then f.n + 1 else f.n) else 0
 K : ∀ j,j < o.k.n -> o.k.K j = if j < f.n then f.K j else f.key
 cnt : o.cnt = if last = true then f.n else f.n + 1
 due : o.due = true ↔ last = true /\ f.mp = true /\ f.kd = true
structure Ops where
 a : Option Addr
 n : Nat
 c : Nat
 b : Nat
 o : Nat
 O : Nat -> Opn
def Ops.In (W : World) (top : Nat) (p : Ops) : Prop:=(0 < p.n -> p.a = some ⟨p.b,p.o,none⟩ /\ p.b < top) /\ (p.n <= 48 /\ p.n <= p.c /\ p.c <= maxLen) /\ ∀ i,i < p.n -> LiesAt W p.b (p.o + i * 4) (p.O i).cells /\ (p.O i).k.In W top
theorem Ops.In.below {W W' : World} {top : Nat} {p : Ops} (h : p.In W top) (hb : Below top W W') : p.In W' top :=
 ⟨h.1,h.2.1,fun i hi => ⟨(h.2.2 i hi).1.below hb (h.1 (by omega)).2,(h.2.2 i hi).2.below hb⟩⟩
theorem Ops.In.up {W : World} {top top' : Nat} {p : Ops} (h : p.In W top) (hle : top <= top') : p.In W top' :=
 ⟨fun q => ⟨(h.1 q).1,Nat.lt_of_lt_of_le (h.1 q).2 hle⟩,h.2.1,fun i hi => ⟨(h.2.2 i hi).1,(h.2.2 i hi).2.up hle⟩⟩
structure Rst where
 O : Ops
 T : Evs
 nd : Nat
 wrong : Bool
def Rst.cells (r : Rst) : Array Value:=#[.slice r.O.a r.O.n r.O.c,.slice r.T.a r.T.n r.T.c,.int .i64 r.nd,.bool r.wrong]
def Rst.In (W : World) (top : Nat) (r : Rst) : Prop:=r.O.In W top /\ r.T.In W top
theorem Rst.In.below {W W' : World} {top : Nat} {r : Rst} (h : r.In W top) (hb : Below top W W') : r.In W' top:=⟨h.1.below hb,h.2.below hb⟩
theorem Rst.In.up {W : World} {top top' : Nat} {r : Rst} (h : r.In W top) (hle : top <= top') : r.In W top':=⟨h.1.up hle,h.2.up hle⟩
structure Rst.is (r : Rst) (s : Bst) (l : List Ev) : Prop where
 d : r.O.n = s.d
 O : ∀ i,i < s.d -> (r.O.O i).is (s.fr i) (decide (i + 1 = s.d))
 T : r.T.list = l
 nd : r.nd = s.nd
 wrong : r.wrong = s.bad
 dn : s.dn = true ↔ 0 < r.T.n /\ s.d = 0
theorem LiesAt.o4 {W : World} {b o : Nat} {mp due : Bool} {v : Value} {cnt : Int} (H : LiesAt W b o #[.bool mp,v,.int .i64 cnt,.bool due]) :
 W.cell? ⟨b,o,none⟩ = some (.bool mp) /\ W.cell? ⟨b,o + 1,none⟩ = some v /\ W.cell? ⟨b,o + 2,none⟩ = some (.int .i64 cnt) /\ W.cell? ⟨b,o + 3,none⟩ = some (.bool due) :=
 have z : (#[.bool mp,v,.int .i64 cnt,.bool due] : Array Value).size = 4:=rfl
 ⟨H 0 (by omega),H 1 (by omega),H 2 (by omega),H 3 (by omega)⟩
theorem Whole.o4 {W : World} {B : Nat} {t : TypeId} {mp due : Bool} {v : Value} {cnt : Int} (H : Whole W B t #[.bool mp,v,.int .i64 cnt,.bool due]) :
 W.cell? ⟨B,0,none⟩ = some (.bool mp) /\ W.cell? ⟨B,1,none⟩ = some v /\ W.cell? ⟨B,2,none⟩ = some (.int .i64 cnt) /\ W.cell? ⟨B,3,none⟩ = some (.bool due) :=
 ⟨H.cell 0,H.cell 1,H.cell 2,H.cell 3⟩
theorem fidx_row {K : Nat -> ByteArray} {f : Fr} {m : Nat} {key : ByteArray} (hm : m = f.n) (h : ∀ j,j < m -> K j = if j < f.n then f.K j else f.key) : fidx K key m = fidx f.K key f.n:=by
 subst hm
 exact fidx_congr fun j hj => (h j hj).trans (if_pos hj)
theorem has_any {p : Sts} {key : ByteArray} {top : Nat} {w : World} (hp : p.In w top) (hk : key.size <= 1048576) : Calls Tryd.prog 59 #[.slice p.a p.n p.c,.string key] w fun e w' => e = .returned (.bool (decide (fidx p.K key p.n < p.n))) /\ Below w.heap.size w w':=by
 have hn1:=hp.2.1.1
 have hnj : ((p.n : Nat) : Int) <= 1048576:=by omega
 have hni : (0 : Int) <= ((p.n : Nat) : Int):=by omega
 obtain ⟨R,hR⟩ : ∃ R,decide (fidx p.K key p.n < p.n) = R:=⟨_,rfl⟩
 rw [hR]
 have HR:=Lib.hid hR
 have HP:=Lib.hid hp
 clear hp hR
 go_enter Tryd.func59,Tryd.ntmps59
 go_wp2_with fail
 go_loopw [5] (fun i wr => ∃ j : Nat,j <= p.n /\ i = .int .i64 j /\ Hid (∀ t,t < j -> p.K t ≠ key) /\ wr = w) (fun i _ => p.n - (intOf i).toNat)
 case atStart => exact ⟨0,by omega,rfl,Lib.hid fun t h => absurd h (Nat.not_lt_zero _),rfl⟩
 case round =>
  obtain ⟨j,hj,rfl,HJ,rfl⟩:=hrel
  have hji : (0 : Int) <= j:=by omega
  by_cases hjn : j < p.n
  ·have hjl : (j : Int) < p.n:=by omega
   have hy:=HP.out.2.2 j hjn
   have ea:=(HP.out.1 (by omega)).1
   obtain ⟨l0,hys⟩:=hy
   obtain ⟨y,hy⟩ : ∃ y,p.K j = y:=⟨_,rfl⟩
   rw [hy] at l0 hys
   rw [ea]
   clear ea
   by_cases c : y = key
   ·have hRt : R = true:=by
     rw [<- HR.out,fidx_first HJ.out (hy.trans c) hjn]
     exact decide_eq_true hjn
    subst hRt
    have d1 : (y.toList == key.toList) = true:=by rw [c];exact beq_self_eq_true _
    clear HR HJ hy
    go_wp2
    go_ret
    exact ⟨rfl,Below.refl _ _⟩
   ·have d1 : (y.toList == key.toList) = false:=beq_eq_false_iff_ne.2 fun q => c (ba_eq q)
    have HJ2 : Hid (∀ t,t < j + 1 -> p.K t ≠ key):=Lib.hid fun t ht => by
     by_cases z : t = j
     ·subst z;rw [hy];exact c
     ·exact HJ.out t (by omega)
    clear HJ c hy
    go_wp2
    go_roundw
    case rel => exact ⟨j + 1,by omega,by go_num,HJ2,trivial⟩
    case measure => simp [intOf];omega
  ·obtain rfl : j = p.n:=by omega
   have hRf : R = false:=by rw [<- HR.out,fidx_none HJ.out];exact decide_eq_false (Nat.lt_irrefl _)
   subst hRf
   clear HR HJ hjn
   go_wp2
   go_ret
   exact ⟨rfl,Below.refl _ _⟩
end Go.Proofs.YtpcbhneaaibfiaaDoor
namespace Go.Proofs.YtpcbhneaaibfiaaDoor
open Go.RowKit Go.ChangeShapes Go.WideShapes Go.Joins Go.Deep
theorem Rst.box {r : Rst} {w : World} : ((w.alloc (.cells r.cells 53)).cell? ⟨w.heap.size,0,none⟩ = some (.slice r.O.a r.O.n r.O.c)) /\ ((w.alloc (.cells r.cells 53)).cell? ⟨w.heap.size,1,none⟩ = some (.slice r.T.a r.T.n r.T.c)) /\ ((w.alloc (.cells r.cells 53)).cell? ⟨w.heap.size,2,none⟩ = some (.int .i64 r.nd)) /\ ((w.alloc (.cells r.cells 53)).cell? ⟨w.heap.size,3,none⟩ = some (.bool r.wrong)) :=
 have P:=Whole.new w 53 r.cells
 ⟨P.cell 0,P.cell 1,P.cell 2,P.cell 3⟩
def Rst.whole (r : Rst) : Bool:=decide (0 < r.T.n) && decide (r.O.n = 0)
theorem complete_any {r : Rst} {top : Nat} {w : World} (hr : r.In w top) : Calls Tryd.prog 50 #[.agg r.cells] w fun e w' => e = .returned (.bool r.whole) /\ Below w.heap.size w w':=by
 have hn1:=hr.2.2.1.1
 have hn2:=hr.1.2.1.1
 obtain ⟨c0,c1,c2,c3⟩:=Rst.box (r:=r) (w:=w)
 have hb:=(Below.refl w.heap.size w).alloc (Nat.le_refl _) (.cells r.cells 53)
 clear hr
 obtain ⟨R,hR⟩ : ∃ R,r.whole = R:=⟨_,rfl⟩
 have HR : Hid ((decide (0 < r.T.n) && decide (r.O.n = 0)) = R):=Lib.hid hR
 rw [hR]
 clear hR
 obtain ⟨⟨oa,on,oc,ob,oo,O⟩,⟨a,n,c,b,o,S⟩,nd,wrong⟩:=r
 simp only [Rst.cells] at c0 c1 c2 c3 hb HR hn1 hn2 ⊢
 have hnj : ((n : Nat) : Int) <= 1048576:=by omega
 have hnk : ((on : Nat) : Int) <= 48:=by omega
 go_enter Tryd.func50,Tryd.ntmps50
 by_cases h1 : 0 < n
 ·have h1i : (0 : Int) < n:=by omega
  by_cases h2 : on = 0
  ·subst h2
   obtain rfl : true = R:=by rw [<- HR.out,decide_eq_true h1];rfl
   clear HR
   go_wp2
   go_ret
   exact ⟨rfl,hb⟩
  ·have h2i : ((on : Nat) : Int) ≠ 0:=by omega
   have d2 : (((on : Nat) : Int) == 0) = false:=beq_eq_false_iff_ne.2 h2i
   obtain rfl : false = R:=by rw [<- HR.out,decide_eq_true h1,decide_eq_false h2];rfl
   clear HR
   go_wp2
   go_ret
   exact ⟨rfl,hb⟩
 ·obtain rfl : n = 0:=by omega
  obtain rfl : false = R:=by rw [<- HR.out];rfl
  clear HR
  go_wp2
  go_ret
  exact ⟨rfl,hb⟩
theorem opn_row : (Tryd.prog.info? 90).map (·.size) = some 4:=by kernel_rfl
theorem opn_all (o : Opn) : o.cells.all (·.oneCell') = true:=by simp [Opn.cells,Value.oneCell']
theorem ret_opn2 {fn : Func} {p q : Tmp} (h : fn.results = #[.cell p 90,.tmp q]) {tmps : Array Value} {W : World} {B : Nat} {o : Opn} (hp : tmps.getD p undef = .pointer (some ⟨B,0,none⟩)) (H : Whole W B 90 o.cells) :
 (results fn tmps).run Tryd.prog W = .ok (.tuple #[.agg o.cells,tmps.getD q undef]) W:=by
 have hp' : tmps[p]?.getD undef = .pointer (some ⟨B,0,none⟩):=by simpa using hp
 simp [results,h,hp',asAddr,run_loadVar_row W B 90 90 o.cells (0,0) _ H Tryd.underlying90 rfl opn_row]
def Opn.zero : Opn:=⟨false,⟨none,0,0,0,0,fun _ => ⟨#[]⟩⟩,0,false⟩
def Rst.topO (r : Rst) : Opn:=if r.O.n = 0 then Opn.zero else r.O.O (r.O.n - 1)
theorem Rst.In.topO {W : World} {top : Nat} {r : Rst} (h : r.In W top) : r.topO.k.In W top:=by
 unfold Rst.topO
 split
 ·exact ⟨fun q => absurd q (Nat.lt_irrefl _),⟨by decide,Nat.le_refl _,by decide⟩,fun i q => absurd q (Nat.not_lt_zero _)⟩
 ·exact (h.1.2.2 _ (by omega)).2
def TopOut (r : Rst) (w : World) (e : Ending) (w' : World) : Prop:=e = .returned (.tuple #[.agg r.topO.cells,.bool (decide (0 < r.O.n))]) /\ Below w.heap.size w w'
theorem top_any {r : Rst} {top : Nat} {w : World} (hr : r.In w top) (ht : top <= w.heap.size) : Calls Tryd.prog 44 #[.agg r.cells] w (TopOut r w):=by
 have hn2:=hr.1.2.1.1
 have hnk : ((r.O.n : Nat) : Int) <= 48:=by omega
 obtain ⟨c0,c1,c2,c3⟩:=Rst.box (r:=r) (w:=w)
 have hb:=(Below.refl w.heap.size w).alloc (Nat.le_refl _) (.cells r.cells 53)
 have Q:=Whole.new (w.alloc (.cells r.cells 53)) 90 #[.bool false,.slice none 0 0,.int .i64 0,.bool false]
 have hb2:=hb.alloc hb.size (.cells #[.bool false,.slice none 0 0,.int .i64 0,.bool false] 90)
 have hz : (w.alloc (.cells r.cells 53)).heap.size = w.heap.size + 1:=by simp
 rw [hz] at Q
 clear hz c1 c2 c3
 have HP:=Lib.hid hr.1
 have HT:=Lib.hid ht
 clear hr ht
 have hone0:=Lib.hid (opn_all Opn.zero)
 by_cases h0 : r.O.n = 0
 ·have HE : Hid (TopOut r w = fun e w' => e = .returned (.tuple #[.agg Opn.zero.cells,.bool false]) /\ Below w.heap.size w w'):=Lib.hid (by
   unfold TopOut Rst.topO
   rw [if_pos h0,h0]
   rfl)
  clear HP HT
  obtain ⟨⟨oa,on,oc,ob,oo,O⟩,⟨a,n,c,b,o,S⟩,nd,wrong⟩:=r
  dsimp only at h0 hnk
  subst h0
  rw [HE.out]
  simp only [Rst.cells] at c0 hb hb2 Q ⊢
  simp only [Opn.cells,Opn.zero] at ⊢
  go_enter Tryd.func44,Tryd.ntmps44
  go_wp2_with (refine wpList_store_row rfl 90 _ _ rfl (w.heap.size + 1) Opn.zero.cells rfl rfl 90 _ Q opn_row rfl hone0.out ?_)
  exact bodyPost_ret (v:=.tuple #[.agg Opn.zero.cells,.bool false]) (ret_opn2 (p:=2) (q:=3) rfl rfl (Whole.setRow Q Opn.zero.cells)) rfl ⟨rfl,below_setRow hb2 (by omega) _⟩
 ·obtain ⟨m,hm⟩ : ∃ m,r.O.n = m + 1:=⟨r.O.n - 1,by omega⟩
  obtain ⟨y,hy⟩ : ∃ y,r.O.O m = y:=⟨_,rfl⟩
  have HE : Hid (TopOut r w = fun e w' => e = .returned (.tuple #[.agg y.cells,.bool true]) /\ Below w.heap.size w w'):=Lib.hid (by
   unfold TopOut Rst.topO
   rw [if_neg h0,hm,Nat.add_sub_cancel,hy]
   rfl)
  obtain ⟨ea,elt⟩:=HP.out.1 (by omega)
  have hl:=((HP.out.2.2 m (by omega)).1.below (hb2.mono HT.out) elt)
  rw [hy] at hl
  clear HP HT elt h0
  obtain ⟨⟨oa,on,oc,ob,oo,O⟩,⟨a,n,c,b,o,S⟩,nd,wrong⟩:=r
  dsimp only at hm hnk ea hl hy
  subst ea
  clear hy
  rw [HE.out]
  clear HE
  have hone:=Lib.hid (opn_all y)
  have ei : ((on : Nat) : Int) - 1 = m:=by omega
  have hm0 : (0 : Int) <= m:=by omega
  have hm1 : (m : Int) < ((on : Nat) : Int):=by omega
  have d0 : (((on : Nat) : Int) == 0) = false:=beq_eq_false_iff_ne.2 (by omega)
  clear hm
  have hm2 : (m : Int) <= 48:=by omega
  obtain ⟨ymp,yk,yc,yd⟩:=y
  simp only [Rst.cells] at c0 hb hb2 Q hl ⊢
  simp only [Opn.cells] at hl ⊢
  obtain ⟨l0,l1,l2,l3⟩:=hl.o4
  clear hl
  go_enter Tryd.func44,Tryd.ntmps44
  go_wp2_with (refine wpList_store_row rfl 90 _ _ rfl (w.heap.size + 1) (Opn.cells ⟨ymp,yk,yc,yd⟩) rfl rfl 90 _ Q opn_row rfl hone.out ?_)
  exact bodyPost_ret (v:=.tuple #[.agg (Opn.cells ⟨ymp,yk,yc,yd⟩),.bool true]) (ret_opn2 (p:=2) (q:=3) rfl rfl (Whole.setRow Q (Opn.cells ⟨ymp,yk,yc,yd⟩))) rfl ⟨rfl,below_setRow hb2 (by omega) _⟩
end Go.Proofs.YtpcbhneaaibfiaaDoor
