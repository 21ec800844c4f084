/- Laid together. -/
import Derived.Test.YtpcbhneaaibfiaaDoorPB32
import Derived.Test.YtpcbhneaaibfiaaDoorPB16
import Derived.Test.YtpcbhneaaibfiaaDoorPB23
set_option linter.unusedVariables false
set_option linter.unusedSimpArgs false
set_option maxHeartbeats 16000000
set_option maxRecDepth 100000
namespace Go.Proofs.YtpcbhneaaibfiaaDoor
open Go.RowKit
def folN (k : Int) (is mp due wh hs : Bool) (n nd : Nat) : Int :=
 if (if k = 6 then (!is || !mp || due) else if k = 3 then (!is || mp) else if k = 5 then (!is || !mp || due) else (wh || (is && mp && !due))) = true then 29
 else if k = 6 /\ hs = true then 8
 else if k = 1 ∨ k = 2 ∨ k = 4 then (if 48 <= n then 9 else if 65536 <= nd then 10 else 0) else 0
noncomputable def Rst.fol (r : Rst) (x : Ev) : Int:=folN x.k (decide (0 < r.O.n)) r.topO.mp r.topO.due r.whole (decide (fidx r.topO.k.K x.key r.topO.k.n < r.topO.k.n)) r.O.n r.nd
theorem Whole.o4s {W : World} {B : Nat} {t : TypeId} {a b c d : Value} (H : Whole W B t #[a,b,c,d]) :
 W.cell? ⟨B,0,none⟩ = some a /\ W.cell? ⟨B,1,none⟩ = some b /\ W.cell? ⟨B,2,none⟩ = some c /\ W.cell? ⟨B,3,none⟩ = some d :=
 ⟨H.cell 0,H.cell 1,H.cell 2,H.cell 3⟩
theorem Rst.topO_none {r : Rst} (h : decide (0 < r.O.n) = false) : r.topO.mp = false /\ r.topO.due = false:=by
 have h0 : r.O.n = 0:=by have:=of_decide_eq_false h;omega
 unfold Rst.topO
 rw [if_pos h0]
 exact ⟨rfl,rfl⟩
theorem rfol_any {r : Rst} {x : Ev} {top : Nat} {w : World} (hr : r.In w top) (ht : top <= w.heap.size) (hx : x.ok) (hk : x.k = 6 ∨ x.k = 3 ∨ x.k = 5 ∨ x.k = 1 ∨ x.k = 2 ∨ x.k = 4) (hnd : r.nd <= 65536) : Calls Tryd.prog 43 #[.agg r.cells,.agg x.cells] w fun e w' => e = .returned (.int .i64 (r.fol x)) /\ Below w.heap.size w w':=by
 have hn2:=hr.1.2.1.1
 have hnk : ((r.O.n : Nat) : Int) <= 48:=by omega
 have hnd2 : ((r.nd : Nat) : Int) <= 65536:=by omega
 have hb1:=(Below.refl w.heap.size w).alloc (Nat.le_refl _) (.cells r.cells 53)
 have hb2:=hb1.alloc hb1.size (.cells x.cells 57)
 have P:=(Whole.new w 53 r.cells).alloc (.cells x.cells 57)
 have X:=Whole.new (w.alloc (.cells r.cells 53)) 57 x.cells
 have hz : (w.alloc (.cells r.cells 53)).heap.size = w.heap.size + 1:=by simp
 rw [hz] at X
 have HTop:=Lib.hid (top_any (r:=r) (top:=top) (w:=(w.alloc (.cells r.cells 53)).alloc (.cells x.cells 57)) (hr.below (hb2.mono ht)) (Nat.le_trans ht hb2.size))
 have HCo:=Lib.hid (fun (w1 : World) (hb : Below w.heap.size w w1) => complete_any (r:=r) (top:=top) (w:=w1) (hr.below (hb.mono ht)))
 have HHa:=Lib.hid (fun (w1 : World) (hb : Below w.heap.size w w1) => has_any (p:=r.topO.k) (key:=x.key) (top:=top) (w:=w1) ((hr.below (hb.mono ht)).topO) hx.key)
 have HNo:=Lib.hid (Rst.topO_none (r:=r))
 have hkk:=hx.k
 obtain ⟨R,hR⟩ : ∃ R,r.fol x = R:=⟨_,rfl⟩
 rw [hR]
 unfold Rst.fol at hR
 clear hr ht hx hb1 hz
 unfold TopOut at HTop
 generalize r.topO = y at *
 generalize r.whole = wh at *
 obtain ⟨ymp,yk,yc,yd⟩:=y
 have hone:=Lib.hid (opn_all ⟨ymp,yk,yc,yd⟩)
 obtain ⟨k,key,V⟩:=x
 obtain ⟨⟨oa,on,oc,ob,oo,O⟩,⟨a,n,c,b,o,S⟩,nd,wrong⟩:=r
 dsimp only at hR HHa HNo HTop hkk hk hnd hnk hnd2 hn2
 obtain ⟨is,his⟩ : ∃ c,decide (0 < on) = c:=⟨_,rfl⟩
 obtain ⟨hs,hhs⟩ : ∃ c,decide (fidx yk.K key yk.n < yk.n) = c:=⟨_,rfl⟩
 rw [his,hhs] at hR
 rw [his] at HNo HTop
 rw [hhs] at HHa
 have HR:=Lib.hid hR
 clear hR his hhs
 simp only [Rst.cells,Ev.cells,evc] at hb2 P X HTop HCo ⊢
 simp only [Opn.cells] at HTop
 have hnd0 : (0 : Int) <= ((nd : Nat) : Int):=by omega
 generalize hM : ((nd : Nat) : Int) = M at *
 have HM:=Lib.hid hM
 clear hM
 obtain ⟨c0,c1,c2,c3⟩:=P.o4s
 go_enter Tryd.func43,Tryd.ntmps43
 go_wp2_with fail
 refine HTop.out.mono ?_;rintro _ w3 ⟨rfl,hb3⟩
 have g3:=below_then hb2 hb3
 have P3:=P.below hb3 P.lt
 have X3:=X.below hb3 X.lt
 clear HTop hb2 hb3 P X c0 c1 c2 c3
 have N:=Whole.new w3 90 #[.bool false,.slice none 0 0,.int .i64 0,.bool false]
 have P4:=P3.alloc (.cells #[.bool false,.slice none 0 0,.int .i64 0,.bool false] 90)
 have X4:=X3.alloc (.cells #[.bool false,.slice none 0 0,.int .i64 0,.bool false] 90)
 have g4:=g3.alloc g3.size (.cells #[.bool false,.slice none 0 0,.int .i64 0,.bool false] 90)
 have hlt1:=P3.lt
 have hlt2:=X3.lt
 have P5:=P4.farRow (B':=w3.heap.size) (by omega) (Opn.cells ⟨ymp,yk,yc,yd⟩)
 have X5:=X4.farRow (B':=w3.heap.size) (by omega) (Opn.cells ⟨ymp,yk,yc,yd⟩)
 have N5:=N.setRow (Opn.cells ⟨ymp,yk,yc,yd⟩)
 have g5:=below_setRow (g:=w3.heap.size) g4 (by have:=g3.size;omega) (Opn.cells ⟨ymp,yk,yc,yd⟩)
 clear P3 X3 P4 X4 g4 g3 hlt1 hlt2
 simp only [Opn.cells] at P5 X5 N5 g5
 obtain ⟨c0,c1,c2,c3⟩:=P5.o4s
 obtain ⟨x0,x1,x2,x3,x4,x5,x6,x7,x8,x9,x10,x11,x12,x13,x14⟩:=Whole.e15 (g:=V.h) X5
 obtain ⟨o0,o1,o2,o3⟩:=N5.o4
 go_upto_region 3 with (refine wpList_store_row rfl 90 _ _ rfl w3.heap.size (Opn.cells ⟨ymp,yk,yc,yd⟩) rfl rfl 90 _ N opn_row rfl hone.out ?_)
 simp only [Opn.cells]
 generalize (w3.alloc (.cells #[.bool false,.slice none 0 0,.int .i64 0,.bool false] 90)).setRow w3.heap.size #[.bool ymp,.slice yk.a yk.n yk.c,.int .i64 yc,.bool yd] = W5 at *
 have HCo5:=Lib.hid (HCo.out W5 g5)
 have HHa5:=Lib.hid (HHa.out W5 g5)
 clear HCo HHa hone N
 rcases hk with rfl | rfl | rfl | rfl | rfl | rfl
 ·clear hkk
  cases is
  ·obtain ⟨rfl,rfl⟩:=HNo.out rfl
   clear HNo
   clear HCo5 HHa5
   obtain rfl : 29 = R:=by rw [<- HR.out];simp [folN]
   clear HR
   go_wp2
   go_ret
   exact ⟨rfl,g5⟩
  ·clear HNo
   cases ymp
   ·cases yd
    ·clear HCo5 HHa5
     obtain rfl : 29 = R:=by rw [<- HR.out];simp [folN]
     clear HR
     go_wp2
     go_ret
     exact ⟨rfl,g5⟩
    ·clear HCo5 HHa5
     obtain rfl : 29 = R:=by rw [<- HR.out];simp [folN]
     clear HR
     go_wp2
     go_ret
     exact ⟨rfl,g5⟩
   ·cases yd
    ·go_wp2_with fail
     refine HHa5.out.mono ?_;rintro _ w6 ⟨rfl,hb6⟩
     have g6:=below_then g5 hb6
     have P6:=P5.below hb6 P5.lt
     have X6:=X5.below hb6 X5.lt
     clear HCo5 HHa5 hb6 P5 X5 N5 g5 c0 c1 c2 c3 o0 o1 o2 o3 x0 x1 x2 x3 x4 x5 x6 x7 x8 x9 x10 x11 x12 x13 x14
     obtain ⟨c0,c1,c2,c3⟩:=P6.o4s
     obtain ⟨x0,x1,x2,x3,x4,x5,x6,x7,x8,x9,x10,x11,x12,x13,x14⟩:=Whole.e15 (g:=V.h) X6
     cases hs
     ·obtain rfl : 0 = R:=by rw [<- HR.out];simp [folN]
      clear HR
      go_wp2
      go_ret
      exact ⟨rfl,g6⟩
     ·obtain rfl : 8 = R:=by rw [<- HR.out];simp [folN]
      clear HR
      go_wp2
      go_ret
      exact ⟨rfl,g6⟩
    ·clear HCo5 HHa5
     obtain rfl : 29 = R:=by rw [<- HR.out];simp [folN]
     clear HR
     go_wp2
     go_ret
     exact ⟨rfl,g5⟩
 ·clear hkk
  cases is
  ·obtain ⟨rfl,rfl⟩:=HNo.out rfl
   clear HNo
   clear HCo5 HHa5
   obtain rfl : 29 = R:=by rw [<- HR.out];simp [folN]
   clear HR
   go_wp2
   go_ret
   exact ⟨rfl,g5⟩
  ·clear HNo
   cases ymp
   ·cases yd
    ·clear HCo5 HHa5
     obtain rfl : 0 = R:=by rw [<- HR.out];simp [folN]
     clear HR
     go_wp2
     go_ret
     exact ⟨rfl,g5⟩
    ·clear HCo5 HHa5
     obtain rfl : 0 = R:=by rw [<- HR.out];simp [folN]
     clear HR
     go_wp2
     go_ret
     exact ⟨rfl,g5⟩
   ·cases yd
    ·clear HCo5 HHa5
     obtain rfl : 29 = R:=by rw [<- HR.out];simp [folN]
     clear HR
     go_wp2
     go_ret
     exact ⟨rfl,g5⟩
    ·clear HCo5 HHa5
     obtain rfl : 29 = R:=by rw [<- HR.out];simp [folN]
     clear HR
     go_wp2
     go_ret
     exact ⟨rfl,g5⟩
 ·clear hkk
  cases is
  ·obtain ⟨rfl,rfl⟩:=HNo.out rfl
   clear HNo
   clear HCo5 HHa5
   obtain rfl : 29 = R:=by rw [<- HR.out];simp [folN]
   clear HR
   go_wp2
   go_ret
   exact ⟨rfl,g5⟩
  ·clear HNo
   cases ymp
   ·cases yd
    ·clear HCo5 HHa5
     obtain rfl : 29 = R:=by rw [<- HR.out];simp [folN]
     clear HR
     go_wp2
     go_ret
     exact ⟨rfl,g5⟩
    ·clear HCo5 HHa5
     obtain rfl : 29 = R:=by rw [<- HR.out];simp [folN]
     clear HR
     go_wp2
     go_ret
     exact ⟨rfl,g5⟩
   ·cases yd
    ·clear HCo5 HHa5
     obtain rfl : 0 = R:=by rw [<- HR.out];simp [folN]
     clear HR
     go_wp2
     go_ret
     exact ⟨rfl,g5⟩
    ·clear HCo5 HHa5
     obtain rfl : 29 = R:=by rw [<- HR.out];simp [folN]
     clear HR
     go_wp2
     go_ret
     exact ⟨rfl,g5⟩
 ·clear hkk
  cases is
  ·obtain ⟨rfl,rfl⟩:=HNo.out rfl
   clear HNo
   go_wp2_with fail
   refine HCo5.out.mono ?_;rintro _ w6 ⟨rfl,hb6⟩
   have g6:=below_then g5 hb6
   have P6:=P5.below hb6 P5.lt
   have X6:=X5.below hb6 X5.lt
   have N6:=N5.below hb6 N5.lt
   clear HCo5 HHa5 hb6 P5 X5 N5 g5 c0 c1 c2 c3 o0 o1 o2 o3 x0 x1 x2 x3 x4 x5 x6 x7 x8 x9 x10 x11 x12 x13 x14
   obtain ⟨c0,c1,c2,c3⟩:=P6.o4s
   obtain ⟨x0,x1,x2,x3,x4,x5,x6,x7,x8,x9,x10,x11,x12,x13,x14⟩:=Whole.e15 (g:=V.h) X6
   obtain ⟨o0,o1,o2,o3⟩:=N6.o4
   cases wh
   ·by_cases q9 : 48 <= on
    ·have q9i : (48 : Int) <= on:=by omega
     obtain rfl : 9 = R:=by rw [<- HR.out];simp [folN,q9]
     clear HR
     go_wp2
     go_ret
     exact ⟨rfl,g6⟩
    ·have q9i : ¬ (48 : Int) <= on:=by omega
     by_cases q10 : 65536 <= nd
     ·have q10i : (65536 : Int) <= M:=by have:=HM.out;omega
      obtain rfl : 10 = R:=by rw [<- HR.out];simp [folN,q9,q10]
      clear HR
      go_wp2
      go_ret
      exact ⟨rfl,g6⟩
     ·have q10i : ¬ (65536 : Int) <= M:=by have:=HM.out;omega
      obtain rfl : 0 = R:=by rw [<- HR.out];simp [folN,q9,q10]
      clear HR
      go_wp2
      go_ret
      exact ⟨rfl,g6⟩
   ·obtain rfl : 29 = R:=by rw [<- HR.out];simp [folN]
    clear HR
    go_wp2
    go_ret
    exact ⟨rfl,g6⟩
  ·clear HNo
   cases ymp
   ·cases yd
    ·go_wp2_with fail
     refine HCo5.out.mono ?_;rintro _ w6 ⟨rfl,hb6⟩
     have g6:=below_then g5 hb6
     have P6:=P5.below hb6 P5.lt
     have X6:=X5.below hb6 X5.lt
     have N6:=N5.below hb6 N5.lt
     clear HCo5 HHa5 hb6 P5 X5 N5 g5 c0 c1 c2 c3 o0 o1 o2 o3 x0 x1 x2 x3 x4 x5 x6 x7 x8 x9 x10 x11 x12 x13 x14
     obtain ⟨c0,c1,c2,c3⟩:=P6.o4s
     obtain ⟨x0,x1,x2,x3,x4,x5,x6,x7,x8,x9,x10,x11,x12,x13,x14⟩:=Whole.e15 (g:=V.h) X6
     obtain ⟨o0,o1,o2,o3⟩:=N6.o4
     cases wh
     ·by_cases q9 : 48 <= on
      ·have q9i : (48 : Int) <= on:=by omega
       obtain rfl : 9 = R:=by rw [<- HR.out];simp [folN,q9]
       clear HR
       go_wp2
       go_ret
       exact ⟨rfl,g6⟩
      ·have q9i : ¬ (48 : Int) <= on:=by omega
       by_cases q10 : 65536 <= nd
       ·have q10i : (65536 : Int) <= M:=by have:=HM.out;omega
        obtain rfl : 10 = R:=by rw [<- HR.out];simp [folN,q9,q10]
        clear HR
        go_wp2
        go_ret
        exact ⟨rfl,g6⟩
       ·have q10i : ¬ (65536 : Int) <= M:=by have:=HM.out;omega
        obtain rfl : 0 = R:=by rw [<- HR.out];simp [folN,q9,q10]
        clear HR
        go_wp2
        go_ret
        exact ⟨rfl,g6⟩
     ·obtain rfl : 29 = R:=by rw [<- HR.out];simp [folN]
      clear HR
      go_wp2
      go_ret
      exact ⟨rfl,g6⟩
    ·go_wp2_with fail
     refine HCo5.out.mono ?_;rintro _ w6 ⟨rfl,hb6⟩
     have g6:=below_then g5 hb6
     have P6:=P5.below hb6 P5.lt
     have X6:=X5.below hb6 X5.lt
     have N6:=N5.below hb6 N5.lt
     clear HCo5 HHa5 hb6 P5 X5 N5 g5 c0 c1 c2 c3 o0 o1 o2 o3 x0 x1 x2 x3 x4 x5 x6 x7 x8 x9 x10 x11 x12 x13 x14
     obtain ⟨c0,c1,c2,c3⟩:=P6.o4s
     obtain ⟨x0,x1,x2,x3,x4,x5,x6,x7,x8,x9,x10,x11,x12,x13,x14⟩:=Whole.e15 (g:=V.h) X6
     obtain ⟨o0,o1,o2,o3⟩:=N6.o4
     cases wh
     ·by_cases q9 : 48 <= on
      ·have q9i : (48 : Int) <= on:=by omega
       obtain rfl : 9 = R:=by rw [<- HR.out];simp [folN,q9]
       clear HR
       go_wp2
       go_ret
       exact ⟨rfl,g6⟩
      ·have q9i : ¬ (48 : Int) <= on:=by omega
       by_cases q10 : 65536 <= nd
       ·have q10i : (65536 : Int) <= M:=by have:=HM.out;omega
        obtain rfl : 10 = R:=by rw [<- HR.out];simp [folN,q9,q10]
        clear HR
        go_wp2
        go_ret
        exact ⟨rfl,g6⟩
       ·have q10i : ¬ (65536 : Int) <= M:=by have:=HM.out;omega
        obtain rfl : 0 = R:=by rw [<- HR.out];simp [folN,q9,q10]
        clear HR
        go_wp2
        go_ret
        exact ⟨rfl,g6⟩
     ·obtain rfl : 29 = R:=by rw [<- HR.out];simp [folN]
      clear HR
      go_wp2
      go_ret
      exact ⟨rfl,g6⟩
   ·cases yd
    ·go_wp2_with fail
     refine HCo5.out.mono ?_;rintro _ w6 ⟨rfl,hb6⟩
     have g6:=below_then g5 hb6
     have P6:=P5.below hb6 P5.lt
     have X6:=X5.below hb6 X5.lt
     have N6:=N5.below hb6 N5.lt
     clear HCo5 HHa5 hb6 P5 X5 N5 g5 c0 c1 c2 c3 o0 o1 o2 o3 x0 x1 x2 x3 x4 x5 x6 x7 x8 x9 x10 x11 x12 x13 x14
     obtain ⟨c0,c1,c2,c3⟩:=P6.o4s
     obtain ⟨x0,x1,x2,x3,x4,x5,x6,x7,x8,x9,x10,x11,x12,x13,x14⟩:=Whole.e15 (g:=V.h) X6
     obtain ⟨o0,o1,o2,o3⟩:=N6.o4
     cases wh
     ·obtain rfl : 29 = R:=by rw [<- HR.out];simp [folN]
      clear HR
      go_wp2
      go_ret
      exact ⟨rfl,g6⟩
     ·obtain rfl : 29 = R:=by rw [<- HR.out];simp [folN]
      clear HR
      go_wp2
      go_ret
      exact ⟨rfl,g6⟩
    ·go_wp2_with fail
     refine HCo5.out.mono ?_;rintro _ w6 ⟨rfl,hb6⟩
     have g6:=below_then g5 hb6
     have P6:=P5.below hb6 P5.lt
     have X6:=X5.below hb6 X5.lt
     have N6:=N5.below hb6 N5.lt
     clear HCo5 HHa5 hb6 P5 X5 N5 g5 c0 c1 c2 c3 o0 o1 o2 o3 x0 x1 x2 x3 x4 x5 x6 x7 x8 x9 x10 x11 x12 x13 x14
     obtain ⟨c0,c1,c2,c3⟩:=P6.o4s
     obtain ⟨x0,x1,x2,x3,x4,x5,x6,x7,x8,x9,x10,x11,x12,x13,x14⟩:=Whole.e15 (g:=V.h) X6
     obtain ⟨o0,o1,o2,o3⟩:=N6.o4
     cases wh
     ·by_cases q9 : 48 <= on
      ·have q9i : (48 : Int) <= on:=by omega
       obtain rfl : 9 = R:=by rw [<- HR.out];simp [folN,q9]
       clear HR
       go_wp2
       go_ret
       exact ⟨rfl,g6⟩
      ·have q9i : ¬ (48 : Int) <= on:=by omega
       by_cases q10 : 65536 <= nd
       ·have q10i : (65536 : Int) <= M:=by have:=HM.out;omega
        obtain rfl : 10 = R:=by rw [<- HR.out];simp [folN,q9,q10]
        clear HR
        go_wp2
        go_ret
        exact ⟨rfl,g6⟩
       ·have q10i : ¬ (65536 : Int) <= M:=by have:=HM.out;omega
        obtain rfl : 0 = R:=by rw [<- HR.out];simp [folN,q9,q10]
        clear HR
        go_wp2
        go_ret
        exact ⟨rfl,g6⟩
     ·obtain rfl : 29 = R:=by rw [<- HR.out];simp [folN]
      clear HR
      go_wp2
      go_ret
      exact ⟨rfl,g6⟩
 ·clear hkk
  cases is
  ·obtain ⟨rfl,rfl⟩:=HNo.out rfl
   clear HNo
   go_wp2_with fail
   refine HCo5.out.mono ?_;rintro _ w6 ⟨rfl,hb6⟩
   have g6:=below_then g5 hb6
   have P6:=P5.below hb6 P5.lt
   have X6:=X5.below hb6 X5.lt
   have N6:=N5.below hb6 N5.lt
   clear HCo5 HHa5 hb6 P5 X5 N5 g5 c0 c1 c2 c3 o0 o1 o2 o3 x0 x1 x2 x3 x4 x5 x6 x7 x8 x9 x10 x11 x12 x13 x14
   obtain ⟨c0,c1,c2,c3⟩:=P6.o4s
   obtain ⟨x0,x1,x2,x3,x4,x5,x6,x7,x8,x9,x10,x11,x12,x13,x14⟩:=Whole.e15 (g:=V.h) X6
   obtain ⟨o0,o1,o2,o3⟩:=N6.o4
   cases wh
   ·by_cases q9 : 48 <= on
    ·have q9i : (48 : Int) <= on:=by omega
     obtain rfl : 9 = R:=by rw [<- HR.out];simp [folN,q9]
     clear HR
     go_wp2
     go_ret
     exact ⟨rfl,g6⟩
    ·have q9i : ¬ (48 : Int) <= on:=by omega
     by_cases q10 : 65536 <= nd
     ·have q10i : (65536 : Int) <= M:=by have:=HM.out;omega
      obtain rfl : 10 = R:=by rw [<- HR.out];simp [folN,q9,q10]
      clear HR
      go_wp2
      go_ret
      exact ⟨rfl,g6⟩
     ·have q10i : ¬ (65536 : Int) <= M:=by have:=HM.out;omega
      obtain rfl : 0 = R:=by rw [<- HR.out];simp [folN,q9,q10]
      clear HR
      go_wp2
      go_ret
      exact ⟨rfl,g6⟩
   ·obtain rfl : 29 = R:=by rw [<- HR.out];simp [folN]
    clear HR
    go_wp2
    go_ret
    exact ⟨rfl,g6⟩
  ·clear HNo
   cases ymp
   ·cases yd
    ·go_wp2_with fail
     refine HCo5.out.mono ?_;rintro _ w6 ⟨rfl,hb6⟩
     have g6:=below_then g5 hb6
     have P6:=P5.below hb6 P5.lt
     have X6:=X5.below hb6 X5.lt
     have N6:=N5.below hb6 N5.lt
     clear HCo5 HHa5 hb6 P5 X5 N5 g5 c0 c1 c2 c3 o0 o1 o2 o3 x0 x1 x2 x3 x4 x5 x6 x7 x8 x9 x10 x11 x12 x13 x14
     obtain ⟨c0,c1,c2,c3⟩:=P6.o4s
     obtain ⟨x0,x1,x2,x3,x4,x5,x6,x7,x8,x9,x10,x11,x12,x13,x14⟩:=Whole.e15 (g:=V.h) X6
     obtain ⟨o0,o1,o2,o3⟩:=N6.o4
     cases wh
     ·by_cases q9 : 48 <= on
      ·have q9i : (48 : Int) <= on:=by omega
       obtain rfl : 9 = R:=by rw [<- HR.out];simp [folN,q9]
       clear HR
       go_wp2
       go_ret
       exact ⟨rfl,g6⟩
      ·have q9i : ¬ (48 : Int) <= on:=by omega
       by_cases q10 : 65536 <= nd
       ·have q10i : (65536 : Int) <= M:=by have:=HM.out;omega
        obtain rfl : 10 = R:=by rw [<- HR.out];simp [folN,q9,q10]
        clear HR
        go_wp2
        go_ret
        exact ⟨rfl,g6⟩
       ·have q10i : ¬ (65536 : Int) <= M:=by have:=HM.out;omega
        obtain rfl : 0 = R:=by rw [<- HR.out];simp [folN,q9,q10]
        clear HR
        go_wp2
        go_ret
        exact ⟨rfl,g6⟩
     ·obtain rfl : 29 = R:=by rw [<- HR.out];simp [folN]
      clear HR
      go_wp2
      go_ret
      exact ⟨rfl,g6⟩
    ·go_wp2_with fail
     refine HCo5.out.mono ?_;rintro _ w6 ⟨rfl,hb6⟩
     have g6:=below_then g5 hb6
     have P6:=P5.below hb6 P5.lt
     have X6:=X5.below hb6 X5.lt
     have N6:=N5.below hb6 N5.lt
     clear HCo5 HHa5 hb6 P5 X5 N5 g5 c0 c1 c2 c3 o0 o1 o2 o3 x0 x1 x2 x3 x4 x5 x6 x7 x8 x9 x10 x11 x12 x13 x14
     obtain ⟨c0,c1,c2,c3⟩:=P6.o4s
     obtain ⟨x0,x1,x2,x3,x4,x5,x6,x7,x8,x9,x10,x11,x12,x13,x14⟩:=Whole.e15 (g:=V.h) X6
     obtain ⟨o0,o1,o2,o3⟩:=N6.o4
     cases wh
     ·by_cases q9 : 48 <= on
      ·have q9i : (48 : Int) <= on:=by omega
       obtain rfl : 9 = R:=by rw [<- HR.out];simp [folN,q9]
       clear HR
       go_wp2
       go_ret
       exact ⟨rfl,g6⟩
      ·have q9i : ¬ (48 : Int) <= on:=by omega
       by_cases q10 : 65536 <= nd
       ·have q10i : (65536 : Int) <= M:=by have:=HM.out;omega
        obtain rfl : 10 = R:=by rw [<- HR.out];simp [folN,q9,q10]
        clear HR
        go_wp2
        go_ret
        exact ⟨rfl,g6⟩
       ·have q10i : ¬ (65536 : Int) <= M:=by have:=HM.out;omega
        obtain rfl : 0 = R:=by rw [<- HR.out];simp [folN,q9,q10]
        clear HR
        go_wp2
        go_ret
        exact ⟨rfl,g6⟩
     ·obtain rfl : 29 = R:=by rw [<- HR.out];simp [folN]
      clear HR
      go_wp2
      go_ret
      exact ⟨rfl,g6⟩
   ·cases yd
    ·go_wp2_with fail
     refine HCo5.out.mono ?_;rintro _ w6 ⟨rfl,hb6⟩
     have g6:=below_then g5 hb6
     have P6:=P5.below hb6 P5.lt
     have X6:=X5.below hb6 X5.lt
     have N6:=N5.below hb6 N5.lt
     clear HCo5 HHa5 hb6 P5 X5 N5 g5 c0 c1 c2 c3 o0 o1 o2 o3 x0 x1 x2 x3 x4 x5 x6 x7 x8 x9 x10 x11 x12 x13 x14
     obtain ⟨c0,c1,c2,c3⟩:=P6.o4s
     obtain ⟨x0,x1,x2,x3,x4,x5,x6,x7,x8,x9,x10,x11,x12,x13,x14⟩:=Whole.e15 (g:=V.h) X6
     obtain ⟨o0,o1,o2,o3⟩:=N6.o4
     cases wh
     ·obtain rfl : 29 = R:=by rw [<- HR.out];simp [folN]
      clear HR
      go_wp2
      go_ret
      exact ⟨rfl,g6⟩
     ·obtain rfl : 29 = R:=by rw [<- HR.out];simp [folN]
      clear HR
      go_wp2
      go_ret
      exact ⟨rfl,g6⟩
    ·go_wp2_with fail
     refine HCo5.out.mono ?_;rintro _ w6 ⟨rfl,hb6⟩
     have g6:=below_then g5 hb6
     have P6:=P5.below hb6 P5.lt
     have X6:=X5.below hb6 X5.lt
     have N6:=N5.below hb6 N5.lt
     clear HCo5 HHa5 hb6 P5 X5 N5 g5 c0 c1 c2 c3 o0 o1 o2 o3 x0 x1 x2 x3 x4 x5 x6 x7 x8 x9 x10 x11 x12 x13 x14
     obtain ⟨c0,c1,c2,c3⟩:=P6.o4s
     obtain ⟨x0,x1,x2,x3,x4,x5,x6,x7,x8,x9,x10,x11,x12,x13,x14⟩:=Whole.e15 (g:=V.h) X6
     obtain ⟨o0,o1,o2,o3⟩:=N6.o4
     cases wh
     ·by_cases q9 : 48 <= on
      ·have q9i : (48 : Int) <= on:=by omega
       obtain rfl : 9 = R:=by rw [<- HR.out];simp [folN,q9]
       clear HR
       go_wp2
       go_ret
       exact ⟨rfl,g6⟩
      ·have q9i : ¬ (48 : Int) <= on:=by omega
       by_cases q10 : 65536 <= nd
       ·have q10i : (65536 : Int) <= M:=by have:=HM.out;omega
        obtain rfl : 10 = R:=by rw [<- HR.out];simp [folN,q9,q10]
        clear HR
        go_wp2
        go_ret
        exact ⟨rfl,g6⟩
       ·have q10i : ¬ (65536 : Int) <= M:=by have:=HM.out;omega
        obtain rfl : 0 = R:=by rw [<- HR.out];simp [folN,q9,q10]
        clear HR
        go_wp2
        go_ret
        exact ⟨rfl,g6⟩
     ·obtain rfl : 29 = R:=by rw [<- HR.out];simp [folN]
      clear HR
      go_wp2
      go_ret
      exact ⟨rfl,g6⟩
 ·clear hkk
  cases is
  ·obtain ⟨rfl,rfl⟩:=HNo.out rfl
   clear HNo
   go_wp2_with fail
   refine HCo5.out.mono ?_;rintro _ w6 ⟨rfl,hb6⟩
   have g6:=below_then g5 hb6
   have P6:=P5.below hb6 P5.lt
   have X6:=X5.below hb6 X5.lt
   have N6:=N5.below hb6 N5.lt
   clear HCo5 HHa5 hb6 P5 X5 N5 g5 c0 c1 c2 c3 o0 o1 o2 o3 x0 x1 x2 x3 x4 x5 x6 x7 x8 x9 x10 x11 x12 x13 x14
   obtain ⟨c0,c1,c2,c3⟩:=P6.o4s
   obtain ⟨x0,x1,x2,x3,x4,x5,x6,x7,x8,x9,x10,x11,x12,x13,x14⟩:=Whole.e15 (g:=V.h) X6
   obtain ⟨o0,o1,o2,o3⟩:=N6.o4
   cases wh
   ·by_cases q9 : 48 <= on
    ·have q9i : (48 : Int) <= on:=by omega
     obtain rfl : 9 = R:=by rw [<- HR.out];simp [folN,q9]
     clear HR
     go_wp2
     go_ret
     exact ⟨rfl,g6⟩
    ·have q9i : ¬ (48 : Int) <= on:=by omega
     by_cases q10 : 65536 <= nd
     ·have q10i : (65536 : Int) <= M:=by have:=HM.out;omega
      obtain rfl : 10 = R:=by rw [<- HR.out];simp [folN,q9,q10]
      clear HR
      go_wp2
      go_ret
      exact ⟨rfl,g6⟩
     ·have q10i : ¬ (65536 : Int) <= M:=by have:=HM.out;omega
      obtain rfl : 0 = R:=by rw [<- HR.out];simp [folN,q9,q10]
      clear HR
      go_wp2
      go_ret
      exact ⟨rfl,g6⟩
   ·obtain rfl : 29 = R:=by rw [<- HR.out];simp [folN]
    clear HR
    go_wp2
    go_ret
    exact ⟨rfl,g6⟩
  ·clear HNo
   cases ymp
   ·cases yd
    ·go_wp2_with fail
     refine HCo5.out.mono ?_;rintro _ w6 ⟨rfl,hb6⟩
     have g6:=below_then g5 hb6
     have P6:=P5.below hb6 P5.lt
     have X6:=X5.below hb6 X5.lt
     have N6:=N5.below hb6 N5.lt
     clear HCo5 HHa5 hb6 P5 X5 N5 g5 c0 c1 c2 c3 o0 o1 o2 o3 x0 x1 x2 x3 x4 x5 x6 x7 x8 x9 x10 x11 x12 x13 x14
     obtain ⟨c0,c1,c2,c3⟩:=P6.o4s
     obtain ⟨x0,x1,x2,x3,x4,x5,x6,x7,x8,x9,x10,x11,x12,x13,x14⟩:=Whole.e15 (g:=V.h) X6
     obtain ⟨o0,o1,o2,o3⟩:=N6.o4
     cases wh
     ·by_cases q9 : 48 <= on
      ·have q9i : (48 : Int) <= on:=by omega
       obtain rfl : 9 = R:=by rw [<- HR.out];simp [folN,q9]
       clear HR
       go_wp2
       go_ret
       exact ⟨rfl,g6⟩
      ·have q9i : ¬ (48 : Int) <= on:=by omega
       by_cases q10 : 65536 <= nd
       ·have q10i : (65536 : Int) <= M:=by have:=HM.out;omega
        obtain rfl : 10 = R:=by rw [<- HR.out];simp [folN,q9,q10]
        clear HR
        go_wp2
        go_ret
        exact ⟨rfl,g6⟩
       ·have q10i : ¬ (65536 : Int) <= M:=by have:=HM.out;omega
        obtain rfl : 0 = R:=by rw [<- HR.out];simp [folN,q9,q10]
        clear HR
        go_wp2
        go_ret
        exact ⟨rfl,g6⟩
     ·obtain rfl : 29 = R:=by rw [<- HR.out];simp [folN]
      clear HR
      go_wp2
      go_ret
      exact ⟨rfl,g6⟩
    ·go_wp2_with fail
     refine HCo5.out.mono ?_;rintro _ w6 ⟨rfl,hb6⟩
     have g6:=below_then g5 hb6
     have P6:=P5.below hb6 P5.lt
     have X6:=X5.below hb6 X5.lt
     have N6:=N5.below hb6 N5.lt
     clear HCo5 HHa5 hb6 P5 X5 N5 g5 c0 c1 c2 c3 o0 o1 o2 o3 x0 x1 x2 x3 x4 x5 x6 x7 x8 x9 x10 x11 x12 x13 x14
     obtain ⟨c0,c1,c2,c3⟩:=P6.o4s
     obtain ⟨x0,x1,x2,x3,x4,x5,x6,x7,x8,x9,x10,x11,x12,x13,x14⟩:=Whole.e15 (g:=V.h) X6
     obtain ⟨o0,o1,o2,o3⟩:=N6.o4
     cases wh
     ·by_cases q9 : 48 <= on
      ·have q9i : (48 : Int) <= on:=by omega
       obtain rfl : 9 = R:=by rw [<- HR.out];simp [folN,q9]
       clear HR
       go_wp2
       go_ret
       exact ⟨rfl,g6⟩
      ·have q9i : ¬ (48 : Int) <= on:=by omega
       by_cases q10 : 65536 <= nd
       ·have q10i : (65536 : Int) <= M:=by have:=HM.out;omega
        obtain rfl : 10 = R:=by rw [<- HR.out];simp [folN,q9,q10]
        clear HR
        go_wp2
        go_ret
        exact ⟨rfl,g6⟩
       ·have q10i : ¬ (65536 : Int) <= M:=by have:=HM.out;omega
        obtain rfl : 0 = R:=by rw [<- HR.out];simp [folN,q9,q10]
        clear HR
        go_wp2
        go_ret
        exact ⟨rfl,g6⟩
     ·obtain rfl : 29 = R:=by rw [<- HR.out];simp [folN]
      clear HR
      go_wp2
      go_ret
      exact ⟨rfl,g6⟩
   ·cases yd
    ·go_wp2_with fail
     refine HCo5.out.mono ?_;rintro _ w6 ⟨rfl,hb6⟩
     have g6:=below_then g5 hb6
     have P6:=P5.below hb6 P5.lt
     have X6:=X5.below hb6 X5.lt
     have N6:=N5.below hb6 N5.lt
     clear HCo5 HHa5 hb6 P5 X5 N5 g5 c0 c1 c2 c3 o0 o1 o2 o3 x0 x1 x2 x3 x4 x5 x6 x7 x8 x9 x10 x11 x12 x13 x14
     obtain ⟨c0,c1,c2,c3⟩:=P6.o4s
     obtain ⟨x0,x1,x2,x3,x4,x5,x6,x7,x8,x9,x10,x11,x12,x13,x14⟩:=Whole.e15 (g:=V.h) X6
     obtain ⟨o0,o1,o2,o3⟩:=N6.o4
     cases wh
     ·obtain rfl : 29 = R:=by rw [<- HR.out];simp [folN]
      clear HR
      go_wp2
      go_ret
      exact ⟨rfl,g6⟩
     ·obtain rfl : 29 = R:=by rw [<- HR.out];simp [folN]
      clear HR
      go_wp2
      go_ret
      exact ⟨rfl,g6⟩
    ·go_wp2_with fail
     refine HCo5.out.mono ?_;rintro _ w6 ⟨rfl,hb6⟩
     have g6:=below_then g5 hb6
     have P6:=P5.below hb6 P5.lt
     have X6:=X5.below hb6 X5.lt
     have N6:=N5.below hb6 N5.lt
     clear HCo5 HHa5 hb6 P5 X5 N5 g5 c0 c1 c2 c3 o0 o1 o2 o3 x0 x1 x2 x3 x4 x5 x6 x7 x8 x9 x10 x11 x12 x13 x14
     obtain ⟨c0,c1,c2,c3⟩:=P6.o4s
     obtain ⟨x0,x1,x2,x3,x4,x5,x6,x7,x8,x9,x10,x11,x12,x13,x14⟩:=Whole.e15 (g:=V.h) X6
     obtain ⟨o0,o1,o2,o3⟩:=N6.o4
     cases wh
     ·by_cases q9 : 48 <= on
      ·have q9i : (48 : Int) <= on:=by omega
       obtain rfl : 9 = R:=by rw [<- HR.out];simp [folN,q9]
       clear HR
       go_wp2
       go_ret
       exact ⟨rfl,g6⟩
      ·have q9i : ¬ (48 : Int) <= on:=by omega
       by_cases q10 : 65536 <= nd
       ·have q10i : (65536 : Int) <= M:=by have:=HM.out;omega
        obtain rfl : 10 = R:=by rw [<- HR.out];simp [folN,q9,q10]
        clear HR
        go_wp2
        go_ret
        exact ⟨rfl,g6⟩
       ·have q10i : ¬ (65536 : Int) <= M:=by have:=HM.out;omega
        obtain rfl : 0 = R:=by rw [<- HR.out];simp [folN,q9,q10]
        clear HR
        go_wp2
        go_ret
        exact ⟨rfl,g6⟩
     ·obtain rfl : 29 = R:=by rw [<- HR.out];simp [folN]
      clear HR
      go_wp2
      go_ret
      exact ⟨rfl,g6⟩
theorem Rst.is.whole {r : Rst} {s : Bst} {l : List Ev} (h : r.is s l) : r.whole = s.dn:=by
 unfold Rst.whole
 rw [Bool.eq_iff_iff]
 simp [h.dn,h.d]
theorem rfol_eq {r : Rst} {s : Bst} {l : List Ev} {x : Ev} (h : r.is s l) (hk : x.k = 6 ∨ x.k = 3 ∨ x.k = 5 ∨ x.k = 1 ∨ x.k = 2 ∨ x.k = 4) :
 r.fol x = if followE s x ≠ 0 then followE s x else if begE x /\ 48 <= s.d then 9 else if begE x /\ 65536 <= s.nd then 10 else 0:=by
 have hb : begE x ↔ (x.k = 1 ∨ x.k = 2 ∨ x.k = 4):=Iff.rfl
 unfold Rst.fol
 rw [h.whole,h.d,h.nd]
 by_cases hd : s.d = 0
 ·have hf : decide (0 < s.d) = false:=decide_eq_false (by omega)
  rw [hf]
  unfold followE
  rcases hk with e | e | e | e | e | e <;> cases e2 : s.dn <;> simp [folN,hb,e,hd,e2]
 ·have ht : decide (0 < s.d) = true:=decide_eq_true (by omega)
  have hdn : s.dn = false:=by
   cases e : s.dn with
   | false => rfl
   | true => exact absurd (h.dn.1 e).2 hd
  have ho : r.topO = r.O.O (s.d - 1):=by unfold Rst.topO;rw [h.d,if_neg hd]
  have hi:=h.O (s.d - 1) (by omega)
  rw [decide_eq_true (show s.d - 1 + 1 = s.d by omega)] at hi
  rw [ho,ht,hdn]
  unfold followE
  rw [hdn]
  generalize r.O.O (s.d - 1) = o at *
  generalize s.fr (s.d - 1) = f at *
  have hdue : o.due = (f.mp && f.kd):=by
   rw [Bool.eq_iff_iff,hi.due];simp
  have hs : f.mp = true -> f.kd = false -> decide (fidx o.k.K x.key o.k.n < o.k.n) = decide (fidx f.K x.key f.n < f.n):=by
   intro e1 e2
   have hn : o.k.n = f.n:=by rw [hi.kn,if_pos e1,e2];rfl
   rw [fidx_row hn hi.K,hn]
  rw [hi.mp,hdue]
  generalize decide (fidx o.k.K x.key o.k.n < o.k.n) = q at *
  cases e1 : f.mp <;> cases e2 : f.kd
  ·rcases hk with e | e | e | e | e | e <;> simp [folN,hb,e,hd]
  ·rcases hk with e | e | e | e | e | e <;> simp [folN,hb,e,hd]
  ·have hq:=hs e1 e2
   subst hq
   rcases hk with e | e | e | e | e | e <;> simp [folN,hb,e,hd]
  ·rcases hk with e | e | e | e | e | e <;> simp [folN,hb,e,hd]
def pathO (o : Opn) (last : Bool) : List Stp:=if o.mp = true then (if o.due = true ∨ last = false then [stK (o.k.K (o.k.n - 1))] else []) else [stI (if last = true then o.cnt else o.cnt - 1)]
theorem pathO_eq {o : Opn} {f : Fr} {last : Bool} (h : o.is f last) (hk : last = false -> f.mp = f.kd) : pathO o last = pathF f:=by
 unfold pathO pathF
 rw [h.mp]
 cases e1 : f.mp with
 | false =>
  cases last with
  | true =>
   have:=h.cnt
   rw [if_pos rfl] at this
   simp [this]
  | false =>
   have:=h.cnt
   rw [if_neg (by decide)] at this
   simp [this]
 | true =>
  rw [if_pos rfl,if_pos rfl]
  cases e2 : f.kd with
  | true =>
   have hn : o.k.n = f.n + 1:=by rw [h.kn,if_pos e1,if_pos e2]
   have hK : o.k.K (o.k.n - 1) = f.key:=by
    rw [hn,Nat.add_sub_cancel,h.K _ (by omega),if_neg (Nat.lt_irrefl _)]
   have hd : o.due = true ∨ last = false:=by
    cases last with
    | false => exact .inr rfl
    | true => exact .inl (h.due.2 ⟨rfl,e1,e2⟩)
   rw [if_pos hd,if_pos rfl,hK]
  | false =>
   have hl : last = true:=by
    cases last with
    | true => rfl
    | false => have:=hk rfl;rw [e1,e2] at this;cases this
   have hd : ¬ (o.due = true ∨ last = false):=by
    rintro (q | q)
    ·have:=(h.due.1 q).2.2;rw [e2] at this;cases this
    ·rw [hl] at q;cases q
   rw [if_neg hd,if_neg (by decide)]
def Rst.path (r : Rst) : List Stp:=catL (fun i => pathO (r.O.O i) (decide (i + 1 = r.O.n))) r.O.n
theorem Rst.is.path {r : Rst} {s : Bst} {l : List Ev} (h : r.is s l) (hi : s.inv) : r.path = pathS s:=by
 unfold Rst.path pathS pathN
 rw [h.d]
 refine catL_congr fun i hlt => pathO_eq (h.O i hlt) fun q => hi.keyed i ?_
 have:=of_decide_eq_false q
 omega
end Go.Proofs.YtpcbhneaaibfiaaDoor
