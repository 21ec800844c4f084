/- Laid together. -/
import Derived.Test.YtpcbhneaaibfiaaDoorPB05
import Derived.BigRegion
import Derived.Deep.Cut
import Derived.Deep.DeepCutAuto
import Derived.Test.YtpcbhneaaibfiaaDoorPB04
import Derived.Maps.Views
import Derived.Maps.OwnOps
import Derived.Test.YtpcbhneaaibfiaaDoorPB08
set_option linter.unusedVariables false
set_option linter.unusedSimpArgs false
set_option maxHeartbeats 16000000
set_option maxRecDepth 100000
namespace Go.Proofs.YtpcbhneaaibfiaaDoor
open Go.RowKit
def extB (k : Int) (b nz tz xz yz lz fz : Bool) : Bool :=
 (!decide (k = 1) && b) || (!decide (k = 2) && !nz) || (!decide (k = 3) && !tz) || (!decide (k = 4) && !xz) || (!decide (k = 5) && !yz) || (!decide (k = 6) && !lz) || (!decide (k = 7) && !fz)
def Vh.ext (h : Vh) : Bool:=extB h.k h.b h.nz h.tz0 h.x.toList.isEmpty (decide (h.bn = 0)) (decide (h.ln = 0)) (decide (h.fn = 0))
theorem own_ext (h : Vh) : h.own = (decide (0 <= h.k) && decide (h.k <= 7) && !h.ext):=by
 unfold Vh.own Vh.ext ownB extB
 generalize h.nz = a
 generalize h.tz0 = c
 generalize h.x.toList.isEmpty = d
 generalize decide (h.bn = 0) = e
 generalize decide (h.ln = 0) = f
 generalize decide (h.fn = 0) = g
 generalize h.b = b
 generalize decide (0 <= h.k) = p
 generalize decide (h.k <= 7) = q
 generalize decide (h.k = 1) = k1
 generalize decide (h.k = 2) = k2
 generalize decide (h.k = 3) = k3
 generalize decide (h.k = 4) = k4
 generalize decide (h.k = 5) = k5
 generalize decide (h.k = 6) = k6
 generalize decide (h.k = 7) = k7
 simp only [Bool.not_or,Bool.not_and,Bool.not_not,Bool.and_assoc]
theorem ext_any (h : Vh) (hk : 0 <= h.k /\ h.k <= 7) (w : World) :
 Calls Tryd.prog 76 #[.agg h.cells] w fun r w' => r = .returned (.bool h.ext) /\ Below w.heap.size w w':=by
 obtain ⟨k,b,n,d,e,tk,td,tn,tz,x,ba,bn,bc,la,ln,lc,fa,fn,fc,bb,bo,lb,lo,fb,fo⟩:=h
 have qn:=num_neq n d e
 have qt:=tim_neq tk td tn tz
 have hs : Vh.ext ⟨k,b,n,d,e,tk,td,tn,tz,x,ba,bn,bc,la,ln,lc,fa,fn,fc,bb,bo,lb,lo,fb,fo⟩ = extB k b (!n && d.toList.isEmpty && decide (e = 0)) (decide (tk = 0) && decide (td = 0) && decide (tn = 0) && decide (tz = 0)) x.toList.isEmpty (decide (bn = 0)) (decide (ln = 0)) (decide (fn = 0)):=rfl
 rw [hs]
 clear hs
 generalize (!n && d.toList.isEmpty && decide (e = 0)) = nz at *
 generalize (decide (tk = 0) && decide (td = 0) && decide (tn = 0) && decide (tz = 0)) = tz0 at *
 obtain ⟨xz,hx⟩ : ∃ c,x.toList.isEmpty = c:=⟨_,rfl⟩
 obtain ⟨yz,hy⟩ : ∃ c,decide (bn = 0) = c:=⟨_,rfl⟩
 obtain ⟨lz,hl⟩ : ∃ c,decide (ln = 0) = c:=⟨_,rfl⟩
 obtain ⟨fz,hf⟩ : ∃ c,decide (fn = 0) = c:=⟨_,rfl⟩
 rw [hx,hy,hl,hf]
 have hx2 : (x.toList == ([] : List UInt8)) = xz:=by rw [<- hx];cases x.toList <;> rfl
 have hy2 : decide ((0 : Int) < bn) = !yz:=by rw [<- hy];by_cases q : bn = 0 <;> simp [q] <;> omega
 have hl2 : decide ((0 : Int) < ln) = !lz:=by rw [<- hl];by_cases q : ln = 0 <;> simp [q] <;> omega
 have hf2 : decide ((0 : Int) < fn) = !fz:=by rw [<- hf];by_cases q : fn = 0 <;> simp [q] <;> omega
 have hy3 : decide (0 < bn) = !yz:=by rw [<- hy];by_cases q : bn = 0 <;> simp [q] <;> omega
 have hl3 : decide (0 < ln) = !lz:=by rw [<- hl];by_cases q : ln = 0 <;> simp [q] <;> omega
 have hf3 : decide (0 < fn) = !fz:=by rw [<- hf];by_cases q : fn = 0 <;> simp [q] <;> omega
 clear hx hy hl hf
 simp only [Vh.cells]
 dsimp only at hk
 have hk1:=hk.1
 have hk2:=hk.2
 clear hk
 obtain ⟨R,hR⟩ : ∃ R,extB k b nz tz0 xz yz lz fz = R:=⟨_,rfl⟩
 rw [hR]
 have HR:=Lib.hid hR
 clear hR
 have far : k = 0 ∨ k = 1 ∨ k = 2 ∨ k = 3 ∨ k = 4 ∨ k = 5 ∨ k = 6 ∨ k = 7:=by omega
 rcases far with rfl | rfl | rfl | rfl | rfl | rfl | rfl | rfl
 ·cases b
  ·cases nz
   ·go_enter Tryd.func76,Tryd.ntmps76
    go_upto_region 2 with (fail)
    simp only [List.append]
    go_wp2
    go_ret
    exact ⟨by rw [<- HR.out];rfl,(Below.refl w.heap.size w).alloc (Nat.le_refl _) _⟩
   ·cases tz0
    ·go_enter Tryd.func76,Tryd.ntmps76
     go_upto_region 2 with (fail)
     simp only [List.append]
     go_wp2
     go_ret
     exact ⟨by rw [<- HR.out];rfl,(Below.refl w.heap.size w).alloc (Nat.le_refl _) _⟩
    ·cases xz
     ·go_enter Tryd.func76,Tryd.ntmps76
      go_upto_region 2 with (fail)
      simp only [List.append]
      go_wp2
      go_ret
      exact ⟨by rw [<- HR.out];rfl,(Below.refl w.heap.size w).alloc (Nat.le_refl _) _⟩
     ·cases yz
      ·go_enter Tryd.func76,Tryd.ntmps76
       go_upto_region 2 with (fail)
       simp only [List.append]
       go_wp2
       go_ret
       exact ⟨by rw [<- HR.out];rfl,(Below.refl w.heap.size w).alloc (Nat.le_refl _) _⟩
      ·cases lz
       ·go_enter Tryd.func76,Tryd.ntmps76
        go_upto_region 2 with (fail)
        simp only [List.append]
        go_wp2
        go_ret
        exact ⟨by rw [<- HR.out];rfl,(Below.refl w.heap.size w).alloc (Nat.le_refl _) _⟩
       ·cases fz
        ·go_enter Tryd.func76,Tryd.ntmps76
         go_upto_region 2 with (fail)
         simp only [List.append]
         go_wp2
         go_ret
         exact ⟨by rw [<- HR.out];rfl,(Below.refl w.heap.size w).alloc (Nat.le_refl _) _⟩
        ·go_enter Tryd.func76,Tryd.ntmps76
         go_upto_region 2 with (fail)
         simp only [List.append]
         go_wp2
         go_ret
         exact ⟨by rw [<- HR.out];rfl,(Below.refl w.heap.size w).alloc (Nat.le_refl _) _⟩
  ·go_enter Tryd.func76,Tryd.ntmps76
   go_upto_region 2 with (fail)
   simp only [List.append]
   go_wp2
   go_ret
   exact ⟨by rw [<- HR.out];rfl,(Below.refl w.heap.size w).alloc (Nat.le_refl _) _⟩
 ·cases nz
  ·go_enter Tryd.func76,Tryd.ntmps76
   go_upto_region 2 with (fail)
   simp only [List.append]
   go_wp2
   go_ret
   exact ⟨by rw [<- HR.out];rfl,(Below.refl w.heap.size w).alloc (Nat.le_refl _) _⟩
  ·cases tz0
   ·go_enter Tryd.func76,Tryd.ntmps76
    go_upto_region 2 with (fail)
    simp only [List.append]
    go_wp2
    go_ret
    exact ⟨by rw [<- HR.out];rfl,(Below.refl w.heap.size w).alloc (Nat.le_refl _) _⟩
   ·cases xz
    ·go_enter Tryd.func76,Tryd.ntmps76
     go_upto_region 2 with (fail)
     simp only [List.append]
     go_wp2
     go_ret
     exact ⟨by rw [<- HR.out];rfl,(Below.refl w.heap.size w).alloc (Nat.le_refl _) _⟩
    ·cases yz
     ·go_enter Tryd.func76,Tryd.ntmps76
      go_upto_region 2 with (fail)
      simp only [List.append]
      go_wp2
      go_ret
      exact ⟨by rw [<- HR.out];rfl,(Below.refl w.heap.size w).alloc (Nat.le_refl _) _⟩
     ·cases lz
      ·go_enter Tryd.func76,Tryd.ntmps76
       go_upto_region 2 with (fail)
       simp only [List.append]
       go_wp2
       go_ret
       exact ⟨by rw [<- HR.out];rfl,(Below.refl w.heap.size w).alloc (Nat.le_refl _) _⟩
      ·cases fz
       ·go_enter Tryd.func76,Tryd.ntmps76
        go_upto_region 2 with (fail)
        simp only [List.append]
        go_wp2
        go_ret
        exact ⟨by rw [<- HR.out];rfl,(Below.refl w.heap.size w).alloc (Nat.le_refl _) _⟩
       ·go_enter Tryd.func76,Tryd.ntmps76
        go_upto_region 2 with (fail)
        simp only [List.append]
        go_wp2
        go_ret
        exact ⟨by rw [<- HR.out];rfl,(Below.refl w.heap.size w).alloc (Nat.le_refl _) _⟩
 ·cases b
  ·cases tz0
   ·go_enter Tryd.func76,Tryd.ntmps76
    go_upto_region 2 with (fail)
    simp only [List.append]
    go_wp2
    go_ret
    exact ⟨by rw [<- HR.out];rfl,(Below.refl w.heap.size w).alloc (Nat.le_refl _) _⟩
   ·cases xz
    ·go_enter Tryd.func76,Tryd.ntmps76
     go_upto_region 2 with (fail)
     simp only [List.append]
     go_wp2
     go_ret
     exact ⟨by rw [<- HR.out];rfl,(Below.refl w.heap.size w).alloc (Nat.le_refl _) _⟩
    ·cases yz
     ·go_enter Tryd.func76,Tryd.ntmps76
      go_upto_region 2 with (fail)
      simp only [List.append]
      go_wp2
      go_ret
      exact ⟨by rw [<- HR.out];rfl,(Below.refl w.heap.size w).alloc (Nat.le_refl _) _⟩
     ·cases lz
      ·go_enter Tryd.func76,Tryd.ntmps76
       go_upto_region 2 with (fail)
       simp only [List.append]
       go_wp2
       go_ret
       exact ⟨by rw [<- HR.out];rfl,(Below.refl w.heap.size w).alloc (Nat.le_refl _) _⟩
      ·cases fz
       ·go_enter Tryd.func76,Tryd.ntmps76
        go_upto_region 2 with (fail)
        simp only [List.append]
        go_wp2
        go_ret
        exact ⟨by rw [<- HR.out];rfl,(Below.refl w.heap.size w).alloc (Nat.le_refl _) _⟩
       ·go_enter Tryd.func76,Tryd.ntmps76
        go_upto_region 2 with (fail)
        simp only [List.append]
        go_wp2
        go_ret
        exact ⟨by rw [<- HR.out];rfl,(Below.refl w.heap.size w).alloc (Nat.le_refl _) _⟩
  ·go_enter Tryd.func76,Tryd.ntmps76
   go_upto_region 2 with (fail)
   simp only [List.append]
   go_wp2
   go_ret
   exact ⟨by rw [<- HR.out];rfl,(Below.refl w.heap.size w).alloc (Nat.le_refl _) _⟩
 ·cases b
  ·cases nz
   ·go_enter Tryd.func76,Tryd.ntmps76
    go_upto_region 2 with (fail)
    simp only [List.append]
    go_wp2
    go_ret
    exact ⟨by rw [<- HR.out];rfl,(Below.refl w.heap.size w).alloc (Nat.le_refl _) _⟩
   ·cases xz
    ·go_enter Tryd.func76,Tryd.ntmps76
     go_upto_region 2 with (fail)
     simp only [List.append]
     go_wp2
     go_ret
     exact ⟨by rw [<- HR.out];rfl,(Below.refl w.heap.size w).alloc (Nat.le_refl _) _⟩
    ·cases yz
     ·go_enter Tryd.func76,Tryd.ntmps76
      go_upto_region 2 with (fail)
      simp only [List.append]
      go_wp2
      go_ret
      exact ⟨by rw [<- HR.out];rfl,(Below.refl w.heap.size w).alloc (Nat.le_refl _) _⟩
     ·cases lz
      ·go_enter Tryd.func76,Tryd.ntmps76
       go_upto_region 2 with (fail)
       simp only [List.append]
       go_wp2
       go_ret
       exact ⟨by rw [<- HR.out];rfl,(Below.refl w.heap.size w).alloc (Nat.le_refl _) _⟩
      ·cases fz
       ·go_enter Tryd.func76,Tryd.ntmps76
        go_upto_region 2 with (fail)
        simp only [List.append]
        go_wp2
        go_ret
        exact ⟨by rw [<- HR.out];rfl,(Below.refl w.heap.size w).alloc (Nat.le_refl _) _⟩
       ·go_enter Tryd.func76,Tryd.ntmps76
        go_upto_region 2 with (fail)
        simp only [List.append]
        go_wp2
        go_ret
        exact ⟨by rw [<- HR.out];rfl,(Below.refl w.heap.size w).alloc (Nat.le_refl _) _⟩
  ·go_enter Tryd.func76,Tryd.ntmps76
   go_upto_region 2 with (fail)
   simp only [List.append]
   go_wp2
   go_ret
   exact ⟨by rw [<- HR.out];rfl,(Below.refl w.heap.size w).alloc (Nat.le_refl _) _⟩
 ·cases b
  ·cases nz
   ·go_enter Tryd.func76,Tryd.ntmps76
    go_upto_region 2 with (fail)
    simp only [List.append]
    go_wp2
    go_ret
    exact ⟨by rw [<- HR.out];rfl,(Below.refl w.heap.size w).alloc (Nat.le_refl _) _⟩
   ·cases tz0
    ·go_enter Tryd.func76,Tryd.ntmps76
     go_upto_region 2 with (fail)
     simp only [List.append]
     go_wp2
     go_ret
     exact ⟨by rw [<- HR.out];rfl,(Below.refl w.heap.size w).alloc (Nat.le_refl _) _⟩
    ·cases yz
     ·go_enter Tryd.func76,Tryd.ntmps76
      go_upto_region 2 with (fail)
      simp only [List.append]
      go_wp2
      go_ret
      exact ⟨by rw [<- HR.out];rfl,(Below.refl w.heap.size w).alloc (Nat.le_refl _) _⟩
     ·cases lz
      ·go_enter Tryd.func76,Tryd.ntmps76
       go_upto_region 2 with (fail)
       simp only [List.append]
       go_wp2
       go_ret
       exact ⟨by rw [<- HR.out];rfl,(Below.refl w.heap.size w).alloc (Nat.le_refl _) _⟩
      ·cases fz
       ·go_enter Tryd.func76,Tryd.ntmps76
        go_upto_region 2 with (fail)
        simp only [List.append]
        go_wp2
        go_ret
        exact ⟨by rw [<- HR.out];rfl,(Below.refl w.heap.size w).alloc (Nat.le_refl _) _⟩
       ·go_enter Tryd.func76,Tryd.ntmps76
        go_upto_region 2 with (fail)
        simp only [List.append]
        go_wp2
        go_ret
        exact ⟨by rw [<- HR.out];rfl,(Below.refl w.heap.size w).alloc (Nat.le_refl _) _⟩
  ·go_enter Tryd.func76,Tryd.ntmps76
   go_upto_region 2 with (fail)
   simp only [List.append]
   go_wp2
   go_ret
   exact ⟨by rw [<- HR.out];rfl,(Below.refl w.heap.size w).alloc (Nat.le_refl _) _⟩
 ·cases b
  ·cases nz
   ·go_enter Tryd.func76,Tryd.ntmps76
    go_upto_region 2 with (fail)
    simp only [List.append]
    go_wp2
    go_ret
    exact ⟨by rw [<- HR.out];rfl,(Below.refl w.heap.size w).alloc (Nat.le_refl _) _⟩
   ·cases tz0
    ·go_enter Tryd.func76,Tryd.ntmps76
     go_upto_region 2 with (fail)
     simp only [List.append]
     go_wp2
     go_ret
     exact ⟨by rw [<- HR.out];rfl,(Below.refl w.heap.size w).alloc (Nat.le_refl _) _⟩
    ·cases xz
     ·go_enter Tryd.func76,Tryd.ntmps76
      go_upto_region 2 with (fail)
      simp only [List.append]
      go_wp2
      go_ret
      exact ⟨by rw [<- HR.out];rfl,(Below.refl w.heap.size w).alloc (Nat.le_refl _) _⟩
     ·cases lz
      ·go_enter Tryd.func76,Tryd.ntmps76
       go_upto_region 2 with (fail)
       simp only [List.append]
       go_wp2
       go_ret
       exact ⟨by rw [<- HR.out];rfl,(Below.refl w.heap.size w).alloc (Nat.le_refl _) _⟩
      ·cases fz
       ·go_enter Tryd.func76,Tryd.ntmps76
        go_upto_region 2 with (fail)
        simp only [List.append]
        go_wp2
        go_ret
        exact ⟨by rw [<- HR.out];rfl,(Below.refl w.heap.size w).alloc (Nat.le_refl _) _⟩
       ·go_enter Tryd.func76,Tryd.ntmps76
        go_upto_region 2 with (fail)
        simp only [List.append]
        go_wp2
        go_ret
        exact ⟨by rw [<- HR.out];rfl,(Below.refl w.heap.size w).alloc (Nat.le_refl _) _⟩
  ·go_enter Tryd.func76,Tryd.ntmps76
   go_upto_region 2 with (fail)
   simp only [List.append]
   go_wp2
   go_ret
   exact ⟨by rw [<- HR.out];rfl,(Below.refl w.heap.size w).alloc (Nat.le_refl _) _⟩
 ·cases b
  ·cases nz
   ·go_enter Tryd.func76,Tryd.ntmps76
    go_upto_region 2 with (fail)
    simp only [List.append]
    go_wp2
    go_ret
    exact ⟨by rw [<- HR.out];rfl,(Below.refl w.heap.size w).alloc (Nat.le_refl _) _⟩
   ·cases tz0
    ·go_enter Tryd.func76,Tryd.ntmps76
     go_upto_region 2 with (fail)
     simp only [List.append]
     go_wp2
     go_ret
     exact ⟨by rw [<- HR.out];rfl,(Below.refl w.heap.size w).alloc (Nat.le_refl _) _⟩
    ·cases xz
     ·go_enter Tryd.func76,Tryd.ntmps76
      go_upto_region 2 with (fail)
      simp only [List.append]
      go_wp2
      go_ret
      exact ⟨by rw [<- HR.out];rfl,(Below.refl w.heap.size w).alloc (Nat.le_refl _) _⟩
     ·cases yz
      ·go_enter Tryd.func76,Tryd.ntmps76
       go_upto_region 2 with (fail)
       simp only [List.append]
       go_wp2
       go_ret
       exact ⟨by rw [<- HR.out];rfl,(Below.refl w.heap.size w).alloc (Nat.le_refl _) _⟩
      ·cases fz
       ·go_enter Tryd.func76,Tryd.ntmps76
        go_upto_region 2 with (fail)
        simp only [List.append]
        go_wp2
        go_ret
        exact ⟨by rw [<- HR.out];rfl,(Below.refl w.heap.size w).alloc (Nat.le_refl _) _⟩
       ·go_enter Tryd.func76,Tryd.ntmps76
        go_upto_region 2 with (fail)
        simp only [List.append]
        go_wp2
        go_ret
        exact ⟨by rw [<- HR.out];rfl,(Below.refl w.heap.size w).alloc (Nat.le_refl _) _⟩
  ·go_enter Tryd.func76,Tryd.ntmps76
   go_upto_region 2 with (fail)
   simp only [List.append]
   go_wp2
   go_ret
   exact ⟨by rw [<- HR.out];rfl,(Below.refl w.heap.size w).alloc (Nat.le_refl _) _⟩
 ·cases b
  ·cases nz
   ·go_enter Tryd.func76,Tryd.ntmps76
    go_upto_region 2 with (fail)
    simp only [List.append]
    go_wp2
    go_ret
    exact ⟨by rw [<- HR.out];rfl,(Below.refl w.heap.size w).alloc (Nat.le_refl _) _⟩
   ·cases tz0
    ·go_enter Tryd.func76,Tryd.ntmps76
     go_upto_region 2 with (fail)
     simp only [List.append]
     go_wp2
     go_ret
     exact ⟨by rw [<- HR.out];rfl,(Below.refl w.heap.size w).alloc (Nat.le_refl _) _⟩
    ·cases xz
     ·go_enter Tryd.func76,Tryd.ntmps76
      go_upto_region 2 with (fail)
      simp only [List.append]
      go_wp2
      go_ret
      exact ⟨by rw [<- HR.out];rfl,(Below.refl w.heap.size w).alloc (Nat.le_refl _) _⟩
     ·cases yz
      ·go_enter Tryd.func76,Tryd.ntmps76
       go_upto_region 2 with (fail)
       simp only [List.append]
       go_wp2
       go_ret
       exact ⟨by rw [<- HR.out];rfl,(Below.refl w.heap.size w).alloc (Nat.le_refl _) _⟩
      ·cases lz
       ·go_enter Tryd.func76,Tryd.ntmps76
        go_upto_region 2 with (fail)
        simp only [List.append]
        go_wp2
        go_ret
        exact ⟨by rw [<- HR.out];rfl,(Below.refl w.heap.size w).alloc (Nat.le_refl _) _⟩
       ·go_enter Tryd.func76,Tryd.ntmps76
        go_upto_region 2 with (fail)
        simp only [List.append]
        go_wp2
        go_ret
        exact ⟨by rw [<- HR.out];rfl,(Below.refl w.heap.size w).alloc (Nat.le_refl _) _⟩
  ·go_enter Tryd.func76,Tryd.ntmps76
   go_upto_region 2 with (fail)
   simp only [List.append]
   go_wp2
   go_ret
   exact ⟨by rw [<- HR.out];rfl,(Below.refl w.heap.size w).alloc (Nat.le_refl _) _⟩
end Go.Proofs.YtpcbhneaaibfiaaDoor
namespace Go.Proofs.YtpcbhneaaibfiaaDoor
open Go.RowKit Go.Maps
theorem plainElem_bool_inv {H : Type} {P : Program} {e : TypeId} (he : P.underlying e = some .bool) {v : Value} {c : Bool} {ps : List MemPlace} (h : plainElem (H:=H) P e v = some (.lit (.bool c),ps)) : v = .bool c:=by
 unfold plainElem at h
 rw [he] at h
 cases v <;> simp at h
 rw [h.1]
theorem wpList_lookup_own_bool {H : Type} {P : Program} (w : World) {ops : Array Oper} {rest : List Oper} {o : Oper} {a : Act} {Q : Exit -> Act -> World -> Prop}
 (hg : o.guard = none) (m x : Operand) (t : TypeId) (hop : o.op = Op.lookup t m x false)
 (k e : TypeId) (K : Keyed P k) (ht : P.underlying t = some (.map k e)) (he : P.underlying e = some .bool) (hz : (zeroValue e).run P w = .ok (.bool false) w) (b n : Nat) (D : DataW H)
 (hm : a.eval m = .map (some b)) (hown : w.ownsMap P k (plainElem P e) b n D) (key : Value) (kl : Lit) (hx : a.eval x = key) (hkey : keyOf P k key = some kl)
 (c : Bool) (hat : D.atKey kl (.lit (.bool false)) = .lit (.bool c)) (hK : wpList P ops Q rest (a.put o.dst (.bool c)) w) :
 wpList P ops Q (o :: rest) a w:=by
 refine wpList_plain hg fun K' hK' => ?_
 obtain ⟨v,ps,hrun,hv⟩:=hown.lookup K ht hz (plainElem_bool he false) hkey
 rw [hat] at hv
 obtain rfl:=plainElem_bool_inv he hv
 unfold Oper.wp
 simp [execOp,hop,hm,hx,hrun,Result.andThen]
 exact hK' _ _ hK
def seenD (K : Nat -> ByteArray) : Nat -> DataW Unit
 | 0 => .map []
 | n + 1 => (seenD K n).put (.string (K n).data.toList) (.lit (.bool true))
theorem seenD_map (K : Nat -> ByteArray) : ∀ n,IsMap (seenD K n)
 | 0 => isMap_empty
 | n + 1 => (seenD_map K n).put _ _
theorem seenD_at (K : Nat -> ByteArray) (x : ByteArray) : ∀ n,(seenD K n).atKey (.string x.data.toList) (.lit (.bool false)) = .lit (.bool (@decide (∃ j,j < n /\ K j = x) (Classical.propDecidable _)))
 | 0 => by
  rw [@decide_eq_false _ (Classical.propDecidable _) (by rintro ⟨j,h,-⟩;omega)]
  rfl
 | n + 1 => by
  by_cases e : K n = x
  ·rw [@decide_eq_true _ (Classical.propDecidable _) ⟨n,Nat.lt_succ_self n,e⟩]
   show ((seenD K n).put (.string (K n).data.toList) (.lit (.bool true))).atKey _ _ = _
   rw [e]
   exact atKey_put_same (seenD_map K n) (show WideAt.IsKeyLit (.string _) from trivial) _ _
  ·have h:=seenD_at K x n
   have e2 : (∃ j,j < n + 1 /\ K j = x) ↔ (∃ j,j < n /\ K j = x):=by
    constructor
    ·rintro ⟨j,h1,h2⟩
     refine ⟨j,?_,h2⟩
     rcases Nat.lt_or_ge j n with q | q
     ·exact q
     ·exact absurd (by rw [show n = j by omega];exact h2) e
    ·rintro ⟨j,h1,h2⟩;exact ⟨j,by omega,h2⟩
   have e3 : (Lit.string x.data.toList) ≠ .string (K n).data.toList:=fun q => e (by
    injection q with q
    exact ByteArray.ext (Array.toList_inj.1 q.symm))
   show ((seenD K n).put (.string (K n).data.toList) (.lit (.bool true))).atKey _ _ = _
   rw [atKey_put_other e3,h]
   by_cases q : ∃ j,j < n /\ K j = x
   ·rw [@decide_eq_true _ (Classical.propDecidable _) q,@decide_eq_true _ (Classical.propDecidable _) (e2.2 q)]
   ·rw [@decide_eq_false _ (Classical.propDecidable _) q,@decide_eq_false _ (Classical.propDecidable _) (fun r => q (e2.1 r))]
def key1E (u : Bool) (n : Nat) : Int:=if u = false then 5 else if 1024 < n then 10 else 0
theorem vkey_any {s : ByteArray} (hs : s.size <= 1048576) (w : World) :
 Calls Tryd.prog 88 #[.string s] w fun e w' => e = .returned (.int .i64 (key1E (utfB s) s.size)) /\ w = w':=by
 have HU:=Lib.hid (putf_any hs)
 have s0 : (0 : Int) <= s.size:=by omega
 have s1 : (s.size : Int) <= 1048576:=by omega
 cases u : utfB s with
 | false =>
  rw [u] at HU
  clear u
  go_enter Tryd.func88,Tryd.ntmps88
  go_wp2_with fail
  refine (HU.out _).mono ?_;rintro _ w1 ⟨rfl,rfl⟩
  go_wp2
  go_ret
  exact ⟨rfl,rfl⟩
 | true =>
  rw [u] at HU
  clear u
  by_cases z : 1024 < s.size
  ·have z2 : decide ((1024 : Int) < s.size) = true:=decide_eq_true (by omega)
   have e : key1E true s.size = 10:=by unfold key1E;simp [z]
   rw [e]
   clear e
   go_enter Tryd.func88,Tryd.ntmps88
   go_wp2_with fail
   refine (HU.out _).mono ?_;rintro _ w1 ⟨rfl,rfl⟩
   go_wp2
   go_ret
   exact ⟨rfl,rfl⟩
  ·have z2 : decide ((1024 : Int) < s.size) = false:=decide_eq_false (by omega)
   have e : key1E true s.size = 0:=by unfold key1E;simp [z]
   rw [e]
   clear e
   go_enter Tryd.func88,Tryd.ntmps88
   go_wp2_with fail
   refine (HU.out _).mono ?_;rintro _ w1 ⟨rfl,rfl⟩
   go_wp2
   go_ret
   exact ⟨rfl,rfl⟩
theorem seenKey : Keyed Tryd.prog 9:=string_keyed Tryd.underlying9
theorem zeroBool (w : World) : (zeroValue 4).run Tryd.prog w = .ok (.bool false) w:=by kernel_rfl
theorem keyE_one {K : Nat -> ByteArray} {k : Nat} (h : key1E (utfB (K k)) (K k).size ≠ 0) : keyE K k = key1E (utfB (K k)) (K k).size:=by
 unfold key1E at h ⊢
 unfold keyE
 by_cases u : utfB (K k) = false
 ·rw [if_pos u,if_pos u]
 ·rw [if_neg u,if_neg u]
  rw [if_neg u] at h
  by_cases z : 1024 < (K k).size
  ·rw [if_pos z,if_pos z]
  ·rw [if_neg z] at h;exact absurd rfl h
theorem keyE_two {K : Nat -> ByteArray} {k : Nat} (h : key1E (utfB (K k)) (K k).size = 0) : keyE K k = if ∃ j,j < k /\ K j = K k then 8 else 0:=by
 unfold key1E at h
 unfold keyE
 by_cases u : utfB (K k) = false
 ·rw [if_pos u] at h;cases h
 ·rw [if_neg u] at h ⊢
  by_cases z : 1024 < (K k).size
  ·rw [if_pos z] at h;cases h
  ·rw [if_neg z]
theorem vkeys_nil {K : Nat -> ByteArray} (a : Option Addr) (c : Nat) (w : World) :
 Calls Tryd.prog 79 #[.slice a 0 c] w fun r w' => r = .returned (.int .i64 (keysE K 0)) /\ Below w.heap.size w w':=by
 show Calls Tryd.prog 79 #[.slice a 0 c] w fun r w' => r = .returned (.int .i64 0) /\ Below w.heap.size w w'
 have hmm:=@run_makeMap Tryd.prog
 go_enter Tryd.func79,Tryd.ntmps79
 go_wp2_with fail
 go_loopw [10] (fun i wr => i = .int .i64 0 /\ Below w.heap.size w wr) (fun i _ => 0)
 case atStart => exact ⟨rfl,(Below.refl _ _).alloc (Nat.le_refl _) _⟩
 case round =>
  obtain ⟨rfl,hbr⟩:=hrel
  go_wp2
  go_ret
  exact ⟨rfl,hbr⟩
theorem vkeys_some {b o n c : Nat} {K : Nat -> ByteArray} {F : Nat -> Vt} (hn : n <= 1048576) (w : World) (hb : b < w.heap.size) (hL : ∀ i,i < n -> LiesAt w b (o + i * 14) (fcs (K i,F i)) /\ (K i).size <= 1048576) :
 Calls Tryd.prog 79 #[.slice (some ⟨b,o,none⟩) n c] w fun r w' => r = .returned (.int .i64 (keysE K n)) /\ Below w.heap.size w w':=by
 have HL:=Lib.hid hL
 have HB:=Lib.hid hb
 clear hL hb
 obtain ⟨R,hR⟩ : ∃ R,keysE K n = R:=⟨_,rfl⟩
 rw [hR]
 have HR:=Lib.hid hR
 clear hR
 have hn0 : (0 : Int) <= n:=by omega
 have hn2 : (n : Int) <= 1048576:=by omega
 have hmm:=@run_makeMap Tryd.prog
 go_enter Tryd.func79,Tryd.ntmps79
 go_wp2_with fail
 go_loopw [10] (fun i wr => ∃ k : Nat,k <= n /\ i = .int .i64 k /\ keysE K k = 0 /\ wr.ownsMap Tryd.prog 9 (plainElem Tryd.prog 4) w.heap.size k (seenD K k) /\ Below w.heap.size w wr /\ w.heap.size + 1 <= wr.heap.size) (fun i _ => n - (intOf i).toNat)
 case atStart => exact ⟨0,by omega,rfl,rfl,World.ownsMap_made _ _ _ _,(Below.refl _ _).alloc (Nat.le_refl _) _,by simp⟩
 case round =>
  obtain ⟨k,hk,rfl,hk0,hown,hbr,hwr⟩:=hrel
  have hki : (0 : Int) <= k:=by omega
  by_cases hkn : k < n
  ·obtain ⟨l,l1⟩:=HL.out k hkn
   have hki2 : (k : Int) < n:=by omega
   obtain ⟨l0,m1,m2,m3,m4,m5,m6,m7,m8,m9,m10,m11,m12,m13⟩:=lies_c14 (l.below hbr HB.out)
   have hA:=hbr.alloc (by omega) (.cells #[.string (K k),.int .i64 (F k).h.k,.bool (F k).h.b,.bool (F k).h.n,.string (F k).h.d,.int .i64 (F k).h.e,.int .i64 (F k).h.tk,.int .i64 (F k).h.td,.int .i64 (F k).h.tn,.int .i64 (F k).h.tz,.string (F k).h.x,.slice (F k).h.ba (F k).h.bn (F k).h.bc,.slice (F k).h.la (F k).h.ln (F k).h.lc,.slice (F k).h.fa (F k).h.fn (F k).h.fc] 76)
   have hO1:=hown.alloc (.cells #[.string (K k),.int .i64 (F k).h.k,.bool (F k).h.b,.bool (F k).h.n,.string (F k).h.d,.int .i64 (F k).h.e,.int .i64 (F k).h.tk,.int .i64 (F k).h.td,.int .i64 (F k).h.tn,.int .i64 (F k).h.tz,.string (F k).h.x,.slice (F k).h.ba (F k).h.bn (F k).h.bc,.slice (F k).h.la (F k).h.ln (F k).h.lc,.slice (F k).h.fa (F k).h.fn (F k).h.fc] 76)
   have E1 : Whole (wr.alloc (.cells #[.string (K k),.int .i64 (F k).h.k,.bool (F k).h.b,.bool (F k).h.n,.string (F k).h.d,.int .i64 (F k).h.e,.int .i64 (F k).h.tk,.int .i64 (F k).h.td,.int .i64 (F k).h.tn,.int .i64 (F k).h.tz,.string (F k).h.x,.slice (F k).h.ba (F k).h.bn (F k).h.bc,.slice (F k).h.la (F k).h.ln (F k).h.lc,.slice (F k).h.fa (F k).h.fn (F k).h.fc] 76)) wr.heap.size 76 #[.string (K k),.int .i64 (F k).h.k,.bool (F k).h.b,.bool (F k).h.n,.string (F k).h.d,.int .i64 (F k).h.e,.int .i64 (F k).h.tk,.int .i64 (F k).h.td,.int .i64 (F k).h.tn,.int .i64 (F k).h.tz,.string (F k).h.x,.slice (F k).h.ba (F k).h.bn (F k).h.bc,.slice (F k).h.la (F k).h.ln (F k).h.lc,.slice (F k).h.fa (F k).h.fn (F k).h.fc]:=Whole.new wr _ _
   have e0:=E1.cell 0
   have hz1 : w.heap.size + 1 <= (wr.alloc (.cells #[.string (K k),.int .i64 (F k).h.k,.bool (F k).h.b,.bool (F k).h.n,.string (F k).h.d,.int .i64 (F k).h.e,.int .i64 (F k).h.tk,.int .i64 (F k).h.td,.int .i64 (F k).h.tn,.int .i64 (F k).h.tz,.string (F k).h.x,.slice (F k).h.ba (F k).h.bn (F k).h.bc,.slice (F k).h.la (F k).h.ln (F k).h.lc,.slice (F k).h.fa (F k).h.fn (F k).h.fc] 76)).heap.size:=by simp;omega
   simp only [List.getElem?_toArray,List.getElem?_cons_zero] at e0
   have HW:=Lib.hid (vkey_any l1)
   have HKEY : keyOf Tryd.prog 9 (.string (K k)) = some (.string (K k).data.toList):=WideMaps.keyOf_string_mk Tryd.underlying9 (Nat.le_trans l1 (by unfold maxLen;omega))
   have Hat:=Lib.hid (seenD_at K (K k) k)
   have H0:=Lib.hid hk0
   clear l
   by_cases z : key1E (utfB (K k)) (K k).size = 0
   ·have kE:=keyE_two z
    rw [z] at HW
    have HE:=Lib.hid kE
    clear kE z hk0
    by_cases q : ∃ j,j < k /\ K j = K k
    ·have HAT:=Hat.out
     rw [@decide_eq_true _ (Classical.propDecidable _) q] at HAT
     have hR : R = 8:=by rw [<- HR.out,keysE_bad H0.out hkn (by rw [HE.out,if_pos q];decide),HE.out,if_pos q]
     subst hR
     clear HR HE H0 Hat q
     go_wp2_with fail
     refine (HW.out _).mono ?_;rintro _ w1 ⟨rfl,rfl⟩
     have HOWN:=hO1
     go_wp2_with (first | (at_lookup;refine wpList_lookup_own_bool _ rfl _ _ 129 rfl 9 4 seenKey Tryd.underlying129 Tryd.underlying4 (zeroBool _) w.heap.size k _ rfl HOWN _ _ rfl HKEY _ HAT ?_) | go_in)
     go_ret
     exact ⟨rfl,hA⟩
    ·have HAT:=Hat.out
     rw [@decide_eq_false _ (Classical.propDecidable _) q] at HAT
     have hN : Hid (keysE K (k + 1) = 0):=Lib.hid (keysE_next H0.out (by rw [HE.out,if_neg q]))
     clear HE H0 Hat q
     go_wp2_with fail
     refine (HW.out _).mono ?_;rintro _ w1 ⟨rfl,rfl⟩
     have HOWN:=hO1
     go_wp2_with (first | (at_lookup;refine wpList_lookup_own_bool _ rfl _ _ 129 rfl 9 4 seenKey Tryd.underlying129 Tryd.underlying4 (zeroBool _) w.heap.size k _ rfl HOWN _ _ rfl HKEY _ HAT ?_) | (at_mapUpdate;refine wpList_mapUpdate_own _ rfl _ _ _ 129 rfl 9 4 seenKey Tryd.underlying129 (plainElem (H:=Unit) Tryd.prog 4) w.heap.size k _ rfl HOWN (by unfold maxLen;omega) _ _ _ rfl rfl HKEY _ [] (plainElem_bool Tryd.underlying4 true) ?_;intro w3 hown3 hgrow3) | go_in)
     have s3:=hgrow3.size
     have g3:=hA.grown hgrow3 (by omega) (fun j hj => by cases hj;exact Nat.le_refl _)
     go_roundw
     case rel => exact ⟨k + 1,by omega,by go_num,hN.out,hown3,g3,by omega⟩
     case measure => simp [intOf];omega
   ·have hR : R = key1E (utfB (K k)) (K k).size:=by rw [<- HR.out,keysE_bad hk0 hkn (by rw [keyE_one z];exact z),keyE_one z]
    rw [<- hR] at HW
    have z1 : (R == 0) = false:=beq_eq_false_iff_ne.2 (by rw [hR];exact z)
    have z2 : (R != 0) = true:=bne_iff_ne.2 (by rw [hR];exact z)
    clear hR z HR H0 Hat hk0
    go_wp2_with fail
    refine (HW.out _).mono ?_;rintro _ w1 ⟨rfl,rfl⟩
    go_wp2
    go_ret
    exact ⟨rfl,hA⟩
  ·obtain rfl : k = n:=by omega
   have hR : R = 0:=by rw [<- HR.out,hk0]
   subst hR
   clear hkn hk0 HR
   go_wp2
   go_ret
   exact ⟨rfl,hbr⟩
theorem vkeys_any {T : Vt} {top : Nat} {w : World} (hT : T.In w top) (ht : top <= w.heap.size) :
 Calls Tryd.prog 79 #[.slice T.h.fa T.h.fn T.h.fc] w fun r w' => r = .returned (.int .i64 (keysE T.K T.h.fn)) /\ Below w.heap.size w w':=by
 cases T with
 | nil => exact hT.elim
 | mk h Y L K F =>
  obtain ⟨h0,_,_,_,_,h5,h6⟩:=hT
  have hfn:=h0.fn
  simp only [Vt.h,Vt.K]
  obtain ⟨k,b,n,d,e,tk,td,tn,tz,x,ba,bn,bc,la,ln,lc,fa,fn,fc,bb,bo,lb,lo,fb,fo⟩:=h
  dsimp only at h5 h6 hfn ⊢
  by_cases hz : fn = 0
  ·subst hz
   exact vkeys_nil fa fc w
  ·obtain ⟨rfl,hb⟩:=h5 (by omega)
   exact vkeys_some (F:=F) hfn w (by omega) (fun i hi => ⟨lies_fcs (h6 i hi).1 (h6 i hi).2.2.1,(h6 i hi).2.1⟩)
end Go.Proofs.YtpcbhneaaibfiaaDoor
