/- Laid together. -/
import Derived.Test.YtpcbhneaaibfiaaDoorPB05
import Derived.Test.YtpcbhneaaibfiaaDoorPB06
import Derived.Test.YtpcbhneaaibfiaaDoorPB01
import Derived.RangeFuncNested
import Derived.RangeFuncBound
import Derived.RangeFuncCalls
import Derived.RangeFuncLeaves
import Derived.RangeFuncBox
import Derived.Shelf.Abstract
import Derived.Shelf.RegionOpen
import Derived.OwnWalkIn
import Derived.TacticsInMore
import Derived.LoopNIn
import Derived.LoopIn
import Derived.Test.YtpcbhneaaibfiaaDoorProg
import Derived.Test.YtpcbhneaaibfiaaDoorPB04
import Derived.WalkSpells
set_option linter.unusedVariables false
set_option linter.unusedSimpArgs false
set_option maxHeartbeats 16000000
set_option maxRecDepth 100000
namespace Go.Proofs.YtpcbhneaaibfiaaDoor
open Go.RowKit
theorem Whole.c13 {W : World} {B : Nat} {t : TypeId} {h : Vh} (H : Whole W B t h.cells) :
 W.cell? ⟨B,0,none⟩ = some (.int .i64 h.k) /\ W.cell? ⟨B,1,none⟩ = some (.bool h.b) /\ W.cell? ⟨B,2,none⟩ = some (.bool h.n) /\ W.cell? ⟨B,3,none⟩ = some (.string h.d) /\ W.cell? ⟨B,4,none⟩ = some (.int .i64 h.e) /\
 W.cell? ⟨B,5,none⟩ = some (.int .i64 h.tk) /\ W.cell? ⟨B,6,none⟩ = some (.int .i64 h.td) /\ W.cell? ⟨B,7,none⟩ = some (.int .i64 h.tn) /\ W.cell? ⟨B,8,none⟩ = some (.int .i64 h.tz) /\ W.cell? ⟨B,9,none⟩ = some (.string h.x) /\
 W.cell? ⟨B,10,none⟩ = some (.slice h.ba h.bn h.bc) /\ W.cell? ⟨B,11,none⟩ = some (.slice h.la h.ln h.lc) /\ W.cell? ⟨B,12,none⟩ = some (.slice h.fa h.fn h.fc) :=
 ⟨H.cell 0,H.cell 1,H.cell 2,H.cell 3,H.cell 4,H.cell 5,H.cell 6,H.cell 7,H.cell 8,H.cell 9,H.cell 10,H.cell 11,H.cell 12⟩
noncomputable def oneE (T : Vt) : Int :=
 if T.h.own = false then 6
 else if ¬ Dec.vd T.h.n T.h.d T.h.e ∨ (T.h.k = 3 /\ ¬ Mom.Ok T.h.tk T.h.td T.h.tn T.h.tz) then 2
 else if utfB T.h.x = false then 5
 else if 65536 < T.h.x.size ∨ 65536 < T.h.bn then 10
 else keysE T.K T.h.fn
theorem keys_any {T : Vt} {top : Nat} {w : World} (hT : T.In w top) (ht : top <= w.heap.size) :
 Calls Tryd.prog 74 #[.slice T.h.fa T.h.fn T.h.fc] w fun r w' => r = .returned (.int .i64 (keysE T.K T.h.fn)) /\ Below w.heap.size w w':=by
 cases T with
 | nil => exact hT.elim
 | mk h Y L K F =>
  obtain ⟨h0,_,_,_,_,h5,h6⟩:=hT
  have hfn:=h0.fn
  simp only [Vt.h,Vt.K]
  obtain ⟨k,b,n,d,e,tk,td,tn,tz,x,ba,bn,bc,la,ln,lc,fa,fn,fc,bb,bo,lb,lo,fb,fo⟩:=h
  dsimp only at h5 h6 hfn ⊢
  by_cases hz : fn = 0
  ·subst hz
   exact keys_nil fa fc w
  ·obtain ⟨rfl,hb⟩:=h5 (by omega)
   exact keys_some hfn w (by omega) (fun i hi => ⟨(h6 i hi).1,(h6 i hi).2.1⟩)
theorem one_any {T : Vt} {top : Nat} {w : World} (hT : T.In w top) (ht : top <= w.heap.size) :
 Calls Tryd.prog 65 #[.agg T.h.cells] w fun r w' => r = .returned (.int .i64 (oneE T)) /\ Below w.heap.size w w':=by
 have hok : T.h.ok:=by cases T with | nil => exact hT.elim | mk h Y L K F => exact hT.1
 have P:=Whole.new w 30 T.h.cells
 have hb0:=(Below.refl w.heap.size w).alloc (Nat.le_refl _) (.cells T.h.cells 30)
 have HO:=Lib.hid (own_any T.h hok.k)
 have hmx : (1048576 : Nat) <= maxLen:=by unfold maxLen;omega
 have HV:=Lib.hid (rdvalid_any T.h.n (Nat.le_trans hok.d hmx) T.h.e)
 have HM:=Lib.hid (rtime_any T.h.tk T.h.td T.h.tn T.h.tz)
 have HU:=Lib.hid (rutf_any hok.x)
 have HK:=Lib.hid (fun (w1 : World) (h : Below w.heap.size w w1) => keys_any (T:=T) (Vt.In.below (h.mono ht) hT) (Nat.le_trans ht h.size))
 obtain ⟨R,hR⟩ : ∃ R,oneE T = R:=⟨_,rfl⟩
 rw [hR]
 unfold oneE at hR
 have HR:=Lib.hid hR
 have hk:=hok.k
 have hxs:=hok.x
 have hbs:=hok.bn
 clear hR hok hT hmx
 simp only [Vh.cells] at HO hb0 ⊢
 generalize T.h.own = ow at *
 cases ow
 ·have hR : R = 6:=by rw [<- HR.out];simp
  subst hR
  clear HR
  go_enter Tryd.func65,Tryd.ntmps65
  go_wp2_with fail
  refine (HO.out _).mono ?_;rintro _ w1 ⟨rfl,hb1⟩
  go_wp2
  go_ret
  exact ⟨rfl,below_then hb0 hb1⟩
 have hR : R = if ¬ Dec.vd T.h.n T.h.d T.h.e ∨ (T.h.k = 3 /\ ¬ Mom.Ok T.h.tk T.h.td T.h.tn T.h.tz) then 2 else if utfB T.h.x = false then 5 else if 65536 < T.h.x.size ∨ 65536 < T.h.bn then 10 else keysE T.K T.h.fn:=by rw [<- HR.out];simp
 have HR:=Lib.hid hR
 clear hR
 have hPl:=P.lt
 by_cases v : Dec.vd T.h.n T.h.d T.h.e
 case neg =>
  have hR : R = 2:=by rw [HR.out,if_pos (.inl v)]
  subst hR
  rw [decide_eq_false v] at HV
  clear HR v
  go_enter Tryd.func65,Tryd.ntmps65
  go_wp2_with fail
  refine (HO.out _).mono ?_;rintro _ w1 ⟨rfl,hb1⟩
  obtain ⟨c0,c1,c2,c3,c4,c5,c6,c7,c8,c9,c10,c11,c12⟩:=(P.below hb1 hPl).c13
  go_wp2_with fail
  refine (HV.out _).mono ?_;rintro _ w2 ⟨rfl,hb2⟩
  go_wp2
  go_ret
  exact ⟨rfl,below_then (below_then hb0 hb1) hb2⟩
 rw [decide_eq_true v] at HV
 by_cases q : T.h.k = 3 /\ ¬ Mom.Ok T.h.tk T.h.td T.h.tn T.h.tz
 ·have hR : R = 2:=by rw [HR.out,if_pos (.inr q)]
  subst hR
  rw [decide_eq_false q.2] at HM
  have d1 : (T.h.k == 3) = true:=beq_iff_eq.2 q.1
  clear HR v q
  go_enter Tryd.func65,Tryd.ntmps65
  go_wp2_with fail
  refine (HO.out _).mono ?_;rintro _ w1 ⟨rfl,hb1⟩
  have P1:=P.below hb1 hPl
  have g1:=below_then hb0 hb1
  obtain ⟨c0,c1,c2,c3,c4,c5,c6,c7,c8,c9,c10,c11,c12⟩:=P1.c13
  go_wp2_with fail
  refine (HV.out _).mono ?_;rintro _ w2 ⟨rfl,hb2⟩
  have P2:=P1.below hb2 P1.lt
  have g2:=below_then g1 hb2
  clear c0 c1 c2 c3 c4 c5 c6 c7 c8 c9 c10 c11 c12
  obtain ⟨c0,c1,c2,c3,c4,c5,c6,c7,c8,c9,c10,c11,c12⟩:=P2.c13
  go_wp2_with fail
  refine (HM.out _).mono ?_;rintro _ w3 ⟨rfl,hb3⟩
  go_wp2
  go_ret
  exact ⟨rfl,below_then g2 hb3⟩
 have hR : R = if utfB T.h.x = false then 5 else if 65536 < T.h.x.size ∨ 65536 < T.h.bn then 10 else keysE T.K T.h.fn:=by rw [HR.out,if_neg (by rintro (h | h);exact h v;exact q h)]
 clear HR
 have HR:=Lib.hid hR
 clear hR
 generalize utfB T.h.x = ub at *
 by_cases k3 : T.h.k = 3
 ·have d1 : (T.h.k == 3) = true:=beq_iff_eq.2 k3
  have o : Mom.Ok T.h.tk T.h.td T.h.tn T.h.tz:=Classical.byContradiction fun h => q ⟨k3,h⟩
  rw [decide_eq_true o] at HM
  clear v q o k3
  go_enter Tryd.func65,Tryd.ntmps65
  go_wp2_with fail
  refine (HO.out _).mono ?_;rintro _ w1 ⟨rfl,hb1⟩
  have P1:=P.below hb1 hPl
  have g1:=below_then hb0 hb1
  obtain ⟨c0,c1,c2,c3,c4,c5,c6,c7,c8,c9,c10,c11,c12⟩:=P1.c13
  go_wp2_with fail
  refine (HV.out _).mono ?_;rintro _ w2 ⟨rfl,hb2⟩
  have P2:=P1.below hb2 P1.lt
  have g2:=below_then g1 hb2
  clear c0 c1 c2 c3 c4 c5 c6 c7 c8 c9 c10 c11 c12
  obtain ⟨c0,c1,c2,c3,c4,c5,c6,c7,c8,c9,c10,c11,c12⟩:=P2.c13
  go_wp2_with fail
  refine (HM.out _).mono ?_;rintro _ w3 ⟨rfl,hb3⟩
  have P3:=P2.below hb3 P2.lt
  have g3:=below_then g2 hb3
  clear c0 c1 c2 c3 c4 c5 c6 c7 c8 c9 c10 c11 c12
  obtain ⟨c0,c1,c2,c3,c4,c5,c6,c7,c8,c9,c10,c11,c12⟩:=P3.c13
  go_wp2_with fail
  refine (HU.out _).mono ?_;rintro _ w4 ⟨rfl,hb4⟩
  have P4:=P3.below hb4 P3.lt
  have g4:=below_then g3 hb4
  clear c0 c1 c2 c3 c4 c5 c6 c7 c8 c9 c10 c11 c12
  obtain ⟨c0,c1,c2,c3,c4,c5,c6,c7,c8,c9,c10,c11,c12⟩:=P4.c13
  cases ub
  ·have hR : R = 5:=by rw [HR.out];simp
   subst hR
   clear HR
   go_wp2
   go_ret
   exact ⟨rfl,g4⟩
  by_cases zx : 65536 < T.h.x.size
  ·have hR : R = 10:=by rw [HR.out];simp [zx]
   have z1 : decide ((65536 : Int) < T.h.x.size) = true:=decide_eq_true (by omega)
   subst hR
   clear HR zx HK HU HO HV hbs hk
   go_wp2
   go_ret
   exact ⟨rfl,g4⟩
  have z1 : decide ((65536 : Int) < T.h.x.size) = false:=decide_eq_false (by omega)
  by_cases zb : 65536 < T.h.bn
  ·have hR : R = 10:=by rw [HR.out];simp [zb]
   have z2 : decide ((65536 : Int) < T.h.bn) = true:=decide_eq_true (by omega)
   subst hR
   clear HR zx zb HK HU HO HV hxs hk
   go_wp2
   go_ret
   exact ⟨rfl,g4⟩
  have hR : R = keysE T.K T.h.fn:=by rw [HR.out];simp [zx,zb]
  have z2 : decide ((65536 : Int) < T.h.bn) = false:=decide_eq_false (by omega)
  subst hR
  clear HR zx zb HU HO HV hk
  go_wp2_with fail
  refine (HK.out _ g4).mono ?_;rintro _ w5 ⟨rfl,hb5⟩
  go_wp2
  go_ret
  exact ⟨rfl,below_then g4 hb5⟩
 ·have d1 : (T.h.k == 3) = false:=beq_eq_false_iff_ne.2 k3
  clear v q HM k3
  go_enter Tryd.func65,Tryd.ntmps65
  go_wp2_with fail
  refine (HO.out _).mono ?_;rintro _ w1 ⟨rfl,hb1⟩
  have P1:=P.below hb1 hPl
  have g1:=below_then hb0 hb1
  obtain ⟨c0,c1,c2,c3,c4,c5,c6,c7,c8,c9,c10,c11,c12⟩:=P1.c13
  go_wp2_with fail
  refine (HV.out _).mono ?_;rintro _ w2 ⟨rfl,hb2⟩
  have P2:=P1.below hb2 P1.lt
  have g2:=below_then g1 hb2
  clear c0 c1 c2 c3 c4 c5 c6 c7 c8 c9 c10 c11 c12
  obtain ⟨c0,c1,c2,c3,c4,c5,c6,c7,c8,c9,c10,c11,c12⟩:=P2.c13
  go_wp2_with fail
  refine (HU.out _).mono ?_;rintro _ w4 ⟨rfl,hb4⟩
  have P4:=P2.below hb4 P2.lt
  have g4:=below_then g2 hb4
  clear c0 c1 c2 c3 c4 c5 c6 c7 c8 c9 c10 c11 c12
  obtain ⟨c0,c1,c2,c3,c4,c5,c6,c7,c8,c9,c10,c11,c12⟩:=P4.c13
  cases ub
  ·have hR : R = 5:=by rw [HR.out];simp
   subst hR
   clear HR
   go_wp2
   go_ret
   exact ⟨rfl,g4⟩
  by_cases zx : 65536 < T.h.x.size
  ·have hR : R = 10:=by rw [HR.out];simp [zx]
   have z1 : decide ((65536 : Int) < T.h.x.size) = true:=decide_eq_true (by omega)
   subst hR
   clear HR zx HK HU HO HV hbs hk
   go_wp2
   go_ret
   exact ⟨rfl,g4⟩
  have z1 : decide ((65536 : Int) < T.h.x.size) = false:=decide_eq_false (by omega)
  by_cases zb : 65536 < T.h.bn
  ·have hR : R = 10:=by rw [HR.out];simp [zb]
   have z2 : decide ((65536 : Int) < T.h.bn) = true:=decide_eq_true (by omega)
   subst hR
   clear HR zx zb HK HU HO HV hxs hk
   go_wp2
   go_ret
   exact ⟨rfl,g4⟩
  have hR : R = keysE T.K T.h.fn:=by rw [HR.out];simp [zx,zb]
  have z2 : decide ((65536 : Int) < T.h.bn) = false:=decide_eq_false (by omega)
  subst hR
  clear HR zx zb HU HO HV hk
  go_wp2_with fail
  refine (HK.out _ g4).mono ?_;rintro _ w5 ⟨rfl,hb5⟩
  go_wp2
  go_ret
  exact ⟨rfl,below_then g4 hb5⟩
def foldE (f : Nat -> Int -> Int × Int) : Nat -> Int -> Int × Int
 | 0,s => (s,0)
 | n + 1,s => if (foldE f n s).2 ≠ 0 then foldE f n s else f n (foldE f n s).1
theorem foldE_stays {f : Nat -> Int -> Int × Int} {s : Int} {n : Nat} (h : (foldE f n s).2 ≠ 0) : ∀ m,n <= m -> foldE f m s = foldE f n s:=by
 intro m hm
 induction m with
 | zero => rw [Nat.le_zero.1 hm]
 | succ m ih =>
  by_cases hn : n = m + 1
  ·rw [hn]
  ·have e:=ih (by omega)
   show (if (foldE f m s).2 ≠ 0 then foldE f m s else f m (foldE f m s).1) = _
   rw [if_pos (by rw [e];exact h),e]
theorem foldE_succ {f : Nat -> Int -> Int × Int} {s : Int} {n : Nat} (h : (foldE f n s).2 = 0) : foldE f (n + 1) s = f n (foldE f n s).1:=by
 show (if (foldE f n s).2 ≠ 0 then foldE f n s else f n (foldE f n s).1) = _
 rw [if_neg (by simp [h])]
theorem foldE_all {f : Nat -> Int -> Int × Int} {s : Int} : ∀ {n : Nat},(foldE f n s).2 = 0 -> ∀ i,i < n -> (foldE f i s).2 = 0 /\ foldE f (i + 1) s = f i (foldE f i s).1:=by
 intro n h i hi
 have h0 : (foldE f i s).2 = 0:=Classical.byContradiction fun q => q (by rw [<- foldE_stays q n (by omega)];exact h)
 exact ⟨h0,foldE_succ h0⟩
noncomputable def Vt.look : Vt -> Int -> Int -> Int × Int
 | .nil,_,s => (s,0)
 | .mk h Y L K F,d,s =>
  if 48 < d then (s,9) else if 65536 <= s then (s,10) else if oneE (.mk h Y L K F) ≠ 0 then (s,oneE (.mk h Y L K F))
  else if h.k = 7 then foldE (fun i t => (F i).look (d + 1) t) h.fn (s + 1) else foldE (fun i t => (L i).look (d + 1) t) h.ln (s + 1)
theorem Vt.look_eq {T : Vt} (hT : T ≠ .nil) (d s : Int) : T.look d s =
 if 48 < d then (s,9) else if 65536 <= s then (s,10) else if oneE T ≠ 0 then (s,oneE T) else foldE (fun i t => (T.kid i).look (d + 1) t) T.kn (s + 1):=by
 cases T with
 | nil => exact absurd rfl hT
 | mk h Y L K F =>
  by_cases k7 : h.k = 7
  ·have e1 : (Vt.mk h Y L K F).kn = h.fn:=if_pos k7
   have e2 : ∀ i,(Vt.mk h Y L K F).kid i = F i:=fun i => if_pos k7
   rw [e1]
   simp only [e2,Vt.look,if_pos k7]
  ·have e1 : (Vt.mk h Y L K F).kn = h.ln:=if_neg k7
   have e2 : ∀ i,(Vt.mk h Y L K F).kid i = L i:=fun i => if_neg k7
   rw [e1]
   simp only [e2,Vt.look,if_neg k7]
theorem foldE_bd {f : Nat -> Int -> Int × Int} {s : Int} (hs : s <= 65536) (hf : ∀ i t,t <= 65536 -> t <= (f i t).1 /\ (f i t).1 <= 65536) : ∀ n,s <= (foldE f n s).1 /\ (foldE f n s).1 <= 65536:=by
 intro n
 induction n with
 | zero => exact ⟨Int.le_refl _,hs⟩
 | succ n ih =>
  show s <= (if (foldE f n s).2 ≠ 0 then foldE f n s else f n (foldE f n s).1).1 /\ (if (foldE f n s).2 ≠ 0 then foldE f n s else f n (foldE f n s).1).1 <= 65536
  split
  ·exact ih
  ·have:=hf n _ ih.2
   omega
theorem Vt.look_bd : ∀ (T : Vt) (d s : Int),s <= 65536 -> s <= (T.look d s).1 /\ (T.look d s).1 <= 65536:=by
 intro T
 induction T with
 | nil => intro d s hs;exact ⟨Int.le_refl _,hs⟩
 | mk h Y L K F ihL ihF =>
  intro d s hs
  unfold Vt.look
  split
  ·exact ⟨Int.le_refl _,hs⟩
  split
  ·exact ⟨Int.le_refl _,hs⟩
  split
  ·exact ⟨Int.le_refl _,hs⟩
  split
  ·have:=foldE_bd (s:=s + 1) (f:=fun i t => (F i).look (d + 1) t) (by omega) (fun i t ht => ihF i (d + 1) t ht) h.fn
   omega
  ·have:=foldE_bd (s:=s + 1) (f:=fun i t => (L i).look (d + 1) t) (by omega) (fun i t ht => ihL i (d + 1) t ht) h.ln
   omega
def Vt.upto : Vt -> Nat -> Prop
 | .nil,_ => True
 | .mk h _ L _ F,d => 0 < d /\ (∀ i,i < h.ln -> (L i).upto (d - 1)) /\ (∀ i,i < h.fn -> (F i).upto (d - 1))
theorem Vt.upto_le : ∀ {T : Vt} {d e : Nat},T.upto d -> d <= e -> T.upto e:=by
 intro T
 induction T with
 | nil => intro d e _ _;trivial
 | mk h Y L K F ihL ihF =>
  intro d e hd he
  exact ⟨by have:=hd.1;omega,fun i hi => ihL i (hd.2.1 i hi) (by omega),fun i hi => ihF i (hd.2.2 i hi) (by omega)⟩
def Vt.good : Vt -> Prop
 | .nil => True
 | .mk h Y L K F => oneE (.mk h Y L K F) = 0 /\ (∀ i,i < h.ln -> (L i).good) /\ (∀ i,i < h.fn -> (F i).good)
theorem Vh.own_parts {h : Vh} (ho : h.own = true) : 0 <= h.k /\ h.k <= 7 /\ (h.k ≠ 1 -> h.b = false) /\ (h.k ≠ 2 -> h.n = false /\ h.d.toList = [] /\ h.e = 0) /\ (h.k ≠ 3 -> h.tk = 0 /\ h.td = 0 /\ h.tn = 0 /\ h.tz = 0) /\
 (h.k ≠ 4 -> h.x.toList = []) /\ (h.k ≠ 5 -> h.bn = 0) /\ (h.k ≠ 6 -> h.ln = 0) /\ (h.k ≠ 7 -> h.fn = 0):=by
 unfold Vh.own ownB Vh.nz Vh.tz0 at ho
 simp only [Bool.and_eq_true,Bool.or_eq_true,decide_eq_true_eq,Bool.not_eq_true',List.isEmpty_iff] at ho
 obtain ⟨⟨⟨⟨⟨⟨⟨⟨h0,h1⟩,h2⟩,h3⟩,h4⟩,h5⟩,h6⟩,h7⟩,h8⟩:=ho
 refine ⟨h0,h1,fun q => h2.resolve_left q,fun q => ?_,fun q => ?_,fun q => h5.resolve_left q,fun q => h6.resolve_left q,fun q => h7.resolve_left q,fun q => h8.resolve_left q⟩
 ·obtain ⟨⟨a,b⟩,c⟩:=h3.resolve_left q
  exact ⟨a,b,c⟩
 ·obtain ⟨⟨⟨a,b⟩,c⟩,d⟩:=h4.resolve_left q
  exact ⟨a,b,c,d⟩
theorem oneE_own {T : Vt} (h : oneE T = 0) : T.h.own = true:=by
 unfold oneE at h
 split at h
 ·omega
 ·rename_i q
  simpa using q
theorem look_ok_fold {f : Nat -> Int -> Int × Int} {g : Nat -> Nat} {n : Nat} {s : Int} (h : (foldE f n s).2 = 0) (hf : ∀ i t,i < n -> (f i t).2 = 0 -> (f i t).1 = t + (g i : Nat)) : (foldE f n s).1 = s + (sumN g n : Nat):=by
 have hall:=foldE_all h
 have key : ∀ k,k <= n -> (foldE f k s).1 = s + (sumN g k : Nat):=by
  intro k
  induction k with
  | zero => intro _;simp [foldE,sumN]
  | succ k ih =>
   intro hk
   have e:=(hall k (by omega)).2
   have e2 : (f k (foldE f k s).1).2 = 0:=by
    rw [<- e]
    by_cases q : k + 1 < n
    ·exact (hall (k + 1) q).1
    ·obtain rfl : k + 1 = n:=by omega
     exact h
   rw [e,hf k _ (by omega) e2,ih (by omega)]
   show _ = s + ((sumN g k + g k : Nat) : Int)
   omega
 exact key n (Nat.le_refl _)
theorem look_ok_each {f : Nat -> Int -> Int × Int} {n : Nat} {s : Int} (h : (foldE f n s).2 = 0) {i : Nat} (hi : i < n) : ∃ t,(f i t).2 = 0:=by
 have hall:=foldE_all h
 refine ⟨(foldE f i s).1,?_⟩
 rw [<- (hall i hi).2]
 by_cases q : i + 1 < n
 ·exact (hall (i + 1) q).1
 ·obtain rfl : i + 1 = n:=by omega
  exact h
theorem Vt.look_ok : ∀ {T : Vt} {d : Nat} {s : Int},T.whole -> (T.look d s).2 = 0 -> T.good /\ T.upto (49 - d) /\ (T.look d s).1 = s + (T.size : Nat):=by
 intro T
 induction T with
 | nil => intro d s hw;exact hw.elim
 | mk h Y L K F ihL ihF =>
  intro d s hw hl
  obtain ⟨wL,wF⟩:=hw
  rw [Vt.look_eq (by intro e;cases e)] at hl ⊢
  have c1 : ¬ (48 : Int) < d:=fun q => by rw [if_pos q] at hl;simp at hl
  rw [if_neg c1] at hl ⊢
  have c2 : ¬ (65536 : Int) <= s:=fun q => by rw [if_pos q] at hl;simp at hl
  rw [if_neg c2] at hl ⊢
  have c3 : oneE (.mk h Y L K F) = 0:=Classical.byContradiction fun q => by rw [if_pos q] at hl;exact q hl
  rw [if_neg (by simp [c3])] at hl ⊢
  have ow:=Vh.own_parts (oneE_own c3)
  rw [Vt.size_eq (by intro e;cases e)]
  have cast : ((d : Int) + 1) = ((d + 1 : Nat) : Int):=by omega
  have hsz:=look_ok_fold (g:=fun i => ((Vt.mk h Y L K F).kid i).size) hl (fun i t hi h0 => by
   rw [cast] at h0 ⊢
   by_cases k7 : h.k = 7
   ·have e1 : (Vt.mk h Y L K F).kid i = F i:=by unfold Vt.kid;rw [if_pos (show (Vt.mk h Y L K F).h.k = 7 from k7)];rfl
    have e2 : (Vt.mk h Y L K F).kn = h.fn:=by unfold Vt.kn;rw [if_pos (show (Vt.mk h Y L K F).h.k = 7 from k7)];rfl
    rw [e1] at h0 ⊢
    exact (ihF i (wF i (by omega)) h0).2.2
   ·have e1 : (Vt.mk h Y L K F).kid i = L i:=by unfold Vt.kid;rw [if_neg (show ¬ (Vt.mk h Y L K F).h.k = 7 from k7)];rfl
    have e2 : (Vt.mk h Y L K F).kn = h.ln:=by unfold Vt.kn;rw [if_neg (show ¬ (Vt.mk h Y L K F).h.k = 7 from k7)];rfl
    rw [e1] at h0 ⊢
    exact (ihL i (wL i (by omega)) h0).2.2)
  have hkid : ∀ i,i < (Vt.mk h Y L K F).kn -> ((Vt.mk h Y L K F).kid i).good /\ ((Vt.mk h Y L K F).kid i).upto (49 - d - 1):=by
   intro i hi
   obtain ⟨t,h0⟩:=look_ok_each hl hi
   rw [cast] at h0
   have e0 : 49 - d - 1 = 49 - (d + 1):=by omega
   rw [e0]
   by_cases k7 : h.k = 7
   ·have e1 : (Vt.mk h Y L K F).kid i = F i:=by unfold Vt.kid;rw [if_pos (show (Vt.mk h Y L K F).h.k = 7 from k7)];rfl
    have e2 : (Vt.mk h Y L K F).kn = h.fn:=by unfold Vt.kn;rw [if_pos (show (Vt.mk h Y L K F).h.k = 7 from k7)];rfl
    rw [e1] at h0 ⊢
    have:=ihF i (wF i (by omega)) h0
    exact ⟨this.1,this.2.1⟩
   ·have e1 : (Vt.mk h Y L K F).kid i = L i:=by unfold Vt.kid;rw [if_neg (show ¬ (Vt.mk h Y L K F).h.k = 7 from k7)];rfl
    have e2 : (Vt.mk h Y L K F).kn = h.ln:=by unfold Vt.kn;rw [if_neg (show ¬ (Vt.mk h Y L K F).h.k = 7 from k7)];rfl
    rw [e1] at h0 ⊢
    have:=ihL i (wL i (by omega)) h0
    exact ⟨this.1,this.2.1⟩
  have hLn : ∀ i,i < h.ln -> (L i).good /\ (L i).upto (49 - d - 1):=by
   intro i hi
   have k6 : h.k = 6:=Classical.byContradiction fun q => by have e : h.ln = 0:=ow.2.2.2.2.2.2.2.1 q;omega
   have k7 : ¬ h.k = 7:=by omega
   have e1 : (Vt.mk h Y L K F).kid i = L i:=by unfold Vt.kid;rw [if_neg (show ¬ (Vt.mk h Y L K F).h.k = 7 from k7)];rfl
   have e2 : (Vt.mk h Y L K F).kn = h.ln:=by unfold Vt.kn;rw [if_neg (show ¬ (Vt.mk h Y L K F).h.k = 7 from k7)];rfl
   rw [<- e1]
   exact hkid i (by omega)
  have hFn : ∀ i,i < h.fn -> (F i).good /\ (F i).upto (49 - d - 1):=by
   intro i hi
   have k7 : h.k = 7:=Classical.byContradiction fun q => by have e : h.fn = 0:=ow.2.2.2.2.2.2.2.2 q;omega
   have e1 : (Vt.mk h Y L K F).kid i = F i:=by unfold Vt.kid;rw [if_pos (show (Vt.mk h Y L K F).h.k = 7 from k7)];rfl
   have e2 : (Vt.mk h Y L K F).kn = h.fn:=by unfold Vt.kn;rw [if_pos (show (Vt.mk h Y L K F).h.k = 7 from k7)];rfl
   rw [<- e1]
   exact hkid i (by omega)
  refine ⟨⟨c3,fun i hi => (hLn i hi).1,fun i hi => (hFn i hi).1⟩,⟨by omega,fun i hi => (hLn i hi).2,fun i hi => (hFn i hi).2⟩,?_⟩
  rw [hsz]
  omega
def Vh.lst (k : Int) (a : Option Addr) (n c b : Nat) : Vh:=⟨k,false,false,⟨#[]⟩,0,0,0,0,0,⟨#[]⟩,none,0,0,a,n,c,none,0,0,0,0,b,0,0,0⟩
def Vh.fld (k : Int) (a : Option Addr) (n c b : Nat) : Vh:=⟨k,false,false,⟨#[]⟩,0,0,0,0,0,⟨#[]⟩,none,0,0,none,0,0,a,n,c,0,0,0,0,b,0⟩
theorem ba_nil {s : ByteArray} (h : s.toList = []) : s = ⟨#[]⟩:=by
 rw [Lib.toList_data] at h
 exact ByteArray.ext (Array.toList_eq_nil_iff.1 h)
theorem lst_same {h : Vh} {Y : Nat -> Int} {K : Nat -> ByteArray} {F M : Nat -> Vt} {m : Nat} (ho : h.own = true) (hk : h.k = 6) {M' : Nat -> Vt} (hM : ∀ j,j < m -> (M' j).Same (M j)) {a : Option Addr} {c b : Nat} {Y' : Nat -> Int} {K' : Nat -> ByteArray} {F' : Nat -> Vt} :
 (Vt.mk (Vh.lst 6 a m c b) Y' M' K' F').Same (.mk { h with ln:=m } Y M K F):=by
 obtain ⟨_,_,h1,h2,h3,h4,h5,_,h7⟩:=Vh.own_parts ho
 obtain ⟨a1,a2,a3⟩:=h2 (by omega)
 obtain ⟨b1,b2,b3,b4⟩:=h3 (by omega)
 have f0 : h.fn = 0:=h7 (by omega)
 refine ⟨(fun e => by cases e),⟨hk.symm,(h1 (by omega)).symm,a1.symm,(ba_nil a2).symm,a3.symm,b1.symm,b2.symm,b3.symm,b4.symm,(ba_nil (h4 (by omega))).symm,(h5 (by omega)).symm,rfl,f0.symm⟩,fun i hi => absurd hi (Nat.not_lt_zero _),hM,fun i hi => absurd hi (Nat.not_lt_zero _)⟩
theorem fld_same {h : Vh} {Y : Nat -> Int} {K : Nat -> ByteArray} {L M : Nat -> Vt} {m : Nat} (ho : h.own = true) (hk : h.k = 7) {M' : Nat -> Vt} {K' : Nat -> ByteArray} (hM : ∀ j,j < m -> K' j = K j /\ (M' j).Same (M j)) {a : Option Addr} {c b : Nat} {Y' : Nat -> Int} {L' : Nat -> Vt} :
 (Vt.mk (Vh.fld 7 a m c b) Y' L' K' M').Same (.mk { h with fn:=m } Y L K M):=by
 obtain ⟨_,_,h1,h2,h3,h4,h5,h6,_⟩:=Vh.own_parts ho
 obtain ⟨a1,a2,a3⟩:=h2 (by omega)
 obtain ⟨b1,b2,b3,b4⟩:=h3 (by omega)
 have l0 : h.ln = 0:=h6 (by omega)
 refine ⟨(fun e => by cases e),⟨hk.symm,(h1 (by omega)).symm,a1.symm,(ba_nil a2).symm,a3.symm,b1.symm,b2.symm,b3.symm,b4.symm,(ba_nil (h4 (by omega))).symm,(h5 (by omega)).symm,l0.symm,rfl⟩,fun i hi => absurd hi (Nat.not_lt_zero _),fun i hi => absurd hi (Nat.not_lt_zero _),hM⟩
theorem lst_in {W : World} {k : Int} (hk : w64 k) {a : Option Addr} {m c b : Nat} (hm : m <= 1048576) (hc : m <= c /\ c <= maxLen) (ha : 0 < m -> a = some ⟨b,0,none⟩ /\ b < W.heap.size) {M : Nat -> Vt} (hM : ∀ j,j < m -> LiesAt W b (j * 13) (M j).h.cells /\ (M j).In W W.heap.size) {Y' : Nat -> Int} {K' : Nat -> ByteArray} {F' : Nat -> Vt} :
 (Vt.mk (Vh.lst k a m c b) Y' M K' F').In W W.heap.size:=by
 have z : w64 0:=⟨by decide,by decide⟩
 exact ⟨⟨hk,z,z,z,z,z,by simp [Vh.lst,ByteArray.size],by simp [Vh.lst,ByteArray.size],Nat.zero_le _,hm,Nat.zero_le _,hc,⟨Nat.le_refl _,Nat.zero_le _⟩⟩,fun q => absurd q (Nat.lt_irrefl _),fun i hi => absurd hi (Nat.not_lt_zero _),ha,fun i hi => ⟨by rw [show (Vh.lst k a m c b).lo + i * 13 = i * 13 from Nat.zero_add _];exact (hM i hi).1,(hM i hi).2⟩,fun q => absurd q (Nat.lt_irrefl _),fun i hi => absurd hi (Nat.not_lt_zero _)⟩
theorem fld_in {W : World} {k : Int} (hk : w64 k) {a : Option Addr} {m c b : Nat} (hm : m <= 1048576) (hc : m <= c /\ c <= maxLen) (ha : 0 < m -> a = some ⟨b,0,none⟩ /\ b < W.heap.size) {K : Nat -> ByteArray} {M : Nat -> Vt} (hM : ∀ j,j < m -> LiesAt W b (j * 14) (fcs (K j,M j)) /\ (K j).size <= 1048576 /\ (M j).In W W.heap.size) {Y' : Nat -> Int} {L' : Nat -> Vt} :
 (Vt.mk (Vh.fld k a m c b) Y' L' K M).In W W.heap.size:=by
 have z : w64 0:=⟨by decide,by decide⟩
 refine ⟨⟨hk,z,z,z,z,z,by simp [Vh.fld,ByteArray.size],by simp [Vh.fld,ByteArray.size],Nat.zero_le _,Nat.zero_le _,hm,⟨Nat.le_refl _,Nat.zero_le _⟩,hc⟩,fun q => absurd q (Nat.lt_irrefl _),fun i hi => absurd hi (Nat.not_lt_zero _),fun q => absurd q (Nat.lt_irrefl _),fun i hi => absurd hi (Nat.not_lt_zero _),ha,fun i hi => ?_⟩
 obtain ⟨k1,k2⟩:=(hM i hi).1.fcs
 rw [show (Vh.fld k a m c b).fo + i * 14 = i * 14 from Nat.zero_add _]
 exact ⟨k1,(hM i hi).2.1,k2,(hM i hi).2.2⟩
end Go.Proofs.YtpcbhneaaibfiaaDoor
namespace Go.Proofs.YtpcbhneaaibfiaaDoor
open Go.RowKit Go.Shelf
structure Kept (O : Nat -> Prop) (W W' : World) : Prop where
 os : W'.os = W.os
 tape : W'.tape = W.tape
 output : W'.output = W.output
 size : W.heap.size <= W'.heap.size
 block : ∀ k,k < W.heap.size -> ¬ O k -> W'.heap[k]? = W.heap[k]?
theorem Kept.refl (O : Nat -> Prop) (W : World) : Kept O W W:=⟨rfl,rfl,rfl,Nat.le_refl _,fun _ _ _ => rfl⟩
theorem Kept.trans {O O' : Nat -> Prop} {A B C : World} (h : Kept O A B) (k : Kept O' B C) (ho : ∀ b,O' b -> O b ∨ A.heap.size <= b) : Kept O A C :=
 ⟨k.os.trans h.os,k.tape.trans h.tape,k.output.trans h.output,Nat.le_trans h.size k.size,fun i hi hn => (k.block i (Nat.lt_of_lt_of_le hi h.size) fun q => by
  rcases ho i q with q | q
  ·exact hn q
  ·omega).trans (h.block i hi hn)⟩
theorem Kept.of {O : Nat -> Prop} {W W' : World} (h : Below W.heap.size W W') : Kept O W W':=⟨h.os,h.tape,h.output,h.size,fun k hk _ => h.block k hk⟩
theorem Kept.more {O O' : Nat -> Prop} {W W' : World} (h : Kept O W W') (ho : ∀ b,O b -> O' b) : Kept O' W W':=⟨h.os,h.tape,h.output,h.size,fun k hk q => h.block k hk fun e => q (ho k e)⟩
theorem Kept.below {O : Nat -> Prop} {W W' : World} {n : Nat} (h : Kept O W W') (hn : n <= W.heap.size) (ho : ∀ b,b < n -> ¬ O b) : Below n W W':=⟨h.os,h.tape,h.output,h.size,fun k hk => h.block k (Nat.lt_of_lt_of_le hk hn) (ho k hk)⟩
theorem Kept.put (O : Nat -> Prop) (W : World) (l : Nat) (o : Obj) (hl : O l) : Kept O W (W.putObj l o) :=
 ⟨rfl,rfl,rfl,by simp,fun k _ hk => World.putObj_heap_other (fun e => hk (by rw [e];exact hl))⟩
theorem room_any (k : Nat) : Fence.wide.room k:=fun d h => by cases h
theorem RoundIn.any {m m' : Nat} {P : Program} {l : Nat} {f : FuncId} {tmps : Array Value} {assign body : Code} {w : World} {R : Ending -> World -> Prop} (h : RoundIn Fence.wide m P l f tmps assign body w R) : RoundIn Fence.wide m' P l f tmps assign body w R :=
 ⟨h.1,fun c cs _ => h.2 c cs (room_any _)⟩
end Go.Proofs.YtpcbhneaaibfiaaDoor
namespace Go.Proofs.YtpcbhneaaibfiaaDoor
open Go.RowKit
end Go.Proofs.YtpcbhneaaibfiaaDoor
namespace Go.Proofs.YtpcbhneaaibfiaaDoor
open Go.ChangeShapes Go.WideShapes Go.Joins Go.Deep Go.RowKit
theorem Tryd.infoByteV : (Tryd.prog.info? 5).map (fun i => (i.zero,i.size,i.bytes)) = some (some (.int .u8 0),1,1):=by kernel_rfl
def CloneOut (n : Nat) (Y : Nat -> Int) (w : World) (e : Ending) (w' : World) : Prop :=
 ∃ (a : Option Addr) (c b : Nat),e = .returned (.slice a n c) /\ (0 < n -> a = some ⟨b,0,none⟩ /\ w.heap.size <= b /\ b < w'.heap.size) /\ (∀ i,i < n -> w'.cell? ⟨b,i,none⟩ = some (.int .u8 (Y i))) /\ Below w.heap.size w w'
theorem clone_end {w w' : World} {n base : Nat} {Y : Nat -> Int} {v : Value} (h : w'.ownsRow base 5 1 v n ((List.range n).map fun i => Value.int .u8 (Y i))) (hb : Below w.heap.size w w') (hW : w.heap.size <= base) : CloneOut n Y w (.returned v) w':=by
 by_cases hn : n = 0
 ·subst hn
  rcases h.2 with ⟨rfl,_⟩ | ⟨g,cap,cur,rfl,_⟩
  ·exact ⟨none,0,0,rfl,fun h => absurd h (Nat.lt_irrefl _),fun i h => absurd h (Nat.not_lt_zero _),hb⟩
  ·exact ⟨_,cap,g,rfl,fun h => absurd h (Nat.lt_irrefl _),fun i h => absurd h (Nat.not_lt_zero _),hb⟩
 ·obtain ⟨g,cap,rfl,hg,hlt⟩:=own_form h (by omega)
  refine ⟨_,cap,g,rfl,fun _ => ⟨rfl,by omega,hlt⟩,fun i hi => ?_,hb⟩
  have:=h.cells (g:=g) rfl i (.int .u8 (Y i)) (by simp [hi])
  rwa [add_plain,Nat.zero_add] at this
theorem clone_any {a : Option Addr} {n c b o : Nat} {Y : Nat -> Int} (hn : n <= 1048576) (w : World) (ha : 0 < n -> a = some ⟨b,o,none⟩ /\ b < w.heap.size) (hY : ∀ i,i < n -> w.cell? ⟨b,o + i,none⟩ = some (.int .u8 (Y i))) :
 Calls Tryd.prog 70 #[.slice a n c] w (CloneOut n Y w):=by
 cases a with
 | none =>
  have h0 : n = 0:=Classical.byContradiction fun q => by have:=(ha (by omega)).1;cases this
  subst h0
  have HQ : Hid (CloneOut 0 Y w (.returned (.slice none 0 0)) w):=Lib.hid ⟨none,0,0,rfl,fun h => absurd h (Nat.lt_irrefl _),fun i h => absurd h (Nat.not_lt_zero _),Below.refl _ _⟩
  clear ha hY
  have hnil:=fun (w : World) (l c : Nat) => Lib.run_eql_slice_nil (P:=Tryd.prog) w 26 5 none l c 0 0 Tryd.underlying26
  go_enter Tryd.func70,Tryd.ntmps70
  go_wp2
  go_ret
  exact HQ.out
 | some ad =>
  obtain ⟨i0,hi,hz0,hz1,hz2⟩:=info_parts Tryd.infoByteV
  have hown:=World.ownsRow_made (base:=w.heap.size) (e:=5) (size:=1) w #[] 0 (Nat.le_refl _) (by unfold maxLen;omega) rfl
  have hb0:=(Below.refl w.heap.size w).alloc (Nat.le_refl _) (.cells #[] 5)
  have hnews : Hid (∀ j u,((List.range n).map fun i => Value.int .u8 (Y i))[j]? = some u -> (w.alloc (.cells #[] 5)).cell? (ad.add j) = some u):=Lib.hid fun j u hu => by
   have hj : j < n:=by
    rcases Nat.lt_or_ge j n with q | q
    ·exact q
    ·rw [List.getElem?_eq_none (by simp;exact q)] at hu;cases hu
   obtain ⟨e,hlt⟩:=ha (by omega)
   cases e
   rw [add_plain]
   refine (hb0.cell (p:=⟨b,o + j,none⟩) hlt).trans ?_
   rw [hY j hj]
   simp [hj] at hu
   rw [<- hu]
  clear ha hY
  have hnil:=fun (w : World) (l c : Nat) => Lib.run_eql_slice_nil (P:=Tryd.prog) w 26 5 (some ad) l c 0 0 Tryd.underlying26
  go_enter Tryd.func70,Tryd.ntmps70
  go_wp2_with (at_builtin;refine wpList_append_own _ rfl _ _ 26 rfl w.heap.size 5 i0 (.int .u8 0) 1 1 Tryd.underlying26 hi hz0 hz1 hz2 rfl (by decide) _ _ _ rfl hown ad n c ((List.range n).map fun i => Value.int .u8 (Y i)) rfl ?c1 ?c2 ?c3 ?c4 ?c5 ?c6 ?_)
  case c1 => simp
  case c2 => exact hnews.out
  case c3 =>
   intro u hu
   obtain ⟨_,_,rfl⟩:=List.mem_map.1 hu
   rfl
  case c4 => unfold maxLen;omega
  case c5 => omega
  case c6 => simp
  intro v' w3 hown3 hgrow _
  have hb3:=hb0.grown hgrow (by simp) (fun k e => by cases e;exact Nat.le_refl _)
  clear hown hnews hgrow
  go_wp2
  go_ret
  exact clone_end hown3 hb3 (Nat.le_refl _)
end Go.Proofs.YtpcbhneaaibfiaaDoor
