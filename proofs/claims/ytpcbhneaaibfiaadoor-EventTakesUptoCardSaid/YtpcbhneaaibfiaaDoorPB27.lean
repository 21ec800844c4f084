/- Laid together. -/
import Derived.Test.YtpcbhneaaibfiaaDoorPB01
import Derived.Test.YtpcbhneaaibfiaaDoorPB26
import Derived.Test.YtpcbhneaaibfiaaDoorPB08
import Derived.Deep.AppendLies
import Derived.Deep.RegionHeld3
import Derived.Test.YtpcbhneaaibfiaaDoorPB10
import Derived.Test.YtpcbhneaaibfiaaDoorPB25
import Derived.Test.YtpcbhneaaibfiaaDoorPB23
import Derived.BigQuiet
import Derived.BigRegion
set_option linter.unusedVariables false
set_option linter.unusedSimpArgs false
set_option maxHeartbeats 16000000
set_option maxRecDepth 100000
namespace Go.Proofs.YtpcbhneaaibfiaaDoor
open Go.RowKit
theorem of_map {h : Vh} {Y : Nat -> Int} {L : Nat -> Vt} {K : Nat -> ByteArray} {F : Nat -> Vt} (k7 : h.k = 7) (ih : ∀ i,OfIs (F i)) : OfIs (.mk h Y L K F):=by
 intro l va vc top B w hT ht hB hR hlen hup
 have hb0:=(Below.refl w.heap.size w).alloc (Nat.le_refl _) (.cells h.cells 30)
 have P:=Whole.new w 30 h.cells
 have hR0:=hR.below hb0
 have HR0:=Lib.hid hR0
 have hT0:=Vt.In.below (hb0.mono (Nat.le_trans ht hB)) hT
 have hw0 : (w.alloc (.cells h.cells 30)).heap.size = w.heap.size + 1:=World.size_alloc _ _
 have hvo : Hid (∀ g,(Value.slice va l.length vc).ownBlock = some g -> B <= g /\ g < w.heap.size):=Lib.hid (by
  obtain ⟨f,ho,-⟩:=hR
  exact fun g hg => own_lt ho hg)
 obtain ⟨i0,hi0,hz0,hz1,hz2⟩:=info_parts Tryd.infoEvt
 have he : evs (.mk h Y L K F) = evM 4 :: (catL (fun i => evK (K i) :: evs (F i)) h.fn ++ [evM 5]):=(if_neg (show ¬ h.k = 6 by omega)).trans (if_pos k7)
 rw [he] at hlen ⊢
 have hsum : Hid (∀ j,j <= h.fn -> (l ++ [evM 4] ++ catL (fun i => evK (K i) :: evs (F i)) j).length + 1 <= 1000000):=Lib.hid fun j hj => by
  have e:=sumN_mono (f:=fun i => (evK (K i) :: evs (F i)).length) hj
  have hl:=hlen
  rw [List.length_cons,List.length_append,List.length_singleton,catL_len] at hl
  rw [List.length_append,List.length_append,List.length_singleton,catL_len]
  omega
 have HKid:=Lib.hid (show ∀ i,i < h.fn -> Below B w w -> True from fun _ _ _ => trivial)
 have hkn:=hT.1.fn
 have HI:=Lib.hid (fun (j : Nat) (hj : j < h.fn) (M : List Ev) (a : Option Addr) (c : Nat) (w1 : World) (hb : Below B w w1) (hr : RowE B (B <= ·) w1 (.slice a M.length c) M) (hm : M.length + (evs (F j)).length <= 1000000) => ih j M a c top B w1 (Vt.In.below (hb.mono ht) ((hT.2.2.2.2.2.2 j hj).2.2.2)) ht (Nat.le_trans hB hb.size) hr hm (Vt.upto_le (hup.2.2 j hj) (by omega)))
 have HLa : Hid (0 < h.fn -> h.fa = some ⟨h.fb,h.fo,none⟩ /\ h.fb < B):=Lib.hid fun q => ⟨(hT.2.2.2.2.2.1 q).1,Nat.lt_of_lt_of_le (hT.2.2.2.2.2.1 q).2 ht⟩
 have HLs:=Lib.hid (hT.2.2.2.2.2.2)
 have hne : Hid (∀ g,(Value.slice va l.length vc).ownBlock = some g -> g ≠ w.heap.size):=Lib.hid fun g hg => by have:=(hvo.out g hg).2;omega
 have HKB : Hid (∀ w1,Kept (fun b => (Value.slice va l.length vc).ownBlock = some b) w w1 -> Below B w w1):=Lib.hid fun w1 hk => hk.below hB (fun b hb q => by have:=(hvo.out b q).1;omega)
 have HEnd : Hid (∀ (M : List Ev) (w1 w2 w3 : World) (u v' : Value) (f : Nat -> Ev),M = l ++ [evM 4] ++ catL (fun i => evK (K i) :: evs (F i)) h.fn -> Kept (fun b => (Value.slice va l.length vc).ownBlock = some b) w w1 -> Below w1.heap.size w1 w2 -> (∀ b,u.ownBlock = some b -> (Value.slice va l.length vc).ownBlock = some b ∨ w.heap.size <= b) -> w2.ownsRow B 57 15 u M.length (catN (fun i => (f i).cells) M.length) ->
  (∀ i,i < M.length -> (f i).V.In w2 w2.heap.size /\ (f i).V.Off (fun b => B <= b /\ some b ≠ u.ownBlock) /\ (f i).Same (nth M i) /\ (f i).ok) ->
  w3.ownsRow B 57 15 v' (M.length + 1) (catN (fun i => (f i).cells) M.length ++ (evM 5).cells.toList) -> w2.grownBy w3 u.ownBlock -> (v'.ownBlock = u.ownBlock ∨ v'.ownBlock = some w2.heap.size) ->
  OfOut B (.slice va l.length vc) (l ++ evM 4 :: (catL (fun i => evK (K i) :: evs (F i)) h.fn ++ [evM 5])) w (.returned v') w3):=Lib.hid (fun M w1 w2 w3 u v' f hM hk1 hb2 hu ho hf ho3 hg hv => by
  have hr:=RowE.mark (k:=5) (key:=⟨#[]⟩) ⟨by decide,by decide⟩ (Nat.zero_le _) ho hf ho3 hg hv
  have e : l ++ evM 4 :: (catL (fun i => evK (K i) :: evs (F i)) h.fn ++ [evM 5]) = M ++ [evM 5]:=by rw [hM];simp
  rw [e]
  obtain ⟨a,c,rfl⟩:=hr.sl
  refine ⟨a,c,rfl,hr,hk1.trans (kept_app hb2 hg) hu,fun b q => ?_⟩
  rcases own_app hb2.size hv b q with q | q
  ·exact hu b q
  ·exact .inr (Nat.le_trans hk1.size q))
 have p0:=Whole.cell P 0
 simp only [Vh.cells,List.getElem?_toArray,List.getElem?_cons_succ,List.getElem?_cons_zero] at p0
 have d6 : (h.k == 6) = false:=beq_eq_false_iff_ne.2 (by omega)
 have d7 : (h.k == 7) = true:=beq_iff_eq.2 k7
 clear hT hR hT0 hup he hR0 ih k7 hlen
 obtain ⟨kids,hkids⟩ : ∃ kids : Nat -> List Ev,kids = catL (fun i => evK (K i) :: evs (F i)):=⟨_,rfl⟩
 have HSucc : Hid (∀ j,kids (j + 1) = kids j ++ (evK (K j) :: evs (F j))):=Lib.hid fun j => by rw [hkids];rfl
 have HZero : Hid (kids 0 = []):=Lib.hid (by rw [hkids];rfl)
 rw [<- hkids] at hsum HEnd ⊢
 clear hkids HKid
 have n2 : (0 : Int) <= h.fn:=by omega
 have n3 : (h.fn : Int) <= 1048576:=by omega
 have hl9 : Hid (l.length + 1 <= 1000000):=Lib.hid (by have:=hsum.out 0 (Nat.zero_le _);rw [HZero.out] at this;simp at this;omega)
 have hl9':=hl9.out
 have Pb:=P
 simp only [Vt.h,Vh.cells] at hb0 HR0 hw0 Pb ⊢
 clear P
 go_enter Tryd.func38,Tryd.ntmps38
 go_upto_region 11 with (fail)
 have hP0:=Pb
 obtain ⟨w0,hw0'⟩ : ∃ w0,w.alloc (.cells #[.int .i64 h.k,.bool h.b,.bool h.n,.string h.d,.int .i64 h.e,.int .i64 h.tk,.int .i64 h.td,.int .i64 h.tn,.int .i64 h.tz,.string h.x,.slice h.ba h.bn h.bc,.slice h.la h.ln h.lc,.slice h.fa h.fn h.fc] 30) = w0:=⟨_,rfl⟩
 simp only [hw0'] at hb0 HR0 hw0 hP0 p0 ⊢
 clear hw0' Pb
 obtain ⟨f,hown,hf⟩:=HR0.out.below ((Below.refl w0.heap.size w0).alloc (Nat.le_refl _) (.cells #[.int .i64 4,.string ⟨#[]⟩,.int .i64 0,.bool false,.bool false,.string ⟨#[]⟩,.int .i64 0,.int .i64 0,.int .i64 0,.int .i64 0,.int .i64 0,.string ⟨#[]⟩,.slice none 0 0,.slice none 0 0,.slice none 0 0] 57))
 have Hf:=Lib.hid hf
 have HOwn:=Lib.hid hown
 have s1:=Lib.hid (cells_new w0 57 #[.int .i64 4,.string ⟨#[]⟩,.int .i64 0,.bool false,.bool false,.string ⟨#[]⟩,.int .i64 0,.int .i64 0,.int .i64 0,.int .i64 0,.int .i64 0,.string ⟨#[]⟩,.slice none 0 0,.slice none 0 0,.slice none 0 0])
 have s2 : Hid (∀ u ∈ (#[.int .i64 4,.string ⟨#[]⟩,.int .i64 0,.bool false,.bool false,.string ⟨#[]⟩,.int .i64 0,.int .i64 0,.int .i64 0,.int .i64 0,.int .i64 0,.string ⟨#[]⟩,.slice none 0 0,.slice none 0 0,.slice none 0 0] : Array Value).toList,u.oneCell' = true):=Lib.hid (by simp [Value.oneCell'])
 have s3 : Hid (l.length + 1 <= maxLen):=Lib.hid (by unfold maxLen;omega)
 have s4 : Hid ((l.length + 1) * 192 <= 140737488355328):=Lib.hid (by omega)
 have s5 : Hid (B <= (w0.alloc (.cells #[.int .i64 4,.string ⟨#[]⟩,.int .i64 0,.bool false,.bool false,.string ⟨#[]⟩,.int .i64 0,.int .i64 0,.int .i64 0,.int .i64 0,.int .i64 0,.string ⟨#[]⟩,.slice none 0 0,.slice none 0 0,.slice none 0 0] 57)).heap.size):=Lib.hid (by rw [World.size_alloc];omega)
 clear hf
 go_wp2_with (first | (at_builtin;refine wpList_append_told _ rfl _ _ 34 rfl B 57 i0 _ 15 192 Tryd.underlying34 hi0 hz0 hz1 hz2 rfl (by decide) _ _ _ rfl hown ⟨w.heap.size + 1,0,none⟩ 1 1 (#[.int .i64 4,.string ⟨#[]⟩,.int .i64 0,.bool false,.bool false,.string ⟨#[]⟩,.int .i64 0,.int .i64 0,.int .i64 0,.int .i64 0,.int .i64 0,.string ⟨#[]⟩,.slice none 0 0,.slice none 0 0,.slice none 0 0] : Array Value).toList rfl rfl (by have:=s1.out;rw [hw0] at this;exact this) s2.out s3.out s4.out s5.out Nat.one_pos ?_))
 clear s1 s2 s3 s4 s5 hown
 intro v2 w2 ho2 hg2 hv2
 have HR2:=Lib.hid (RowE.mark (k:=4) (key:=⟨#[]⟩) ⟨by decide,by decide⟩ (Nat.zero_le _) HOwn.out Hf.out ho2 hg2 (by rw [World.size_alloc,hw0];exact hv2))
 have gw : Below w.heap.size w (w0.alloc (.cells #[.int .i64 4,.string ⟨#[]⟩,.int .i64 0,.bool false,.bool false,.string ⟨#[]⟩,.int .i64 0,.int .i64 0,.int .i64 0,.int .i64 0,.int .i64 0,.string ⟨#[]⟩,.slice none 0 0,.slice none 0 0,.slice none 0 0] 57)):=hb0.alloc hb0.size _
 have HK2:=Lib.hid (kept_app gw hg2)
 have HO2 : Hid (∀ b,v2.ownBlock = some b -> (Value.slice va l.length vc).ownBlock = some b ∨ w.heap.size <= b):=Lib.hid (own_app gw.size (by rw [World.size_alloc,hw0];exact hv2))
 have P2:=(hP0.alloc (.cells #[.int .i64 4,.string ⟨#[]⟩,.int .i64 0,.bool false,.bool false,.string ⟨#[]⟩,.int .i64 0,.int .i64 0,.int .i64 0,.int .i64 0,.int .i64 0,.string ⟨#[]⟩,.slice none 0 0,.slice none 0 0,.slice none 0 0] 57)).kept hg2 (fun e => hne.out _ e.symm rfl)
 have pl:=Whole.cell P2 12
 simp only [List.getElem?_toArray,List.getElem?_cons_succ,List.getElem?_cons_zero] at pl
 have HM0 : Hid (RowE B (B <= ·) w2 v2 (l ++ [evM 4] ++ kids 0)):=Lib.hid (by rw [HZero.out,List.append_nil];exact HR2.out)
 clear hP0 P2 p0 HOwn Hf ho2 hg2 hv2 HR2 HR0 hb0 gw hne
 obtain ⟨a2,c2,hv2s⟩:=HM0.out.sl
 go_wp2_with fail
 go_loopw [0,41] (fun v i wr => ∃ j : Nat,j <= h.fn /\ i = .int .i64 j /\ Hid (RowE B (B <= ·) wr v (l ++ [evM 4] ++ kids j)) /\ Hid (Kept (fun b => (Value.slice va l.length vc).ownBlock = some b) w wr) /\ Hid (∀ b,v.ownBlock = some b -> (Value.slice va l.length vc).ownBlock = some b ∨ w.heap.size <= b)) (fun _ i _ => h.fn - (intOf i).toNat)
 case atStart => exact ⟨0,by omega,rfl,HM0,HK2,HO2⟩
 case round =>
  clear HM0 HK2 HO2 pl hv2s
  obtain ⟨j,hj,rfl,HRr,HKr,HOr⟩:=hrel
  have hji : (0 : Int) <= j:=by omega
  have hsz:=HKr.out.size
  have hml:=hsum.out j hj
  obtain ⟨M,hM⟩ : ∃ M,l ++ [evM 4] ++ kids j = M:=⟨_,rfl⟩
  rw [hM] at HRr hml
  have HM:=Lib.hid hM
  clear hM
  obtain ⟨ar,cr,hvr⟩:=HRr.out.sl
  subst hvr
  by_cases hjn : j < h.fn
  ·have hjl : (j : Int) < h.fn:=by omega
   obtain ⟨ea,elt⟩:=HLa.out (by omega)
   have HBr:=Lib.hid (HKB.out wr HKr.out)
   obtain ⟨k0,k1,k2,k3⟩:=HLs.out j hjn
   have hl:=lies_c14 (lies_fcs ((HBr.out.cell (p:=⟨h.fb,h.fo + j * 14,none⟩) elt).trans k0) (k2.below HBr.out elt))
   obtain ⟨l0,l1,l2,l3,l4,l5,l6,l7,l8,l9,l10,l11,l12,l13⟩:=hl
   have HC:=Lib.hid (fun (M2 : List Ev) (a : Option Addr) (c : Nat) (w1 : World) (hb : Below B w w1) (hr : RowE B (B <= ·) w1 (.slice a M2.length c) M2) (hm : M2.length + (evs (F j)).length <= 1000000) => HI.out j hjn M2 a c w1 hb hr hm)
   have hlen2 : Hid ((M ++ [evK (K j)]).length + (evs (F j)).length <= 1000000):=Lib.hid (by have:=hsum.out (j + 1) hjn;rw [HSucc.out,<- List.append_assoc,HM.out] at this;simp at this ⊢;omega)
   have HSj : Hid (l ++ [evM 4] ++ kids (j + 1) = (M ++ [evK (K j)]) ++ evs (F j)):=Lib.hid (by rw [HSucc.out,<- List.append_assoc,HM.out];simp)
   obtain ⟨M1,hM1⟩ : ∃ M1,M ++ [evK (K j)] = M1:=⟨_,rfl⟩
   have HM1 : Hid (M ++ [Ev.mk 6 (K j) Vt.z] = M1):=Lib.hid hM1
   rw [hM1] at hlen2 HSj
   obtain ⟨M2,hM2⟩ : ∃ M2,M1 ++ evs (F j) = M2:=⟨_,rfl⟩
   rw [hM2] at HSj
   have HC1:=Lib.hid (fun (a : Option Addr) (c : Nat) (w1 : World) (hb : Below B w w1) (hr : RowE B (B <= ·) w1 (.slice a M1.length c) M1) => HC.out M1 a c w1 hb hr hlen2.out)
   simp only [hM2] at HC1
   clear hM1 hM2 HC hlen2
   clear k0 k2 k3
   generalize K j = y at *
   generalize F j = U at *
   obtain ⟨G,hG⟩ : ∃ G,U.h = G:=⟨_,rfl⟩
   rw [hG] at l1 l2 l3 l4 l5 l6 l7 l8 l9 l10 l11 l12 l13 HC1
   simp only [Vh.cells] at HC1
   clear hG
   rw [ea]
   have ga : Below wr.heap.size wr (wr.alloc (.cells #[.string y,.int .i64 G.k,.bool G.b,.bool G.n,.string G.d,.int .i64 G.e,.int .i64 G.tk,.int .i64 G.td,.int .i64 G.tn,.int .i64 G.tz,.string G.x,.slice G.ba G.bn G.bc,.slice G.la G.ln G.lc,.slice G.fa G.fn G.fc] 76)):=(Below.refl _ _).alloc (Nat.le_refl _) _
   have N5:=Whole.new wr 76 #[.string y,.int .i64 G.k,.bool G.b,.bool G.n,.string G.d,.int .i64 G.e,.int .i64 G.tk,.int .i64 G.td,.int .i64 G.tn,.int .i64 G.tz,.string G.x,.slice G.ba G.bn G.bc,.slice G.la G.ln G.lc,.slice G.fa G.fn G.fc]
   have HR5:=Lib.hid (HRr.out.below ga)
   have hne5 : Hid (∀ g,(Value.slice ar M.length cr).ownBlock = some g -> g ≠ wr.heap.size):=Lib.hid fun g hg => by
    obtain ⟨f,ho,-⟩:=HRr.out
    have:=(own_lt ho hg).2
    omega
   have hs5 : (wr.alloc (.cells #[.string y,.int .i64 G.k,.bool G.b,.bool G.n,.string G.d,.int .i64 G.e,.int .i64 G.tk,.int .i64 G.td,.int .i64 G.tn,.int .i64 G.tz,.string G.x,.slice G.ba G.bn G.bc,.slice G.la G.ln G.lc,.slice G.fa G.fn G.fc] 76)).heap.size = wr.heap.size + 1:=World.size_alloc _ _
   go_wp2_with fail
   obtain ⟨w5,hw5⟩ : ∃ w5,wr.alloc (.cells #[.string y,.int .i64 G.k,.bool G.b,.bool G.n,.string G.d,.int .i64 G.e,.int .i64 G.tk,.int .i64 G.td,.int .i64 G.tn,.int .i64 G.tz,.string G.x,.slice G.ba G.bn G.bc,.slice G.la G.ln G.lc,.slice G.fa G.fn G.fc] 76) = w5:=⟨_,rfl⟩
   simp only [hw5] at ga N5 HR5 hs5 ⊢
   clear hw5 l0 l1 l2 l3 l4 l5 l6 l7 l8 l9 l10 l11 l12 l13
   refine wp_region_held_drew (S:=fun V => Whole V wr.heap.size 76 #[.string y,.int .i64 G.k,.bool G.b,.bool G.n,.string G.d,.int .i64 G.e,.int .i64 G.tk,.int .i64 G.td,.int .i64 G.tn,.int .i64 G.tz,.string G.x,.slice G.ba G.bn G.bc,.slice G.la G.ln G.lc,.slice G.fa G.fn G.fc]) (by kernel_rfl) (Whole.drew N5) (fun hS => ?_)
   refine tkH (i:=0) rfl (by kernel_rfl) (by rfl) (fun _ _ _ h => h) hS (by intro wS hSw;go_simp;try with_reducible rfl) ?_
   simp only [Act.put,actS]
   refine tkH (i:=1) rfl (by kernel_rfl) (by rfl) (fun _ _ _ h => h) hS (by intro wS hSw;go_simp;try with_reducible rfl) ?_
   simp only [Act.put,actS]
   refine tkH (i:=2) rfl (by kernel_rfl) (by rfl) (fun _ _ _ h => h) hS (by intro wS hSw;have z0:=Whole.cell hSw 0;have z1:=Whole.cell hSw 1;have z2:=Whole.cell hSw 2;have z3:=Whole.cell hSw 3;have z4:=Whole.cell hSw 4;have z5:=Whole.cell hSw 5;have z6:=Whole.cell hSw 6;have z7:=Whole.cell hSw 7;have z8:=Whole.cell hSw 8;have z9:=Whole.cell hSw 9;have z10:=Whole.cell hSw 10;have z11:=Whole.cell hSw 11;have z12:=Whole.cell hSw 12;have z13:=Whole.cell hSw 13;simp only [List.getElem?_toArray,List.getElem?_cons_succ,List.getElem?_cons_zero] at z0 z1 z2 z3 z4 z5 z6 z7 z8 z9 z10 z11 z12 z13;go_simp;try with_reducible rfl) ?_
   simp only [Act.put,actS]
   refine tkH (i:=3) rfl (by kernel_rfl) (by rfl) (fun _ _ _ h => h) hS (by intro wS hSw;go_simp;try with_reducible rfl) ?_
   simp only [Act.put,actS]
   refine tkH (i:=6) rfl (by kernel_rfl) (by rfl) (fun _ _ _ h => h) hS (by intro wS hSw;go_simp;try with_reducible rfl) ?_
   simp only [Act.put,actS]
   refine tkH (i:=7) rfl (by kernel_rfl) (by rfl) (fun _ _ _ h => h) hS (by intro wS hSw;have z0:=Whole.cell hSw 0;have z1:=Whole.cell hSw 1;have z2:=Whole.cell hSw 2;have z3:=Whole.cell hSw 3;have z4:=Whole.cell hSw 4;have z5:=Whole.cell hSw 5;have z6:=Whole.cell hSw 6;have z7:=Whole.cell hSw 7;have z8:=Whole.cell hSw 8;have z9:=Whole.cell hSw 9;have z10:=Whole.cell hSw 10;have z11:=Whole.cell hSw 11;have z12:=Whole.cell hSw 12;have z13:=Whole.cell hSw 13;simp only [List.getElem?_toArray,List.getElem?_cons_succ,List.getElem?_cons_zero] at z0 z1 z2 z3 z4 z5 z6 z7 z8 z9 z10 z11 z12 z13;go_simp;try with_reducible rfl) ?_
   simp only [Act.put,actS]
   have ga6:=ga.drew
   have HR6 : Hid (RowE B (B <= ·) w5.drew (.slice ar M.length cr) M):=Lib.hid (HR5.out.below ((Below.refl _ _).drew))
   have hs6:=ga6.size
   clear ga HR5 hs5 N5
   generalize w5.drew = w6 at *
   refine wpAnyH_ready (rs:=[4]) (by kernel_rfl) (by simp) ?_
   refine AllReadyH.cons rfl (fun KK hK => ?_) AllReadyH.nil
   go_simp
   refine hK.out _ _ (Whole.alloc hS _) (fun hS2 => ?_)
   clear hK KK
   try simp only [Act.put,actS]
   obtain ⟨f,hown,hf⟩:=HR6.out.below ((Below.refl w6.heap.size w6).alloc (Nat.le_refl _) (.cells #[.int .i64 6,.string y,.int .i64 0,.bool false,.bool false,.string ⟨#[]⟩,.int .i64 0,.int .i64 0,.int .i64 0,.int .i64 0,.int .i64 0,.string ⟨#[]⟩,.slice none 0 0,.slice none 0 0,.slice none 0 0] 57))
   have Hf:=Lib.hid hf
   have HOwn:=Lib.hid hown
   have s1:=Lib.hid (cells_new w6 57 #[.int .i64 6,.string y,.int .i64 0,.bool false,.bool false,.string ⟨#[]⟩,.int .i64 0,.int .i64 0,.int .i64 0,.int .i64 0,.int .i64 0,.string ⟨#[]⟩,.slice none 0 0,.slice none 0 0,.slice none 0 0])
   have s2 : Hid (∀ u ∈ (#[.int .i64 6,.string y,.int .i64 0,.bool false,.bool false,.string ⟨#[]⟩,.int .i64 0,.int .i64 0,.int .i64 0,.int .i64 0,.int .i64 0,.string ⟨#[]⟩,.slice none 0 0,.slice none 0 0,.slice none 0 0] : Array Value).toList,u.oneCell' = true):=Lib.hid (by simp [Value.oneCell'])
   have s3 : Hid (M.length + 1 <= maxLen):=Lib.hid (by unfold maxLen;omega)
   have s4 : Hid ((M.length + 1) * 192 <= 140737488355328):=Lib.hid (by omega)
   clear hf
   refine wpAnyH_ready (rs:=[5]) (by kernel_rfl) (by simp) ?_
   refine AllReadyH.cons rfl (fun KK hK => ?_) AllReadyH.nil
   refine step_append_lies _ (by rfl) _ _ _ (by rfl) B 57 i0 _ 15 192 Tryd.underlying34 hi0 hz0 hz1 hz2 rfl (by decide) (.slice ar M.length cr) M.length _ (by rfl) HOwn.out ⟨w6.heap.size,0,none⟩ 1 1 (#[.int .i64 6,.string y,.int .i64 0,.bool false,.bool false,.string ⟨#[]⟩,.int .i64 0,.int .i64 0,.int .i64 0,.int .i64 0,.int .i64 0,.string ⟨#[]⟩,.slice none 0 0,.slice none 0 0,.slice none 0 0] : Array Value).toList (by rfl) (by rfl) ?s1 s2.out (by omega) s3.out s4.out ?s5 (w6.heap.size + 1) (by simp) ?_
   case s1 => exact fun p v hv => s1.out p v hv
   case s5 => rw [World.size_alloc];omega
   intro gg cap w7 hown7 hgrow hat hlt7
   have hv7 : (Value.slice (some ⟨gg,0,none⟩) (M.length + 1) cap).ownBlock = (Value.slice ar M.length cr).ownBlock ∨ (Value.slice (some ⟨gg,0,none⟩) (M.length + 1) cap).ownBlock = some (w6.alloc (.cells #[.int .i64 6,.string y,.int .i64 0,.bool false,.bool false,.string ⟨#[]⟩,.int .i64 0,.int .i64 0,.int .i64 0,.int .i64 0,.int .i64 0,.string ⟨#[]⟩,.slice none 0 0,.slice none 0 0,.slice none 0 0] 57)).heap.size:=by
    rcases hat with q | q
    ·exact .inl q.symm
    ·exact .inr (by rw [World.size_alloc,q];rfl)
   have gk : Below wr.heap.size wr (w6.alloc (.cells #[.int .i64 6,.string y,.int .i64 0,.bool false,.bool false,.string ⟨#[]⟩,.int .i64 0,.int .i64 0,.int .i64 0,.int .i64 0,.int .i64 0,.string ⟨#[]⟩,.slice none 0 0,.slice none 0 0,.slice none 0 0] 57)):=ga6.alloc ga6.size _
   have HR7:=Lib.hid (RowE.mark (k:=6) (key:=y) ⟨by decide,by decide⟩ k1 HOwn.out Hf.out hown7 hgrow hv7)
   have HK7:=Lib.hid (kept_app gk hgrow)
   have HO7:=Lib.hid (own_app gk.size hv7)
   have HN7 : Hid (∀ g,(Value.slice (some ⟨gg,0,none⟩) (M.length + 1) cap).ownBlock = some g -> g ≠ wr.heap.size):=Lib.hid fun g hg => by
    rcases hv7 with q | q
    ·rw [q] at hg;exact hne5.out g hg
    ·rw [q] at hg;cases hg;rw [World.size_alloc];omega
   have hS3:=Whole.kept hS2 hgrow (fun e => hne5.out _ e.symm rfl)
   clear hown7 hgrow hat hv7 gk s1 s2 s3 s4 HOwn Hf hown HR6 hne5
   refine hK.out _ _ hS3 (fun hS4 => ?_)
   clear hK KK
   try simp only [Act.put,actS]
   have hcat : M.length + 1 = M1.length:=by rw [<- HM1.out];simp
   have HB7 : Hid (Below B w w7):=Lib.hid (HBr.out.trans (HK7.out.below (Nat.le_trans hB hsz) (fun b hb q => by
    rcases HOr.out b q with q | q
    ·have:=(hvo.out b q).1;omega
    ·omega)))
   rw [HM1.out] at HR7
   rw [hcat] at HR7 HO7
   have HC7:=Lib.hid (HC1.out (some ⟨gg,0,none⟩) cap w7 HB7.out HR7.out)
   rw [<- hcat] at HC7
   have HCat:=Lib.hid hcat
   clear hcat
   refine wpAnyH_ready (rs:=[8]) (by kernel_rfl) (by simp) ?_
   refine AllReadyH.cons rfl (fun KK hK => ?_) AllReadyH.nil
   go_simp
   go_at_call 38
   refine HC7.out.mono ?_;rintro _ w8 ⟨a8,c8,rfl,hr8,hk8,ho8⟩
   have HR8:=Lib.hid hr8
   have HK8 : Hid (Kept (fun b => (Value.slice va l.length vc).ownBlock = some b) w w8):=Lib.hid (HKr.out.trans (HK7.out.trans hk8 (by rw [HCat.out];exact HO7.out)) HOr.out)
   have HO8 : Hid (∀ b,(Value.slice a8 M2.length c8).ownBlock = some b -> (Value.slice va l.length vc).ownBlock = some b ∨ w.heap.size <= b):=Lib.hid fun b q => by
    rcases ho8 b q with q | q
    ·rcases HO7.out b (by rw [<- HCat.out];exact q) with q | q
     ·exact HOr.out b q
     ·exact .inr (Nat.le_trans hsz q)
    ·exact .inr (by have:=HK7.out.size;omega)
   have hS5:=(hk8.block _ hS3.lt (fun q => HN7.out _ q rfl)).trans hS3
   clear HC7 HC1 hr8 hk8 ho8
   refine hK.out _ _ hS5 (fun hS6 => ?_)
   clear hK KK
   try simp only [Act.put,actS]
   refine tkH (i:=9) rfl (by kernel_rfl) (by rfl) (fun _ _ _ h => h) hS6 (by intro wS hSw;go_simp;try with_reducible rfl) ?_
   simp only [Act.put,actS]
   refine wpAnyH_done (by kernel_rfl) ?_ _
   clear hS hS2 hS3 hS4 hS5 hS6 HRr HKr HOr
   go_wp2
   go_roundw
   case rel => exact ⟨j + 1,by omega,by go_num,by rw [HSj.out];exact HR8,HK8,HO8⟩
   case measure => simp [intOf];omega
  ·obtain rfl : j = h.fn:=by omega
   obtain ⟨f,hown,hf⟩:=HRr.out.below ((Below.refl wr.heap.size wr).alloc (Nat.le_refl _) (.cells #[.int .i64 5,.string ⟨#[]⟩,.int .i64 0,.bool false,.bool false,.string ⟨#[]⟩,.int .i64 0,.int .i64 0,.int .i64 0,.int .i64 0,.int .i64 0,.string ⟨#[]⟩,.slice none 0 0,.slice none 0 0,.slice none 0 0] 57))
   have Hf:=Lib.hid hf
   have HOwn:=Lib.hid hown
   have s1:=Lib.hid (cells_new wr 57 #[.int .i64 5,.string ⟨#[]⟩,.int .i64 0,.bool false,.bool false,.string ⟨#[]⟩,.int .i64 0,.int .i64 0,.int .i64 0,.int .i64 0,.int .i64 0,.string ⟨#[]⟩,.slice none 0 0,.slice none 0 0,.slice none 0 0])
   have s2 : Hid (∀ u ∈ (#[.int .i64 5,.string ⟨#[]⟩,.int .i64 0,.bool false,.bool false,.string ⟨#[]⟩,.int .i64 0,.int .i64 0,.int .i64 0,.int .i64 0,.int .i64 0,.string ⟨#[]⟩,.slice none 0 0,.slice none 0 0,.slice none 0 0] : Array Value).toList,u.oneCell' = true):=Lib.hid (by simp [Value.oneCell'])
   have s3 : Hid (M.length + 1 <= maxLen):=Lib.hid (by unfold maxLen;omega)
   have s4 : Hid ((M.length + 1) * 192 <= 140737488355328):=Lib.hid (by omega)
   have s5 : Hid (B <= (wr.alloc (.cells #[.int .i64 5,.string ⟨#[]⟩,.int .i64 0,.bool false,.bool false,.string ⟨#[]⟩,.int .i64 0,.int .i64 0,.int .i64 0,.int .i64 0,.int .i64 0,.string ⟨#[]⟩,.slice none 0 0,.slice none 0 0,.slice none 0 0] 57)).heap.size):=Lib.hid (by rw [World.size_alloc];omega)
   clear hf
   go_wp2_with (first | (at_builtin;refine wpList_append_told _ rfl _ _ 34 rfl B 57 i0 _ 15 192 Tryd.underlying34 hi0 hz0 hz1 hz2 rfl (by decide) _ _ _ rfl hown ⟨wr.heap.size,0,none⟩ 1 1 (#[.int .i64 5,.string ⟨#[]⟩,.int .i64 0,.bool false,.bool false,.string ⟨#[]⟩,.int .i64 0,.int .i64 0,.int .i64 0,.int .i64 0,.int .i64 0,.string ⟨#[]⟩,.slice none 0 0,.slice none 0 0,.slice none 0 0] : Array Value).toList rfl rfl (by simpa using s1.out) s2.out s3.out s4.out s5.out Nat.one_pos ?_))
   clear s1 s2 s3 s4 s5 hown
   intro v3 w3 ho2 hg2 hv2
   have HE:=Lib.hid (HEnd.out M wr _ w3 _ v3 f HM.out.symm HKr.out ((Below.refl _ _).alloc (Nat.le_refl _) _) HOr.out HOwn.out Hf.out ho2 hg2 (by rw [World.size_alloc];exact hv2))
   clear HEnd HOwn Hf ho2 hg2 hv2 HRr HKr HOr HM
   go_wp2
   (first | exact HE.out | (go_ret;exact HE.out))
theorem of_any : ∀ T : Vt,OfIs T:=by
 intro T
 induction T with
 | nil => intro l va vc top B w h;exact h.elim
 | mk h Y L K F ihL ihF =>
  by_cases k6 : h.k = 6
  ·exact of_lst k6 ihL
  by_cases k7 : h.k = 7
  ·exact of_map k7 ihF
  ·exact of_sca k6 k7
def OfsOut (T : Vt) (w : World) (e : Ending) (w' : World) : Prop:=∃ p : Evs,e = .returned (.slice p.a p.n p.c) /\ p.In w' w'.heap.size /\ SameL p.list (evs T) /\ (0 < p.n -> w.heap.size <= p.b) /\ (∀ i,i < p.n -> (p.S i).V.Off (w.heap.size <= ·)) /\ Below w.heap.size w w'
theorem ofs_len {T : Vt} {top : Nat} {w : World} (hT : T.In w top) (ht : top <= w.heap.size) (hlen : (evs T).length <= 1000000) (hu : T.upto 65536) : Calls Tryd.prog 13 #[.agg T.h.cells] w (OfsOut T w):=by
 have hb0:=(Below.refl w.heap.size w).alloc (Nat.le_refl _) (.cells T.h.cells 30)
 have P:=Whole.new w 30 T.h.cells
 have HO:=Lib.hid (of_any T [] none 0 top w.heap.size (w.alloc (.cells T.h.cells 30)) (Vt.In.below (hb0.mono ht) hT) ht hb0.size (RowE.nil _ _ _) (by simpa using hlen) hu)
 have HE : Hid (∀ (w1 : World) (a : Option Addr) (c : Nat),RowE w.heap.size (w.heap.size <= ·) w1 (.slice a (evs T).length c) (evs T) -> Below w.heap.size w w1 -> OfsOut T w (.returned (.slice a (evs T).length c)) w1):=Lib.hid (fun w1 a c hr hb => by
  obtain ⟨p,h1,h2,h3,h4,h5⟩:=hr.evs (by omega)
  exact ⟨p,by rw [h1],h2,h3,h4,h5,hb⟩)
 rw [List.nil_append] at HO
 simp only [List.length_nil] at HO
 obtain ⟨x0,x1,x2,x3,x4,x5,x6,x7,x8,x9,x10,x11,x12⟩:=Whole.c13 (h:=T.h) P
 obtain ⟨N,hN⟩ : ∃ N,evs T = N:=⟨_,rfl⟩
 rw [hN] at HO HE
 clear hT hu hlen hN P
 simp only [Vh.cells] at HO hb0 x0 x1 x2 x3 x4 x5 x6 x7 x8 x9 x10 x11 x12 ⊢
 go_enter Tryd.func13,Tryd.ntmps13
 go_wp2_with fail
 refine HO.out.mono ?_;rintro _ w1 ⟨a,c,rfl,hr,hk,-⟩
 have HF:=Lib.hid (HE.out w1 a c hr (hb0.trans (hk.below hb0.size (fun b hb q => by cases q))))
 clear HO HE hr hk hb0 x0 x1 x2 x3 x4 x5 x6 x7 x8 x9 x10 x11 x12
 go_wp2
 (first | exact HF.out | (go_ret;exact HF.out))
theorem ofs_any {T : Vt} {top : Nat} {w : World} (hT : T.In w top) (ht : top <= w.heap.size) (hs : T.size <= 65536) (hu : T.upto 65536) : Calls Tryd.prog 13 #[.agg T.h.cells] w (OfsOut T w) :=
 ofs_len hT ht (by have:=evs_len T;omega) hu
def nilP : Pth:=⟨none,0,0,0,0,fun _ => default⟩
def PRow (B : Nat) (S : Nat -> Prop) (W : World) (v : Value) (ps : List (List Stp)) : Prop :=
 ∃ fs : List Pth,fs.map Pth.steps = ps /\ W.ownsRow B 42 1 v fs.length (fs.map Pth.val) /\ ∀ f,f ∈ fs -> f.In W W.heap.size /\ (0 < f.n -> S f.b /\ some f.b ≠ v.ownBlock)
theorem PRow.nil (B : Nat) (S : Nat -> Prop) (W : World) : PRow B S W (.slice none 0 0) []:=⟨[],rfl,World.ownsRow_nil _ _ _ _,fun _ h => by cases h⟩
theorem PRow.len {B : Nat} {S : Nat -> Prop} {W : World} {v : Value} {ps : List (List Stp)} (h : PRow B S W v ps) : ∃ fs : List Pth,fs.length = ps.length /\ W.ownsRow B 42 1 v ps.length (fs.map Pth.val):=by
 obtain ⟨fs,e,ho,_⟩:=h
 have : fs.length = ps.length:=by rw [<- e];simp
 exact ⟨fs,this,by rw [<- this];exact ho⟩
theorem PRow.keptO {B : Nat} {S : Nat -> Prop} {W W' : World} {v : Value} {ps : List (List Stp)} (h : PRow B S W v ps) {row : Option Nat} (hg : W.grownBy W' row) (hv : v.ownBlock = none ∨ v.ownBlock ≠ row) (hS : ∀ b,S b -> some b ≠ row) : PRow B S W' v ps:=by
 obtain ⟨fs,e,ho,hf⟩:=h
 refine ⟨fs,e,ho.kept hg hv,fun f hf' => ?_⟩
 obtain ⟨h1,h2⟩:=hf f hf'
 refine ⟨⟨fun q => ⟨(h1.1 q).1,Nat.lt_of_lt_of_le (h1.1 q).2 hg.size⟩,h1.2.1,fun i hi => ⟨fun j hj => ?_,(h1.2.2 i hi).2⟩⟩,h2⟩
 have hn : 0 < f.n:=by omega
 exact (World.cell?_of_block (a:=⟨f.b,f.o + i * 3 + j,none⟩) (hg.block f.b (h1.1 hn).2 (hS _ (h2 hn).1))).trans ((h1.2.2 i hi).1 j hj)
theorem PRow.below {B : Nat} {S : Nat -> Prop} {W W' : World} {v : Value} {ps : List (List Stp)} (h : PRow B S W v ps) (hb : Below W.heap.size W W') : PRow B S W' v ps:=by
 refine h.keptO (row:=none) ⟨hb.os,hb.tape,hb.output,hb.size,fun i hi _ => hb.block i hi⟩ ?_ (fun b _ e => by cases e)
 cases hv : v.ownBlock with
 | none => exact .inl rfl
 | some g => exact .inr (by simp)
theorem PRow.join {B : Nat} {S : Nat -> Prop} {W W' : World} {v v' : Value} {fs gs : List Pth} (ho : W.ownsRow B 42 1 v fs.length (fs.map Pth.val)) (hf : ∀ f,f ∈ fs -> f.In W W.heap.size /\ (0 < f.n -> S f.b /\ some f.b ≠ v.ownBlock)) (hg : ∀ f,f ∈ gs -> f.In W W.heap.size /\ (0 < f.n -> S f.b /\ some f.b ≠ v.ownBlock))
 (ho' : W'.ownsRow B 42 1 v' (fs.length + gs.length) (fs.map Pth.val ++ gs.map Pth.val)) (hgr : W.grownBy W' v.ownBlock) (hv : v'.ownBlock = v.ownBlock ∨ v'.ownBlock = some W.heap.size) : PRow B S W' v' (fs.map Pth.steps ++ gs.map Pth.steps):=by
 refine ⟨fs ++ gs,by simp,by simpa using ho',fun f hm => ?_⟩
 have h : f.In W W.heap.size /\ (0 < f.n -> S f.b /\ some f.b ≠ v.ownBlock):=by
  rcases List.mem_append.1 hm with hm | hm
  ·exact hf f hm
  ·exact hg f hm
 obtain ⟨h1,h2⟩:=h
 refine ⟨⟨fun q => ⟨(h1.1 q).1,Nat.lt_of_lt_of_le (h1.1 q).2 hgr.size⟩,h1.2.1,fun i hi => ⟨fun j hj => ?_,(h1.2.2 i hi).2⟩⟩,fun q => ⟨(h2 q).1,?_⟩⟩
 ·have hn : 0 < f.n:=by omega
  exact (World.cell?_of_block (a:=⟨f.b,f.o + i * 3 + j,none⟩) (hgr.block f.b (h1.1 hn).2 (h2 hn).2)).trans ((h1.2.2 i hi).1 j hj)
 ·rcases hv with e | e
  ·rw [e];exact (h2 q).2
  ·rw [e]
   intro c
   have:=Option.some.inj c
   have:=(h1.1 q).2
   omega
theorem PRow.get {B : Nat} {S : Nat -> Prop} {W : World} {v : Value} {ps : List (List Stp)} (h : PRow B S W v ps) : ∃ (a : Option Addr) (c b : Nat) (f : Nat -> Pth),v = .slice a ps.length c /\ (ps.length <= c /\ c <= maxLen) /\ (0 < ps.length -> a = some ⟨b,0,none⟩ /\ B <= b /\ b < W.heap.size) /\
 ∀ i (hi : i < ps.length),W.cell? ⟨b,i,none⟩ = some (.slice (f i).a (f i).n (f i).c) /\ (f i).In W W.heap.size /\ (f i).steps = ps[i] /\ (0 < (f i).n -> S (f i).b):=by
 obtain ⟨fs,e,ho,hf⟩:=h
 have hl : fs.length = ps.length:=by rw [<- e];simp
 have hcat : fs.map Pth.val = catN (fun i => #[(fs.getD i nilP).val]) fs.length:=by
  refine List.ext_getElem? fun i => ?_
  by_cases hi : i < fs.length
  ·have:=catN_get (f:=fun i => #[(fs.getD i nilP).val]) (C:=1) (fun _ => rfl) (n:=fs.length) (i:=i) (j:=0) (by omega) hi
   rw [Nat.mul_one,Nat.add_zero] at this
   rw [this]
   simp [hi]
  ·have h2:=catN_len (f:=fun i => #[(fs.getD i nilP).val]) (C:=1) (fun _ => rfl) fs.length
   rw [List.getElem?_eq_none (by simp;omega),List.getElem?_eq_none (by rw [h2];omega)]
 rw [hcat] at ho
 obtain ⟨a,c,b,rfl,hcc,ha,hrow⟩:=own_lies (C:=1) (fun _ => rfl) ho
 refine ⟨a,c,b,fun i => fs.getD i nilP,by rw [hl],by rw [<- hl];exact hcc,by rw [<- hl];exact ha,fun i hi => ?_⟩
 have hi' : i < fs.length:=by omega
 have hm : fs.getD i nilP ∈ fs:=by simp [hi']
 have:=hrow i hi' 0 (Nat.lt_succ_self 0)
 rw [Nat.mul_one,Nat.add_zero] at this
 refine ⟨this,(hf _ hm).1,?_,fun q => ((hf _ hm).2 q).1⟩
 have : ps[i]? = some (fs.getD i nilP).steps:=by rw [<- e];simp [hi']
 rw [List.getElem?_eq_getElem hi] at this
 exact (Option.some.inj this).symm
theorem stp_neq (a b : Bool) (s t : ByteArray) (e f : Int) (W : World) : (binOp .neq 78 (.agg #[.bool a,.string s,.int .i64 e]) (.agg #[.bool b,.string t,.int .i64 f])).run Tryd.prog W = .ok (.bool (!decide ((a,s,e) = (b,t,f)))) W:=by
 have h : s ≠ t -> ¬ s.toList = t.toList:=fun q e => q (by
  rw [Lib.toList_data,Lib.toList_data] at e
  exact ByteArray.ext (Array.toList_inj.1 e))
 by_cases h1 : a = b <;> by_cases h2 : s = t <;> by_cases h3 : e = f <;> simp [go_sem,h1,h2,h3] <;> exact h h2
theorem stp_same (s : Stp) (W : World) : (binOp .neq 78 (.agg s.cells) (.agg s.cells)).run Tryd.prog W = .ok (.bool false) W:=by
 have:=stp_neq s.ix s.ix s.key s.key s.n s.n W
 rw [decide_eq_true rfl] at this
 exact this
theorem stp_diff {s t : Stp} (h : s ≠ t) (W : World) : (binOp .neq 78 (.agg s.cells) (.agg t.cells)).run Tryd.prog W = .ok (.bool true) W:=by
 have:=stp_neq s.ix t.ix s.key t.key s.n t.n W
 rw [decide_eq_false (fun e => h (by cases s;cases t;simp only [Prod.mk.injEq] at e;obtain ⟨rfl,rfl,rfl⟩:=e;rfl))] at this
 exact this
noncomputable def eqS (a b : List Stp) : Bool:=@decide (a = b) (Classical.propDecidable _)
theorem eqS_yes {a b : List Stp} (h : a = b) : eqS a b = true:=@decide_eq_true _ (Classical.propDecidable _) h
theorem eqS_no {a b : List Stp} (h : a ≠ b) : eqS a b = false:=@decide_eq_false _ (Classical.propDecidable _) h
theorem eqS_iff {a b : List Stp} : eqS a b = true ↔ a = b:=⟨@of_decide_eq_true _ (Classical.propDecidable _),eqS_yes⟩
theorem steps_eq {p q : Pth} (hn : p.n = q.n) (h : ∀ i,i < p.n -> p.S i = q.S i) : p.steps = q.steps:=by
 refine List.ext_getElem (by rw [p.steps_len,q.steps_len,hn]) fun i h1 h2 => ?_
 rw [p.steps_len] at h1
 simp [Pth.steps,h i h1]
theorem steps_ne {p q : Pth} {i : Nat} (hi : i < p.n) (hj : i < q.n) (h : p.S i ≠ q.S i) : p.steps ≠ q.steps:=fun e => by
 apply h
 rw [Pth.steps_get hi,Pth.steps_get hj,e]
theorem equal_any {p q : Pth} {top : Nat} {w : World} (hp : p.In w top) (hq : q.In w top) (ht : top <= w.heap.size) :
 Calls Tryd.prog 20 #[.slice p.a p.n p.c,.slice q.a q.n q.c] w fun e w' => e = .returned (.bool (eqS p.steps q.steps)) /\ Below w.heap.size w w':=by
 have hpn:=hp.2.1.1
 have hqn:=hq.2.1.1
 have i0 : (0 : Int) <= p.n:=by omega
 have i1 : (p.n : Int) <= 1048576:=by omega
 have i2 : (q.n : Int) <= 1048576:=by omega
 have i3 : (0 : Int) <= q.n:=by omega
 by_cases hn : p.n = q.n
 ·obtain ⟨R,hR⟩ : ∃ R,eqS p.steps q.steps = R:=⟨_,rfl⟩
  have HP:=Lib.hid (fun (w1 : World) (hb : Below w.heap.size w w1) => Pth.In.below hp (hb.mono ht))
  have HQ:=Lib.hid (fun (w1 : World) (hb : Below w.heap.size w w1) => Pth.In.below hq (hb.mono ht))
  have Hyes : Hid ((∀ i,i < p.n -> p.S i = q.S i) -> R = true):=Lib.hid fun h => by rw [<- hR];exact eqS_yes (steps_eq hn h)
  have Hno : Hid (∀ i,i < p.n -> p.S i ≠ q.S i -> R = false):=Lib.hid fun i hi h => by rw [<- hR];exact eqS_no (steps_ne hi (by omega) h)
  rw [hR]
  clear hR hp hq
  obtain ⟨a,n,c,b,o,S⟩:=p
  obtain ⟨a',n',c',b',o',S'⟩:=q
  dsimp only at hn hpn hqn HP HQ Hyes Hno i0 i1 i2 i3 ⊢
  subst hn
  go_enter Tryd.func20,Tryd.ntmps20
  go_wp2_with fail
  go_loopw [5] (fun i wr => ∃ k : Nat,k <= n /\ i = .int .i64 k /\ Hid (∀ j,j < k -> S j = S' j) /\ Below w.heap.size w wr) (fun i _ => n - (intOf i).toNat)
  case atStart => exact ⟨0,by omega,rfl,Lib.hid (fun j hj => absurd hj (Nat.not_lt_zero _)),Below.refl _ _⟩
  case round =>
   obtain ⟨k,hk,rfl,hall,hbr⟩:=hrel
   have hki : (0 : Int) <= k:=by omega
   by_cases hkn : k < n
   ·have hki2 : (k : Int) < n:=by omega
    have h1:=HP.out wr hbr
    have h2:=HQ.out wr hbr
    obtain ⟨e1,-⟩:=h1.1 (show 0 < n by omega)
    obtain ⟨e2,-⟩:=h2.1 (show 0 < n by omega)
    dsimp only at e1 e2
    subst e1 e2
    obtain ⟨l0,l1,l2⟩:=(h1.2.2 k hkn).1.s3
    obtain ⟨m0,m1,m2⟩:=(h2.2.2 k hkn).1.s3
    dsimp only at l0 l1 l2 m0 m1 m2
    clear h1 h2
    by_cases heq : S k = S' k
    ·have hbo:=fun W => stp_same (S' k) W
     rw [heq] at l0 l1 l2
     have Heq:=Lib.hid heq
     simp only [Stp.cells] at hbo
     clear heq
     go_wp2_with fail
     go_quiet (fail)
     go_wp2
     go_roundw
     case rel => exact ⟨k + 1,by omega,by go_num,Lib.hid (fun j hj => by by_cases e : j = k;{ rw [e];exact Heq.out };{ exact hall.out j (by omega) }),below_drewN' hbr _⟩
     case measure => simp [intOf];omega
    ·have hbo:=fun W => stp_diff heq W
     have hf:=Hno.out k hkn heq
     subst hf
     simp only [Stp.cells] at hbo
     clear heq
     go_wp2_with fail
     go_quiet (fail)
     go_wp2
     go_ret
     exact ⟨rfl,below_drewN' hbr _⟩
   ·obtain rfl : k = n:=by omega
    have hf:=Hyes.out hall.out
    subst hf
    go_wp2
    go_ret
    exact ⟨rfl,hbr⟩
 ·have hf : eqS p.steps q.steps = false:=eqS_no fun e => hn (by rw [<- p.steps_len,e,q.steps_len])
  have t1 : ((p.n : Int) != (q.n : Int)) = true:=bne_iff_ne.2 (by omega)
  have t2 : (p.n != q.n) = true:=bne_iff_ne.2 hn
  rw [hf]
  clear hn hp hq hf
  go_enter Tryd.func20,Tryd.ntmps20
  go_wp2
  go_ret
  exact ⟨rfl,Below.refl _ _⟩
end Go.Proofs.YtpcbhneaaibfiaaDoor
