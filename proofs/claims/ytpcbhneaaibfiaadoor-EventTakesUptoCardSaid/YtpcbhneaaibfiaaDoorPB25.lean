/- Laid together. -/
import Derived.Test.YtpcbhneaaibfiaaDoorPB24
set_option linter.unusedVariables false
set_option linter.unusedSimpArgs false
set_option maxHeartbeats 16000000
set_option maxRecDepth 100000
namespace Go.Proofs.YtpcbhneaaibfiaaDoor
open Go.RowKit
def Live (B0 bb : Nat) (A : Nat -> Prop) (W : World) (s : Bst) : Prop:=s.inv /\ ∃ O,BInv B0 bb A O W s
theorem Live.later {B0 bb : Nat} {A : Nat -> Prop} {W W' : World} {s : Bst} (h : Live B0 bb A W s) (hb : Below W.heap.size W W') : Live B0 bb A W' s:=by
 obtain ⟨h1,O,h2⟩:=h
 exact ⟨h1,O,h2.later hb⟩
theorem Live.keep {B0 bb : Nat} {A T : Nat -> Prop} {W W' : World} {s : Bst} (h : Live B0 bb A W s) (hk : Kept T W W') (hA : ∀ b,A b -> ¬ T b) : Live B0 bb A W' s:=by
 obtain ⟨h1,O,h2⟩:=h
 exact ⟨h1,O,h2.keep hk hA⟩
theorem Live.at {B0 bb : Nat} {A : Nat -> Prop} {W : World} {s : Bst} (h : Live B0 bb A W s) : B0 <= bb /\ bb < W.heap.size /\ A bb:=by
 obtain ⟨h1,O,ov,us,X,h2⟩:=h
 exact ⟨h2.hB0,h2.box.lt,h2.hA _ h2.Obb⟩
theorem live_new {B0 : Nat} {W : World} (hB : B0 <= W.heap.size) : Calls Tryd.prog 21 #[] W fun e W' => ∃ bb,e = .returned (.pointer (some ⟨bb,0,none⟩)) /\ Live B0 bb (fun b => W.heap.size <= b) W' Bst.zero /\ Below W.heap.size W W':=by
 refine (new_any hB).mono fun e W' hr => ?_
 obtain ⟨bb,O,h1,h2,-,h4⟩:=hr
 exact ⟨bb,h1,⟨inv_zero,O,h2⟩,h4⟩
def LiveOut (B0 bb : Nat) (A : Nat -> Prop) (W : World) (s' : Bst) (W' : World) : Prop:=∃ A',Live B0 bb A' W' s' /\ (∀ b,A' b -> A b ∨ W.heap.size <= b) /\ Kept A W W'
theorem live_add {B0 bb : Nat} {A : Nat -> Prop} {W : World} {s : Bst} {x : Ev} (h : Live B0 bb A W s) (hx : x.ok) (hV : x.V.In W B0) (hB0 : B0 <= W.heap.size) :
 Calls Tryd.prog 23 #[.pointer (some ⟨bb,0,none⟩),.agg x.cells] W fun e W' => e = .returned (.int .i64 (addE s x)) /\ LiveOut B0 bb A W (addS s x) W':=by
 obtain ⟨h1,O,h2⟩:=h
 have hOA : ∀ b,O b -> A b:=by
  obtain ⟨ov,us,X,h3⟩:=h2
  exact h3.hA
 refine (add_any h2 h1 hx hV hB0).mono fun e W' hr => ?_
 obtain ⟨q1,A',O',q2,q3,q4,q5⟩:=hr
 exact ⟨q1,A',⟨add_inv h1 hx hV.whole,O',q2⟩,q3,q5.more hOA⟩
theorem live_depth {B0 bb : Nat} {A : Nat -> Prop} {W : World} {s : Bst} (h : Live B0 bb A W s) : Calls Tryd.prog 26 #[.pointer (some ⟨bb,0,none⟩)] W fun e W' => e = .returned (.int .i64 s.d) /\ Below W.heap.size W W':=by
 obtain ⟨h1,O,h2⟩:=h
 exact depth_any h2
theorem live_done {B0 bb : Nat} {A : Nat -> Prop} {W : World} {s : Bst} (h : Live B0 bb A W s) : Calls Tryd.prog 24 #[.pointer (some ⟨bb,0,none⟩)] W (DoneOut s W):=by
 obtain ⟨h1,O,h2⟩:=h
 exact done_any h2
def LiveBel (B0 bb : Nat) (A : Nat -> Prop) (W : World) (s : Bst) (x : Ev) (e : Ending) (W' : World) : Prop :=
 ∃ r : Pth,e = .returned (.tuple #[.slice r.a r.n r.c,.int .i64 (addE s x)]) /\ r.In W' W'.heap.size /\ r.steps = (if addE s x = 0 then whereS s x else []) /\ (0 < r.n -> W.heap.size <= r.b) /\ LiveOut B0 bb A W (addS s x) W'
theorem live_bel {B0 bb : Nat} {A : Nat -> Prop} {W : World} {s : Bst} {x : Ev} (h : Live B0 bb A W s) (hx : x.ok) (hV : x.V.In W B0) (hB0 : B0 <= W.heap.size) :
 Calls Tryd.prog 39 #[.pointer (some ⟨bb,0,none⟩),.agg x.cells] W (LiveBel B0 bb A W s x):=by
 obtain ⟨h1,O,h2⟩:=h
 have hOA : ∀ b,O b -> A b:=by
  obtain ⟨ov,us,X,h3⟩:=h2
  exact h3.hA
 refine (bel_any h2 h1 hx hV hB0).mono fun e W' hr => ?_
 obtain ⟨r,q1,q2,q3,q4,A',O',q5,q6,q7,q8⟩:=hr
 exact ⟨r,q1,q2,q3,q4,A',⟨add_inv h1 hx hV.whole,O',q5⟩,q6,q8.more hOA⟩
def Evs.list (p : Evs) : List Ev:=(List.range p.n).map p.S
theorem Evs.list_len (p : Evs) : p.list.length = p.n:=by simp [Evs.list]
theorem Evs.list_get {p : Evs} {i : Nat} (h : i < p.n) : p.list[i]'(by rw [Evs.list_len];exact h) = p.S i:=by simp [Evs.list]
noncomputable def runN (p : Evs) (j : Nat) : Bst × Int:=runL (Bst.zero,0) (p.list.take j)
theorem runN_succ {p : Evs} {j : Nat} (hj : j < p.n) (h0 : (runN p j).2 = 0) : runN p (j + 1) = (addS (runN p j).1 (p.S j),addE (runN p j).1 (p.S j)):=by
 unfold runN at h0 ⊢
 rw [runL_take (by rw [Evs.list_len];exact hj),Evs.list_get hj]
 unfold run1
 rw [if_neg (by simp [h0])]
theorem runN_bad {p : Evs} {j m : Nat} (h : (runN p j).2 ≠ 0) (hm : j <= m) : runN p m = runN p j:=by
 unfold runN at h ⊢
 have e : p.list.take j = (p.list.take m).take j:=by rw [List.take_take,Nat.min_eq_left hm]
 rw [e] at h ⊢
 exact runL_bad h
theorem runN_all (p : Evs) : runN p p.n = runL (Bst.zero,0) p.list:=by
 unfold runN
 rw [List.take_of_length_le (by rw [Evs.list_len];exact Nat.le_refl _)]
theorem runN_inv {W : World} {top : Nat} {p : Evs} (h : p.In W top) : ∀ j,j <= p.n -> (runN p j).1.inv:=by
 intro j
 induction j with
 | zero => intro _;exact inv_zero
 | succ j ih =>
  intro hj
  by_cases q : (runN p j).2 = 0
  ·rw [runN_succ hj q]
   exact add_inv (ih (by omega)) (h.2.2 j hj).2.1 (h.2.2 j hj).2.2.whole
  ·rw [runN_bad q (Nat.le_succ j)]
   exact ih (by omega)
noncomputable def valE (p : Evs) : Int:=if (runN p p.n).2 ≠ 0 then (runN p p.n).2 else if (runN p p.n).1.dn = true then 0 else 4
noncomputable def valT (p : Evs) : Vt:=if valE p = 0 then (runN p p.n).1.out else Vt.z
def ValOut (p : Evs) (W : World) (e : Ending) (W' : World) : Prop:=∃ X : Vt,e = .returned (.tuple #[.agg #[.int .i64 X.h.k,.bool X.h.b,.bool X.h.n,.string X.h.d,.int .i64 X.h.e,.int .i64 X.h.tk,.int .i64 X.h.td,.int .i64 X.h.tn,.int .i64 X.h.tz,.string X.h.x,.slice X.h.ba X.h.bn X.h.bc,.slice X.h.la X.h.ln X.h.lc,.slice X.h.fa X.h.fn X.h.fc],.int .i64 (valE p)]) /\ X.In W' W'.heap.size /\ X.Off (W.heap.size <= ·) /\ X.Same (valT p) /\ Below W.heap.size W W'
theorem valE_bad {p : Evs} {j : Nat} (hj : j <= p.n) (h : (runN p j).2 ≠ 0) : valE p = (runN p j).2:=by
 unfold valE
 rw [runN_bad h hj,if_pos h]
theorem valE_end {p : Evs} (h : (runN p p.n).2 = 0) : valE p = if (runN p p.n).1.dn = true then 0 else 4:=by
 unfold valE
 rw [if_neg (by simp [h])]
theorem value_any {p : Evs} {top : Nat} {W : World} (hp : p.In W top) (ht : top <= W.heap.size) : Calls Tryd.prog 16 #[.slice p.a p.n p.c] W (ValOut p W):=by
 have hb0:=(Below.refl W.heap.size W).alloc (Nat.le_refl _) (.cells Vh.zero.cells 30)
 have Q:=Whole.new W 30 Vh.zero.cells
 have HNew:=Lib.hid (live_new (B0:=W.heap.size) (W:=W.alloc (.cells Vh.zero.cells 30)) hb0.size)
 have hone0:=Lib.hid (vh_all Vh.zero)
 have HB:=Lib.hid hb0
 have HTop:=Lib.hid (show top <= W.heap.size + 1 by omega)
 have HT0:=Lib.hid ht
 have hn1:=hp.2.1.1
 have hnj : ((p.n : Nat) : Int) <= 1048576:=by omega
 have hni : (0 : Int) <= ((p.n : Nat) : Int):=by omega
 have HP:=Lib.hid (Evs.In.below hp (hb0.mono ht))
 clear hp ht hb0
 simp only [Vh.cells,Vh.zero] at HNew Q HB HP
 have hW1 : (W.alloc (.cells #[.int .i64 0,.bool false,.bool false,.string ⟨#[]⟩,.int .i64 0,.int .i64 0,.int .i64 0,.int .i64 0,.int .i64 0,.string ⟨#[]⟩,.slice none 0 0,.slice none 0 0,.slice none 0 0] 30)).heap.size = W.heap.size + 1:=World.size_alloc _ _
 go_enter Tryd.func16,Tryd.ntmps16
 go_wp2_with fail
 have HQ:=Lib.hid Q
 clear Q
 obtain ⟨W1,hw1⟩ : ∃ W1,W.alloc (.cells #[.int .i64 0,.bool false,.bool false,.string ⟨#[]⟩,.int .i64 0,.int .i64 0,.int .i64 0,.int .i64 0,.int .i64 0,.string ⟨#[]⟩,.slice none 0 0,.slice none 0 0,.slice none 0 0] 30) = W1:=⟨_,rfl⟩
 simp only [hw1] at HNew HQ HB HP hW1 ⊢
 clear hw1
 have HW1:=Lib.hid hW1
 refine HNew.out.mono ?_;rintro _ w2 ⟨bb,rfl,hL,hb2⟩
 have HL:=Lib.hid hL
 have g2 : Below (W.heap.size + 1) W1 w2:=hW1 ▸ hb2
 have HA0 : Hid (∀ b,W1.heap.size <= b -> W.heap.size + 1 <= b):=Lib.hid fun b q => by omega
 clear HNew hL hb2 hW1
 go_wp2_with fail
 go_loopw [13] (fun i wr => ∃ (j : Nat) (A : Nat -> Prop),j <= p.n /\ i = .int .i64 j /\ Hid ((runN p j).2 = 0) /\ Hid (Live W.heap.size bb A wr (runN p j).1) /\ Hid (∀ b,A b -> W.heap.size + 1 <= b) /\ Below (W.heap.size + 1) W1 wr) (fun i _ => p.n - (intOf i).toNat)
 case atStart => exact ⟨0,_,by omega,rfl,Lib.hid rfl,HL,HA0,g2⟩
 case round =>
  clear g2 HL HA0
  obtain ⟨j,A,hj,rfl,HE,HLv,HAn,hbr⟩:=hrel
  have hji : (0 : Int) <= j:=by omega
  have hwr : W.heap.size + 1 <= wr.heap.size:=by have:=hbr.size;have:=HW1.out;omega
  by_cases hjn : j < p.n
  ·have hjl : (j : Int) < p.n:=by omega
   obtain ⟨ea,elt⟩:=HP.out.1 (by omega)
   obtain ⟨q1,q2,q3⟩:=HP.out.2.2 j hjn
   have hl:=(q1.below (hbr.mono HTop.out) elt).e15
   obtain ⟨l0,l1,l2,l3,l4,l5,l6,l7,l8,l9,l10,l11,l12,l13,l14⟩:=hl
   have HV:=Lib.hid (Vt.In.up HT0.out (Vt.In.below (hbr.mono HTop.out) q3))
   have HOk:=Lib.hid q2
   have hS:=Lib.hid (runN_succ hjn HE.out)
   clear q1 q2 q3
   have HAdd:=Lib.hid (fun (w3 : World) (hb : Below wr.heap.size wr w3) => live_add (x:=p.S j) (HLv.out.later hb) HOk.out (Vt.In.below (hb.mono (by omega)) HV.out) (Nat.le_trans (by omega) hb.size))
   obtain ⟨s,hs⟩ : ∃ s,(runN p j).1 = s:=⟨_,rfl⟩
   obtain ⟨x,hx⟩ : ∃ x,p.S j = x:=⟨_,rfl⟩
   rw [hs,hx] at HAdd hS
   rw [hx] at l0 l1 l2 l3 l4 l5 l6 l7 l8 l9 l10 l11 l12 l13 l14
   have hVB:=Lib.hid (valE_bad (p:=p) (j:=j + 1) hjn)
   rw [hS.out] at hVB
   rw [ea]
   have HSx:=hS
   clear hs hx HE HLv HV HOk ea elt hS
   obtain ⟨E,hE⟩ : ∃ E,addE s x = E:=⟨_,rfl⟩
   rw [hE] at HAdd hVB HSx
   obtain ⟨T,hT⟩ : ∃ T,addS s x = T:=⟨_,rfl⟩
   rw [hT] at HAdd hVB HSx
   have HVB:=Lib.hid hVB
   clear hE hT hVB
   obtain ⟨k,key,V⟩:=x
   dsimp only at l0 l1 l2 l3 l4 l5 l6 l7 l8 l9 l10 l11 l12 l13 l14
   simp only [Ev.cells,evc] at HAdd
   have ga : Below wr.heap.size wr (wr.alloc (.cells #[.int .i64 k,.string key,.int .i64 V.h.k,.bool V.h.b,.bool V.h.n,.string V.h.d,.int .i64 V.h.e,.int .i64 V.h.tk,.int .i64 V.h.td,.int .i64 V.h.tn,.int .i64 V.h.tz,.string V.h.x,.slice V.h.ba V.h.bn V.h.bc,.slice V.h.la V.h.ln V.h.lc,.slice V.h.fa V.h.fn V.h.fc] 57)):=(Below.refl _ _).alloc (Nat.le_refl _) _
   go_wp2_with fail
   refine (HAdd.out _ ga).mono ?_;rintro _ w3 ⟨rfl,A',hL',hA',hk⟩
   have g3 : Below (W.heap.size + 1) W1 w3:=(hbr.trans (ga.mono hwr)).trans (hk.below (Nat.le_trans hwr ga.size) (fun b hb q => by have:=HAn.out b q;omega))
   have HA3 : Hid (∀ b,A' b -> W.heap.size + 1 <= b):=Lib.hid fun b q => by
    rcases hA' b q with q | q
    ·exact HAn.out b q
    ·have:=ga.size;omega
   have HL3:=Lib.hid hL'
   clear HAdd ga hk hL' hA' l0 l1 l2 l3 l4 l5 l6 l7 l8 l9 l10 l11 l12 l13 l14 hbr
   by_cases hE0 : E = 0
   ·subst hE0
    clear HVB
    go_wp2_with fail
    go_roundw
    case rel => exact ⟨j + 1,A',by omega,by go_num,Lib.hid (by rw [HSx.out]),Lib.hid (by rw [HSx.out];exact HL3.out),HA3,g3⟩
    case measure => simp [intOf];omega
   ·have dE : (E != 0) = true:=bne_iff_ne.2 hE0
    have Hv:=Lib.hid (HVB.out hE0)
    have HE0:=Lib.hid hE0
    have Q3:=HQ.out.below g3 (Nat.lt_succ_self _)
    clear HVB hE0 HSx HL3
    go_wp2_with (refine wpList_store_row rfl 30 _ _ rfl W.heap.size Vh.zero.cells rfl rfl 30 _ Q3 vh_row rfl hone0.out ?_)
    exact bodyPost_ret (v:=.tuple #[.agg Vh.zero.cells,.int .i64 E]) (ret_val2 (p:=2) (q:=3) rfl rfl (Whole.setRow Q3 Vh.zero.cells)) rfl ⟨Vt.z,by rw [Hv.out];rfl,Vt.z_in _ _,off_zero _,by unfold valT;rw [if_neg (by rw [Hv.out];exact HE0.out)];exact Vt.z_same,below_setRow (HB.out.trans (g3.mono (Nat.le_succ _))) (Nat.le_refl _) _⟩
  ·obtain rfl : j = p.n:=by omega
   have HD:=Lib.hid (live_done HLv.out)
   have hve:=valE_end HE.out
   have hvt : valE p = 0 -> valT p = (runN p p.n).1.out:=fun q => by unfold valT;rw [if_pos q]
   have hvn : valE p ≠ 0 -> valT p = Vt.z:=fun q => by unfold valT;rw [if_neg q]
   unfold DoneOut Bst.res at HD
   generalize (runN p p.n).1 = s at *
   clear HLv HE
   obtain ⟨dn,hdn⟩ : ∃ c,s.dn = c:=⟨_,rfl⟩
   rw [hdn] at hve HD
   have Hve:=Lib.hid hve
   have Hvt:=Lib.hid hvt
   have Hvn:=Lib.hid hvn
   have HBr:=Lib.hid hbr
   clear hve hvt hvn hdn hjn hbr
   go_wp2_with fail
   refine HD.out.mono ?_;rintro _ w4 ⟨X,rfl,hX,hXo,hXs,hb4⟩
   have gb:=(Below.refl w4.heap.size w4).alloc (Nat.le_refl _) (.cells X.h.cells 30)
   have g4 : Below (W.heap.size + 1) W1 (w4.alloc (.cells X.h.cells 30)):=(HBr.out.trans (hb4.mono hwr)).trans (gb.mono (Nat.le_trans hwr hb4.size))
   have Q4:=HQ.out.below g4 (Nat.lt_succ_self _)
   have N4:=Whole.new w4 30 X.h.cells
   have HX:=Lib.hid (hX.later gb)
   have HXo:=Lib.hid hXo
   have HXs:=Lib.hid hXs
   have hone:=Lib.hid (vh_all X.h)
   obtain ⟨x0,x1,x2,x3,x4,x5,x6,x7,x8,x9,x10,x11,x12⟩:=Whole.c13 (h:=X.h) N4
   have HW4 : Hid (W.heap.size + 1 <= wr.heap.size /\ wr.heap.size <= (w4.alloc (.cells X.h.cells 30)).heap.size):=Lib.hid ⟨hwr,Nat.le_trans hb4.size gb.size⟩
   clear HD hX hXo hXs hb4 gb N4 HBr
   simp only [Vh.cells] at Q4 g4 HX x0 x1 x2 x3 x4 x5 x6 x7 x8 x9 x10 x11 x12 HW4
   cases dn
   ·have Hv : Hid (valE p = 4):=Lib.hid Hve.out
    clear x0 x1 x2 x3 x4 x5 x6 x7 x8 x9 x10 x11 x12
    go_wp2_with (refine wpList_store_row rfl 30 _ _ rfl W.heap.size Vh.zero.cells rfl rfl 30 _ Q4 vh_row rfl hone0.out ?_)
    exact bodyPost_ret (v:=.tuple #[.agg Vh.zero.cells,.int .i64 4]) (ret_val2 (p:=2) (q:=3) rfl rfl (Whole.setRow Q4 Vh.zero.cells)) rfl ⟨Vt.z,by rw [Hv.out];rfl,Vt.z_in _ _,off_zero _,by rw [Hvn.out (by rw [Hv.out];decide)];exact Vt.z_same,below_setRow (HB.out.trans (g4.mono (Nat.le_succ _))) (Nat.le_refl _) _⟩
   ·have Hv : Hid (valE p = 0):=Lib.hid Hve.out
    go_wp2_with (refine wpList_store_row rfl 30 _ _ rfl W.heap.size X.h.cells rfl rfl 30 _ Q4 vh_row rfl hone.out ?_)
    exact bodyPost_ret (v:=.tuple #[.agg X.h.cells,.int .i64 0]) (ret_val2 (p:=2) (q:=3) rfl rfl (Whole.setRow Q4 X.h.cells)) rfl ⟨X,by rw [Hv.out];rfl,HX.out.stays (S:=(wr.heap.size <= ·)) HXo.out (fun b hb => setRow_other _ _ _ _ (by have:=HW4.out.1;omega)) (by rw [size_setRow];exact Nat.le_refl _),HXo.out.mono fun b hb => by have:=HW4.out.1;omega,by rw [Hvt.out Hv.out];exact HXs.out,below_setRow (HB.out.trans (g4.mono (Nat.le_succ _))) (Nat.le_refl _) _⟩
theorem evcheck_any {p : Evs} {top : Nat} {W : World} (hp : p.In W top) (ht : top <= W.heap.size) : Calls Tryd.prog 30 #[.slice p.a p.n p.c] W fun e W' => e = .returned (.int .i64 (valE p)) /\ Below W.heap.size W W':=by
 have HV:=Lib.hid (value_any hp ht)
 unfold ValOut at HV
 obtain ⟨E,hE⟩ : ∃ E,valE p = E:=⟨_,rfl⟩
 rw [hE] at HV ⊢
 clear hp ht hE
 go_enter Tryd.func30,Tryd.ntmps30
 go_wp2_with fail
 refine HV.out.mono ?_;rintro _ w1 ⟨X,rfl,-,-,-,hb1⟩
 have g1:=hb1.alloc hb1.size (.cells X.h.cells 30)
 simp only [Vh.cells] at g1
 clear HV hb1
 go_wp2
 go_ret
 exact ⟨rfl,g1⟩
noncomputable def whE (p : Evs) (i : Int) : Int × List Stp :=
 if i < 0 ∨ (p.n : Int) <= i then (2,[])
 else if (runN p i.toNat).2 ≠ 0 then ((runN p i.toNat).2,[])
 else (addE (runN p i.toNat).1 (p.S i.toNat),if addE (runN p i.toNat).1 (p.S i.toNat) = 0 then whereS (runN p i.toNat).1 (p.S i.toNat) else [])
def WhOut (p : Evs) (i : Int) (W : World) (e : Ending) (W' : World) : Prop:=∃ r : Pth,e = .returned (.tuple #[.slice r.a r.n r.c,.int .i64 (whE p i).1]) /\ r.In W' W'.heap.size /\ r.steps = (whE p i).2 /\ (0 < r.n -> W.heap.size <= r.b) /\ Below W.heap.size W W'
theorem wh_nil {p : Evs} {i E : Int} {W W' : World} (h : whE p i = (E,[])) (hb : Below W.heap.size W W') : WhOut p i W (.returned (.tuple #[.slice none 0 0,.int .i64 E])) W' :=
 ⟨⟨none,0,0,0,0,fun _ => default⟩,by rw [h],nil_in _ _ _ _ _ _ _ (Nat.zero_le _),by rw [h];rfl,fun q => absurd q (Nat.lt_irrefl _),hb⟩
theorem where_any {p : Evs} {i : Int} {top : Nat} {W : World} (hp : p.In W top) (ht : top <= W.heap.size) (hi : w64 i) : Calls Tryd.prog 18 #[.slice p.a p.n p.c,.int .i64 i] W (WhOut p i W):=by
 have hn1:=hp.2.1.1
 have hnj : ((p.n : Nat) : Int) <= 1048576:=by omega
 have hni : (0 : Int) <= ((p.n : Nat) : Int):=by omega
 have hw1:=hi.1
 have hw2:=hi.2
 by_cases c1 : i < 0
 ·have HE:=Lib.hid (wh_nil (W:=W) (show whE p i = (2,[]) from if_pos (.inl c1)) (Below.refl _ _))
  clear hp ht hi
  go_enter Tryd.func18,Tryd.ntmps18
  go_wp2
  go_ret2
  exact HE.out
 by_cases c2 : (p.n : Int) <= i
 ·have HE:=Lib.hid (wh_nil (W:=W) (show whE p i = (2,[]) from if_pos (.inr c2)) (Below.refl _ _))
  clear hp ht hi
  go_enter Tryd.func18,Tryd.ntmps18
  go_wp2
  go_ret2
  exact HE.out
 obtain ⟨m,rfl⟩ : ∃ m : Nat,i = m:=⟨i.toNat,by omega⟩
 have hmn : m < p.n:=by omega
 have hmi : (m : Int) < p.n:=by omega
 have hmj : (0 : Int) <= (m : Int):=by omega
 have hic : m <= p.c:=by have:=hp.2.1.2.1;omega
 have HNew:=Lib.hid (live_new (B0:=W.heap.size) (W:=W) (Nat.le_refl _))
 have HP:=Lib.hid hp
 have HT:=Lib.hid ht
 have hwe : whE p m = if (runN p m).2 ≠ 0 then ((runN p m).2,[]) else (addE (runN p m).1 (p.S m),if addE (runN p m).1 (p.S m) = 0 then whereS (runN p m).1 (p.S m) else []):=by
  unfold whE
  rw [if_neg (by omega),Int.toNat_natCast]
 have HWE:=Lib.hid hwe
 obtain ⟨ea,elt⟩:=hp.1 (by omega)
 have HLT:=Lib.hid elt
 have hmc : ¬ ((p.n : Nat) : Int) <= (m : Int):=by omega
 clear hp ht hi hwe c1 c2 elt hw1 hw2
 go_enter Tryd.func18,Tryd.ntmps18
 go_wp2_with fail
 refine HNew.out.mono ?_;rintro _ w2 ⟨bb,rfl,hL,g2⟩
 have HL:=Lib.hid hL
 have HA0 : Hid (∀ b,W.heap.size <= b -> W.heap.size <= b):=Lib.hid fun b q => q
 clear HNew hL
 go_wp2_with fail
 go_loopw [23] (fun i wr => ∃ (j : Nat) (A : Nat -> Prop),j <= m /\ i = .int .i64 j /\ Hid ((runN p j).2 = 0) /\ Hid (Live W.heap.size bb A wr (runN p j).1) /\ Hid (∀ b,A b -> W.heap.size <= b) /\ Below W.heap.size W wr) (fun i _ => m - (intOf i).toNat)
 case atStart => exact ⟨0,_,by omega,rfl,Lib.hid rfl,HL,HA0,g2⟩
 case round =>
  clear g2 HL HA0
  obtain ⟨j,A,hj,rfl,HE,HLv,HAn,hbr⟩:=hrel
  have hji : (0 : Int) <= j:=by omega
  have hwr:=hbr.size
  by_cases hjn : j < m
  ·have hjl : (j : Int) < m:=by omega
   obtain ⟨q1,q2,q3⟩:=HP.out.2.2 j (by omega)
   have hl:=(q1.below (hbr.mono HT.out) HLT.out).e15
   obtain ⟨l0,l1,l2,l3,l4,l5,l6,l7,l8,l9,l10,l11,l12,l13,l14⟩:=hl
   have HV:=Lib.hid (Vt.In.up HT.out (Vt.In.below (hbr.mono HT.out) q3))
   have HOk:=Lib.hid q2
   clear q1 q2 q3
   have hS:=Lib.hid (runN_succ (p:=p) (j:=j) (by omega) HE.out)
   have HAdd:=Lib.hid (fun (w3 : World) (hb : Below wr.heap.size wr w3) => live_add (x:=p.S j) (HLv.out.later hb) HOk.out (Vt.In.below (hb.mono (by omega)) HV.out) (Nat.le_trans (by omega) hb.size))
   obtain ⟨s,hs⟩ : ∃ s,(runN p j).1 = s:=⟨_,rfl⟩
   obtain ⟨x,hx⟩ : ∃ x,p.S j = x:=⟨_,rfl⟩
   rw [hs,hx] at HAdd hS
   rw [hx] at l0 l1 l2 l3 l4 l5 l6 l7 l8 l9 l10 l11 l12 l13 l14
   have hVB:=Lib.hid (fun (q : (runN p (j + 1)).2 ≠ 0) => (show whE p m = ((runN p (j + 1)).2,[]) from by
    have e:=runN_bad q (show j + 1 <= m by omega)
    rw [HWE.out,e,if_pos q]))
   rw [hS.out] at hVB
   try rw [ea]
   have HSx:=hS
   clear hs hx HE HLv HV HOk hS
   obtain ⟨E,hE⟩ : ∃ E,addE s x = E:=⟨_,rfl⟩
   rw [hE] at HAdd hVB HSx
   obtain ⟨T,hT⟩ : ∃ T,addS s x = T:=⟨_,rfl⟩
   rw [hT] at HAdd hVB HSx
   have HVB:=Lib.hid hVB
   clear hE hT hVB
   obtain ⟨k,key,V⟩:=x
   dsimp only at l0 l1 l2 l3 l4 l5 l6 l7 l8 l9 l10 l11 l12 l13 l14
   simp only [Ev.cells,evc] at HAdd
   have ga : Below wr.heap.size wr (wr.alloc (.cells #[.int .i64 k,.string key,.int .i64 V.h.k,.bool V.h.b,.bool V.h.n,.string V.h.d,.int .i64 V.h.e,.int .i64 V.h.tk,.int .i64 V.h.td,.int .i64 V.h.tn,.int .i64 V.h.tz,.string V.h.x,.slice V.h.ba V.h.bn V.h.bc,.slice V.h.la V.h.ln V.h.lc,.slice V.h.fa V.h.fn V.h.fc] 57)):=(Below.refl _ _).alloc (Nat.le_refl _) _
   go_wp2_with fail
   refine (HAdd.out _ ga).mono ?_;rintro _ w3 ⟨rfl,A',hL',hA',hk⟩
   have g3 : Below W.heap.size W w3:=(hbr.trans (ga.mono hwr)).trans (hk.below (Nat.le_trans hwr ga.size) (fun b hb q => by have:=HAn.out b q;omega))
   have HA3 : Hid (∀ b,A' b -> W.heap.size <= b):=Lib.hid fun b q => by
    rcases hA' b q with q | q
    ·exact HAn.out b q
    ·have:=ga.size;omega
   have HL3:=Lib.hid hL'
   clear HAdd ga hk hL' hA' l0 l1 l2 l3 l4 l5 l6 l7 l8 l9 l10 l11 l12 l13 l14 hbr
   by_cases hE0 : E = 0
   ·subst hE0
    clear HVB
    go_wp2_with fail
    go_roundw
    case rel => exact ⟨j + 1,A',by omega,by go_num,Lib.hid (by rw [HSx.out]),Lib.hid (by rw [HSx.out];exact HL3.out),HA3,g3⟩
    case measure => simp [intOf];omega
   ·have dE : (E != 0) = true:=bne_iff_ne.2 hE0
    have HO:=Lib.hid (wh_nil (HVB.out hE0) g3)
    clear HVB hE0 HSx HL3
    go_wp2
    (first | exact HO.out | (go_ret2;exact HO.out))
  ·obtain rfl : j = m:=by omega
   obtain ⟨q1,q2,q3⟩:=HP.out.2.2 j (by omega)
   have hl:=(q1.below (hbr.mono HT.out) HLT.out).e15
   obtain ⟨l0,l1,l2,l3,l4,l5,l6,l7,l8,l9,l10,l11,l12,l13,l14⟩:=hl
   have HV:=Lib.hid (Vt.In.up HT.out (Vt.In.below (hbr.mono HT.out) q3))
   have HOk:=Lib.hid q2
   clear q1 q2 q3
   have hwe:=HWE.out
   rw [if_neg (by simp [HE.out])] at hwe
   have HB:=Lib.hid (live_bel (x:=p.S j) HLv.out HOk.out HV.out hwr)
   try rw [ea]
   have HWX:=Lib.hid hwe
   clear HE HLv hwe HWE HV HOk
   unfold LiveBel at HB
   generalize (runN p j).1 = s at *
   obtain ⟨x,hx⟩ : ∃ x,p.S j = x:=⟨_,rfl⟩
   rw [hx] at l0 l1 l2 l3 l4 l5 l6 l7 l8 l9 l10 l11 l12 l13 l14 HB HWX
   clear hx
   obtain ⟨E,hE⟩ : ∃ E,addE s x = E:=⟨_,rfl⟩
   rw [hE] at HB HWX
   obtain ⟨U,hU⟩ : ∃ U,(if E = 0 then whereS s x else []) = U:=⟨_,rfl⟩
   rw [hU] at HB HWX
   generalize addS s x = T at *
   clear hE hU
   obtain ⟨k,key,V⟩:=x
   dsimp only at l0 l1 l2 l3 l4 l5 l6 l7 l8 l9 l10 l11 l12 l13 l14
   simp only [Ev.cells,evc] at HB
   have HBr:=Lib.hid hbr
   clear hbr
   go_wp2_with fail
   refine HB.out.mono ?_;rintro _ w3 ⟨r,rfl,hr,hrs,hrb,A',-,-,hk⟩
   have HO : Hid (WhOut p j W (.returned (.tuple #[.slice r.a r.n r.c,.int .i64 E])) w3):=Lib.hid ⟨r,by rw [HWX.out],hr,by rw [HWX.out];exact hrs,fun q => Nat.le_trans hwr (hrb q),HBr.out.trans (hk.below hwr (fun b hb q => by have:=HAn.out b q;omega))⟩
   clear HB hr hrs hrb hk HWX HBr l0 l1 l2 l3 l4 l5 l6 l7 l8 l9 l10 l11 l12 l13 l14
   go_wp2
   (first | exact HO.out | (go_ret2;exact HO.out))
theorem sameL_cons {l : List Ev} {y : Ev} {b : List Ev} (h : SameL l (y :: b)) : ∃ x a,l = x :: a /\ x.Same y /\ SameL a b:=by
 cases h with
 | cons h1 h2 => exact ⟨_,_,rfl,h1,h2⟩
theorem sameL_nil {l : List Ev} (h : SameL l []) : l = []:=by
 cases h;rfl
theorem sameL_app {l : List Ev} {b d : List Ev} (h : SameL l (b ++ d)) : ∃ a c,l = a ++ c /\ SameL a b /\ SameL c d:=by
 have hl : b.length <= l.length:=by rw [h.length];simp
 refine ⟨l.take b.length,l.drop b.length,(List.take_append_drop _ _).symm,?_⟩
 refine SameL.split (by rw [List.take_append_drop];exact h) ?_
 rw [List.length_take];omega
theorem size_lst {T : Vt} (hT : T ≠ .nil) (h6 : T.h.k = 6) : T.size = 1 + sumN (fun i => (T.L i).size) T.h.ln:=by
 cases T with
 | nil => exact absurd rfl hT
 | mk h Y L K F =>
  simp only [Vt.h] at h6
  show 1 + (if h.k = 7 then _ else _) = _
  rw [if_neg (by omega)]
  rfl
theorem size_map {T : Vt} (hT : T ≠ .nil) (h7 : T.h.k = 7) : T.size = 1 + sumN (fun i => (T.F i).size) T.h.fn:=by
 cases T with
 | nil => exact absurd rfl hT
 | mk h Y L K F =>
  simp only [Vt.h] at h7
  show 1 + (if h.k = 7 then _ else _) = _
  rw [if_pos h7]
  rfl
theorem keyS_part {s : Bst} {m : Nat} {f : Fr} {key : ByteArray} : keyS (part s m f) key = part s m (keyF f key):=by
 have e : ∀ g : Fr,upd (upd s.fr s.d f) s.d g = upd s.fr s.d g:=fun g => by
  funext i
  by_cases z : i = s.d
  ·subst z;rw [upd_same,upd_same]
  ·rw [upd_other z,upd_other z,upd_other z]
 unfold keyS
 rw [part_top]
 unfold part
 simp only [Nat.add_sub_cancel,e]
theorem popS_part {s : Bst} {m : Nat} {f : Fr} : (popS (part s m f)).eqv (putS { s with nd:=m } (frV f)):=by
 unfold popS
 rw [part_top]
 refine putS_eqv ⟨?_,fun i hi => ?_,rfl,rfl,rfl,rfl⟩
 ·show s.d + 1 - 1 = s.d;omega
 ·have hi' : i < s.d:=by have : i < s.d + 1 - 1:=hi;omega
  show upd s.fr s.d f i = s.fr i
  rw [upd_other (by omega)]
theorem runL_then {r : Bst × Int} {a b : List Ev} {t : Bst} (h : (runL r a).2 = 0) (he : (runL r a).1.eqv t) : (runL r (a ++ b)).1.eqv (runL (t,0) b).1 /\ (runL r (a ++ b)).2 = (runL (t,0) b).2:=by
 rw [runL_append]
 have e : runL r a = ((runL r a).1,0):=by rw [<- h]
 rw [e]
 exact runL_eqv he
theorem runs_all : ∀ T : Vt,Runs T:=by
 intro T
 induction T with
 | nil => intro s l e _ hw;exact hw.elim
 | mk h Y L K F ihL ihF =>
  intro s l e hs hw hg hu hd hn hl
  have hne : Vt.mk h Y L K F ≠ .nil:=by intro q;cases q
  have he:=hu.1
  have own:=oneE_own hg.1
  by_cases k6 : (Vt.mk h Y L K F).h.k = 6
  ·have hsz:=size_lst hne k6
   rw [evs_lst hne k6] at hl
   simp only [Vt.L,Vt.h] at hl hsz k6
   obtain ⟨x,l1,rfl,hx,hl1⟩:=sameL_cons hl
   obtain ⟨mid,l2,rfl,hm,hl2⟩:=sameL_app hl1
   obtain ⟨z,l3,rfl,hz,hl3⟩:=sameL_cons hl2
   obtain rfl:=sameL_nil hl3
   have hxk : x.k = 2:=hx.k
   have ha:=add_beg (x:=x) hs (.inr (.inl hxk)) (shape_mark (.inl rfl) hx) (by omega) (by omega)
   have hst : stepS s x = part s (s.nd + 1) (fr0 false):=by
    unfold stepS
    rw [if_neg (by omega),if_neg (by omega),if_pos hxk]
    rfl
   have kids : ∀ k,k <= h.ln -> ∀ mid,SameL mid (catL (fun i => evs (L i)) k) -> ∃ K' M',(∀ j,j < k -> (M' j).Same (L j)) /\ (runL (stepS s x,0) mid).2 = 0 /\ (runL (stepS s x,0) mid).1.eqv (part s (s.nd + 1 + sumN (fun i => (L i).size) k) ⟨false,k,K',M',⟨#[]⟩,false⟩):=by
    intro k
    induction k with
    | zero =>
     intro _ mid hmid
     obtain rfl:=sameL_nil hmid
     exact ⟨_,_,fun j hj => absurd hj (Nat.not_lt_zero _),rfl,by rw [runL_nil,hst];exact Bst.eqv.rfl' _⟩
    | succ k ih =>
     intro hk mid hmid
     obtain ⟨m1,m2,rfl,hm1,hm2⟩:=sameL_app hmid
     obtain ⟨K',M',q1,q2,q3⟩:=ih (by omega) m1 hm1
     have hmono:=sumN_mono (f:=fun i => (L i).size) hk
     have hss : sumN (fun i => (L i).size) (k + 1) = sumN (fun i => (L i).size) k + (L k).size:=rfl
     obtain ⟨T',t1,t2,t3⟩:=ihL k (part s (s.nd + 1 + sumN (fun i => (L i).size) k) ⟨false,k,K',M',⟨#[]⟩,false⟩) m2 (e - 1) (part_rdy hs (fun q => by cases q)) (hw.1 k hk) (hg.2.1 k hk) (hu.2.1 k hk) (by show s.d + 1 + (e - 1) <= 48;omega) (by show s.nd + 1 + sumN (fun i => (L i).size) k + (L k).size <= 65536;omega) hm2
     obtain ⟨w1,w2⟩:=runL_then (b:=m2) q2 q3
     have e1 : putS { part s (s.nd + 1 + sumN (fun i => (L i).size) k) ⟨false,k,K',M',⟨#[]⟩,false⟩ with nd:=(part s (s.nd + 1 + sumN (fun i => (L i).size) k) ⟨false,k,K',M',⟨#[]⟩,false⟩).nd + (L k).size } T' = part s (s.nd + 1 + sumN (fun i => (L i).size) (k + 1)) ⟨false,k + 1,upd K' k ⟨#[]⟩,upd M' k T',⟨#[]⟩,false⟩:=by
      rw [hss,<- Nat.add_assoc]
      exact putS_part
     rw [e1] at t3
     refine ⟨_,_,fun j hj => ?_,w2.trans t2,w1.trans t3⟩
     by_cases q : j = k
     ·subst q;rw [upd_same];exact t1
     ·rw [upd_other q];exact q1 j (by omega)
   obtain ⟨K',M',q1,q2,q3⟩:=kids h.ln (Nat.le_refl _) mid hm
   rw [runL_go ha]
   obtain ⟨w1,w2⟩:=runL_then (b:=[z]) q2 q3
   have hzk : z.k = 3:=hz.k
   have hza : addE (part s (s.nd + 1 + sumN (fun i => (L i).size) h.ln) ⟨false,h.ln,K',M',⟨#[]⟩,false⟩) z = 0:=by
    have hf : followE (part s (s.nd + 1 + sumN (fun i => (L i).size) h.ln) ⟨false,h.ln,K',M',⟨#[]⟩,false⟩) z = 0:=by
     unfold followE
     rw [part_top,if_neg (by rw [show (part s _ _).dn = s.dn from rfl,hs.dn];decide),if_neg (by show ¬ s.d + 1 = 0;omega),if_neg (by omega),if_pos hzk,if_neg (fun q => by cases q)]
    unfold addE
    rw [if_neg (by rw [show (part s _ _).bad = s.bad from rfl,hs.bad];decide),if_neg (by simp [shape_mark (.inr (.inl rfl)) hz]),if_neg (by simp [hf]),if_neg (by unfold begE;omega),if_neg (by unfold begE;omega)]
   rw [runL_go hza,runL_nil] at w1 w2
   have hzs : stepS (part s (s.nd + 1 + sumN (fun i => (L i).size) h.ln) ⟨false,h.ln,K',M',⟨#[]⟩,false⟩) z = popS (part s (s.nd + 1 + sumN (fun i => (L i).size) h.ln) ⟨false,h.ln,K',M',⟨#[]⟩,false⟩):=by
    unfold stepS
    rw [if_neg (by omega),if_neg (by omega),if_neg (by omega),if_neg (by omega)]
   rw [hzs] at w1
   refine ⟨frV ⟨false,h.ln,K',M',⟨#[]⟩,false⟩,?_,w2,?_⟩
   ·exact lst_same (h:=h) (m:=h.ln) own k6 q1
   ·have:=w1.trans popS_part
    rw [hsz,<- Nat.add_assoc]
    exact this
  by_cases k7 : (Vt.mk h Y L K F).h.k = 7
  ·have hsz:=size_map hne k7
   have hkeys:=keysE_each (oneE_keysE hg.1)
   rw [evs_map hne k7] at hl
   simp only [Vt.F,Vt.K,Vt.h] at hl hsz k7 hkeys
   obtain ⟨x,l1,rfl,hx,hl1⟩:=sameL_cons hl
   obtain ⟨mid,l2,rfl,hm,hl2⟩:=sameL_app hl1
   obtain ⟨z,l3,rfl,hz,hl3⟩:=sameL_cons hl2
   obtain rfl:=sameL_nil hl3
   have hxk : x.k = 4:=hx.k
   have ha:=add_beg (x:=x) hs (.inr (.inr hxk)) (shape_mark (.inr (.inr (.inl rfl))) hx) (by omega) (by omega)
   have hst : stepS s x = part s (s.nd + 1) (fr0 true):=by
    unfold stepS
    rw [if_neg (by omega),if_neg (by omega),if_neg (by omega),if_pos hxk]
    rfl
   have kids : ∀ k,k <= h.fn -> ∀ mid,SameL mid (catL (fun i => evK (K i) :: evs (F i)) k) -> ∃ K' M',(∀ j,j < k -> K' j = K j /\ (M' j).Same (F j)) /\ (runL (stepS s x,0) mid).2 = 0 /\ (runL (stepS s x,0) mid).1.eqv (part s (s.nd + 1 + sumN (fun i => (F i).size) k) ⟨true,k,K',M',⟨#[]⟩,false⟩):=by
    intro k
    induction k with
    | zero =>
     intro _ mid hmid
     obtain rfl:=sameL_nil hmid
     exact ⟨_,_,fun j hj => absurd hj (Nat.not_lt_zero _),rfl,by rw [runL_nil,hst];exact Bst.eqv.rfl' _⟩
    | succ k ih =>
     intro hk mid hmid
     obtain ⟨m1,m2,rfl,hm1,hm2⟩:=sameL_app hmid
     obtain ⟨y,m3,rfl,hy,hm3⟩:=sameL_cons hm2
     obtain ⟨K',M',q1,q2,q3⟩:=ih (by omega) m1 hm1
     have hmono:=sumN_mono (f:=fun i => (F i).size) hk
     have hss : sumN (fun i => (F i).size) (k + 1) = sumN (fun i => (F i).size) k + (F k).size:=rfl
     obtain ⟨kw1,kw2,kw3⟩:=keyE_what (hkeys k hk)
     have hyk : y.k = 6:=hy.k
     have hyy : y.key = K k:=hy.key
     have hya : addE (part s (s.nd + 1 + sumN (fun i => (F i).size) k) ⟨true,k,K',M',⟨#[]⟩,false⟩) y = 0:=by
      have hf : followE (part s (s.nd + 1 + sumN (fun i => (F i).size) k) ⟨true,k,K',M',⟨#[]⟩,false⟩) y = 0:=by
       unfold followE
       rw [part_top,if_neg (by rw [show (part s _ _).dn = s.dn from rfl,hs.dn];decide),if_neg (by show ¬ s.d + 1 = 0;omega),if_pos hyk,if_neg (by simp),fidx_none (fun j hj => by rw [show Fr.K ⟨true,k,K',M',⟨#[]⟩,false⟩ j = K' j from rfl,(q1 j hj).1,hyy];exact kw3 j hj),if_neg (Nat.lt_irrefl _)]
      unfold addE
      rw [if_neg (by rw [show (part s _ _).bad = s.bad from rfl,hs.bad];decide),if_neg (by simp [shape_key hy kw1 kw2]),if_neg (by simp [hf]),if_neg (by unfold begE;omega),if_neg (by unfold begE;omega)]
     have hys : stepS (part s (s.nd + 1 + sumN (fun i => (F i).size) k) ⟨true,k,K',M',⟨#[]⟩,false⟩) y = part s (s.nd + 1 + sumN (fun i => (F i).size) k) ⟨true,k,K',M',K k,true⟩:=by
      unfold stepS
      rw [if_neg (by omega),if_pos hyk,keyS_part,hyy]
      rfl
     obtain ⟨T',t1,t2,t3⟩:=ihF k (part s (s.nd + 1 + sumN (fun i => (F i).size) k) ⟨true,k,K',M',K k,true⟩) m3 (e - 1) (part_rdy hs (fun _ => rfl)) (hw.2 k hk) (hg.2.2 k hk) (hu.2.2 k hk) (by show s.d + 1 + (e - 1) <= 48;omega) (by show s.nd + 1 + sumN (fun i => (F i).size) k + (F k).size <= 65536;omega) hm3
     obtain ⟨w1,w2⟩:=runL_then (b:=y :: m3) q2 q3
     rw [runL_go hya,hys] at w1 w2
     have e1 : putS { part s (s.nd + 1 + sumN (fun i => (F i).size) k) ⟨true,k,K',M',K k,true⟩ with nd:=(part s (s.nd + 1 + sumN (fun i => (F i).size) k) ⟨true,k,K',M',K k,true⟩).nd + (F k).size } T' = part s (s.nd + 1 + sumN (fun i => (F i).size) (k + 1)) ⟨true,k + 1,upd K' k (K k),upd M' k T',⟨#[]⟩,false⟩:=by
      rw [hss,<- Nat.add_assoc]
      exact putS_part
     rw [e1] at t3
     refine ⟨_,_,fun j hj => ?_,w2.trans t2,w1.trans t3⟩
     by_cases q : j = k
     ·subst q;rw [upd_same,upd_same];exact ⟨rfl,t1⟩
     ·rw [upd_other q,upd_other q];exact q1 j (by omega)
   obtain ⟨K',M',q1,q2,q3⟩:=kids h.fn (Nat.le_refl _) mid hm
   rw [runL_go ha]
   obtain ⟨w1,w2⟩:=runL_then (b:=[z]) q2 q3
   have hzk : z.k = 5:=hz.k
   have hza : addE (part s (s.nd + 1 + sumN (fun i => (F i).size) h.fn) ⟨true,h.fn,K',M',⟨#[]⟩,false⟩) z = 0:=by
    have hf : followE (part s (s.nd + 1 + sumN (fun i => (F i).size) h.fn) ⟨true,h.fn,K',M',⟨#[]⟩,false⟩) z = 0:=by
     unfold followE
     rw [part_top,if_neg (by rw [show (part s _ _).dn = s.dn from rfl,hs.dn];decide),if_neg (by show ¬ s.d + 1 = 0;omega),if_neg (by omega),if_neg (by omega),if_pos hzk,if_neg (by simp)]
    unfold addE
    rw [if_neg (by rw [show (part s _ _).bad = s.bad from rfl,hs.bad];decide),if_neg (by simp [shape_mark (.inr (.inr (.inr rfl))) hz]),if_neg (by simp [hf]),if_neg (by unfold begE;omega),if_neg (by unfold begE;omega)]
   rw [runL_go hza,runL_nil] at w1 w2
   have hzs : stepS (part s (s.nd + 1 + sumN (fun i => (F i).size) h.fn) ⟨true,h.fn,K',M',⟨#[]⟩,false⟩) z = popS (part s (s.nd + 1 + sumN (fun i => (F i).size) h.fn) ⟨true,h.fn,K',M',⟨#[]⟩,false⟩):=by
    unfold stepS
    rw [if_neg (by omega),if_neg (by omega),if_neg (by omega),if_neg (by omega)]
   rw [hzs] at w1
   refine ⟨frV ⟨true,h.fn,K',M',⟨#[]⟩,false⟩,?_,w2,?_⟩
   ·exact fld_same (h:=h) (m:=h.fn) own k7 q1
   ·have:=w1.trans popS_part
    rw [hsz,<- Nat.add_assoc]
    exact this
  ·obtain ⟨hsc,h1⟩:=good_sca hw hg k6 k7
   rw [h1]
   exact run_sca hs hsc hw (by omega) (by omega) hl
theorem run_value {T : Vt} {l : List Ev} (hw : T.whole) (hok : (T.look 1 0).2 = 0) (hl : SameL l (evs T)) : ∃ T' : Vt,T'.Same T /\ (runL (Bst.zero,0) l).2 = 0 /\ (runL (Bst.zero,0) l).1.dn = true /\ (runL (Bst.zero,0) l).1.out = T':=by
 obtain ⟨g1,g2,g3⟩:=Vt.look_ok (d:=1) (s:=0) hw hok
 have hb:=(Vt.look_bd T 1 0 (by decide)).2
 have g3' : (T.look 1 0).1 = (0 : Int) + T.size:=g3
 obtain ⟨T',t1,t2,t3⟩:=runs_all T Bst.zero l 48 ⟨rfl,rfl,fun q => absurd q (Nat.lt_irrefl _)⟩ hw g1 g2 (by decide) (by show 0 + T.size <= 65536;omega) hl
 refine ⟨T',t1,t2,?_⟩
 have e : putS { Bst.zero with nd:=Bst.zero.nd + T.size } T' = { Bst.zero with nd:=Bst.zero.nd + T.size,dn:=true,out:=T' }:=by
  exact if_pos rfl
 rw [e] at t3
 exact ⟨t3.dn,t3.out⟩
end Go.Proofs.YtpcbhneaaibfiaaDoor
