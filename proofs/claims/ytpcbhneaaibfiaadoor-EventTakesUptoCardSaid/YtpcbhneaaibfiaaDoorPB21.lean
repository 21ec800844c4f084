/- Laid together. -/
import Derived.Test.YtpcbhneaaibfiaaDoorPB17
import Derived.Test.YtpcbhneaaibfiaaDoorPB18
import Derived.Test.YtpcbhneaaibfiaaDoorPB16
import Derived.Test.YtpcbhneaaibfiaaDoorPB08
import Derived.BigQuiet
set_option linter.unusedVariables false
set_option linter.unusedSimpArgs false
set_option maxHeartbeats 16000000
set_option maxRecDepth 100000
namespace Go.Proofs.YtpcbhneaaibfiaaDoor
open Go.RowKit
section
variable {B0 bb : Nat} {A O : Nat -> Prop} {W W1 W2 W' : World} {s : Bst} {ov : Value} {us : Nat -> Value} {X V : Vt}
theorem add_put {x : Ev} {W3 W4 : World} {Y : Vt} (h : BIn B0 bb A O W s ov us X) (hinv : s.inv) (ha : addE s x = 0) (hk : x.k = 1) (hw : x.V.whole) (hb : Below W.heap.size W W2) (hk3 : Kept (fun b => b = bb) W2 W3)
 (hbox : Whole W3 bb 86 (bcells ov s.dn X.h (s.nd + 1) s.bad)) (hb4 : Below W3.heap.size W3 W4) (hY : Y.In W4 W4.heap.size) (hYo : Y.Off (W3.heap.size <= ·)) (hYs : Y.Same x.V) :
 Calls Tryd.prog 48 #[.pointer (some ⟨bb,0,none⟩),.agg Y.h.cells] W4 fun e W' => e = .returned (.tuple #[]) /\ BOut B0 bb A O W (addS s x) (.int .i64 0) (.returned (.int .i64 0)) W':=by
 obtain ⟨a1,a2,a3,a4⟩:=addE_ok ha
 obtain ⟨d1,d2⟩:=a4 (.inl hk)
 obtain ⟨b1,b2,b3,b4,b5⟩:=shapeE_ok a2
 obtain ⟨f1,f2,f3⟩:=b4 hk
 have hsc:=sca_of hw f1 f2 f3
 have h3:=nd_more (h.later hb) d2 hk3 hbox
 have h5:=(h3.later hb4).more (A':=fun b => A b ∨ W.heap.size <= b) (fun b q => .inl q)
 have hs3:=hk3.size
 have hs2:=hb.size
 have hput:=put_any (V:=x.V) ⟨ov,us,X,h5⟩ (fun q => by have:=hinv.cnt (s.d - 1) (by have q' : 0 < s.d:=q;omega);show (s.fr (s.d - 1)).n + 1 <= s.nd + 1;omega) hY (hYo.mono fun b q => ⟨.inr (by omega),fun z => by have:=(h.O_lt z).2;omega⟩) hYs (hsc.upto (by show 0 < 49 - s.d;omega))
 have e : putS { s with nd:=s.nd + 1 } x.V = addS s x:=by
  rw [addS_ok ha]
  unfold stepS
  rw [if_pos hk]
 rw [e] at hput
 refine hput.mono fun r W' hr => ⟨hr.1,hr.after ?_ (fun b q => q) (fun b q => .inl q)⟩
 exact ((Kept.of (O:=O) hb).trans hk3 (fun b q => .inl (by rw [q];exact h.Obb))).trans (Kept.of (O:=fun _ => False) hb4) (fun b q => q.elim)
theorem add_pop {x : Ev} {W3 : World} {i o c : Nat} (h : BIn B0 bb A O W s ov us X) (hinv : s.inv) (ha : addE s x = 0) (hk : x.k = 3 ∨ x.k = 5) (hi : s.d = i + 1) (hov : ov = .slice (some ⟨o,0,none⟩) (i + 1) c) (hb : Below W.heap.size W W2) (hk3 : Kept (fun b => b = bb) W2 W3)
 (hbox : Whole W3 bb 86 (bcells (.slice (some ⟨o,0,none⟩) i c) s.dn X.h s.nd s.bad)) :
 Calls Tryd.prog 48 #[.pointer (some ⟨bb,0,none⟩),.agg (((s.fr i).cells (us i)).extract 0 13)] W3 fun e W' => e = .returned (.tuple #[]) /\ BOut B0 bb A O W (addS s x) (.int .i64 0) (.returned (.int .i64 0)) W':=by
 obtain ⟨h3,hsub,Y,y1,y2,y3,y4⟩:=(h.later hb).pop hi hov hk3 hbox
 have hd48:=h.ok.d
 have hyc : ((s.fr i).cells (us i)).extract 0 13 = Y.h.cells:=by
  rw [y1]
  simp [Vh.cells]
 rw [hyc]
 have hput:=put_any (V:=frV (s.fr i)) ⟨_,us,X,h3⟩ (fun q => by
  have q' : 0 < i:=q
  have:=hinv.cnt (i - 1) (by omega)
  show (s.fr (i - 1)).n + 1 <= s.nd
  omega) y2 y3 y4 (by
  show (frV (s.fr i)).upto (49 - i)
  rw [show 49 - i = (48 - i) + 1 by omega]
  exact frV_upto fun j hj => ((h.ok.fr i (by omega)).2.2 j hj).2)
 have e : putS { s with d:=i } (frV (s.fr i)) = addS s x:=by
  rw [addS_ok ha]
  unfold stepS
  rw [if_neg (by omega),if_neg (by omega),if_neg (by omega),if_neg (by omega)]
  unfold popS
  rw [show s.d - 1 = i by omega]
 rw [e] at hput
 refine hput.mono fun r W' hr => ⟨hr.1,hr.after ?_ (fun b q => .inl q) (fun b q => .inl (hsub b q))⟩
 exact (Kept.of (O:=O) hb).trans hk3 (fun b q => .inl (by rw [q];exact h.Obb))
end
theorem add_one {B0 bb : Nat} {A O : Nat -> Prop} {W : World} {s : Bst} {x : Ev} (h : BInv B0 bb A O W s) (hinv : s.inv) (hx : x.ok) (hV : x.V.In W B0) (hB0 : B0 <= W.heap.size) (ha : addE s x = 0) (hk : x.k = 1) :
 Calls Tryd.prog 23 #[.pointer (some ⟨bb,0,none⟩),.agg x.cells] W (BOut B0 bb A O W (addS s x) (.int .i64 (addE s x))):=by
 obtain ⟨a1,a2,a3,a4⟩:=addE_ok ha
 obtain ⟨ov,us,X,h⟩:=h
 have hV' : x.V.In W W.heap.size:=hV.up hB0
 have hb0:=(Below.refl W.heap.size W).alloc (Nat.le_refl _) (.cells x.cells 57)
 have h0:=h.later hb0
 have P:=Whole.new W 57 x.cells
 have HSh:=Lib.hid (shape_any (x:=x) (top:=W.heap.size) (w:=W.alloc (.cells x.cells 57)) hx (Vt.In.below hb0 hV') hb0.size)
 have HFo:=Lib.hid (fun (w1 : World) (hb : Below W.heap.size W w1) => fol_any (x:=x) (BInv.later ⟨ov,us,X,h⟩ hb) hx)
 have p16:=h0.box.cell 16
 rw [a1] at p16
 simp only [bcells,List.getElem?_toArray,List.getElem?_cons_succ,List.getElem?_cons_zero] at p16
 have hbo:=h0.box.lt
 have hbw:=h.box.lt
 have PB:=h0.box
 rw [a2] at HSh
 rw [a3] at HFo
 obtain ⟨d1,d2⟩:=a4 (.inl hk)
 have hw:=hV.whole
 obtain ⟨oa,oc,hov⟩:=h.row.slice
 have hdi : ((s.d : Nat) : Int) < 48:=by omega
 have hdj : (0 : Int) <= ((s.d : Nat) : Int):=by omega
 have hni : ((s.nd : Nat) : Int) < 65536:=by omega
 have hnj : (0 : Int) <= ((s.nd : Nat) : Int):=by omega
 have HPut:=Lib.hid (fun (w2 w3 : World) (hb : Below W.heap.size W w2) (hk3 : Kept (fun b => b = bb) w2 w3) (hbox : Whole w3 bb 86 (bcells ov s.dn X.h (s.nd + 1) s.bad)) (w4 : World) (Y : Vt) (hb4 : Below w3.heap.size w3 w4) (hY : Y.In w4 w4.heap.size) (hYo : Y.Off (w3.heap.size <= ·)) (hYs : Y.Same x.V) => add_put h hinv ha hk hw hb hk3 hbox hb4 hY hYo hYs)
 have HCp:=Lib.hid (fun (w3 : World) (hb : Below B0 W w3) => copy_any (T:=x.V) (w:=w3) (Vt.In.below hb hV) (Nat.le_trans hB0 hb.size) ((sca_of hw ((shapeE_ok a2).2.2.2.1 hk).1 ((shapeE_ok a2).2.2.2.1 hk).2.1 ((shapeE_ok a2).2.2.2.1 hk).2.2).upto (by decide)))
 rw [ha]
 obtain ⟨T,hT⟩ : ∃ T,addS s x = T:=⟨_,rfl⟩
 rw [hT] at HPut ⊢
 rw [hov] at PB HPut
 have hbB:=h.hB0
 obtain ⟨bad,hbad⟩ : ∃ c,s.bad = c:=⟨_,rfl⟩
 have PBn:=Lib.hid (fun (w2 : World) (B2 : Whole w2 bb 86 (bcells (.slice oa s.d oc) s.dn X.h s.nd s.bad)) => nd_box B2)
 generalize s.d = d at *
 generalize hnn : s.nd = n at *
 clear h h0 hx hV hV' hinv ha a1 a2 a3 a4 d1 d2 hw hov hT hbad hnn
 obtain ⟨k,key,V⟩:=x
 dsimp only at hk HCp HPut
 subst hk
 simp only [Ev.cells,evc] at hb0 P HSh HFo p16 hbo PB ⊢
 obtain ⟨c0,c1,c2,c3,c4,c5,c6,c7,c8,c9,c10,c11,c12,c13,c14⟩:=Whole.e15 P
 go_enter Tryd.func23,Tryd.ntmps23
 go_wp2_with fail
 refine HSh.out.mono ?_;rintro _ w1 ⟨rfl,hb1⟩
 have g1:=below_then hb0 hb1
 have P1:=Whole.below P hb1 P.lt
 have B1:=Whole.below PB hb1 hbo
 clear HSh hb0 hb1 P p16 hbo PB c0 c1 c2 c3 c4 c5 c6 c7 c8 c9 c10 c11 c12 c13 c14
 obtain ⟨c0,c1,c2,c3,c4,c5,c6,c7,c8,c9,c10,c11,c12,c13,c14⟩:=Whole.e15 P1
 go_wp2_with fail
 refine (HFo.out _ g1).mono ?_;rintro _ w2 ⟨rfl,hb2⟩
 have g2:=below_then g1 hb2
 have P2:=Whole.below P1 hb2 P1.lt
 have B2:=Whole.below B1 hb2 B1.lt
 clear HFo hb2 g1 P1 B1 c0 c1 c2 c3 c4 c5 c6 c7 c8 c9 c10 c11 c12 c13 c14
 have c0:=Whole.cell P2 0
 have f16:=B2.frozen 16
 have p0:=B2.cell 0
 have p15:=B2.cell 15
 have p16:=B2.cell 16
 simp only [bcells,List.getElem?_toArray,List.getElem?_cons_succ,List.getElem?_cons_zero] at c0 p0 p15 p16
 have HNE:=Lib.hid (show bb ≠ W.heap.size by omega)
 have f15:=B2.frozen 15
 obtain ⟨m,hm⟩ : ∃ m : Int,(n : Int) = m:=⟨_,rfl⟩
 rw [hm] at p15 hni hnj
 have HM:=Lib.hid hm
 clear hm
 go_upto_region 16 with (fail)
 have B3:=PBn.out _ B2
 rw [HM.out] at B3
 have P3:=Whole.far (p:=⟨bb,15,none⟩) P2 (fun e => HNE.out e.symm) (.int .i64 (m + 1))
 have K3:=kept_set (fun b => b = bb) w2 bb 15 (.int .i64 (m + 1)) rfl
 clear c0 f16 f15 p0 p15 p16 B2 P2 PBn
 obtain ⟨w3,hw3⟩ : ∃ w3,w2.setCell ⟨bb,15,none⟩ (.int .i64 (m + 1)) = w3:=⟨_,rfl⟩
 rw [hw3] at B3 P3 K3 ⊢
 clear hw3
 obtain ⟨c0,c1,c2,c3,c4,c5,c6,c7,c8,c9,c10,c11,c12,c13,c14⟩:=Whole.e15 P3
 have HC2:=Lib.hid (HCp.out w3 ((g2.mono hB0).trans (K3.below (Nat.le_trans hB0 g2.size) (fun b q e => by omega))))
 clear HCp
 go_wp2_with fail
 refine HC2.out.mono ?_;rintro _ w4 ⟨Y,rfl,hY,hYo,hYs,hb4⟩
 have HP2:=Lib.hid (HPut.out w2 w3 g2 K3 B3 w4 Y hb4 hY hYo hYs)
 simp only [Vh.cells] at HP2
 clear HPut hY hYo hYs hb4 B3 P3 K3 HC2 g2 c0 c1 c2 c3 c4 c5 c6 c7 c8 c9 c10 c11 c12 c13 c14
 go_wp2_with fail
 refine HP2.out.mono ?_;rintro _ w5 ⟨rfl,hE⟩
 have HE:=Lib.hid hE
 clear hE HP2
 go_wp2
 go_ret
 exact HE.out
theorem add_key {B0 bb : Nat} {A O : Nat -> Prop} {W : World} {s : Bst} {x : Ev} (h : BInv B0 bb A O W s) (hinv : s.inv) (hx : x.ok) (hV : x.V.In W B0) (hB0 : B0 <= W.heap.size) (ha : addE s x = 0) (hk : x.k = 6) :
 Calls Tryd.prog 23 #[.pointer (some ⟨bb,0,none⟩),.agg x.cells] W (BOut B0 bb A O W (addS s x) (.int .i64 (addE s x))):=by
 obtain ⟨a1,a2,a3,a4⟩:=addE_ok ha
 obtain ⟨ov,us,X,h⟩:=h
 have hV' : x.V.In W W.heap.size:=hV.up hB0
 have hb0:=(Below.refl W.heap.size W).alloc (Nat.le_refl _) (.cells x.cells 57)
 have h0:=h.later hb0
 have P:=Whole.new W 57 x.cells
 have HSh:=Lib.hid (shape_any (x:=x) (top:=W.heap.size) (w:=W.alloc (.cells x.cells 57)) hx (Vt.In.below hb0 hV') hb0.size)
 have HFo:=Lib.hid (fun (w1 : World) (hb : Below W.heap.size W w1) => fol_any (x:=x) (BInv.later ⟨ov,us,X,h⟩ hb) hx)
 have p16:=h0.box.cell 16
 rw [a1] at p16
 simp only [bcells,List.getElem?_toArray,List.getElem?_cons_succ,List.getElem?_cons_zero] at p16
 have hbo:=h0.box.lt
 have hbw:=h.box.lt
 have PB:=h0.box
 rw [a2] at HSh
 rw [a3] at HFo
 obtain ⟨c1,c2,c3⟩:=followE_ok a3
 have hd0 : 0 < s.d:=Nat.pos_of_ne_zero fun q => (c2 q).1 hk
 obtain ⟨i,hi⟩ : ∃ i,s.d = i + 1:=⟨s.d - 1,by omega⟩
 have hm:=((c3 hd0).1 hk).1
 rw [show s.d - 1 = i by omega] at hm
 have hd48:=h.ok.d
 have hi' : i < s.d:=by omega
 obtain ⟨o,co,cur,eo,FB,hB,hdc,hco,hcs,hcur⟩:=h0.row.op (by omega)
 have hstep : addS s x = keyS s x.key:=by
  rw [addS_ok ha]
  unfold stepS
  rw [if_neg (by omega),if_pos hk]
 have HE:=Lib.hid (fun (w2 : World) (hb : Below W.heap.size W w2) (hW : Whole w2 o 98 cur) => key_end (key:=x.key) h hb hi hm hx.key (.int .i64 0) eo hW hB hdc hco hcs hcur)
 rw [ha,hstep]
 obtain ⟨T,hT⟩ : ∃ T,keyS s x.key = T:=⟨_,rfl⟩
 rw [hT] at HE ⊢
 rw [eo,hi] at PB
 have hcz : i * 15 + 15 <= cur.size:=by omega
 have i3 : ((i : Nat) : Int) <= 47:=by omega
 have i4 : (0 : Int) <= ((i : Nat) : Int):=by omega
 have hwi : IntKind.i64.wrap ((i : Nat) : Int) = i:=by rw [IntKind.wrap_i64];omega
 have hlt : ((i : Nat) : Int) < (i : Int) + 1:=by omega
 have hFo:=FB.lt
 have how : o < W.heap.size:=(h.row.lt (g:=o) (by rw [eo];rfl)).2
 clear h h0 hx hV hV' hinv ha a1 a2 a3 a4 c1 c2 c3 hd0 hm hd48 hi' eo hB hdc hco hcs hcur hstep hT hi
 obtain ⟨k,key,V⟩:=x
 dsimp only at hk HE
 subst hk
 simp only [Ev.cells,evc] at hb0 P HSh HFo p16 hbo PB FB hFo ⊢
 obtain ⟨c0,c1,c2,c3,c4,c5,c6,c7,c8,c9,c10,c11,c12,c13,c14⟩:=Whole.e15 P
 go_enter Tryd.func23,Tryd.ntmps23
 go_wp2_with fail
 refine HSh.out.mono ?_;rintro _ w1 ⟨rfl,hb1⟩
 have g1:=below_then hb0 hb1
 have P1:=Whole.below P hb1 P.lt
 have B1:=Whole.below PB hb1 hbo
 have FB1:=Whole.below FB hb1 FB.lt
 clear FB hFo
 clear HSh hb0 hb1 P p16 hbo PB c0 c1 c2 c3 c4 c5 c6 c7 c8 c9 c10 c11 c12 c13 c14
 obtain ⟨c0,c1,c2,c3,c4,c5,c6,c7,c8,c9,c10,c11,c12,c13,c14⟩:=Whole.e15 P1
 go_wp2_with fail
 refine (HFo.out _ g1).mono ?_;rintro _ w2 ⟨rfl,hb2⟩
 have g2:=below_then g1 hb2
 have P2:=Whole.below P1 hb2 P1.lt
 have B2:=Whole.below B1 hb2 B1.lt
 have FB2:=Whole.below FB1 hb2 FB1.lt
 clear FB1
 clear HFo hb2 g1 P1 B1 c0 c1 c2 c3 c4 c5 c6 c7 c8 c9 c10 c11 c12 c13 c14
 have c0:=Whole.cell P2 0
 have f16:=B2.frozen 16
 have p0:=B2.cell 0
 have p15:=B2.cell 15
 have p16:=B2.cell 16
 simp only [bcells,List.getElem?_toArray,List.getElem?_cons_succ,List.getElem?_cons_zero] at c0 p0 p15 p16
 have c1:=Whole.cell P2 1
 simp only [List.getElem?_toArray,List.getElem?_cons_succ,List.getElem?_cons_zero] at c1
 go_wp2_with fail
 go_quiet (fail)
 have g3 : Below W.heap.size W (w2.drewN nq):=g2.trans ⟨rfl,rfl,rfl,Nat.le_refl _,fun _ _ => rfl⟩
 have FB3 : Whole (w2.drewN nq) o 98 cur:=FB2
 have c1' : (w2.drewN nq).cell? ⟨W.heap.size,1,none⟩ = some (.string key):=c1
 clear c0 c1 p0 p15 p16 f16 B2 P2 FB2 g2
 generalize w2.drewN nq = w3 at *
 obtain ⟨z13,hz13⟩ : ∃ z,cur[i * 15 + 13]? = some z:=⟨_,Array.getElem?_eq_getElem (by omega)⟩
 obtain ⟨z14,hz14⟩ : ∃ z,cur[i * 15 + 14]? = some z:=⟨_,Array.getElem?_eq_getElem (by omega)⟩
 have r13:=(FB3.cell (i * 15 + 13)).trans hz13
 have r14:=(FB3.cell (i * 15 + 14)).trans hz14
 have f13:=FB3.frozen (i * 15 + 13)
 have f14:=FB3.frozen (i * 15 + 14)
 have HE2:=Lib.hid (HE.out w3 g3 FB3)
 clear HE hz13 hz14 g3 FB3
 go_wp2_with fail
 go_ret
 exact HE2.out
theorem add_push {B0 bb : Nat} {A O : Nat -> Prop} {W W2 W3 W5 : World} {s : Bst} {x : Ev} {ov v2 : Value} {us : Nat -> Value} {X : Vt} {mp : Bool} {xs : List Value} (h : BIn B0 bb A O W s ov us X) (ha : addE s x = 0) (hk : x.k = if mp = true then 4 else 2) (hb : Below W.heap.size W W2) (hk3 : Kept (fun b => b = bb) W2 W3)
 (hbox : Whole W3 bb 86 (bcells ov s.dn X.h (s.nd + 1) s.bad)) (hl : xs.length = s.d * 15) (hx : ∀ i,i < s.d -> ∀ j,j < 15 -> xs[i * 15 + j]? = ((s.fr i).cells (us i))[j]?)
 (ho : W5.ownsRow B0 98 15 v2 (s.d + 1) (xs ++ ((fr0 mp).cells (.slice none 0 0)).toList)) (hk5 : Kept (fun b => ov.ownBlock = some b) W3 W5) (hv : v2.ownBlock = ov.ownBlock ∨ ∀ g,v2.ownBlock = some g -> W3.heap.size <= g) :
 BOut B0 bb A O W (addS s x) (.int .i64 0) (.returned (.int .i64 0)) (W5.setCell ⟨bb,0,none⟩ v2):=by
 obtain ⟨a1,a2,a3,a4⟩:=addE_ok ha
 obtain ⟨d1,d2⟩:=a4 (by cases mp <;> simp at hk <;> simp [begE,hk])
 have h3:=nd_more (h.later hb) d2 hk3 hbox
 have hkW : Kept O W W3:=(Kept.of (O:=O) hb).trans hk3 (fun b q => .inl (by rw [q];exact h.Obb))
 have e : addS s x = pushS { s with nd:=s.nd + 1 } mp:=by
  rw [addS_ok ha]
  unfold stepS
  cases mp
  ·have hk' : x.k = 2:=hk
   rw [if_neg (by omega),if_neg (by omega),if_pos hk']
  ·have hk' : x.k = 4:=hk
   rw [if_neg (by omega),if_neg (by omega),if_neg (by omega),if_pos hk']
 rw [e]
 exact push_end (s:={ s with nd:=s.nd + 1 }) h3 d1 hkW (fun b q => .inl q) (.int .i64 0) hl hx ho hk5 hv
theorem add_beg2 {B0 bb : Nat} {A O : Nat -> Prop} {W : World} {s : Bst} {x : Ev} (h : BInv B0 bb A O W s) (hinv : s.inv) (hx : x.ok) (hV : x.V.In W B0) (hB0 : B0 <= W.heap.size) (ha : addE s x = 0) (hk : x.k = 2) :
 Calls Tryd.prog 23 #[.pointer (some ⟨bb,0,none⟩),.agg x.cells] W (BOut B0 bb A O W (addS s x) (.int .i64 (addE s x))):=by
 obtain ⟨a1,a2,a3,a4⟩:=addE_ok ha
 obtain ⟨ov,us,X,h⟩:=h
 have hV' : x.V.In W W.heap.size:=hV.up hB0
 have hb0:=(Below.refl W.heap.size W).alloc (Nat.le_refl _) (.cells x.cells 57)
 have h0:=h.later hb0
 have P:=Whole.new W 57 x.cells
 have HSh:=Lib.hid (shape_any (x:=x) (top:=W.heap.size) (w:=W.alloc (.cells x.cells 57)) hx (Vt.In.below hb0 hV') hb0.size)
 have HFo:=Lib.hid (fun (w1 : World) (hb : Below W.heap.size W w1) => fol_any (x:=x) (BInv.later ⟨ov,us,X,h⟩ hb) hx)
 have p16:=h0.box.cell 16
 rw [a1] at p16
 simp only [bcells,List.getElem?_toArray,List.getElem?_cons_succ,List.getElem?_cons_zero] at p16
 have hbo:=h0.box.lt
 have hbw:=h.box.lt
 have PB:=h0.box
 rw [a2] at HSh
 rw [a3] at HFo
 obtain ⟨d1,d2⟩:=a4 (.inr (.inl hk))
 obtain ⟨oa,oc,hov⟩:=h.row.slice
 have hdi : ((s.d : Nat) : Int) < 48:=by omega
 have hdj : (0 : Int) <= ((s.d : Nat) : Int):=by omega
 have hni : ((s.nd : Nat) : Int) < 65536:=by omega
 have hnj : (0 : Int) <= ((s.nd : Nat) : Int):=by omega
 obtain ⟨xs,hown0,hxs⟩:=h.row
 have hlx : xs.length = s.d * 15:=hown0.1
 have hsep:=h.sep1
 have hlt0 : ∀ g,ov.ownBlock = some g -> B0 <= g /\ g < W.heap.size:=fun g hg => hown0.lt g hg
 have HPush:=Lib.hid (fun (w2 w3 w5 : World) (v2 : Value) (hb : Below W.heap.size W w2) (hk3 : Kept (fun b => b = bb) w2 w3) (hbox : Whole w3 bb 86 (bcells ov s.dn X.h (s.nd + 1) s.bad)) (ho : w5.ownsRow B0 98 15 v2 (s.d + 1) (xs ++ (#[.int .i64 6,.bool false,.bool false,.string ⟨#[]⟩,.int .i64 0,.int .i64 0,.int .i64 0,.int .i64 0,.int .i64 0,.string ⟨#[]⟩,.slice none 0 0,.slice none 0 0,.slice none 0 0,.string ⟨#[]⟩,.bool false] : Array Value).toList)) (hk5 : Kept (fun b => ov.ownBlock = some b) w3 w5) (hv : v2.ownBlock = ov.ownBlock ∨ ∀ g,v2.ownBlock = some g -> w3.heap.size <= g) => add_push (mp:=false) h ha hk hb hk3 hbox hlx hxs ho hk5 hv)
 rw [ha]
 obtain ⟨T,hT⟩ : ∃ T,addS s x = T:=⟨_,rfl⟩
 rw [hT] at HPush ⊢
 rw [hov] at PB HPush hown0 hsep hlt0
 have HSep:=Lib.hid hsep
 have HLt0:=Lib.hid hlt0
 have HOwn0:=Lib.hid hown0
 obtain ⟨i0,hi0,hz0,hz1,hz2⟩:=info_parts Tryd.infoFrm
 have PBn:=Lib.hid (fun (w2 : World) (B2 : Whole w2 bb 86 (bcells (.slice oa s.d oc) s.dn X.h s.nd s.bad)) => nd_box B2)
 generalize s.d = d at *
 generalize hnn : s.nd = n at *
 clear h h0 hx hV hV' hinv ha a1 a2 a3 a4 d1 d2 hov hT hnn hxs hlx hown0 hsep hlt0
 obtain ⟨k,key,V⟩:=x
 dsimp only at hk HPush
 subst hk
 simp only [Ev.cells,evc] at hb0 P HSh HFo p16 hbo PB ⊢
 obtain ⟨c0,c1,c2,c3,c4,c5,c6,c7,c8,c9,c10,c11,c12,c13,c14⟩:=Whole.e15 P
 go_enter Tryd.func23,Tryd.ntmps23
 go_wp2_with fail
 refine HSh.out.mono ?_;rintro _ w1 ⟨rfl,hb1⟩
 have g1:=below_then hb0 hb1
 have P1:=Whole.below P hb1 P.lt
 have B1:=Whole.below PB hb1 hbo
 clear HSh hb0 hb1 P p16 hbo PB c0 c1 c2 c3 c4 c5 c6 c7 c8 c9 c10 c11 c12 c13 c14
 obtain ⟨c0,c1,c2,c3,c4,c5,c6,c7,c8,c9,c10,c11,c12,c13,c14⟩:=Whole.e15 P1
 go_wp2_with fail
 refine (HFo.out _ g1).mono ?_;rintro _ w2 ⟨rfl,hb2⟩
 have g2:=below_then g1 hb2
 have P2:=Whole.below P1 hb2 P1.lt
 have B2:=Whole.below B1 hb2 B1.lt
 clear HFo hb2 g1 P1 B1 c0 c1 c2 c3 c4 c5 c6 c7 c8 c9 c10 c11 c12 c13 c14
 have c0:=Whole.cell P2 0
 have f16:=B2.frozen 16
 have p0:=B2.cell 0
 have p15:=B2.cell 15
 have p16:=B2.cell 16
 simp only [bcells,List.getElem?_toArray,List.getElem?_cons_succ,List.getElem?_cons_zero] at c0 p0 p15 p16
 have HNE:=Lib.hid (show bb ≠ W.heap.size by omega)
 have f15:=B2.frozen 15
 obtain ⟨m,hm⟩ : ∃ m : Int,(n : Int) = m:=⟨_,rfl⟩
 rw [hm] at p15 hni hnj
 have HM:=Lib.hid hm
 clear hm
 go_upto_region 16 with (fail)
 have B3:=PBn.out _ B2
 rw [HM.out] at B3
 have P3:=Whole.far (p:=⟨bb,15,none⟩) P2 (fun e => HNE.out e.symm) (.int .i64 (m + 1))
 have K3:=kept_set (fun b => b = bb) w2 bb 15 (.int .i64 (m + 1)) rfl
 clear c0 f16 f15 p0 p15 p16 B2 P2 PBn
 obtain ⟨w3,hw3⟩ : ∃ w3,w2.setCell ⟨bb,15,none⟩ (.int .i64 (m + 1)) = w3:=⟨_,rfl⟩
 rw [hw3] at B3 P3 K3 ⊢
 clear hw3
 have c0:=Whole.cell P3 0
 have p0:=Whole.cell B3 0
 simp only [bcells,List.getElem?_toArray,List.getElem?_cons_succ,List.getElem?_cons_zero] at c0 p0
 have hs3 : W.heap.size <= w3.heap.size:=Nat.le_trans g2.size K3.size
 have hown3 : (w3.alloc (.cells #[.int .i64 6,.bool false,.bool false,.string ⟨#[]⟩,.int .i64 0,.int .i64 0,.int .i64 0,.int .i64 0,.int .i64 0,.string ⟨#[]⟩,.slice none 0 0,.slice none 0 0,.slice none 0 0,.string ⟨#[]⟩,.bool false] 98)).ownsRow B0 98 15 (.slice oa d oc) d xs:=own_block HOwn0.out (fun g hg => by
  have q1:=HLt0.out g hg
  have q2 : g ≠ bb:=fun e => HSep.out (by rw [hg,e])
  exact (((Below.refl w3.heap.size w3).alloc (Nat.le_refl _) _).block g (by omega)).trans ((K3.block g (by have:=g2.size;omega) q2).trans (g2.block g q1.2)))
 have B4:=B3.alloc (.cells #[.int .i64 6,.bool false,.bool false,.string ⟨#[]⟩,.int .i64 0,.int .i64 0,.int .i64 0,.int .i64 0,.int .i64 0,.string ⟨#[]⟩,.slice none 0 0,.slice none 0 0,.slice none 0 0,.string ⟨#[]⟩,.bool false] 98)
 have k3a : Kept (fun b => (Value.slice oa d oc).ownBlock = some b) w3 (w3.alloc (.cells #[.int .i64 6,.bool false,.bool false,.string ⟨#[]⟩,.int .i64 0,.int .i64 0,.int .i64 0,.int .i64 0,.int .i64 0,.string ⟨#[]⟩,.slice none 0 0,.slice none 0 0,.slice none 0 0,.string ⟨#[]⟩,.bool false] 98)):=Kept.of ((Below.refl w3.heap.size w3).alloc (Nat.le_refl _) _)
 have s1:=Lib.hid (cells_new w3 98 #[.int .i64 6,.bool false,.bool false,.string ⟨#[]⟩,.int .i64 0,.int .i64 0,.int .i64 0,.int .i64 0,.int .i64 0,.string ⟨#[]⟩,.slice none 0 0,.slice none 0 0,.slice none 0 0,.string ⟨#[]⟩,.bool false])
 have s2 : Hid (∀ u ∈ (#[.int .i64 6,.bool false,.bool false,.string ⟨#[]⟩,.int .i64 0,.int .i64 0,.int .i64 0,.int .i64 0,.int .i64 0,.string ⟨#[]⟩,.slice none 0 0,.slice none 0 0,.slice none 0 0,.string ⟨#[]⟩,.bool false] : Array Value).toList,u.oneCell' = true):=Lib.hid (by simp [Value.oneCell'])
 have s3 : Hid (d + 1 <= maxLen):=Lib.hid (by unfold maxLen;omega)
 have s4 : Hid ((d + 1) * 192 <= 140737488355328):=Lib.hid (by omega)
 have s5 : Hid (B0 <= (w3.alloc (.cells #[.int .i64 6,.bool false,.bool false,.string ⟨#[]⟩,.int .i64 0,.int .i64 0,.int .i64 0,.int .i64 0,.int .i64 0,.string ⟨#[]⟩,.slice none 0 0,.slice none 0 0,.slice none 0 0,.string ⟨#[]⟩,.bool false] 98)).heap.size):=Lib.hid (by rw [World.size_alloc];omega)
 go_wp2_with (first | (at_builtin;refine wpList_append_told _ rfl _ _ 84 rfl B0 98 i0 _ 15 192 Tryd.underlying84 hi0 hz0 hz1 hz2 rfl (by decide) _ _ _ rfl hown3 ⟨w3.heap.size,0,none⟩ 1 1 (#[.int .i64 6,.bool false,.bool false,.string ⟨#[]⟩,.int .i64 0,.int .i64 0,.int .i64 0,.int .i64 0,.int .i64 0,.string ⟨#[]⟩,.slice none 0 0,.slice none 0 0,.slice none 0 0,.string ⟨#[]⟩,.bool false] : Array Value).toList rfl rfl s1.out s2.out s3.out s4.out s5.out Nat.one_pos ?_))
 clear s1 s2 s3 s4 s5
 intro v2 w5 ho5 hg5 hv5
 obtain ⟨g9,cap9,cur9,rfl,-⟩:=own_open ho5 (Nat.succ_pos _)
 have B5:=B4.kept hg5 (fun e => HSep.out e.symm)
 have k5:=k3a.trans (kept_grown (X:=fun b => (Value.slice oa d oc).ownBlock = some b) hg5 (fun g hg => hg)) (fun b q => .inl q)
 have HE:=Lib.hid (HPush.out w2 w3 w5 _ g2 K3 B3 ho5 k5 (hv5.imp id (fun q g hg => by rw [q] at hg;cases hg;(first | omega | (rw [World.size_alloc];omega)))))
 have f0:=B5.frozen 0
 have p0':=B5.cell 0
 simp only [bcells,List.getElem?_toArray,List.getElem?_cons_succ,List.getElem?_cons_zero] at p0'
 clear HPush HOwn0 HLt0 hown3 k3a ho5 hg5 hv5 k5 B3 B4 B5 P3 K3 g2 c0 p0
 go_wp2
 go_ret
 exact HE.out
theorem add_beg4 {B0 bb : Nat} {A O : Nat -> Prop} {W : World} {s : Bst} {x : Ev} (h : BInv B0 bb A O W s) (hinv : s.inv) (hx : x.ok) (hV : x.V.In W B0) (hB0 : B0 <= W.heap.size) (ha : addE s x = 0) (hk : x.k = 4) :
 Calls Tryd.prog 23 #[.pointer (some ⟨bb,0,none⟩),.agg x.cells] W (BOut B0 bb A O W (addS s x) (.int .i64 (addE s x))):=by
 obtain ⟨a1,a2,a3,a4⟩:=addE_ok ha
 obtain ⟨ov,us,X,h⟩:=h
 have hV' : x.V.In W W.heap.size:=hV.up hB0
 have hb0:=(Below.refl W.heap.size W).alloc (Nat.le_refl _) (.cells x.cells 57)
 have h0:=h.later hb0
 have P:=Whole.new W 57 x.cells
 have HSh:=Lib.hid (shape_any (x:=x) (top:=W.heap.size) (w:=W.alloc (.cells x.cells 57)) hx (Vt.In.below hb0 hV') hb0.size)
 have HFo:=Lib.hid (fun (w1 : World) (hb : Below W.heap.size W w1) => fol_any (x:=x) (BInv.later ⟨ov,us,X,h⟩ hb) hx)
 have p16:=h0.box.cell 16
 rw [a1] at p16
 simp only [bcells,List.getElem?_toArray,List.getElem?_cons_succ,List.getElem?_cons_zero] at p16
 have hbo:=h0.box.lt
 have hbw:=h.box.lt
 have PB:=h0.box
 rw [a2] at HSh
 rw [a3] at HFo
 obtain ⟨d1,d2⟩:=a4 (.inr (.inr hk))
 obtain ⟨oa,oc,hov⟩:=h.row.slice
 have hdi : ((s.d : Nat) : Int) < 48:=by omega
 have hdj : (0 : Int) <= ((s.d : Nat) : Int):=by omega
 have hni : ((s.nd : Nat) : Int) < 65536:=by omega
 have hnj : (0 : Int) <= ((s.nd : Nat) : Int):=by omega
 obtain ⟨xs,hown0,hxs⟩:=h.row
 have hlx : xs.length = s.d * 15:=hown0.1
 have hsep:=h.sep1
 have hlt0 : ∀ g,ov.ownBlock = some g -> B0 <= g /\ g < W.heap.size:=fun g hg => hown0.lt g hg
 have HPush:=Lib.hid (fun (w2 w3 w5 : World) (v2 : Value) (hb : Below W.heap.size W w2) (hk3 : Kept (fun b => b = bb) w2 w3) (hbox : Whole w3 bb 86 (bcells ov s.dn X.h (s.nd + 1) s.bad)) (ho : w5.ownsRow B0 98 15 v2 (s.d + 1) (xs ++ (#[.int .i64 7,.bool false,.bool false,.string ⟨#[]⟩,.int .i64 0,.int .i64 0,.int .i64 0,.int .i64 0,.int .i64 0,.string ⟨#[]⟩,.slice none 0 0,.slice none 0 0,.slice none 0 0,.string ⟨#[]⟩,.bool false] : Array Value).toList)) (hk5 : Kept (fun b => ov.ownBlock = some b) w3 w5) (hv : v2.ownBlock = ov.ownBlock ∨ ∀ g,v2.ownBlock = some g -> w3.heap.size <= g) => add_push (mp:=true) h ha hk hb hk3 hbox hlx hxs ho hk5 hv)
 rw [ha]
 obtain ⟨T,hT⟩ : ∃ T,addS s x = T:=⟨_,rfl⟩
 rw [hT] at HPush ⊢
 rw [hov] at PB HPush hown0 hsep hlt0
 have HSep:=Lib.hid hsep
 have HLt0:=Lib.hid hlt0
 have HOwn0:=Lib.hid hown0
 obtain ⟨i0,hi0,hz0,hz1,hz2⟩:=info_parts Tryd.infoFrm
 have PBn:=Lib.hid (fun (w2 : World) (B2 : Whole w2 bb 86 (bcells (.slice oa s.d oc) s.dn X.h s.nd s.bad)) => nd_box B2)
 generalize s.d = d at *
 generalize hnn : s.nd = n at *
 clear h h0 hx hV hV' hinv ha a1 a2 a3 a4 d1 d2 hov hT hnn hxs hlx hown0 hsep hlt0
 obtain ⟨k,key,V⟩:=x
 dsimp only at hk HPush
 subst hk
 simp only [Ev.cells,evc] at hb0 P HSh HFo p16 hbo PB ⊢
 obtain ⟨c0,c1,c2,c3,c4,c5,c6,c7,c8,c9,c10,c11,c12,c13,c14⟩:=Whole.e15 P
 go_enter Tryd.func23,Tryd.ntmps23
 go_wp2_with fail
 refine HSh.out.mono ?_;rintro _ w1 ⟨rfl,hb1⟩
 have g1:=below_then hb0 hb1
 have P1:=Whole.below P hb1 P.lt
 have B1:=Whole.below PB hb1 hbo
 clear HSh hb0 hb1 P p16 hbo PB c0 c1 c2 c3 c4 c5 c6 c7 c8 c9 c10 c11 c12 c13 c14
 obtain ⟨c0,c1,c2,c3,c4,c5,c6,c7,c8,c9,c10,c11,c12,c13,c14⟩:=Whole.e15 P1
 go_wp2_with fail
 refine (HFo.out _ g1).mono ?_;rintro _ w2 ⟨rfl,hb2⟩
 have g2:=below_then g1 hb2
 have P2:=Whole.below P1 hb2 P1.lt
 have B2:=Whole.below B1 hb2 B1.lt
 clear HFo hb2 g1 P1 B1 c0 c1 c2 c3 c4 c5 c6 c7 c8 c9 c10 c11 c12 c13 c14
 have c0:=Whole.cell P2 0
 have f16:=B2.frozen 16
 have p0:=B2.cell 0
 have p15:=B2.cell 15
 have p16:=B2.cell 16
 simp only [bcells,List.getElem?_toArray,List.getElem?_cons_succ,List.getElem?_cons_zero] at c0 p0 p15 p16
 have HNE:=Lib.hid (show bb ≠ W.heap.size by omega)
 have f15:=B2.frozen 15
 obtain ⟨m,hm⟩ : ∃ m : Int,(n : Int) = m:=⟨_,rfl⟩
 rw [hm] at p15 hni hnj
 have HM:=Lib.hid hm
 clear hm
 go_upto_region 16 with (fail)
 have B3:=PBn.out _ B2
 rw [HM.out] at B3
 have P3:=Whole.far (p:=⟨bb,15,none⟩) P2 (fun e => HNE.out e.symm) (.int .i64 (m + 1))
 have K3:=kept_set (fun b => b = bb) w2 bb 15 (.int .i64 (m + 1)) rfl
 clear c0 f16 f15 p0 p15 p16 B2 P2 PBn
 obtain ⟨w3,hw3⟩ : ∃ w3,w2.setCell ⟨bb,15,none⟩ (.int .i64 (m + 1)) = w3:=⟨_,rfl⟩
 rw [hw3] at B3 P3 K3 ⊢
 clear hw3
 have c0:=Whole.cell P3 0
 have p0:=Whole.cell B3 0
 simp only [bcells,List.getElem?_toArray,List.getElem?_cons_succ,List.getElem?_cons_zero] at c0 p0
 have hs3 : W.heap.size <= w3.heap.size:=Nat.le_trans g2.size K3.size
 have hown3 : (w3.alloc (.cells #[.int .i64 7,.bool false,.bool false,.string ⟨#[]⟩,.int .i64 0,.int .i64 0,.int .i64 0,.int .i64 0,.int .i64 0,.string ⟨#[]⟩,.slice none 0 0,.slice none 0 0,.slice none 0 0,.string ⟨#[]⟩,.bool false] 98)).ownsRow B0 98 15 (.slice oa d oc) d xs:=own_block HOwn0.out (fun g hg => by
  have q1:=HLt0.out g hg
  have q2 : g ≠ bb:=fun e => HSep.out (by rw [hg,e])
  exact (((Below.refl w3.heap.size w3).alloc (Nat.le_refl _) _).block g (by omega)).trans ((K3.block g (by have:=g2.size;omega) q2).trans (g2.block g q1.2)))
 have B4:=B3.alloc (.cells #[.int .i64 7,.bool false,.bool false,.string ⟨#[]⟩,.int .i64 0,.int .i64 0,.int .i64 0,.int .i64 0,.int .i64 0,.string ⟨#[]⟩,.slice none 0 0,.slice none 0 0,.slice none 0 0,.string ⟨#[]⟩,.bool false] 98)
 have k3a : Kept (fun b => (Value.slice oa d oc).ownBlock = some b) w3 (w3.alloc (.cells #[.int .i64 7,.bool false,.bool false,.string ⟨#[]⟩,.int .i64 0,.int .i64 0,.int .i64 0,.int .i64 0,.int .i64 0,.string ⟨#[]⟩,.slice none 0 0,.slice none 0 0,.slice none 0 0,.string ⟨#[]⟩,.bool false] 98)):=Kept.of ((Below.refl w3.heap.size w3).alloc (Nat.le_refl _) _)
 have s1:=Lib.hid (cells_new w3 98 #[.int .i64 7,.bool false,.bool false,.string ⟨#[]⟩,.int .i64 0,.int .i64 0,.int .i64 0,.int .i64 0,.int .i64 0,.string ⟨#[]⟩,.slice none 0 0,.slice none 0 0,.slice none 0 0,.string ⟨#[]⟩,.bool false])
 have s2 : Hid (∀ u ∈ (#[.int .i64 7,.bool false,.bool false,.string ⟨#[]⟩,.int .i64 0,.int .i64 0,.int .i64 0,.int .i64 0,.int .i64 0,.string ⟨#[]⟩,.slice none 0 0,.slice none 0 0,.slice none 0 0,.string ⟨#[]⟩,.bool false] : Array Value).toList,u.oneCell' = true):=Lib.hid (by simp [Value.oneCell'])
 have s3 : Hid (d + 1 <= maxLen):=Lib.hid (by unfold maxLen;omega)
 have s4 : Hid ((d + 1) * 192 <= 140737488355328):=Lib.hid (by omega)
 have s5 : Hid (B0 <= (w3.alloc (.cells #[.int .i64 7,.bool false,.bool false,.string ⟨#[]⟩,.int .i64 0,.int .i64 0,.int .i64 0,.int .i64 0,.int .i64 0,.string ⟨#[]⟩,.slice none 0 0,.slice none 0 0,.slice none 0 0,.string ⟨#[]⟩,.bool false] 98)).heap.size):=Lib.hid (by rw [World.size_alloc];omega)
 go_wp2_with (first | (at_builtin;refine wpList_append_told _ rfl _ _ 84 rfl B0 98 i0 _ 15 192 Tryd.underlying84 hi0 hz0 hz1 hz2 rfl (by decide) _ _ _ rfl hown3 ⟨w3.heap.size,0,none⟩ 1 1 (#[.int .i64 7,.bool false,.bool false,.string ⟨#[]⟩,.int .i64 0,.int .i64 0,.int .i64 0,.int .i64 0,.int .i64 0,.string ⟨#[]⟩,.slice none 0 0,.slice none 0 0,.slice none 0 0,.string ⟨#[]⟩,.bool false] : Array Value).toList rfl rfl s1.out s2.out s3.out s4.out s5.out Nat.one_pos ?_))
 clear s1 s2 s3 s4 s5
 intro v2 w5 ho5 hg5 hv5
 obtain ⟨g9,cap9,cur9,rfl,-⟩:=own_open ho5 (Nat.succ_pos _)
 have B5:=B4.kept hg5 (fun e => HSep.out e.symm)
 have k5:=k3a.trans (kept_grown (X:=fun b => (Value.slice oa d oc).ownBlock = some b) hg5 (fun g hg => hg)) (fun b q => .inl q)
 have HE:=Lib.hid (HPush.out w2 w3 w5 _ g2 K3 B3 ho5 k5 (hv5.imp id (fun q g hg => by rw [q] at hg;cases hg;(first | omega | (rw [World.size_alloc];omega)))))
 have f0:=B5.frozen 0
 have p0':=B5.cell 0
 simp only [bcells,List.getElem?_toArray,List.getElem?_cons_succ,List.getElem?_cons_zero] at p0'
 clear HPush HOwn0 HLt0 hown3 k3a ho5 hg5 hv5 k5 B3 B4 B5 P3 K3 g2 c0 p0
 go_wp2
 go_ret
 exact HE.out
end Go.Proofs.YtpcbhneaaibfiaaDoor
