/- Laid together. -/
import Derived.Test.YtpcbhneaaibfiaaDoorPB18
set_option linter.unusedVariables false
set_option linter.unusedSimpArgs false
set_option maxHeartbeats 16000000
set_option maxRecDepth 100000
namespace Go.Proofs.YtpcbhneaaibfiaaDoor
open Go.RowKit
theorem add_fol {B0 bb : Nat} {A O : Nat -> Prop} {W : World} {s : Bst} {x : Ev} (h : BInv B0 bb A O W s) (hx : x.ok) (hV : x.V.In W W.heap.size) (hbd : s.bad = false) (hs : shapeE x = 0) (hf : followE s x ≠ 0) :
 Calls Tryd.prog 23 #[.pointer (some ⟨bb,0,none⟩),.agg x.cells] W (BOut B0 bb A O W (addS s x) (.int .i64 (addE s x))):=by
 obtain ⟨ov,us,X,h⟩:=h
 have hb0:=(Below.refl W.heap.size W).alloc (Nat.le_refl _) (.cells x.cells 57)
 have h0:=h.later hb0
 have P:=Whole.new W 57 x.cells
 have HSh:=Lib.hid (shape_any (x:=x) (top:=W.heap.size) (w:=W.alloc (.cells x.cells 57)) hx (Vt.In.below hb0 hV) hb0.size)
 have HFo:=Lib.hid (fun (w1 : World) (hb : Below W.heap.size W w1) => fol_any (x:=x) (BInv.later ⟨ov,us,X,h⟩ hb) hx)
 have he : addE s x = followE s x:=by unfold addE;rw [if_neg (by rw [hbd];decide),if_neg (by simp [hs]),if_pos hf]
 have HE:=Lib.hid (fun (w2 : World) (hb : Below W.heap.size W w2) => add_err (x:=x) h hbd he hf hb)
 rw [he]
 have p16:=h0.box.cell 16
 rw [hbd] at p16
 simp only [bcells,List.getElem?_toArray,List.getElem?_cons_succ,List.getElem?_cons_zero] at p16
 have hbo:=h0.box.lt
 have PB:=h0.box
 obtain ⟨R,hR⟩ : ∃ R,followE s x = R:=⟨_,rfl⟩
 rw [hs] at HSh
 rw [hR] at HE HFo hf ⊢
 obtain ⟨T,hT⟩ : ∃ T,addS s x = T:=⟨_,rfl⟩
 rw [hT] at HE ⊢
 have dR : (R == 0) = false:=beq_eq_false_iff_ne.2 hf
 clear h h0 hx hV he hs hbd hR hT hf
 obtain ⟨k,key,V⟩:=x
 simp only [Ev.cells,evc] at hb0 P HSh HFo p16 hbo PB ⊢
 obtain ⟨c0,c1,c2,c3,c4,c5,c6,c7,c8,c9,c10,c11,c12,c13,c14⟩:=Whole.e15 P
 by_cases e1 : k = 1
 ·obtain rfl : k = 1:=e1
  go_enter Tryd.func23,Tryd.ntmps23
  go_wp2_with fail
  refine HSh.out.mono ?_;rintro _ w1 ⟨rfl,hb1⟩
  have g1:=below_then hb0 hb1
  have P1:=Whole.below P hb1 P.lt
  have B1:=Whole.below PB hb1 hbo
  clear HSh hb0 hb1 P p16 hbo PB c0 c1 c2 c3 c4 c5 c6 c7 c8 c9 c10 c11 c12 c13 c14
  obtain ⟨c0,c1,c2,c3,c4,c5,c6,c7,c8,c9,c10,c11,c12,c13,c14⟩:=Whole.e15 P1
  go_wp2_with fail
  refine (HFo.out _ g1).mono ?_;rintro _ w2 ⟨rfl,hb2⟩
  have g2:=below_then g1 hb2
  have P2:=Whole.below P1 hb2 P1.lt
  have B2:=Whole.below B1 hb2 B1.lt
  clear HFo hb2 g1 P1 B1 c0 c1 c2 c3 c4 c5 c6 c7 c8 c9 c10 c11 c12 c13 c14
  have c0:=Whole.cell P2 0
  have f16:=B2.frozen 16
  have p0:=B2.cell 0
  have p15:=B2.cell 15
  have p16:=B2.cell 16
  simp only [bcells,List.getElem?_toArray,List.getElem?_cons_succ,List.getElem?_cons_zero] at c0 p0 p15 p16
  go_wp2
  go_ret
  exact HE.out _ g2
 by_cases e2 : k = 2
 ·obtain rfl : k = 2:=e2
  clear e1
  go_enter Tryd.func23,Tryd.ntmps23
  go_wp2_with fail
  refine HSh.out.mono ?_;rintro _ w1 ⟨rfl,hb1⟩
  have g1:=below_then hb0 hb1
  have P1:=Whole.below P hb1 P.lt
  have B1:=Whole.below PB hb1 hbo
  clear HSh hb0 hb1 P p16 hbo PB c0 c1 c2 c3 c4 c5 c6 c7 c8 c9 c10 c11 c12 c13 c14
  obtain ⟨c0,c1,c2,c3,c4,c5,c6,c7,c8,c9,c10,c11,c12,c13,c14⟩:=Whole.e15 P1
  go_wp2_with fail
  refine (HFo.out _ g1).mono ?_;rintro _ w2 ⟨rfl,hb2⟩
  have g2:=below_then g1 hb2
  have P2:=Whole.below P1 hb2 P1.lt
  have B2:=Whole.below B1 hb2 B1.lt
  clear HFo hb2 g1 P1 B1 c0 c1 c2 c3 c4 c5 c6 c7 c8 c9 c10 c11 c12 c13 c14
  have c0:=Whole.cell P2 0
  have f16:=B2.frozen 16
  have p0:=B2.cell 0
  have p15:=B2.cell 15
  have p16:=B2.cell 16
  simp only [bcells,List.getElem?_toArray,List.getElem?_cons_succ,List.getElem?_cons_zero] at c0 p0 p15 p16
  go_wp2
  go_ret
  exact HE.out _ g2
 by_cases e4 : k = 4
 ·obtain rfl : k = 4:=e4
  clear e1
  clear e2
  go_enter Tryd.func23,Tryd.ntmps23
  go_wp2_with fail
  refine HSh.out.mono ?_;rintro _ w1 ⟨rfl,hb1⟩
  have g1:=below_then hb0 hb1
  have P1:=Whole.below P hb1 P.lt
  have B1:=Whole.below PB hb1 hbo
  clear HSh hb0 hb1 P p16 hbo PB c0 c1 c2 c3 c4 c5 c6 c7 c8 c9 c10 c11 c12 c13 c14
  obtain ⟨c0,c1,c2,c3,c4,c5,c6,c7,c8,c9,c10,c11,c12,c13,c14⟩:=Whole.e15 P1
  go_wp2_with fail
  refine (HFo.out _ g1).mono ?_;rintro _ w2 ⟨rfl,hb2⟩
  have g2:=below_then g1 hb2
  have P2:=Whole.below P1 hb2 P1.lt
  have B2:=Whole.below B1 hb2 B1.lt
  clear HFo hb2 g1 P1 B1 c0 c1 c2 c3 c4 c5 c6 c7 c8 c9 c10 c11 c12 c13 c14
  have c0:=Whole.cell P2 0
  have f16:=B2.frozen 16
  have p0:=B2.cell 0
  have p15:=B2.cell 15
  have p16:=B2.cell 16
  simp only [bcells,List.getElem?_toArray,List.getElem?_cons_succ,List.getElem?_cons_zero] at c0 p0 p15 p16
  go_wp2
  go_ret
  exact HE.out _ g2
 have d1 : (k == 1) = false:=beq_eq_false_iff_ne.2 e1
 have d2 : (k == 2) = false:=beq_eq_false_iff_ne.2 e2
 have d4 : (k == 4) = false:=beq_eq_false_iff_ne.2 e4
 clear e1 e2 e4
 go_enter Tryd.func23,Tryd.ntmps23
 go_wp2_with fail
 refine HSh.out.mono ?_;rintro _ w1 ⟨rfl,hb1⟩
 have g1:=below_then hb0 hb1
 have P1:=Whole.below P hb1 P.lt
 have B1:=Whole.below PB hb1 hbo
 clear HSh hb0 hb1 P p16 hbo PB c0 c1 c2 c3 c4 c5 c6 c7 c8 c9 c10 c11 c12 c13 c14
 obtain ⟨c0,c1,c2,c3,c4,c5,c6,c7,c8,c9,c10,c11,c12,c13,c14⟩:=Whole.e15 P1
 go_wp2_with fail
 refine (HFo.out _ g1).mono ?_;rintro _ w2 ⟨rfl,hb2⟩
 have g2:=below_then g1 hb2
 have P2:=Whole.below P1 hb2 P1.lt
 have B2:=Whole.below B1 hb2 B1.lt
 clear HFo hb2 g1 P1 B1 c0 c1 c2 c3 c4 c5 c6 c7 c8 c9 c10 c11 c12 c13 c14
 have c0:=Whole.cell P2 0
 have f16:=B2.frozen 16
 have p0:=B2.cell 0
 have p15:=B2.cell 15
 have p16:=B2.cell 16
 simp only [bcells,List.getElem?_toArray,List.getElem?_cons_succ,List.getElem?_cons_zero] at c0 p0 p15 p16
 go_wp2
 go_ret
 exact HE.out _ g2
end Go.Proofs.YtpcbhneaaibfiaaDoor
