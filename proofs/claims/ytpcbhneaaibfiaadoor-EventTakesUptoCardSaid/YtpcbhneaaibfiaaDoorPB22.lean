/- Laid together. -/
import Derived.Test.YtpcbhneaaibfiaaDoorPB01
import Derived.Test.YtpcbhneaaibfiaaDoorPB21
import Derived.Test.YtpcbhneaaibfiaaDoorPB18
import Derived.Test.YtpcbhneaaibfiaaDoorPB16
set_option linter.unusedVariables false
set_option linter.unusedSimpArgs false
set_option maxHeartbeats 16000000
set_option maxRecDepth 100000
namespace Go.Proofs.YtpcbhneaaibfiaaDoor
open Go.RowKit
theorem add_end3 {B0 bb : Nat} {A O : Nat -> Prop} {W : World} {s : Bst} {x : Ev} (h : BInv B0 bb A O W s) (hinv : s.inv) (hx : x.ok) (hV : x.V.In W B0) (hB0 : B0 <= W.heap.size) (ha : addE s x = 0) (hk : x.k = 3) :
 Calls Tryd.prog 23 #[.pointer (some ⟨bb,0,none⟩),.agg x.cells] W (BOut B0 bb A O W (addS s x) (.int .i64 (addE s x))):=by
 obtain ⟨a1,a2,a3,a4⟩:=addE_ok ha
 obtain ⟨ov,us,X,h⟩:=h
 have hV' : x.V.In W W.heap.size:=hV.up hB0
 have hb0:=(Below.refl W.heap.size W).alloc (Nat.le_refl _) (.cells x.cells 57)
 have h0:=h.later hb0
 have P:=Whole.new W 57 x.cells
 have HSh:=Lib.hid (shape_any (x:=x) (top:=W.heap.size) (w:=W.alloc (.cells x.cells 57)) hx (Vt.In.below hb0 hV') hb0.size)
 have HFo:=Lib.hid (fun (w1 : World) (hb : Below W.heap.size W w1) => fol_any (x:=x) (BInv.later ⟨ov,us,X,h⟩ hb) hx)
 have p16:=h0.box.cell 16
 rw [a1] at p16
 simp only [bcells,List.getElem?_toArray,List.getElem?_cons_succ,List.getElem?_cons_zero] at p16
 have hbo:=h0.box.lt
 have hbw:=h.box.lt
 have PB:=h0.box
 rw [a2] at HSh
 rw [a3] at HFo
 obtain ⟨c1,c2,c3⟩:=followE_ok a3
 have hd0 : 0 < s.d:=Nat.pos_of_ne_zero fun q => by have:=c2 q;omega
 obtain ⟨i,hi⟩ : ∃ i,s.d = i + 1:=⟨s.d - 1,by omega⟩
 have hm:=(c3 hd0).2.1 hk
 rw [show s.d - 1 = i by omega] at hm
 have hd48:=h.ok.d
 have hi' : i < s.d:=by omega
 obtain ⟨o,co,cur,eo,FB,hB,hdc,hco,hcs,hcur⟩:=h0.row.op (by omega)
 have HPop:=Lib.hid (fun (w2 w3 : World) (hb : Below W.heap.size W w2) (hk3 : Kept (fun b => b = bb) w2 w3) (hbox : Whole w3 bb 86 (bcells (.slice (some ⟨o,0,none⟩) i co) s.dn X.h s.nd s.bad)) => add_pop h hinv ha (.inl hk) hi (by rw [eo,hi]) hb hk3 hbox)
 have HFr : LiesAt (W.alloc (.cells x.cells 57)) o (i * 15) ((s.fr i).cells (us i)):=fun j hj => (FB.cell _).trans (hcur i hi' j (by rw [Fr.cells_size] at hj;exact hj))
 rw [cells_list hm] at HFr HPop
 obtain ⟨ua,uc,eu⟩:=Fr.row_sl (h0.rows i hi')
 rw [eu] at HFr HPop
 rw [ha]
 obtain ⟨T,hT⟩ : ∃ T,addS s x = T:=⟨_,rfl⟩
 rw [hT] at HPop ⊢
 rw [eo,hi] at PB
 generalize (s.fr i).n = un at *
 generalize (s.fr i).key = fkey at *
 generalize (s.fr i).kd = kd at *
 have hic : i <= co:=by omega
 have i3 : ((i : Nat) : Int) <= 47:=by omega
 have i4 : (0 : Int) <= ((i : Nat) : Int):=by omega
 have hwi : IntKind.i64.wrap ((i : Nat) : Int) = i:=by rw [IntKind.wrap_i64];omega
 have hlt : ((i : Nat) : Int) < (i : Int) + 1:=by omega
 have hFo:=FB.lt
 have how : o < W.heap.size:=(h.row.lt (g:=o) (by rw [eo];rfl)).2
 clear h h0 hx hV hV' hinv ha a1 a2 a3 a4 c1 c2 c3 hd0 hm hd48 hi' eo eu hB hdc hco hcs hcur hT hi FB
 obtain ⟨k,key,V⟩:=x
 dsimp only at hk HPop
 subst hk
 simp only [Ev.cells,evc] at hb0 P HSh HFo p16 hbo PB HFr hFo ⊢
 simp only [frc] at HFr
 obtain ⟨c0,c1,c2,c3,c4,c5,c6,c7,c8,c9,c10,c11,c12,c13,c14⟩:=Whole.e15 P
 go_enter Tryd.func23,Tryd.ntmps23
 go_wp2_with fail
 refine HSh.out.mono ?_;rintro _ w1 ⟨rfl,hb1⟩
 have g1:=below_then hb0 hb1
 have P1:=Whole.below P hb1 P.lt
 have B1:=Whole.below PB hb1 hbo
 have HFr1:=HFr.below hb1 hFo
 have hFo1 : o < w1.heap.size:=Nat.lt_of_lt_of_le hFo hb1.size
 clear HFr
 clear HSh hb0 hb1 P p16 hbo PB c0 c1 c2 c3 c4 c5 c6 c7 c8 c9 c10 c11 c12 c13 c14
 obtain ⟨c0,c1,c2,c3,c4,c5,c6,c7,c8,c9,c10,c11,c12,c13,c14⟩:=Whole.e15 P1
 go_wp2_with fail
 refine (HFo.out _ g1).mono ?_;rintro _ w2 ⟨rfl,hb2⟩
 have g2:=below_then g1 hb2
 have P2:=Whole.below P1 hb2 P1.lt
 have B2:=Whole.below B1 hb2 B1.lt
 have HFr2:=HFr1.below hb2 hFo1
 clear HFr1 hFo1 hFo
 clear HFo hb2 g1 P1 B1 c0 c1 c2 c3 c4 c5 c6 c7 c8 c9 c10 c11 c12 c13 c14
 have c0:=Whole.cell P2 0
 have f16:=B2.frozen 16
 have p0:=B2.cell 0
 have p15:=B2.cell 15
 have p16:=B2.cell 16
 simp only [bcells,List.getElem?_toArray,List.getElem?_cons_succ,List.getElem?_cons_zero] at c0 p0 p15 p16
 go_wp2_with fail
 refine wp_region_held_drew (S:=fun V => V.cell? ⟨bb,0,none⟩ = some (.slice (some ⟨o,0,none⟩) (i + 1) co) /\ LiesAt V o (i * 15) #[.int .i64 6,.bool false,.bool false,.string ⟨#[]⟩,.int .i64 0,.int .i64 0,.int .i64 0,.int .i64 0,.int .i64 0,.string ⟨#[]⟩,.slice none 0 0,.slice ua un uc,.slice none 0 0,.string fkey,.bool kd]) (by kernel_rfl) ⟨p0,HFr2⟩ (fun hS => ?_)
 refine tkH (i:=0) rfl (by kernel_rfl) (by rfl) (fun _ _ _ h => h) hS (by intro wS hSw;go_simp;try with_reducible rfl) ?_
 simp only [Act.put,actS]
 refine tkH (i:=1) rfl (by kernel_rfl) (by rfl) (fun _ _ _ h => h) hS (by intro wS hSw;go_simp;try with_reducible rfl) ?_
 simp only [Act.put,actS]
 refine tkH (i:=2) rfl (by kernel_rfl) (by rfl) (fun _ _ _ h => h) hS (by intro wS hSw;go_simp;try with_reducible rfl) ?_
 simp only [Act.put,actS]
 refine tkH (i:=3) rfl (by kernel_rfl) (by rfl) (fun _ _ _ h => h) hS (by intro wS hSw;obtain ⟨s0,-⟩:=hSw;go_simp;try with_reducible rfl) ?_
 simp only [Act.put,actS]
 refine tkH (i:=4) rfl (by kernel_rfl) (by rfl) (fun _ _ _ h => h) hS (by intro wS hSw;go_simp;try with_reducible rfl) ?_
 simp only [Act.put,actS]
 refine tkH (i:=5) rfl (by kernel_rfl) (by rfl) (fun _ _ _ h => h) hS (by intro wS hSw;go_simp;try with_reducible rfl) ?_
 simp only [Act.put,actS]
 refine tkH (i:=6) rfl (by kernel_rfl) (by rfl) (fun _ _ _ h => h) hS (by intro wS hSw;go_simp;try with_reducible rfl) ?_
 simp only [Act.put,actS]
 refine tkH (i:=7) rfl (by kernel_rfl) (by rfl) (fun _ _ _ h => h) hS (by intro wS hSw;obtain ⟨s0,-⟩:=hSw;go_simp;try with_reducible rfl) ?_
 simp only [Act.put,actS]
 refine tkH (i:=8) rfl (by kernel_rfl) (by rfl) (fun _ _ _ h => h) hS (by intro wS hSw;go_simp;try with_reducible rfl) ?_
 simp only [Act.put,actS]
 refine tkH (i:=9) rfl (by kernel_rfl) (by rfl) (fun _ _ _ h => h) hS (by intro wS hSw;go_simp;try with_reducible rfl) ?_
 simp only [Act.put,actS]
 refine tkH (i:=10) rfl (by kernel_rfl) (by rfl) (fun _ _ _ h => h) hS (by intro wS hSw;go_simp;try with_reducible rfl) ?_
 simp only [Act.put,actS]
 refine tkH (i:=11) rfl (by kernel_rfl) (by rfl) (fun _ _ _ h => h) hS (by intro wS hSw;go_simp;try with_reducible rfl) ?_
 simp only [Act.put,actS]
 refine tkH (i:=12) rfl (by kernel_rfl) (by rfl) (fun _ _ _ h => h) hS (by intro wS hSw;obtain ⟨sA,sF⟩:=hSw;have z0:=sF 0 (by simp);have z1:=sF 1 (by simp);have z2:=sF 2 (by simp);have z3:=sF 3 (by simp);have z4:=sF 4 (by simp);have z5:=sF 5 (by simp);have z6:=sF 6 (by simp);have z7:=sF 7 (by simp);have z8:=sF 8 (by simp);have z9:=sF 9 (by simp);have z10:=sF 10 (by simp);have z11:=sF 11 (by simp);have z12:=sF 12 (by simp);simp only [List.getElem?_toArray,List.getElem?_cons_succ,List.getElem?_cons_zero,Nat.add_zero] at z0 z1 z2 z3 z4 z5 z6 z7 z8 z9 z10 z11 z12;go_simp;try with_reducible rfl) ?_
 simp only [Act.put,actS]
 have g3:=g2.drew
 have B3 : Whole w2.drew bb 86 _:=B2
 have hb3:=B3.lt
 have ho3 : o < w2.drew.heap.size:=Nat.lt_of_lt_of_le how g3.size
 clear c0 f16 p0 p15 p16 P2 B2 HFr2 g2
 generalize w2.drew = w3 at *
 refine wpAnyH_ready (rs:=[13]) (by kernel_rfl) (by simp) ?_
 refine AllReadyH.cons rfl (fun KK hK => ?_) AllReadyH.nil
 go_simp
 have q1:=(Below.refl w3.heap.size w3).alloc (Nat.le_refl _) (.cells #[.int .i64 0,.bool false,.bool false,.string ⟨#[]⟩,.int .i64 0,.int .i64 0,.int .i64 0,.int .i64 0,.int .i64 0,.string ⟨#[]⟩,.slice none 0 0,.slice none 0 0,.slice none 0 0] 30)
 have N3:=Whole.new w3 30 #[.int .i64 0,.bool false,.bool false,.string ⟨#[]⟩,.int .i64 0,.int .i64 0,.int .i64 0,.int .i64 0,.int .i64 0,.string ⟨#[]⟩,.slice none 0 0,.slice none 0 0,.slice none 0 0]
 refine hK.out _ _ ⟨(q1.cell (p:=⟨bb,0,none⟩) hb3).trans hS.1,hS.2.below q1 ho3⟩ (fun hS4 => ?_)
 clear hK KK
 try simp only [Act.put,actS]
 refine wpAnyH_ready (rs:=[14]) (by kernel_rfl) (by simp) ?_
 refine AllReadyH.cons rfl (fun KK hK => ?_) AllReadyH.nil
 rw [if_pos (by rfl)]
 refine wp_store_row 30 _ _ rfl (w3.heap.size) #[.int .i64 6,.bool false,.bool false,.string ⟨#[]⟩,.int .i64 0,.int .i64 0,.int .i64 0,.int .i64 0,.int .i64 0,.string ⟨#[]⟩,.slice none 0 0,.slice ua un uc,.slice none 0 0] rfl rfl 30 _ N3 vh_row rfl (by simp [Value.oneCell']) ?_
 have g4:=below_setRow (below_then g3 q1) g3.size #[.int .i64 6,.bool false,.bool false,.string ⟨#[]⟩,.int .i64 0,.int .i64 0,.int .i64 0,.int .i64 0,.int .i64 0,.string ⟨#[]⟩,.slice none 0 0,.slice ua un uc,.slice none 0 0]
 have N4:=Whole.setRow N3 #[.int .i64 6,.bool false,.bool false,.string ⟨#[]⟩,.int .i64 0,.int .i64 0,.int .i64 0,.int .i64 0,.int .i64 0,.string ⟨#[]⟩,.slice none 0 0,.slice ua un uc,.slice none 0 0]
 have B4:=Whole.farRow (B':=w3.heap.size) (B3.below q1 hb3) (fun e => by omega) #[.int .i64 6,.bool false,.bool false,.string ⟨#[]⟩,.int .i64 0,.int .i64 0,.int .i64 0,.int .i64 0,.int .i64 0,.string ⟨#[]⟩,.slice none 0 0,.slice ua un uc,.slice none 0 0]
 obtain ⟨w4,hw4⟩ : ∃ w4,(w3.alloc (.cells #[.int .i64 0,.bool false,.bool false,.string ⟨#[]⟩,.int .i64 0,.int .i64 0,.int .i64 0,.int .i64 0,.int .i64 0,.string ⟨#[]⟩,.slice none 0 0,.slice none 0 0,.slice none 0 0] 30)).setRow w3.heap.size #[.int .i64 6,.bool false,.bool false,.string ⟨#[]⟩,.int .i64 0,.int .i64 0,.int .i64 0,.int .i64 0,.int .i64 0,.string ⟨#[]⟩,.slice none 0 0,.slice ua un uc,.slice none 0 0] = w4:=⟨_,rfl⟩
 rw [hw4] at g4 N4 B4 ⊢
 have hw5 : Below w3.heap.size w3 w4:=hw4 ▸ below_setRow q1 (Nat.le_refl _) _
 clear hw4
 refine hK.out _ _ ⟨(hw5.cell (p:=⟨bb,0,none⟩) hb3).trans hS.1,hS.2.below hw5 ho3⟩ (fun hS5 => ?_)
 clear hK KK
 try simp only [Act.put,actS]
 refine wpAnyH_done (by kernel_rfl) ?_ _
 have hNb : w3.heap.size ≠ bb:=by omega
 have HNB:=Lib.hid hNb
 clear hS hS4 hS5 q1 N3 B3 hb3 ho3 g3 hw5 hNb
 have p0:=B4.cell 0
 simp only [bcells,List.getElem?_toArray,List.getElem?_cons_succ,List.getElem?_cons_zero] at p0
 go_wp2_with fail
 refine wp_region_held_drew (S:=fun _ => True) (by kernel_rfl) trivial (fun hS => ?_)
 refine tkH (i:=0) rfl (by kernel_rfl) (by rfl) (fun _ _ _ h => h) hS (by intro wS hSw;go_simp;try with_reducible rfl) ?_
 simp only [Act.put,actS]
 refine tkH (i:=1) rfl (by kernel_rfl) (by rfl) (fun _ _ _ h => h) hS (by intro wS hSw;go_simp;try with_reducible rfl) ?_
 simp only [Act.put,actS]
 refine tkH (i:=2) rfl (by kernel_rfl) (by rfl) (fun _ _ _ h => h) hS (by intro wS hSw;go_simp;try with_reducible rfl) ?_
 simp only [Act.put,actS]
 refine tkH (i:=3) rfl (by kernel_rfl) (by rfl) (fun _ _ _ h => h) hS (by intro wS hSw;go_simp;try with_reducible rfl) ?_
 simp only [Act.put,actS]
 refine tkH (i:=5) rfl (by kernel_rfl) (by rfl) (fun _ _ _ h => h) hS (by intro wS hSw;go_simp;try with_reducible rfl) ?_
 simp only [Act.put,actS]
 refine tkH (i:=6) rfl (by kernel_rfl) (by rfl) (fun _ _ _ h => h) hS (by intro wS hSw;go_simp;try with_reducible rfl) ?_
 simp only [Act.put,actS]
 refine tkH (i:=7) rfl (by kernel_rfl) (by rfl) (fun _ _ _ h => h) hS (by intro wS hSw;go_simp;try with_reducible rfl) ?_
 simp only [Act.put,actS]
 have g5:=g4.drew
 have B5 : Whole w4.drew bb 86 _:=B4
 have N5 : Whole w4.drew w3.heap.size 30 _:=N4
 have p0' : w4.drew.cell? ⟨bb,0,none⟩ = some (.slice (some ⟨o,0,none⟩) (i + 1) co):=p0
 clear p0 g4 B4 N4
 generalize w4.drew = w5 at *
 apply cutAt
 ·intro E
  refine wpAnyH_ready (rs:=[4,8]) (by kernel_rfl) (by simp) ?_
  refine (AllReadyH.cons rfl (fun KK hK => ?_) (AllReadyH.cons rfl (fun KK hK => ?_) AllReadyH.nil))
  ·go_simp
   refine hK.out _ _ trivial (fun hS2 => ?_)
   clear hK KK
   try simp only [Act.put,actS]
   refine wpAnyH_ready (rs:=[8]) (by kernel_rfl) (by simp) ?_
   refine AllReadyH.cons rfl (fun KK hK => ?_) AllReadyH.nil
   go_simp
   refine hK.out _ _ trivial (fun hS3 => ?_)
   clear hK KK
   try simp only [Act.put,actS]
   refine tkH (i:=9) rfl (by kernel_rfl) (by rfl) (fun _ _ _ h => h) hS3 (by intro wS hSw;go_simp;try with_reducible rfl) ?_
   simp only [Act.put,actS]
   refine tkH (i:=10) rfl (by kernel_rfl) (by rfl) (fun _ _ _ h => h) hS3 (by intro wS hSw;go_simp;try with_reducible rfl) ?_
   simp only [Act.put,actS]
   exact E
  ·go_simp
   refine hK.out _ _ trivial (fun hS2 => ?_)
   clear hK KK
   try simp only [Act.put,actS]
   refine tkH (i:=9) rfl (by kernel_rfl) (by rfl) (fun _ _ _ h => h) hS2 (by intro wS hSw;go_simp;try with_reducible rfl) ?_
   simp only [Act.put,actS]
   refine tkH (i:=10) rfl (by kernel_rfl) (by rfl) (fun _ _ _ h => h) hS2 (by intro wS hSw;go_simp;try with_reducible rfl) ?_
   simp only [Act.put,actS]
   refine wpAnyH_ready (rs:=[4]) (by kernel_rfl) (by simp) ?_
   refine AllReadyH.cons rfl (fun KK hK => ?_) AllReadyH.nil
   go_simp
   refine hK.out _ _ trivial (fun hS3 => ?_)
   clear hK KK
   try simp only [Act.put,actS]
   exact E
 refine tkH (i:=11) rfl (by kernel_rfl) (by rfl) (fun _ _ _ h => h) hS (by intro wS hSw;go_simp;try with_reducible rfl) ?_
 simp only [Act.put,actS]
 refine tkH (i:=12) rfl (by kernel_rfl) (by rfl) (fun _ _ _ h => h) hS (by intro wS hSw;go_simp;try with_reducible rfl) ?_
 simp only [Act.put,actS]
 refine tkH (i:=13) rfl (by kernel_rfl) (by rfl) (fun _ _ _ h => h) hS (by intro wS hSw;go_simp;try with_reducible rfl) ?_
 simp only [Act.put,actS]
 have f0:=B5.frozen 0
 refine wpAnyH_ready (rs:=[14]) (by kernel_rfl) (by simp) ?_
 refine AllReadyH.cons rfl (fun KK hK => ?_) AllReadyH.nil
 go_simp
 have B6 : Whole (w5.setCell ⟨bb,0,none⟩ (.slice (some ⟨o,0,none⟩) i co)) bb 86 (bcells (.slice (some ⟨o,0,none⟩) i co) s.dn X.h s.nd s.bad):=B5.set 0 (.slice (some ⟨o,0,none⟩) i co)
 have N6:=Whole.far (p:=⟨bb,0,none⟩) N5 (fun e => HNB.out e) (.slice (some ⟨o,0,none⟩) i co)
 have K6:=kept_set (fun b => b = bb) w5 bb 0 (.slice (some ⟨o,0,none⟩) i co) rfl
 have HP:=Lib.hid (HPop.out w5 _ g5 K6 B6)
 refine hK.out _ _ trivial (fun hS4 => ?_)
 clear hK KK
 try simp only [Act.put,actS]
 refine wpAnyH_done (by kernel_rfl) ?_ _
 simp only [frc,List.extract_toArray,List.extract,List.drop_zero,List.take_succ_cons,List.take_zero,Nat.sub_zero] at HP
 obtain ⟨w6,hw6⟩ : ∃ w6,w5.setCell ⟨bb,0,none⟩ (.slice (some ⟨o,0,none⟩) i co) = w6:=⟨_,rfl⟩
 rw [hw6] at HP N6 ⊢
 clear hw6 B6 K6 B5 N5 g5 f0 p0' HPop
 obtain ⟨x0,x1,x2,x3,x4,x5,x6,x7,x8,x9,x10,x11,x12⟩ : w6.cell? ⟨w3.heap.size,0,none⟩ = (#[.int .i64 6,.bool false,.bool false,.string ⟨#[]⟩,.int .i64 0,.int .i64 0,.int .i64 0,.int .i64 0,.int .i64 0,.string ⟨#[]⟩,.slice none 0 0,.slice ua un uc,.slice none 0 0] : Array Value)[0]? /\ w6.cell? ⟨w3.heap.size,1,none⟩ = (#[.int .i64 6,.bool false,.bool false,.string ⟨#[]⟩,.int .i64 0,.int .i64 0,.int .i64 0,.int .i64 0,.int .i64 0,.string ⟨#[]⟩,.slice none 0 0,.slice ua un uc,.slice none 0 0] : Array Value)[1]? /\ w6.cell? ⟨w3.heap.size,2,none⟩ = (#[.int .i64 6,.bool false,.bool false,.string ⟨#[]⟩,.int .i64 0,.int .i64 0,.int .i64 0,.int .i64 0,.int .i64 0,.string ⟨#[]⟩,.slice none 0 0,.slice ua un uc,.slice none 0 0] : Array Value)[2]? /\ w6.cell? ⟨w3.heap.size,3,none⟩ = (#[.int .i64 6,.bool false,.bool false,.string ⟨#[]⟩,.int .i64 0,.int .i64 0,.int .i64 0,.int .i64 0,.int .i64 0,.string ⟨#[]⟩,.slice none 0 0,.slice ua un uc,.slice none 0 0] : Array Value)[3]? /\ w6.cell? ⟨w3.heap.size,4,none⟩ = (#[.int .i64 6,.bool false,.bool false,.string ⟨#[]⟩,.int .i64 0,.int .i64 0,.int .i64 0,.int .i64 0,.int .i64 0,.string ⟨#[]⟩,.slice none 0 0,.slice ua un uc,.slice none 0 0] : Array Value)[4]? /\ w6.cell? ⟨w3.heap.size,5,none⟩ = (#[.int .i64 6,.bool false,.bool false,.string ⟨#[]⟩,.int .i64 0,.int .i64 0,.int .i64 0,.int .i64 0,.int .i64 0,.string ⟨#[]⟩,.slice none 0 0,.slice ua un uc,.slice none 0 0] : Array Value)[5]? /\ w6.cell? ⟨w3.heap.size,6,none⟩ = (#[.int .i64 6,.bool false,.bool false,.string ⟨#[]⟩,.int .i64 0,.int .i64 0,.int .i64 0,.int .i64 0,.int .i64 0,.string ⟨#[]⟩,.slice none 0 0,.slice ua un uc,.slice none 0 0] : Array Value)[6]? /\ w6.cell? ⟨w3.heap.size,7,none⟩ = (#[.int .i64 6,.bool false,.bool false,.string ⟨#[]⟩,.int .i64 0,.int .i64 0,.int .i64 0,.int .i64 0,.int .i64 0,.string ⟨#[]⟩,.slice none 0 0,.slice ua un uc,.slice none 0 0] : Array Value)[7]? /\ w6.cell? ⟨w3.heap.size,8,none⟩ = (#[.int .i64 6,.bool false,.bool false,.string ⟨#[]⟩,.int .i64 0,.int .i64 0,.int .i64 0,.int .i64 0,.int .i64 0,.string ⟨#[]⟩,.slice none 0 0,.slice ua un uc,.slice none 0 0] : Array Value)[8]? /\ w6.cell? ⟨w3.heap.size,9,none⟩ = (#[.int .i64 6,.bool false,.bool false,.string ⟨#[]⟩,.int .i64 0,.int .i64 0,.int .i64 0,.int .i64 0,.int .i64 0,.string ⟨#[]⟩,.slice none 0 0,.slice ua un uc,.slice none 0 0] : Array Value)[9]? /\ w6.cell? ⟨w3.heap.size,10,none⟩ = (#[.int .i64 6,.bool false,.bool false,.string ⟨#[]⟩,.int .i64 0,.int .i64 0,.int .i64 0,.int .i64 0,.int .i64 0,.string ⟨#[]⟩,.slice none 0 0,.slice ua un uc,.slice none 0 0] : Array Value)[10]? /\ w6.cell? ⟨w3.heap.size,11,none⟩ = (#[.int .i64 6,.bool false,.bool false,.string ⟨#[]⟩,.int .i64 0,.int .i64 0,.int .i64 0,.int .i64 0,.int .i64 0,.string ⟨#[]⟩,.slice none 0 0,.slice ua un uc,.slice none 0 0] : Array Value)[11]? /\ w6.cell? ⟨w3.heap.size,12,none⟩ = (#[.int .i64 6,.bool false,.bool false,.string ⟨#[]⟩,.int .i64 0,.int .i64 0,.int .i64 0,.int .i64 0,.int .i64 0,.string ⟨#[]⟩,.slice none 0 0,.slice ua un uc,.slice none 0 0] : Array Value)[12]?:=⟨N6.cell 0,N6.cell 1,N6.cell 2,N6.cell 3,N6.cell 4,N6.cell 5,N6.cell 6,N6.cell 7,N6.cell 8,N6.cell 9,N6.cell 10,N6.cell 11,N6.cell 12⟩
 simp only [List.getElem?_toArray,List.getElem?_cons_succ,List.getElem?_cons_zero] at x0 x1 x2 x3 x4 x5 x6 x7 x8 x9 x10 x11 x12
 clear N6
 go_wp2_with fail
 refine HP.out.mono ?_;rintro _ w7 ⟨rfl,hE⟩
 have HE:=Lib.hid hE
 clear hE HP x0 x1 x2 x3 x4 x5 x6 x7 x8 x9 x10 x11 x12
 go_wp2
 go_ret
 exact HE.out
theorem add_end5 {B0 bb : Nat} {A O : Nat -> Prop} {W : World} {s : Bst} {x : Ev} (h : BInv B0 bb A O W s) (hinv : s.inv) (hx : x.ok) (hV : x.V.In W B0) (hB0 : B0 <= W.heap.size) (ha : addE s x = 0) (hk : x.k = 5) :
 Calls Tryd.prog 23 #[.pointer (some ⟨bb,0,none⟩),.agg x.cells] W (BOut B0 bb A O W (addS s x) (.int .i64 (addE s x))):=by
 obtain ⟨a1,a2,a3,a4⟩:=addE_ok ha
 obtain ⟨ov,us,X,h⟩:=h
 have hV' : x.V.In W W.heap.size:=hV.up hB0
 have hb0:=(Below.refl W.heap.size W).alloc (Nat.le_refl _) (.cells x.cells 57)
 have h0:=h.later hb0
 have P:=Whole.new W 57 x.cells
 have HSh:=Lib.hid (shape_any (x:=x) (top:=W.heap.size) (w:=W.alloc (.cells x.cells 57)) hx (Vt.In.below hb0 hV') hb0.size)
 have HFo:=Lib.hid (fun (w1 : World) (hb : Below W.heap.size W w1) => fol_any (x:=x) (BInv.later ⟨ov,us,X,h⟩ hb) hx)
 have p16:=h0.box.cell 16
 rw [a1] at p16
 simp only [bcells,List.getElem?_toArray,List.getElem?_cons_succ,List.getElem?_cons_zero] at p16
 have hbo:=h0.box.lt
 have hbw:=h.box.lt
 have PB:=h0.box
 rw [a2] at HSh
 rw [a3] at HFo
 obtain ⟨c1,c2,c3⟩:=followE_ok a3
 have hd0 : 0 < s.d:=Nat.pos_of_ne_zero fun q => by have:=c2 q;omega
 obtain ⟨i,hi⟩ : ∃ i,s.d = i + 1:=⟨s.d - 1,by omega⟩
 have hm:=(c3 hd0).2.2.1 hk |>.1
 rw [show s.d - 1 = i by omega] at hm
 have hd48:=h.ok.d
 have hi' : i < s.d:=by omega
 obtain ⟨o,co,cur,eo,FB,hB,hdc,hco,hcs,hcur⟩:=h0.row.op (by omega)
 have HPop:=Lib.hid (fun (w2 w3 : World) (hb : Below W.heap.size W w2) (hk3 : Kept (fun b => b = bb) w2 w3) (hbox : Whole w3 bb 86 (bcells (.slice (some ⟨o,0,none⟩) i co) s.dn X.h s.nd s.bad)) => add_pop h hinv ha (.inr hk) hi (by rw [eo,hi]) hb hk3 hbox)
 have HFr : LiesAt (W.alloc (.cells x.cells 57)) o (i * 15) ((s.fr i).cells (us i)):=fun j hj => (FB.cell _).trans (hcur i hi' j (by rw [Fr.cells_size] at hj;exact hj))
 rw [cells_map hm] at HFr HPop
 obtain ⟨ua,uc,eu⟩:=Fr.row_sl (h0.rows i hi')
 rw [eu] at HFr HPop
 rw [ha]
 obtain ⟨T,hT⟩ : ∃ T,addS s x = T:=⟨_,rfl⟩
 rw [hT] at HPop ⊢
 rw [eo,hi] at PB
 generalize (s.fr i).n = un at *
 generalize (s.fr i).key = fkey at *
 generalize (s.fr i).kd = kd at *
 have hic : i <= co:=by omega
 have i3 : ((i : Nat) : Int) <= 47:=by omega
 have i4 : (0 : Int) <= ((i : Nat) : Int):=by omega
 have hwi : IntKind.i64.wrap ((i : Nat) : Int) = i:=by rw [IntKind.wrap_i64];omega
 have hlt : ((i : Nat) : Int) < (i : Int) + 1:=by omega
 have hFo:=FB.lt
 have how : o < W.heap.size:=(h.row.lt (g:=o) (by rw [eo];rfl)).2
 clear h h0 hx hV hV' hinv ha a1 a2 a3 a4 c1 c2 c3 hd0 hm hd48 hi' eo eu hB hdc hco hcs hcur hT hi FB
 obtain ⟨k,key,V⟩:=x
 dsimp only at hk HPop
 subst hk
 simp only [Ev.cells,evc] at hb0 P HSh HFo p16 hbo PB HFr hFo ⊢
 simp only [frc] at HFr
 obtain ⟨c0,c1,c2,c3,c4,c5,c6,c7,c8,c9,c10,c11,c12,c13,c14⟩:=Whole.e15 P
 go_enter Tryd.func23,Tryd.ntmps23
 go_wp2_with fail
 refine HSh.out.mono ?_;rintro _ w1 ⟨rfl,hb1⟩
 have g1:=below_then hb0 hb1
 have P1:=Whole.below P hb1 P.lt
 have B1:=Whole.below PB hb1 hbo
 have HFr1:=HFr.below hb1 hFo
 have hFo1 : o < w1.heap.size:=Nat.lt_of_lt_of_le hFo hb1.size
 clear HFr
 clear HSh hb0 hb1 P p16 hbo PB c0 c1 c2 c3 c4 c5 c6 c7 c8 c9 c10 c11 c12 c13 c14
 obtain ⟨c0,c1,c2,c3,c4,c5,c6,c7,c8,c9,c10,c11,c12,c13,c14⟩:=Whole.e15 P1
 go_wp2_with fail
 refine (HFo.out _ g1).mono ?_;rintro _ w2 ⟨rfl,hb2⟩
 have g2:=below_then g1 hb2
 have P2:=Whole.below P1 hb2 P1.lt
 have B2:=Whole.below B1 hb2 B1.lt
 have HFr2:=HFr1.below hb2 hFo1
 clear HFr1 hFo1 hFo
 clear HFo hb2 g1 P1 B1 c0 c1 c2 c3 c4 c5 c6 c7 c8 c9 c10 c11 c12 c13 c14
 have c0:=Whole.cell P2 0
 have f16:=B2.frozen 16
 have p0:=B2.cell 0
 have p15:=B2.cell 15
 have p16:=B2.cell 16
 simp only [bcells,List.getElem?_toArray,List.getElem?_cons_succ,List.getElem?_cons_zero] at c0 p0 p15 p16
 go_wp2_with fail
 refine wp_region_held_drew (S:=fun V => V.cell? ⟨bb,0,none⟩ = some (.slice (some ⟨o,0,none⟩) (i + 1) co) /\ LiesAt V o (i * 15) #[.int .i64 7,.bool false,.bool false,.string ⟨#[]⟩,.int .i64 0,.int .i64 0,.int .i64 0,.int .i64 0,.int .i64 0,.string ⟨#[]⟩,.slice none 0 0,.slice none 0 0,.slice ua un uc,.string fkey,.bool kd]) (by kernel_rfl) ⟨p0,HFr2⟩ (fun hS => ?_)
 refine tkH (i:=0) rfl (by kernel_rfl) (by rfl) (fun _ _ _ h => h) hS (by intro wS hSw;go_simp;try with_reducible rfl) ?_
 simp only [Act.put,actS]
 refine tkH (i:=1) rfl (by kernel_rfl) (by rfl) (fun _ _ _ h => h) hS (by intro wS hSw;go_simp;try with_reducible rfl) ?_
 simp only [Act.put,actS]
 refine tkH (i:=2) rfl (by kernel_rfl) (by rfl) (fun _ _ _ h => h) hS (by intro wS hSw;go_simp;try with_reducible rfl) ?_
 simp only [Act.put,actS]
 refine tkH (i:=3) rfl (by kernel_rfl) (by rfl) (fun _ _ _ h => h) hS (by intro wS hSw;obtain ⟨s0,-⟩:=hSw;go_simp;try with_reducible rfl) ?_
 simp only [Act.put,actS]
 refine tkH (i:=4) rfl (by kernel_rfl) (by rfl) (fun _ _ _ h => h) hS (by intro wS hSw;go_simp;try with_reducible rfl) ?_
 simp only [Act.put,actS]
 refine tkH (i:=5) rfl (by kernel_rfl) (by rfl) (fun _ _ _ h => h) hS (by intro wS hSw;go_simp;try with_reducible rfl) ?_
 simp only [Act.put,actS]
 refine tkH (i:=6) rfl (by kernel_rfl) (by rfl) (fun _ _ _ h => h) hS (by intro wS hSw;go_simp;try with_reducible rfl) ?_
 simp only [Act.put,actS]
 refine tkH (i:=7) rfl (by kernel_rfl) (by rfl) (fun _ _ _ h => h) hS (by intro wS hSw;obtain ⟨s0,-⟩:=hSw;go_simp;try with_reducible rfl) ?_
 simp only [Act.put,actS]
 refine tkH (i:=8) rfl (by kernel_rfl) (by rfl) (fun _ _ _ h => h) hS (by intro wS hSw;go_simp;try with_reducible rfl) ?_
 simp only [Act.put,actS]
 refine tkH (i:=9) rfl (by kernel_rfl) (by rfl) (fun _ _ _ h => h) hS (by intro wS hSw;go_simp;try with_reducible rfl) ?_
 simp only [Act.put,actS]
 refine tkH (i:=10) rfl (by kernel_rfl) (by rfl) (fun _ _ _ h => h) hS (by intro wS hSw;go_simp;try with_reducible rfl) ?_
 simp only [Act.put,actS]
 refine tkH (i:=11) rfl (by kernel_rfl) (by rfl) (fun _ _ _ h => h) hS (by intro wS hSw;go_simp;try with_reducible rfl) ?_
 simp only [Act.put,actS]
 refine tkH (i:=12) rfl (by kernel_rfl) (by rfl) (fun _ _ _ h => h) hS (by intro wS hSw;obtain ⟨sA,sF⟩:=hSw;have z0:=sF 0 (by simp);have z1:=sF 1 (by simp);have z2:=sF 2 (by simp);have z3:=sF 3 (by simp);have z4:=sF 4 (by simp);have z5:=sF 5 (by simp);have z6:=sF 6 (by simp);have z7:=sF 7 (by simp);have z8:=sF 8 (by simp);have z9:=sF 9 (by simp);have z10:=sF 10 (by simp);have z11:=sF 11 (by simp);have z12:=sF 12 (by simp);simp only [List.getElem?_toArray,List.getElem?_cons_succ,List.getElem?_cons_zero,Nat.add_zero] at z0 z1 z2 z3 z4 z5 z6 z7 z8 z9 z10 z11 z12;go_simp;try with_reducible rfl) ?_
 simp only [Act.put,actS]
 have g3:=g2.drew
 have B3 : Whole w2.drew bb 86 _:=B2
 have hb3:=B3.lt
 have ho3 : o < w2.drew.heap.size:=Nat.lt_of_lt_of_le how g3.size
 clear c0 f16 p0 p15 p16 P2 B2 HFr2 g2
 generalize w2.drew = w3 at *
 refine wpAnyH_ready (rs:=[13]) (by kernel_rfl) (by simp) ?_
 refine AllReadyH.cons rfl (fun KK hK => ?_) AllReadyH.nil
 go_simp
 have q1:=(Below.refl w3.heap.size w3).alloc (Nat.le_refl _) (.cells #[.int .i64 0,.bool false,.bool false,.string ⟨#[]⟩,.int .i64 0,.int .i64 0,.int .i64 0,.int .i64 0,.int .i64 0,.string ⟨#[]⟩,.slice none 0 0,.slice none 0 0,.slice none 0 0] 30)
 have N3:=Whole.new w3 30 #[.int .i64 0,.bool false,.bool false,.string ⟨#[]⟩,.int .i64 0,.int .i64 0,.int .i64 0,.int .i64 0,.int .i64 0,.string ⟨#[]⟩,.slice none 0 0,.slice none 0 0,.slice none 0 0]
 refine hK.out _ _ ⟨(q1.cell (p:=⟨bb,0,none⟩) hb3).trans hS.1,hS.2.below q1 ho3⟩ (fun hS4 => ?_)
 clear hK KK
 try simp only [Act.put,actS]
 refine wpAnyH_ready (rs:=[14]) (by kernel_rfl) (by simp) ?_
 refine AllReadyH.cons rfl (fun KK hK => ?_) AllReadyH.nil
 rw [if_pos (by rfl)]
 refine wp_store_row 30 _ _ rfl (w3.heap.size) #[.int .i64 7,.bool false,.bool false,.string ⟨#[]⟩,.int .i64 0,.int .i64 0,.int .i64 0,.int .i64 0,.int .i64 0,.string ⟨#[]⟩,.slice none 0 0,.slice none 0 0,.slice ua un uc] rfl rfl 30 _ N3 vh_row rfl (by simp [Value.oneCell']) ?_
 have g4:=below_setRow (below_then g3 q1) g3.size #[.int .i64 7,.bool false,.bool false,.string ⟨#[]⟩,.int .i64 0,.int .i64 0,.int .i64 0,.int .i64 0,.int .i64 0,.string ⟨#[]⟩,.slice none 0 0,.slice none 0 0,.slice ua un uc]
 have N4:=Whole.setRow N3 #[.int .i64 7,.bool false,.bool false,.string ⟨#[]⟩,.int .i64 0,.int .i64 0,.int .i64 0,.int .i64 0,.int .i64 0,.string ⟨#[]⟩,.slice none 0 0,.slice none 0 0,.slice ua un uc]
 have B4:=Whole.farRow (B':=w3.heap.size) (B3.below q1 hb3) (fun e => by omega) #[.int .i64 7,.bool false,.bool false,.string ⟨#[]⟩,.int .i64 0,.int .i64 0,.int .i64 0,.int .i64 0,.int .i64 0,.string ⟨#[]⟩,.slice none 0 0,.slice none 0 0,.slice ua un uc]
 obtain ⟨w4,hw4⟩ : ∃ w4,(w3.alloc (.cells #[.int .i64 0,.bool false,.bool false,.string ⟨#[]⟩,.int .i64 0,.int .i64 0,.int .i64 0,.int .i64 0,.int .i64 0,.string ⟨#[]⟩,.slice none 0 0,.slice none 0 0,.slice none 0 0] 30)).setRow w3.heap.size #[.int .i64 7,.bool false,.bool false,.string ⟨#[]⟩,.int .i64 0,.int .i64 0,.int .i64 0,.int .i64 0,.int .i64 0,.string ⟨#[]⟩,.slice none 0 0,.slice none 0 0,.slice ua un uc] = w4:=⟨_,rfl⟩
 rw [hw4] at g4 N4 B4 ⊢
 have hw5 : Below w3.heap.size w3 w4:=hw4 ▸ below_setRow q1 (Nat.le_refl _) _
 clear hw4
 refine hK.out _ _ ⟨(hw5.cell (p:=⟨bb,0,none⟩) hb3).trans hS.1,hS.2.below hw5 ho3⟩ (fun hS5 => ?_)
 clear hK KK
 try simp only [Act.put,actS]
 refine wpAnyH_done (by kernel_rfl) ?_ _
 have hNb : w3.heap.size ≠ bb:=by omega
 have HNB:=Lib.hid hNb
 clear hS hS4 hS5 q1 N3 B3 hb3 ho3 g3 hw5 hNb
 have p0:=B4.cell 0
 simp only [bcells,List.getElem?_toArray,List.getElem?_cons_succ,List.getElem?_cons_zero] at p0
 go_wp2_with fail
 refine wp_region_held_drew (S:=fun _ => True) (by kernel_rfl) trivial (fun hS => ?_)
 refine tkH (i:=0) rfl (by kernel_rfl) (by rfl) (fun _ _ _ h => h) hS (by intro wS hSw;go_simp;try with_reducible rfl) ?_
 simp only [Act.put,actS]
 refine tkH (i:=1) rfl (by kernel_rfl) (by rfl) (fun _ _ _ h => h) hS (by intro wS hSw;go_simp;try with_reducible rfl) ?_
 simp only [Act.put,actS]
 refine tkH (i:=2) rfl (by kernel_rfl) (by rfl) (fun _ _ _ h => h) hS (by intro wS hSw;go_simp;try with_reducible rfl) ?_
 simp only [Act.put,actS]
 refine tkH (i:=3) rfl (by kernel_rfl) (by rfl) (fun _ _ _ h => h) hS (by intro wS hSw;go_simp;try with_reducible rfl) ?_
 simp only [Act.put,actS]
 refine tkH (i:=5) rfl (by kernel_rfl) (by rfl) (fun _ _ _ h => h) hS (by intro wS hSw;go_simp;try with_reducible rfl) ?_
 simp only [Act.put,actS]
 refine tkH (i:=6) rfl (by kernel_rfl) (by rfl) (fun _ _ _ h => h) hS (by intro wS hSw;go_simp;try with_reducible rfl) ?_
 simp only [Act.put,actS]
 refine tkH (i:=7) rfl (by kernel_rfl) (by rfl) (fun _ _ _ h => h) hS (by intro wS hSw;go_simp;try with_reducible rfl) ?_
 simp only [Act.put,actS]
 have g5:=g4.drew
 have B5 : Whole w4.drew bb 86 _:=B4
 have N5 : Whole w4.drew w3.heap.size 30 _:=N4
 have p0' : w4.drew.cell? ⟨bb,0,none⟩ = some (.slice (some ⟨o,0,none⟩) (i + 1) co):=p0
 clear p0 g4 B4 N4
 generalize w4.drew = w5 at *
 apply cutAt
 ·intro E
  refine wpAnyH_ready (rs:=[4,8]) (by kernel_rfl) (by simp) ?_
  refine (AllReadyH.cons rfl (fun KK hK => ?_) (AllReadyH.cons rfl (fun KK hK => ?_) AllReadyH.nil))
  ·go_simp
   refine hK.out _ _ trivial (fun hS2 => ?_)
   clear hK KK
   try simp only [Act.put,actS]
   refine wpAnyH_ready (rs:=[8]) (by kernel_rfl) (by simp) ?_
   refine AllReadyH.cons rfl (fun KK hK => ?_) AllReadyH.nil
   go_simp
   refine hK.out _ _ trivial (fun hS3 => ?_)
   clear hK KK
   try simp only [Act.put,actS]
   refine tkH (i:=9) rfl (by kernel_rfl) (by rfl) (fun _ _ _ h => h) hS3 (by intro wS hSw;go_simp;try with_reducible rfl) ?_
   simp only [Act.put,actS]
   refine tkH (i:=10) rfl (by kernel_rfl) (by rfl) (fun _ _ _ h => h) hS3 (by intro wS hSw;go_simp;try with_reducible rfl) ?_
   simp only [Act.put,actS]
   exact E
  ·go_simp
   refine hK.out _ _ trivial (fun hS2 => ?_)
   clear hK KK
   try simp only [Act.put,actS]
   refine tkH (i:=9) rfl (by kernel_rfl) (by rfl) (fun _ _ _ h => h) hS2 (by intro wS hSw;go_simp;try with_reducible rfl) ?_
   simp only [Act.put,actS]
   refine tkH (i:=10) rfl (by kernel_rfl) (by rfl) (fun _ _ _ h => h) hS2 (by intro wS hSw;go_simp;try with_reducible rfl) ?_
   simp only [Act.put,actS]
   refine wpAnyH_ready (rs:=[4]) (by kernel_rfl) (by simp) ?_
   refine AllReadyH.cons rfl (fun KK hK => ?_) AllReadyH.nil
   go_simp
   refine hK.out _ _ trivial (fun hS3 => ?_)
   clear hK KK
   try simp only [Act.put,actS]
   exact E
 refine tkH (i:=11) rfl (by kernel_rfl) (by rfl) (fun _ _ _ h => h) hS (by intro wS hSw;go_simp;try with_reducible rfl) ?_
 simp only [Act.put,actS]
 refine tkH (i:=12) rfl (by kernel_rfl) (by rfl) (fun _ _ _ h => h) hS (by intro wS hSw;go_simp;try with_reducible rfl) ?_
 simp only [Act.put,actS]
 refine tkH (i:=13) rfl (by kernel_rfl) (by rfl) (fun _ _ _ h => h) hS (by intro wS hSw;go_simp;try with_reducible rfl) ?_
 simp only [Act.put,actS]
 have f0:=B5.frozen 0
 refine wpAnyH_ready (rs:=[14]) (by kernel_rfl) (by simp) ?_
 refine AllReadyH.cons rfl (fun KK hK => ?_) AllReadyH.nil
 go_simp
 have B6 : Whole (w5.setCell ⟨bb,0,none⟩ (.slice (some ⟨o,0,none⟩) i co)) bb 86 (bcells (.slice (some ⟨o,0,none⟩) i co) s.dn X.h s.nd s.bad):=B5.set 0 (.slice (some ⟨o,0,none⟩) i co)
 have N6:=Whole.far (p:=⟨bb,0,none⟩) N5 (fun e => HNB.out e) (.slice (some ⟨o,0,none⟩) i co)
 have K6:=kept_set (fun b => b = bb) w5 bb 0 (.slice (some ⟨o,0,none⟩) i co) rfl
 have HP:=Lib.hid (HPop.out w5 _ g5 K6 B6)
 refine hK.out _ _ trivial (fun hS4 => ?_)
 clear hK KK
 try simp only [Act.put,actS]
 refine wpAnyH_done (by kernel_rfl) ?_ _
 simp only [frc,List.extract_toArray,List.extract,List.drop_zero,List.take_succ_cons,List.take_zero,Nat.sub_zero] at HP
 obtain ⟨w6,hw6⟩ : ∃ w6,w5.setCell ⟨bb,0,none⟩ (.slice (some ⟨o,0,none⟩) i co) = w6:=⟨_,rfl⟩
 rw [hw6] at HP N6 ⊢
 clear hw6 B6 K6 B5 N5 g5 f0 p0' HPop
 obtain ⟨x0,x1,x2,x3,x4,x5,x6,x7,x8,x9,x10,x11,x12⟩ : w6.cell? ⟨w3.heap.size,0,none⟩ = (#[.int .i64 7,.bool false,.bool false,.string ⟨#[]⟩,.int .i64 0,.int .i64 0,.int .i64 0,.int .i64 0,.int .i64 0,.string ⟨#[]⟩,.slice none 0 0,.slice none 0 0,.slice ua un uc] : Array Value)[0]? /\ w6.cell? ⟨w3.heap.size,1,none⟩ = (#[.int .i64 7,.bool false,.bool false,.string ⟨#[]⟩,.int .i64 0,.int .i64 0,.int .i64 0,.int .i64 0,.int .i64 0,.string ⟨#[]⟩,.slice none 0 0,.slice none 0 0,.slice ua un uc] : Array Value)[1]? /\ w6.cell? ⟨w3.heap.size,2,none⟩ = (#[.int .i64 7,.bool false,.bool false,.string ⟨#[]⟩,.int .i64 0,.int .i64 0,.int .i64 0,.int .i64 0,.int .i64 0,.string ⟨#[]⟩,.slice none 0 0,.slice none 0 0,.slice ua un uc] : Array Value)[2]? /\ w6.cell? ⟨w3.heap.size,3,none⟩ = (#[.int .i64 7,.bool false,.bool false,.string ⟨#[]⟩,.int .i64 0,.int .i64 0,.int .i64 0,.int .i64 0,.int .i64 0,.string ⟨#[]⟩,.slice none 0 0,.slice none 0 0,.slice ua un uc] : Array Value)[3]? /\ w6.cell? ⟨w3.heap.size,4,none⟩ = (#[.int .i64 7,.bool false,.bool false,.string ⟨#[]⟩,.int .i64 0,.int .i64 0,.int .i64 0,.int .i64 0,.int .i64 0,.string ⟨#[]⟩,.slice none 0 0,.slice none 0 0,.slice ua un uc] : Array Value)[4]? /\ w6.cell? ⟨w3.heap.size,5,none⟩ = (#[.int .i64 7,.bool false,.bool false,.string ⟨#[]⟩,.int .i64 0,.int .i64 0,.int .i64 0,.int .i64 0,.int .i64 0,.string ⟨#[]⟩,.slice none 0 0,.slice none 0 0,.slice ua un uc] : Array Value)[5]? /\ w6.cell? ⟨w3.heap.size,6,none⟩ = (#[.int .i64 7,.bool false,.bool false,.string ⟨#[]⟩,.int .i64 0,.int .i64 0,.int .i64 0,.int .i64 0,.int .i64 0,.string ⟨#[]⟩,.slice none 0 0,.slice none 0 0,.slice ua un uc] : Array Value)[6]? /\ w6.cell? ⟨w3.heap.size,7,none⟩ = (#[.int .i64 7,.bool false,.bool false,.string ⟨#[]⟩,.int .i64 0,.int .i64 0,.int .i64 0,.int .i64 0,.int .i64 0,.string ⟨#[]⟩,.slice none 0 0,.slice none 0 0,.slice ua un uc] : Array Value)[7]? /\ w6.cell? ⟨w3.heap.size,8,none⟩ = (#[.int .i64 7,.bool false,.bool false,.string ⟨#[]⟩,.int .i64 0,.int .i64 0,.int .i64 0,.int .i64 0,.int .i64 0,.string ⟨#[]⟩,.slice none 0 0,.slice none 0 0,.slice ua un uc] : Array Value)[8]? /\ w6.cell? ⟨w3.heap.size,9,none⟩ = (#[.int .i64 7,.bool false,.bool false,.string ⟨#[]⟩,.int .i64 0,.int .i64 0,.int .i64 0,.int .i64 0,.int .i64 0,.string ⟨#[]⟩,.slice none 0 0,.slice none 0 0,.slice ua un uc] : Array Value)[9]? /\ w6.cell? ⟨w3.heap.size,10,none⟩ = (#[.int .i64 7,.bool false,.bool false,.string ⟨#[]⟩,.int .i64 0,.int .i64 0,.int .i64 0,.int .i64 0,.int .i64 0,.string ⟨#[]⟩,.slice none 0 0,.slice none 0 0,.slice ua un uc] : Array Value)[10]? /\ w6.cell? ⟨w3.heap.size,11,none⟩ = (#[.int .i64 7,.bool false,.bool false,.string ⟨#[]⟩,.int .i64 0,.int .i64 0,.int .i64 0,.int .i64 0,.int .i64 0,.string ⟨#[]⟩,.slice none 0 0,.slice none 0 0,.slice ua un uc] : Array Value)[11]? /\ w6.cell? ⟨w3.heap.size,12,none⟩ = (#[.int .i64 7,.bool false,.bool false,.string ⟨#[]⟩,.int .i64 0,.int .i64 0,.int .i64 0,.int .i64 0,.int .i64 0,.string ⟨#[]⟩,.slice none 0 0,.slice none 0 0,.slice ua un uc] : Array Value)[12]?:=⟨N6.cell 0,N6.cell 1,N6.cell 2,N6.cell 3,N6.cell 4,N6.cell 5,N6.cell 6,N6.cell 7,N6.cell 8,N6.cell 9,N6.cell 10,N6.cell 11,N6.cell 12⟩
 simp only [List.getElem?_toArray,List.getElem?_cons_succ,List.getElem?_cons_zero] at x0 x1 x2 x3 x4 x5 x6 x7 x8 x9 x10 x11 x12
 clear N6
 go_wp2_with fail
 refine HP.out.mono ?_;rintro _ w7 ⟨rfl,hE⟩
 have HE:=Lib.hid hE
 clear hE HP x0 x1 x2 x3 x4 x5 x6 x7 x8 x9 x10 x11 x12
 go_wp2
 go_ret
 exact HE.out
end Go.Proofs.YtpcbhneaaibfiaaDoor
