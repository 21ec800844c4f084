/- Laid together. -/
import Derived.Test.YtpcbhneaaibfiaaDoorPB01
import Derived.Test.YtpcbhneaaibfiaaDoorPB16
import Derived.Test.YtpcbhneaaibfiaaDoorPB17
set_option linter.unusedVariables false
set_option linter.unusedSimpArgs false
set_option maxHeartbeats 16000000
set_option maxRecDepth 100000
namespace Go.Proofs.YtpcbhneaaibfiaaDoor
open Go.RowKit
theorem frm_row : (Tryd.prog.info? 98).map (·.size) = some 15:=by kernel_rfl
theorem fol_openL {B0 bb : Nat} {A O : Nat -> Prop} {W : World} {s : Bst} {x : Ev} (h : BInv B0 bb A O W s) (hx : x.ok) {i : Nat} (hn : s.dn = false) (hi : s.d = i + 1) (hm : (s.fr i).mp = false) :
 Calls Tryd.prog 47 #[.pointer (some ⟨bb,0,none⟩),.agg x.cells] W fun r W' => r = .returned (.int .i64 (followE s x)) /\ Below W.heap.size W W':=by
 obtain ⟨ov,us,X,h⟩:=h
 have hb0:=(Below.refl W.heap.size W).alloc (Nat.le_refl _) (.cells x.cells 57)
 have h1:=h.later hb0
 have P:=Whole.new W 57 x.cells
 obtain ⟨R,hR⟩ : ∃ R,followE s x = R:=⟨_,rfl⟩
 rw [hR]
 unfold followE at hR
 have p0:=(h1.box.cell 0)
 have p1:=(h1.box.cell 1)
 simp only [bcells,List.getElem?_toArray,List.getElem?_cons_succ,List.getElem?_cons_zero] at p0 p1
 rw [if_neg (by rw [hn];decide),if_neg (by omega),show s.d - 1 = i by omega,hm] at hR
 rw [hn] at p1
 obtain ⟨o,co,cur,eo,FB,hB,hdc,hco,hcs,hcur⟩:=h1.row.op (by omega)
 have hi' : i < s.d:=by omega
 have hd48:=h.ok.d
 have HFr : LiesAt (W.alloc (.cells x.cells 57)) o (i * 15) ((s.fr i).cells (us i)):=fun j hj => (FB.cell _).trans (hcur i hi' j (by rw [Fr.cells_size] at hj;exact hj))
 rw [cells_list hm] at HFr
 rw [eo,hi] at p0
 obtain ⟨ua,uc,eu⟩:=Fr.row_sl (h1.rows i hi')
 rw [eu] at HFr
 clear eu
 generalize (s.fr i).n = un at *
 generalize (s.fr i).key = fkey at *
 generalize (s.fr i).kd = kd at *
 have i3 : ((i : Nat) : Int) <= 47:=by omega
 have i4 : (0 : Int) <= ((i : Nat) : Int):=by omega
 have hwi : IntKind.i64.wrap ((i : Nat) : Int) = i:=by rw [IntKind.wrap_i64];omega
 have hlt : ((i : Nat) : Int) < (i : Int) + 1:=by omega
 obtain ⟨k,key,V⟩:=x
 dsimp only at hR
 obtain ⟨c0,c1,c2,c3,c4,c5,c6,c7,c8,c9,c10,c11,c12,c13,c14⟩:=Whole.e15 P
 simp only [Ev.cells,evc] at hb0 P p0 p1 HFr c0 c1 c2 c3 c4 c5 c6 c7 c8 c9 c10 c11 c12 c13 c14 ⊢
 have PE:=P
 have p0':=p0
 simp only [frc] at HFr
 have hlo:=FB.lt
 have hbo:=h1.box.lt
 clear h h1 hx hcs hcur FB eo hi' hd48
 go_enter Tryd.func47,Tryd.ntmps47
 go_wp2_with fail
 refine wp_region_held_drew (S:=fun V => V.cell? ⟨bb,0,none⟩ = some (.slice (some ⟨o,0,none⟩) (i + 1) co) /\ LiesAt V o (i * 15) #[.int .i64 6,.bool false,.bool false,.string ⟨#[]⟩,.int .i64 0,.int .i64 0,.int .i64 0,.int .i64 0,.int .i64 0,.string ⟨#[]⟩,.slice none 0 0,.slice ua un uc,.slice none 0 0,.string fkey,.bool kd]) (by kernel_rfl) ⟨p0,HFr⟩ (fun hS => ?_)
 refine tkH (i:=0) rfl (by kernel_rfl) (by rfl) (fun _ _ _ h => h) hS (by intro wS hSw;go_simp;try with_reducible rfl) ?_
 simp only [Act.put,actS]
 refine tkH (i:=1) rfl (by kernel_rfl) (by rfl) (fun _ _ _ h => h) hS (by intro wS hSw;go_simp;try with_reducible rfl) ?_
 simp only [Act.put,actS]
 refine tkH (i:=2) rfl (by kernel_rfl) (by rfl) (fun _ _ _ h => h) hS (by intro wS hSw;go_simp;try with_reducible rfl) ?_
 simp only [Act.put,actS]
 refine tkH (i:=3) rfl (by kernel_rfl) (by rfl) (fun _ _ _ h => h) hS (by intro wS hSw;obtain ⟨s0,-⟩:=hSw;go_simp;try with_reducible rfl) ?_
 simp only [Act.put,actS]
 refine tkH (i:=4) rfl (by kernel_rfl) (by rfl) (fun _ _ _ h => h) hS (by intro wS hSw;go_simp;try with_reducible rfl) ?_
 simp only [Act.put,actS]
 refine tkH (i:=5) rfl (by kernel_rfl) (by rfl) (fun _ _ _ h => h) hS (by intro wS hSw;go_simp;try with_reducible rfl) ?_
 simp only [Act.put,actS]
 refine tkH (i:=6) rfl (by kernel_rfl) (by rfl) (fun _ _ _ h => h) hS (by intro wS hSw;go_simp;try with_reducible rfl) ?_
 simp only [Act.put,actS]
 refine tkH (i:=7) rfl (by kernel_rfl) (by rfl) (fun _ _ _ h => h) hS (by intro wS hSw;obtain ⟨s0,-⟩:=hSw;go_simp;try with_reducible rfl) ?_
 simp only [Act.put,actS]
 refine tkH (i:=8) rfl (by kernel_rfl) (by rfl) (fun _ _ _ h => h) hS (by intro wS hSw;go_simp;try with_reducible rfl) ?_
 simp only [Act.put,actS]
 refine tkH (i:=9) rfl (by kernel_rfl) (by rfl) (fun _ _ _ h => h) hS (by intro wS hSw;go_simp;try with_reducible rfl) ?_
 simp only [Act.put,actS]
 refine tkH (i:=10) rfl (by kernel_rfl) (by rfl) (fun _ _ _ h => h) hS (by intro wS hSw;go_simp;try with_reducible rfl) ?_
 simp only [Act.put,actS]
 refine tkH (i:=11) rfl (by kernel_rfl) (by rfl) (fun _ _ _ h => h) hS (by intro wS hSw;obtain ⟨sA,sF⟩:=hSw;have z0:=sF 0 (by simp);have z1:=sF 1 (by simp);have z2:=sF 2 (by simp);have z3:=sF 3 (by simp);have z4:=sF 4 (by simp);have z5:=sF 5 (by simp);have z6:=sF 6 (by simp);have z7:=sF 7 (by simp);have z8:=sF 8 (by simp);have z9:=sF 9 (by simp);have z10:=sF 10 (by simp);have z11:=sF 11 (by simp);have z12:=sF 12 (by simp);have z13:=sF 13 (by simp);have z14:=sF 14 (by simp);simp only [List.getElem?_toArray,List.getElem?_cons_succ,List.getElem?_cons_zero,Nat.add_zero] at z0 z1 z2 z3 z4 z5 z6 z7 z8 z9 z10 z11 z12 z13 z14;go_simp;try with_reducible rfl) ?_
 simp only [Act.put,actS]
 have g2:=hb0.drew
 have P2:=Whole.drew PE
 have ho2 : o < (World.drew (W.alloc (.cells #[.int .i64 k,.string key,.int .i64 V.h.k,.bool V.h.b,.bool V.h.n,.string V.h.d,.int .i64 V.h.e,.int .i64 V.h.tk,.int .i64 V.h.td,.int .i64 V.h.tn,.int .i64 V.h.tz,.string V.h.x,.slice V.h.ba V.h.bn V.h.bc,.slice V.h.la V.h.ln V.h.lc,.slice V.h.fa V.h.fn V.h.fc] 57))).heap.size:=hlo
 have hb2 : bb < (World.drew (W.alloc (.cells #[.int .i64 k,.string key,.int .i64 V.h.k,.bool V.h.b,.bool V.h.n,.string V.h.d,.int .i64 V.h.e,.int .i64 V.h.tk,.int .i64 V.h.td,.int .i64 V.h.tn,.int .i64 V.h.tz,.string V.h.x,.slice V.h.ba V.h.bn V.h.bc,.slice V.h.la V.h.ln V.h.lc,.slice V.h.fa V.h.fn V.h.fc] 57))).heap.size:=hbo
 clear hlo hbo hb0 PE P p0 p0' p1 HFr c0 c1 c2 c3 c4 c5 c6 c7 c8 c9 c10 c11 c12 c13 c14
 generalize World.drew _ = w2 at *
 refine wpAnyH_ready (rs:=[12]) (by kernel_rfl) (by simp) ?_
 refine AllReadyH.cons rfl (fun KK hK => ?_) AllReadyH.nil
 go_simp
 have q1:=(Below.refl w2.heap.size w2).alloc (Nat.le_refl _) (.cells #[.int .i64 0,.bool false,.bool false,.string ⟨#[]⟩,.int .i64 0,.int .i64 0,.int .i64 0,.int .i64 0,.int .i64 0,.string ⟨#[]⟩,.slice none 0 0,.slice none 0 0,.slice none 0 0,.string ⟨#[]⟩,.bool false] 98)
 have N3:=Whole.new w2 98 #[.int .i64 0,.bool false,.bool false,.string ⟨#[]⟩,.int .i64 0,.int .i64 0,.int .i64 0,.int .i64 0,.int .i64 0,.string ⟨#[]⟩,.slice none 0 0,.slice none 0 0,.slice none 0 0,.string ⟨#[]⟩,.bool false]
 have g3:=below_then g2 q1
 have P3:=Whole.below P2 q1 P2.lt
 refine hK.out _ _ ⟨(q1.cell (p:=⟨bb,0,none⟩) hb2).trans hS.1,hS.2.below q1 ho2⟩ (fun hS4 => ?_)
 clear hK KK
 try simp only [Act.put,actS]
 refine wpAnyH_ready (rs:=[13]) (by kernel_rfl) (by simp) ?_
 refine AllReadyH.cons rfl (fun KK hK => ?_) AllReadyH.nil
 rw [if_pos (by rfl)]
 refine wp_store_row 98 _ _ rfl (w2.heap.size) #[.int .i64 6,.bool false,.bool false,.string ⟨#[]⟩,.int .i64 0,.int .i64 0,.int .i64 0,.int .i64 0,.int .i64 0,.string ⟨#[]⟩,.slice none 0 0,.slice ua un uc,.slice none 0 0,.string fkey,.bool kd] rfl rfl 98 _ N3 frm_row rfl (by simp [Value.oneCell']) ?_
 have g4:=below_setRow g3 g2.size #[.int .i64 6,.bool false,.bool false,.string ⟨#[]⟩,.int .i64 0,.int .i64 0,.int .i64 0,.int .i64 0,.int .i64 0,.string ⟨#[]⟩,.slice none 0 0,.slice ua un uc,.slice none 0 0,.string fkey,.bool kd]
 have N4:=Whole.setRow N3 #[.int .i64 6,.bool false,.bool false,.string ⟨#[]⟩,.int .i64 0,.int .i64 0,.int .i64 0,.int .i64 0,.int .i64 0,.string ⟨#[]⟩,.slice none 0 0,.slice ua un uc,.slice none 0 0,.string fkey,.bool kd]
 have P4:=Whole.farRow (B':=w2.heap.size) P3 (fun e => by have:=P2.lt;omega) #[.int .i64 6,.bool false,.bool false,.string ⟨#[]⟩,.int .i64 0,.int .i64 0,.int .i64 0,.int .i64 0,.int .i64 0,.string ⟨#[]⟩,.slice none 0 0,.slice ua un uc,.slice none 0 0,.string fkey,.bool kd]
 obtain ⟨w4,hw4⟩ : ∃ w4,(w2.alloc (.cells #[.int .i64 0,.bool false,.bool false,.string ⟨#[]⟩,.int .i64 0,.int .i64 0,.int .i64 0,.int .i64 0,.int .i64 0,.string ⟨#[]⟩,.slice none 0 0,.slice none 0 0,.slice none 0 0,.string ⟨#[]⟩,.bool false] 98)).setRow w2.heap.size #[.int .i64 6,.bool false,.bool false,.string ⟨#[]⟩,.int .i64 0,.int .i64 0,.int .i64 0,.int .i64 0,.int .i64 0,.string ⟨#[]⟩,.slice none 0 0,.slice ua un uc,.slice none 0 0,.string fkey,.bool kd] = w4:=⟨_,rfl⟩
 rw [hw4] at g4 N4 P4 ⊢
 have hw5 : Below w2.heap.size w2 w4:=hw4 ▸ below_setRow q1 (Nat.le_refl _) _
 clear hw4
 refine hK.out _ _ ⟨(hw5.cell (p:=⟨bb,0,none⟩) hb2).trans hS.1,hS.2.below hw5 ho2⟩ (fun hS5 => ?_)
 clear hK KK
 try simp only [Act.put,actS]
 refine wpAnyH_done (by kernel_rfl) ?_ _
 have y0:=Whole.cell P4 0
 have v0:=Whole.cell N4 0
 have v14:=Whole.cell N4 14
 simp only [List.getElem?_toArray,List.getElem?_cons_succ,List.getElem?_cons_zero] at y0 v0 v14
 clear hS hS4 hS5 q1 g2 g3 N3 P3 P2 hw5 hb2 ho2
 by_cases e6 : k = 6
 ·rw [if_pos e6,if_pos (.inl (by trivial))] at hR
  subst e6
  subst hR
  go_wp2_with fail
  go_ret
  exact ⟨rfl,g4⟩
 by_cases e3 : k = 3
 ·have d6 : (k == 6) = false:=beq_eq_false_iff_ne.2 e6
  rw [if_neg e6,if_pos e3,if_neg (by decide)] at hR
  subst e3
  subst hR
  go_wp2_with fail
  go_ret
  exact ⟨rfl,g4⟩
 by_cases e5 : k = 5
 ·have d6 : (k == 6) = false:=beq_eq_false_iff_ne.2 e6
  have d3 : (k == 3) = false:=beq_eq_false_iff_ne.2 e3
  rw [if_neg e6,if_neg e3,if_pos e5,if_pos (.inl (by trivial))] at hR
  subst e5
  subst hR
  go_wp2_with fail
  go_ret
  exact ⟨rfl,g4⟩
 have d6 : (k == 6) = false:=beq_eq_false_iff_ne.2 e6
 have d3 : (k == 3) = false:=beq_eq_false_iff_ne.2 e3
 have d5 : (k == 5) = false:=beq_eq_false_iff_ne.2 e5
 rw [if_neg e6,if_neg e3,if_neg e5,if_neg (by rintro ⟨q,-⟩;cases q)] at hR
 subst hR
 go_wp2_with fail
 go_ret
 exact ⟨rfl,g4⟩
theorem fol_openF {B0 bb : Nat} {A O : Nat -> Prop} {W : World} {s : Bst} {x : Ev} (h : BInv B0 bb A O W s) (hx : x.ok) {i : Nat} (hn : s.dn = false) (hi : s.d = i + 1) (hm : (s.fr i).mp = true) :
 Calls Tryd.prog 47 #[.pointer (some ⟨bb,0,none⟩),.agg x.cells] W fun r W' => r = .returned (.int .i64 (followE s x)) /\ Below W.heap.size W W':=by
 obtain ⟨ov,us,X,h⟩:=h
 have hb0:=(Below.refl W.heap.size W).alloc (Nat.le_refl _) (.cells x.cells 57)
 have h1:=h.later hb0
 have P:=Whole.new W 57 x.cells
 obtain ⟨R,hR⟩ : ∃ R,followE s x = R:=⟨_,rfl⟩
 rw [hR]
 unfold followE at hR
 have p0:=(h1.box.cell 0)
 have p1:=(h1.box.cell 1)
 simp only [bcells,List.getElem?_toArray,List.getElem?_cons_succ,List.getElem?_cons_zero] at p0 p1
 rw [if_neg (by rw [hn];decide),if_neg (by omega),show s.d - 1 = i by omega,hm] at hR
 rw [hn] at p1
 obtain ⟨o,co,cur,eo,FB,hB,hdc,hco,hcs,hcur⟩:=h1.row.op (by omega)
 have hi' : i < s.d:=by omega
 have hd48:=h.ok.d
 have HFr : LiesAt (W.alloc (.cells x.cells 57)) o (i * 15) ((s.fr i).cells (us i)):=fun j hj => (FB.cell _).trans (hcur i hi' j (by rw [Fr.cells_size] at hj;exact hj))
 rw [cells_map hm] at HFr
 rw [eo,hi] at p0
 have hnd:=h.ok.nd
 have hfr:=h.ok.fr i hi'
 obtain ⟨Y,hY1,hY2,hY3,hY4⟩:=fr_value (h1.rows i hi') (by omega) (fun j hj => (hfr.2.2 j hj).1)
 obtain ⟨hk7,hfn,hKF⟩:=frV_h hY4 hm
 have HFd:=Lib.hid (fun (w1 : World) (hb : Below (W.alloc (.cells x.cells 57)).heap.size (W.alloc (.cells x.cells 57)) w1) => field_any (T:=Y) (key:=x.key) (w:=w1) (Vt.In.below hb hY2) hb.size (fun j hj => Vt.upto_le (Vt.upto_sameE (hKF j (by rw [<- hfn];exact hj)).2 (hfr.2.2 j (by rw [<- hfn];exact hj)).2) (by omega)))
 have hhas : hasF Y.h Y.K x.key = decide (fidx (s.fr i).K x.key (s.fr i).n < (s.fr i).n):=by
  unfold hasF
  rw [hk7,hfn,fidx_congr (fun j hj => (hKF j hj).1)]
  rfl
 have hYc : Y.h.cells = #[.int .i64 7,.bool false,.bool false,.string ⟨#[]⟩,.int .i64 0,.int .i64 0,.int .i64 0,.int .i64 0,.int .i64 0,.string ⟨#[]⟩,.slice none 0 0,.slice none 0 0,us i]:=by
  rw [cells_map hm] at hY1
  have e:=congrArg (fun c : Array Value => c.extract 0 13) hY1
  simpa [frc,Vh.cells] using e.symm
 rw [hhas,hYc] at HFd
 obtain ⟨Q,hQ⟩ : ∃ Q,fidx (s.fr i).K x.key (s.fr i).n = Q:=⟨_,rfl⟩
 rw [hQ] at HFd hR
 clear hY1 hY2 hY3 hY4 hk7 hfn hKF hhas hYc hfr hnd hQ
 obtain ⟨ua,uc,eu⟩:=Fr.row_sl (h1.rows i hi')
 rw [eu] at HFr HFd
 clear eu
 generalize (s.fr i).n = un at *
 generalize (s.fr i).key = fkey at *
 generalize (s.fr i).kd = kd at *
 have i3 : ((i : Nat) : Int) <= 47:=by omega
 have i4 : (0 : Int) <= ((i : Nat) : Int):=by omega
 have hwi : IntKind.i64.wrap ((i : Nat) : Int) = i:=by rw [IntKind.wrap_i64];omega
 have hlt : ((i : Nat) : Int) < (i : Int) + 1:=by omega
 obtain ⟨k,key,V⟩:=x
 dsimp only at hR
 obtain ⟨c0,c1,c2,c3,c4,c5,c6,c7,c8,c9,c10,c11,c12,c13,c14⟩:=Whole.e15 P
 simp only [Ev.cells,evc] at hb0 P p0 p1 HFr HFd c0 c1 c2 c3 c4 c5 c6 c7 c8 c9 c10 c11 c12 c13 c14 ⊢
 have PE:=P
 have p0':=p0
 simp only [frc] at HFr
 have hlo:=FB.lt
 have hbo:=h1.box.lt
 clear h h1 hx hcs hcur FB eo hi' hd48
 go_enter Tryd.func47,Tryd.ntmps47
 go_wp2_with fail
 refine wp_region_held_drew (S:=fun V => V.cell? ⟨bb,0,none⟩ = some (.slice (some ⟨o,0,none⟩) (i + 1) co) /\ LiesAt V o (i * 15) #[.int .i64 7,.bool false,.bool false,.string ⟨#[]⟩,.int .i64 0,.int .i64 0,.int .i64 0,.int .i64 0,.int .i64 0,.string ⟨#[]⟩,.slice none 0 0,.slice none 0 0,.slice ua un uc,.string fkey,.bool kd]) (by kernel_rfl) ⟨p0,HFr⟩ (fun hS => ?_)
 refine tkH (i:=0) rfl (by kernel_rfl) (by rfl) (fun _ _ _ h => h) hS (by intro wS hSw;go_simp;try with_reducible rfl) ?_
 simp only [Act.put,actS]
 refine tkH (i:=1) rfl (by kernel_rfl) (by rfl) (fun _ _ _ h => h) hS (by intro wS hSw;go_simp;try with_reducible rfl) ?_
 simp only [Act.put,actS]
 refine tkH (i:=2) rfl (by kernel_rfl) (by rfl) (fun _ _ _ h => h) hS (by intro wS hSw;go_simp;try with_reducible rfl) ?_
 simp only [Act.put,actS]
 refine tkH (i:=3) rfl (by kernel_rfl) (by rfl) (fun _ _ _ h => h) hS (by intro wS hSw;obtain ⟨s0,-⟩:=hSw;go_simp;try with_reducible rfl) ?_
 simp only [Act.put,actS]
 refine tkH (i:=4) rfl (by kernel_rfl) (by rfl) (fun _ _ _ h => h) hS (by intro wS hSw;go_simp;try with_reducible rfl) ?_
 simp only [Act.put,actS]
 refine tkH (i:=5) rfl (by kernel_rfl) (by rfl) (fun _ _ _ h => h) hS (by intro wS hSw;go_simp;try with_reducible rfl) ?_
 simp only [Act.put,actS]
 refine tkH (i:=6) rfl (by kernel_rfl) (by rfl) (fun _ _ _ h => h) hS (by intro wS hSw;go_simp;try with_reducible rfl) ?_
 simp only [Act.put,actS]
 refine tkH (i:=7) rfl (by kernel_rfl) (by rfl) (fun _ _ _ h => h) hS (by intro wS hSw;obtain ⟨s0,-⟩:=hSw;go_simp;try with_reducible rfl) ?_
 simp only [Act.put,actS]
 refine tkH (i:=8) rfl (by kernel_rfl) (by rfl) (fun _ _ _ h => h) hS (by intro wS hSw;go_simp;try with_reducible rfl) ?_
 simp only [Act.put,actS]
 refine tkH (i:=9) rfl (by kernel_rfl) (by rfl) (fun _ _ _ h => h) hS (by intro wS hSw;go_simp;try with_reducible rfl) ?_
 simp only [Act.put,actS]
 refine tkH (i:=10) rfl (by kernel_rfl) (by rfl) (fun _ _ _ h => h) hS (by intro wS hSw;go_simp;try with_reducible rfl) ?_
 simp only [Act.put,actS]
 refine tkH (i:=11) rfl (by kernel_rfl) (by rfl) (fun _ _ _ h => h) hS (by intro wS hSw;obtain ⟨sA,sF⟩:=hSw;have z0:=sF 0 (by simp);have z1:=sF 1 (by simp);have z2:=sF 2 (by simp);have z3:=sF 3 (by simp);have z4:=sF 4 (by simp);have z5:=sF 5 (by simp);have z6:=sF 6 (by simp);have z7:=sF 7 (by simp);have z8:=sF 8 (by simp);have z9:=sF 9 (by simp);have z10:=sF 10 (by simp);have z11:=sF 11 (by simp);have z12:=sF 12 (by simp);have z13:=sF 13 (by simp);have z14:=sF 14 (by simp);simp only [List.getElem?_toArray,List.getElem?_cons_succ,List.getElem?_cons_zero,Nat.add_zero] at z0 z1 z2 z3 z4 z5 z6 z7 z8 z9 z10 z11 z12 z13 z14;go_simp;try with_reducible rfl) ?_
 simp only [Act.put,actS]
 have HFe:=Lib.hid (fun (w1 : World) (hb : Below (World.drew (W.alloc (.cells #[.int .i64 k,.string key,.int .i64 V.h.k,.bool V.h.b,.bool V.h.n,.string V.h.d,.int .i64 V.h.e,.int .i64 V.h.tk,.int .i64 V.h.td,.int .i64 V.h.tn,.int .i64 V.h.tz,.string V.h.x,.slice V.h.ba V.h.bn V.h.bc,.slice V.h.la V.h.ln V.h.lc,.slice V.h.fa V.h.fn V.h.fc] 57))).heap.size (World.drew (W.alloc (.cells #[.int .i64 k,.string key,.int .i64 V.h.k,.bool V.h.b,.bool V.h.n,.string V.h.d,.int .i64 V.h.e,.int .i64 V.h.tk,.int .i64 V.h.td,.int .i64 V.h.tn,.int .i64 V.h.tz,.string V.h.x,.slice V.h.ba V.h.bn V.h.bc,.slice V.h.la V.h.ln V.h.lc,.slice V.h.fa V.h.fn V.h.fc] 57))) w1) => HFd.out w1 (((Below.refl _ _).drew).trans hb))
 clear HFd
 have g2:=hb0.drew
 have P2:=Whole.drew PE
 have ho2 : o < (World.drew (W.alloc (.cells #[.int .i64 k,.string key,.int .i64 V.h.k,.bool V.h.b,.bool V.h.n,.string V.h.d,.int .i64 V.h.e,.int .i64 V.h.tk,.int .i64 V.h.td,.int .i64 V.h.tn,.int .i64 V.h.tz,.string V.h.x,.slice V.h.ba V.h.bn V.h.bc,.slice V.h.la V.h.ln V.h.lc,.slice V.h.fa V.h.fn V.h.fc] 57))).heap.size:=hlo
 have hb2 : bb < (World.drew (W.alloc (.cells #[.int .i64 k,.string key,.int .i64 V.h.k,.bool V.h.b,.bool V.h.n,.string V.h.d,.int .i64 V.h.e,.int .i64 V.h.tk,.int .i64 V.h.td,.int .i64 V.h.tn,.int .i64 V.h.tz,.string V.h.x,.slice V.h.ba V.h.bn V.h.bc,.slice V.h.la V.h.ln V.h.lc,.slice V.h.fa V.h.fn V.h.fc] 57))).heap.size:=hbo
 clear hlo hbo hb0 PE P p0 p0' p1 HFr c0 c1 c2 c3 c4 c5 c6 c7 c8 c9 c10 c11 c12 c13 c14
 generalize World.drew _ = w2 at *
 refine wpAnyH_ready (rs:=[12]) (by kernel_rfl) (by simp) ?_
 refine AllReadyH.cons rfl (fun KK hK => ?_) AllReadyH.nil
 go_simp
 have q1:=(Below.refl w2.heap.size w2).alloc (Nat.le_refl _) (.cells #[.int .i64 0,.bool false,.bool false,.string ⟨#[]⟩,.int .i64 0,.int .i64 0,.int .i64 0,.int .i64 0,.int .i64 0,.string ⟨#[]⟩,.slice none 0 0,.slice none 0 0,.slice none 0 0,.string ⟨#[]⟩,.bool false] 98)
 have N3:=Whole.new w2 98 #[.int .i64 0,.bool false,.bool false,.string ⟨#[]⟩,.int .i64 0,.int .i64 0,.int .i64 0,.int .i64 0,.int .i64 0,.string ⟨#[]⟩,.slice none 0 0,.slice none 0 0,.slice none 0 0,.string ⟨#[]⟩,.bool false]
 have g3:=below_then g2 q1
 have P3:=Whole.below P2 q1 P2.lt
 refine hK.out _ _ ⟨(q1.cell (p:=⟨bb,0,none⟩) hb2).trans hS.1,hS.2.below q1 ho2⟩ (fun hS4 => ?_)
 clear hK KK
 try simp only [Act.put,actS]
 refine wpAnyH_ready (rs:=[13]) (by kernel_rfl) (by simp) ?_
 refine AllReadyH.cons rfl (fun KK hK => ?_) AllReadyH.nil
 rw [if_pos (by rfl)]
 refine wp_store_row 98 _ _ rfl (w2.heap.size) #[.int .i64 7,.bool false,.bool false,.string ⟨#[]⟩,.int .i64 0,.int .i64 0,.int .i64 0,.int .i64 0,.int .i64 0,.string ⟨#[]⟩,.slice none 0 0,.slice none 0 0,.slice ua un uc,.string fkey,.bool kd] rfl rfl 98 _ N3 frm_row rfl (by simp [Value.oneCell']) ?_
 have g4:=below_setRow g3 g2.size #[.int .i64 7,.bool false,.bool false,.string ⟨#[]⟩,.int .i64 0,.int .i64 0,.int .i64 0,.int .i64 0,.int .i64 0,.string ⟨#[]⟩,.slice none 0 0,.slice none 0 0,.slice ua un uc,.string fkey,.bool kd]
 have N4:=Whole.setRow N3 #[.int .i64 7,.bool false,.bool false,.string ⟨#[]⟩,.int .i64 0,.int .i64 0,.int .i64 0,.int .i64 0,.int .i64 0,.string ⟨#[]⟩,.slice none 0 0,.slice none 0 0,.slice ua un uc,.string fkey,.bool kd]
 have P4:=Whole.farRow (B':=w2.heap.size) P3 (fun e => by have:=P2.lt;omega) #[.int .i64 7,.bool false,.bool false,.string ⟨#[]⟩,.int .i64 0,.int .i64 0,.int .i64 0,.int .i64 0,.int .i64 0,.string ⟨#[]⟩,.slice none 0 0,.slice none 0 0,.slice ua un uc,.string fkey,.bool kd]
 obtain ⟨w4,hw4⟩ : ∃ w4,(w2.alloc (.cells #[.int .i64 0,.bool false,.bool false,.string ⟨#[]⟩,.int .i64 0,.int .i64 0,.int .i64 0,.int .i64 0,.int .i64 0,.string ⟨#[]⟩,.slice none 0 0,.slice none 0 0,.slice none 0 0,.string ⟨#[]⟩,.bool false] 98)).setRow w2.heap.size #[.int .i64 7,.bool false,.bool false,.string ⟨#[]⟩,.int .i64 0,.int .i64 0,.int .i64 0,.int .i64 0,.int .i64 0,.string ⟨#[]⟩,.slice none 0 0,.slice none 0 0,.slice ua un uc,.string fkey,.bool kd] = w4:=⟨_,rfl⟩
 rw [hw4] at g4 N4 P4 ⊢
 have hw5 : Below w2.heap.size w2 w4:=hw4 ▸ below_setRow q1 (Nat.le_refl _) _
 clear hw4
 refine hK.out _ _ ⟨(hw5.cell (p:=⟨bb,0,none⟩) hb2).trans hS.1,hS.2.below hw5 ho2⟩ (fun hS5 => ?_)
 clear hK KK
 try simp only [Act.put,actS]
 refine wpAnyH_done (by kernel_rfl) ?_ _
 have HFd:=Lib.hid (HFe.out w4 hw5)
 clear HFe
 have y0:=Whole.cell P4 0
 have v0:=Whole.cell N4 0
 have v14:=Whole.cell N4 14
 simp only [List.getElem?_toArray,List.getElem?_cons_succ,List.getElem?_cons_zero] at y0 v0 v14
 clear hS hS4 hS5 q1 g2 g3 N3 P3 P2 hw5 hb2 ho2
 by_cases e3 : k = 3
 ·rw [if_neg (by rw [e3];decide),if_pos e3,if_pos (by trivial)] at hR
  subst e3
  clear HFd
  subst hR
  go_wp2_with fail
  go_ret
  exact ⟨rfl,g4⟩
 by_cases e6 : k = 6
 ·cases kd
  ·rw [if_pos e6,if_neg (by rintro (q | q) <;> cases q)] at hR
   subst e6
   have x0:=Whole.cell N4 0
   have x1:=Whole.cell N4 1
   have x2:=Whole.cell N4 2
   have x3:=Whole.cell N4 3
   have x4:=Whole.cell N4 4
   have x5:=Whole.cell N4 5
   have x6:=Whole.cell N4 6
   have x7:=Whole.cell N4 7
   have x8:=Whole.cell N4 8
   have x9:=Whole.cell N4 9
   have x10:=Whole.cell N4 10
   have x11:=Whole.cell N4 11
   have x12:=Whole.cell N4 12
   simp only [List.getElem?_toArray,List.getElem?_cons_succ,List.getElem?_cons_zero] at x0 x1 x2 x3 x4 x5 x6 x7 x8 x9 x10 x11 x12
   have y1:=Whole.cell P4 1
   simp only [List.getElem?_toArray,List.getElem?_cons_succ,List.getElem?_cons_zero] at y1
   go_wp2_with fail
   refine HFd.out.mono ?_;rintro _ w5 ⟨⟨Z,rfl⟩,hb5⟩
   have g5:=below_then g4 hb5
   clear HFd hb5 g4 N4 P4 v0 v14 y0 y1 x0 x1 x2 x3 x4 x5 x6 x7 x8 x9 x10 x11 x12
   have Q5:=Whole.new w5 30 Vh.zero.cells
   have g6:=g5.alloc g5.size (.cells Vh.zero.cells 30)
   have g7:=below_setRow g6 g5.size Z.h.cells
   have hone:=Lib.hid (vh_all Z.h)
   simp only [Vh.cells,Vh.zero] at Q5 g6 g7
   clear g6
   by_cases hq : Q < un
   ·rw [if_pos hq] at hR
    subst hR
    have hqd : decide (Q < un) = true:=decide_eq_true hq
    rw [hqd]
    clear hq hqd
    go_wp2_with (refine wpList_store_row rfl 30 _ _ rfl w5.heap.size Z.h.cells rfl rfl 30 _ Q5 vh_row rfl hone.out ?_)
    go_ret
    exact ⟨rfl,g7⟩
   ·rw [if_neg hq] at hR
    subst hR
    have hqd : decide (Q < un) = false:=decide_eq_false hq
    rw [hqd]
    clear hq hqd
    go_wp2_with (refine wpList_store_row rfl 30 _ _ rfl w5.heap.size Z.h.cells rfl rfl 30 _ Q5 vh_row rfl hone.out ?_)
    go_ret
    exact ⟨rfl,g7⟩
  ·rw [if_pos e6,if_pos (.inr rfl)] at hR
   subst e6
   clear HFd
   subst hR
   go_wp2_with fail
   go_ret
   exact ⟨rfl,g4⟩
 have d6 : (k == 6) = false:=beq_eq_false_iff_ne.2 e6
 have d3 : (k == 3) = false:=beq_eq_false_iff_ne.2 e3
 by_cases e5 : k = 5
 ·rw [if_neg e6,if_neg e3,if_pos e5] at hR
  subst e5
  clear HFd
  cases kd
  ·rw [if_neg (by rintro (q | q) <;> cases q)] at hR
   subst hR
   go_wp2_with fail
   go_ret
   exact ⟨rfl,g4⟩
  ·rw [if_pos (.inr rfl)] at hR
   subst hR
   go_wp2_with fail
   go_ret
   exact ⟨rfl,g4⟩
 have d5 : (k == 5) = false:=beq_eq_false_iff_ne.2 e5
 rw [if_neg e6,if_neg e3,if_neg e5] at hR
 clear HFd
 cases kd
 ·rw [if_pos ⟨by trivial,rfl⟩] at hR
  subst hR
  go_wp2_with fail
  go_ret
  exact ⟨rfl,g4⟩
 ·rw [if_neg (by rintro ⟨-,q⟩;cases q)] at hR
  subst hR
  go_wp2_with fail
  go_ret
  exact ⟨rfl,g4⟩
theorem fol_any {B0 bb : Nat} {A O : Nat -> Prop} {W : World} {s : Bst} {x : Ev} (h : BInv B0 bb A O W s) (hx : x.ok) :
 Calls Tryd.prog 47 #[.pointer (some ⟨bb,0,none⟩),.agg x.cells] W fun r W' => r = .returned (.int .i64 (followE s x)) /\ Below W.heap.size W W':=by
 cases hd : s.dn with
 | true => exact fol_dn h hx hd
 | false =>
  rcases Nat.eq_zero_or_pos s.d with h0 | h0
  ·exact fol_zero h hx hd h0
  ·have hi : s.d = (s.d - 1) + 1:=by omega
   cases hm : (s.fr (s.d - 1)).mp with
   | false => exact fol_openL h hx hd hi hm
   | true => exact fol_openF h hx hd hi hm
theorem add_err {B0 bb : Nat} {A O : Nat -> Prop} {W W2 : World} {s : Bst} {x : Ev} {ov : Value} {us : Nat -> Value} {X : Vt} {R : Int} (h : BIn B0 bb A O W s ov us X) (hbd : s.bad = false) (he : addE s x = R) (hR : R ≠ 0) (hb : Below W.heap.size W W2) :
 BOut B0 bb A O W (addS s x) (.int .i64 R) (.returned (.int .i64 R)) (W2.setCell ⟨bb,16,none⟩ (.bool true)):=by
 rw [addS_bad hbd (by rw [he];exact hR)]
 exact bad_end h hb _
theorem add_bad {B0 bb : Nat} {A O : Nat -> Prop} {W : World} {s : Bst} {x : Ev} (h : BInv B0 bb A O W s) (hx : x.ok) (hV : x.V.In W W.heap.size) (hbd : s.bad = true) :
 Calls Tryd.prog 23 #[.pointer (some ⟨bb,0,none⟩),.agg x.cells] W (BOut B0 bb A O W (addS s x) (.int .i64 (addE s x))):=by
 obtain ⟨ov,us,X,h⟩:=h
 have hb0:=(Below.refl W.heap.size W).alloc (Nat.le_refl _) (.cells x.cells 57)
 have h0:=h.later hb0
 have he : addE s x = 29:=if_pos hbd
 have hs : addS s x = s:=if_pos hbd
 rw [he,hs]
 have HE:=Lib.hid (same_end h hb0 (.int .i64 29))
 have p16:=h0.box.cell 16
 rw [hbd] at p16
 simp only [bcells,List.getElem?_toArray,List.getElem?_cons_succ,List.getElem?_cons_zero] at p16
 simp only [Ev.cells,evc] at p16 HE ⊢
 clear h h0 hx hV he hs hbd hb0
 go_enter Tryd.func23,Tryd.ntmps23
 go_wp2
 go_ret
 exact HE.out
theorem add_shape {B0 bb : Nat} {A O : Nat -> Prop} {W : World} {s : Bst} {x : Ev} (h : BInv B0 bb A O W s) (hx : x.ok) (hV : x.V.In W W.heap.size) (hbd : s.bad = false) (hs : shapeE x ≠ 0) :
 Calls Tryd.prog 23 #[.pointer (some ⟨bb,0,none⟩),.agg x.cells] W (BOut B0 bb A O W (addS s x) (.int .i64 (addE s x))):=by
 obtain ⟨ov,us,X,h⟩:=h
 have hb0:=(Below.refl W.heap.size W).alloc (Nat.le_refl _) (.cells x.cells 57)
 have h0:=h.later hb0
 have P:=Whole.new W 57 x.cells
 have HSh:=Lib.hid (shape_any (x:=x) (top:=W.heap.size) (w:=W.alloc (.cells x.cells 57)) hx (Vt.In.below hb0 hV) hb0.size)
 have he : addE s x = shapeE x:=by unfold addE;rw [if_neg (by rw [hbd];decide),if_pos hs]
 have HE:=Lib.hid (fun (w2 : World) (hb : Below W.heap.size W w2) => add_err (x:=x) h hbd he hs hb)
 rw [he]
 have p16:=h0.box.cell 16
 rw [hbd] at p16
 simp only [bcells,List.getElem?_toArray,List.getElem?_cons_succ,List.getElem?_cons_zero] at p16
 have hbo:=h0.box.lt
 have PB:=h0.box
 obtain ⟨R,hR⟩ : ∃ R,shapeE x = R:=⟨_,rfl⟩
 rw [hR] at HE HSh hs ⊢
 obtain ⟨T,hT⟩ : ∃ T,addS s x = T:=⟨_,rfl⟩
 rw [hT] at HE ⊢
 have dR : (R == 0) = false:=beq_eq_false_iff_ne.2 hs
 clear h h0 hx hV he hs hbd hR hT
 obtain ⟨k,key,V⟩:=x
 simp only [Ev.cells,evc] at hb0 P HSh p16 hbo PB ⊢
 obtain ⟨c0,c1,c2,c3,c4,c5,c6,c7,c8,c9,c10,c11,c12,c13,c14⟩:=Whole.e15 P
 by_cases e1 : k = 1
 ·obtain rfl : k = 1:=e1
  go_enter Tryd.func23,Tryd.ntmps23
  go_wp2_with fail
  refine HSh.out.mono ?_;rintro _ w1 ⟨rfl,hb1⟩
  have g1:=below_then hb0 hb1
  have P1:=Whole.below P hb1 P.lt
  have B1:=Whole.below PB hb1 hbo
  clear HSh hb0 hb1 P p16 hbo PB c0 c1 c2 c3 c4 c5 c6 c7 c8 c9 c10 c11 c12 c13 c14
  have c0:=Whole.cell P1 0
  have f16:=B1.frozen 16
  have p16 : w1.cell? ⟨bb,16,none⟩ = some (.bool s.bad):=B1.cell 16
  simp only [List.getElem?_toArray,List.getElem?_cons_succ,List.getElem?_cons_zero] at c0
  go_wp2
  go_ret
  exact HE.out _ g1
 by_cases e2 : k = 2
 ·obtain rfl : k = 2:=e2
  clear e1
  go_enter Tryd.func23,Tryd.ntmps23
  go_wp2_with fail
  refine HSh.out.mono ?_;rintro _ w1 ⟨rfl,hb1⟩
  have g1:=below_then hb0 hb1
  have P1:=Whole.below P hb1 P.lt
  have B1:=Whole.below PB hb1 hbo
  clear HSh hb0 hb1 P p16 hbo PB c0 c1 c2 c3 c4 c5 c6 c7 c8 c9 c10 c11 c12 c13 c14
  have c0:=Whole.cell P1 0
  have f16:=B1.frozen 16
  have p16 : w1.cell? ⟨bb,16,none⟩ = some (.bool s.bad):=B1.cell 16
  simp only [List.getElem?_toArray,List.getElem?_cons_succ,List.getElem?_cons_zero] at c0
  go_wp2
  go_ret
  exact HE.out _ g1
 by_cases e4 : k = 4
 ·obtain rfl : k = 4:=e4
  clear e1
  clear e2
  go_enter Tryd.func23,Tryd.ntmps23
  go_wp2_with fail
  refine HSh.out.mono ?_;rintro _ w1 ⟨rfl,hb1⟩
  have g1:=below_then hb0 hb1
  have P1:=Whole.below P hb1 P.lt
  have B1:=Whole.below PB hb1 hbo
  clear HSh hb0 hb1 P p16 hbo PB c0 c1 c2 c3 c4 c5 c6 c7 c8 c9 c10 c11 c12 c13 c14
  have c0:=Whole.cell P1 0
  have f16:=B1.frozen 16
  have p16 : w1.cell? ⟨bb,16,none⟩ = some (.bool s.bad):=B1.cell 16
  simp only [List.getElem?_toArray,List.getElem?_cons_succ,List.getElem?_cons_zero] at c0
  go_wp2
  go_ret
  exact HE.out _ g1
 have d1 : (k == 1) = false:=beq_eq_false_iff_ne.2 e1
 have d2 : (k == 2) = false:=beq_eq_false_iff_ne.2 e2
 have d4 : (k == 4) = false:=beq_eq_false_iff_ne.2 e4
 clear e1 e2 e4
 go_enter Tryd.func23,Tryd.ntmps23
 go_wp2_with fail
 refine HSh.out.mono ?_;rintro _ w1 ⟨rfl,hb1⟩
 have g1:=below_then hb0 hb1
 have P1:=Whole.below P hb1 P.lt
 have B1:=Whole.below PB hb1 hbo
 clear HSh hb0 hb1 P p16 hbo PB c0 c1 c2 c3 c4 c5 c6 c7 c8 c9 c10 c11 c12 c13 c14
 have c0:=Whole.cell P1 0
 have f16:=B1.frozen 16
 have p16 : w1.cell? ⟨bb,16,none⟩ = some (.bool s.bad):=B1.cell 16
 simp only [List.getElem?_toArray,List.getElem?_cons_succ,List.getElem?_cons_zero] at c0
 go_wp2
 go_ret
 exact HE.out _ g1
end Go.Proofs.YtpcbhneaaibfiaaDoor
