/- Laid together. -/
import Derived.Test.YtpcbhneaaibfiaaDoorPB01
import Derived.Test.YtpcbhneaaibfiaaDoorPB10
set_option linter.unusedVariables false
set_option linter.unusedSimpArgs false
set_option maxHeartbeats 16000000
set_option maxRecDepth 100000
namespace Go.Proofs.YtpcbhneaaibfiaaDoor
open Go.RowKit
theorem put_map {B0 bb i : Nat} {A O : Nat -> Prop} {W : World} {s : Bst} {Y V : Vt} (h : BInv B0 bb A O W s) (hi : s.d = i + 1) (hm : (s.fr i).mp = true) (hn : (s.fr i).n + 1 <= s.nd) (hY : Y.In W W.heap.size) (hYo : Y.Off (fun b => A b /\ ¬ O b)) (hYs : Y.Same V) (hV : V.upto (48 - i)) :
 Calls Tryd.prog 48 #[.pointer (some ⟨bb,0,none⟩),.agg Y.h.cells] W (BOut B0 bb A O W (putS s V) (.tuple #[])):=by
 obtain ⟨ov,us,X,h⟩:=h
 have hb1:=(Below.refl W.heap.size W).alloc (Nat.le_refl _) (.cells Y.h.cells 30)
 have h1:=h.later hb1
 have hY1:=hY.later hb1
 have YB:=Whole.new W 30 Y.h.cells
 have hd48:=h.ok.d
 have hnd:=h.ok.nd
 have hi' : i < s.d:=by omega
 obtain ⟨o,co,cur,eo,FB,hB,hdc,hco,hcs,hcur⟩:=h1.row.op (by omega)
 have r:=h1.rows i hi'
 unfold Fr.row at r
 rw [if_pos hm] at r
 obtain ⟨a,cp,eu⟩:=r.sl
 obtain ⟨f,hown,hf⟩:=r
 have hY2 : Y.In (W.alloc (.cells Y.h.cells 30)) (W.alloc (.cells Y.h.cells 30)).heap.size:=hY1
 have HF : Hid (∀ W' g c,Kept (fun b => b = o ∨ (us i).ownBlock = some b) (W.alloc (.cells Y.h.cells 30)) W' -> ((us i).ownBlock = some g ∨ (W.alloc (.cells Y.h.cells 30)).heap.size <= g) -> Whole W' o 98 (curF cur i (.slice (some ⟨g,0,none⟩) ((s.fr i).n + 1) c)) -> W'.ownsRow B0 76 14 (.slice (some ⟨g,0,none⟩) ((s.fr i).n + 1) c) ((s.fr i).n + 1) (catN (fun t => fcs (f t)) (s.fr i).n ++ (fcs ((s.fr i).key,Y)).toList) -> BOut B0 bb A O W (putS s V) (.tuple #[]) (.returned (.tuple #[])) W') :=
  Lib.hid fun W' g c hk hg hW ho => map_end h1 hb1 hi hm hn hY2 hYo hYs hV eo hB hdc hco hcs hcur hf hk hg hW ho
 have PB : Whole (W.alloc (.cells Y.h.cells 30)) bb 86 (bcells ov s.dn X.h s.nd s.bad):=h1.box
 have q0 : (W.alloc (.cells Y.h.cells 30)).cell? ⟨o,i * 15,none⟩ = some (.int .i64 7):=by
  have q:=hcur i hi' 0 (by decide)
  rw [cells_map hm] at q
  exact (FB.cell (i * 15)).trans q
 have q11 : (W.alloc (.cells Y.h.cells 30)).cell? ⟨o,i * 15 + 12,none⟩ = some (us i):=by
  have q:=hcur i hi' 12 (by decide)
  rw [cells_map hm] at q
  exact (FB.cell (i * 15 + 12)).trans q
 have p0 : World.cell? _ ⟨bb,0,none⟩ = some (.slice (some ⟨o,0,none⟩) (i + 1) co):=(PB.cell 0).trans (by rw [eo,hi];rfl)
 have hn6 : (s.fr i).n <= 65536:=by omega
 have hi7 : i <= 47:=by omega
 have hc13 : cur[i * 15 + 13]? = some (.string (s.fr i).key):=by
  have q:=hcur i hi' 13 (by decide)
  rw [cells_map hm] at q
  exact q
 have hc14 : cur[i * 15 + 14]? = some (.bool (s.fr i).kd):=by
  have q:=hcur i hi' 14 (by decide)
  rw [cells_map hm] at q
  exact q
 obtain ⟨key,hkey⟩ : ∃ x,(s.fr i).key = x:=⟨_,rfl⟩
 obtain ⟨kd,hkd⟩ : ∃ x,(s.fr i).kd = x:=⟨_,rfl⟩
 rw [hkey] at HF hc13
 rw [hkd] at hc14
 obtain ⟨n,hnn⟩ : ∃ n,(s.fr i).n = n:=⟨_,rfl⟩
 obtain ⟨u,huu⟩ : ∃ u,us i = u:=⟨_,rfl⟩
 rw [hnn] at HF hown eu hn6
 rw [huu] at HF hown eu q11
 have hcur2 : i * 15 + 15 <= cur.size:=by omega
 have hone : Hid ((fcs (key,Y)).all (·.oneCell') = true):=Lib.hid (by simp [fcs,Value.oneCell'])
 obtain ⟨x0,x1,x2,x3,x4,x5,x6,x7,x8,x9,x10,x11,x12⟩:=Whole.c13 (h:=Y.h) YB
 obtain ⟨w0,hw0⟩ : ∃ w0,W.alloc (.cells Y.h.cells 30) = w0:=⟨_,rfl⟩
 have hWs : w0.heap.size = W.heap.size + 1:=by rw [<- hw0,World.size_alloc]
 have Ho:=hown.lt
 rw [hw0] at HF PB q0 q11 p0 hown FB YB x0 x1 x2 x3 x4 x5 x6 x7 x8 x9 x10 x11 x12 Ho
 have HW0:=Lib.hid hw0
 have pA:=p0
 rw [<- hw0] at pA
 have hoy : o ≠ W.heap.size:=fun e => by
  have:=(h.row.lt (g:=o) (by rw [eo];rfl)).2
  omega
 have huo : ∀ g,u.ownBlock = some g -> g ≠ o /\ g ≠ W.heap.size:=fun g hg => by
  refine ⟨fun e => ?_,fun e => ?_⟩
  ·have:=(h.sep2 i hi').2 (by rw [huu,hg,eo,e];rfl)
   rw [huu,hg] at this
   cases this
  ·have:=(Fr.row_lt (h.rows i hi') (g:=g) (by rw [huu];exact hg)).2
   omega
 have hfrz:=FB.frozen (i * 15 + 12)
 clear h h1 hb1 hY hY1 hY2 hYo hYs hV hf hcur hn hnd hd48 hi' hdc hcs hnn huu hw0 eo PB hkey hkd
 subst eu
 have i3 : ((i : Nat) : Int) <= 47:=by omega
 have i4 : (0 : Int) <= ((i : Nat) : Int):=by omega
 simp only [Vh.cells,fcs] at x0 x1 x2 x3 x4 x5 x6 x7 x8 x9 x10 x11 x12 hone HW0 pA ⊢
 go_enter Tryd.func48,Tryd.ntmps48
 go_wp2_with (fail)
 clear pA
 simp only [HW0.out]
 go_quiet (fail)
 -- region 6
 have B1 : Below w0.heap.size w0 (w0.drewN nq):=⟨rfl,rfl,rfl,Nat.le_refl _,fun _ _ => rfl⟩
 generalize w0.drewN nq = w1 at *
 have FB1:=FB.below B1 FB.lt
 have YB1:=YB.below B1 YB.lt
 have q01:=(B1.cell (p:=⟨o,i * 15,none⟩) FB.lt).trans q0
 clear q0 p0 x0 x1 x2 x3 x4 x5 x6 x7 x8 x9 x10 x11 x12
 go_wp2_with fail
 refine wp_region_held_drew (S:=fun V => Whole V W.heap.size 30 Y.h.cells /\ V.cell? ⟨o,i * 15 + 13,none⟩ = some (.string key)) (by kernel_rfl) ⟨Whole.drew YB1,(FB1.cell _).trans hc13⟩ (fun hS => ?_)
 refine tkH (i:=0) rfl (by kernel_rfl) (by rfl) (fun _ _ _ h => h) hS (by intro wS hSw;go_simp;try with_reducible rfl) ?_
 simp only [Act.put,actS]
 refine tkH (i:=1) rfl (by kernel_rfl) (by rfl) (fun _ _ _ h => h) hS (by intro wS hSw;go_simp;try with_reducible rfl) ?_
 simp only [Act.put,actS]
 refine tkH (i:=2) rfl (by kernel_rfl) (by rfl) (fun _ _ _ h => h) hS (by intro wS hSw;go_simp;try with_reducible rfl) ?_
 simp only [Act.put,actS]
 refine tkH (i:=3) rfl (by kernel_rfl) (by rfl) (fun _ _ _ h => h) hS (by intro wS hSw;go_simp;try with_reducible rfl) ?_
 simp only [Act.put,actS]
 refine tkH (i:=5) rfl (by kernel_rfl) (by rfl) (fun _ _ _ h => h) hS (by intro wS hSw;go_simp;try with_reducible rfl) ?_
 simp only [Act.put,actS]
 refine tkH (i:=6) rfl (by kernel_rfl) (by rfl) (fun _ _ _ h => h) hS (by intro wS hSw;go_simp;try with_reducible rfl) ?_
 simp only [Act.put,actS]
 refine tkH (i:=7) rfl (by kernel_rfl) (by rfl) (fun _ _ _ h => h) hS (by intro wS hSw;go_simp;try with_reducible rfl) ?_
 simp only [Act.put,actS]
 refine tkH (i:=8) rfl (by kernel_rfl) (by rfl) (fun _ _ _ h => h) hS (by intro wS hSw;obtain ⟨-,hSc⟩:=hSw;go_simp;try with_reducible rfl) ?_
 simp only [Act.put,actS]
 refine tkH (i:=9) rfl (by kernel_rfl) (by rfl) (fun _ _ _ h => h) hS (by intro wS hSw;obtain ⟨hSy,-⟩:=hSw;obtain ⟨y0,y1,y2,y3,y4,y5,y6,y7,y8,y9,y10,y11,y12⟩:=Whole.c13 (h:=Y.h) hSy;go_simp;try with_reducible rfl) ?_
 simp only [Act.put,actS]
 refine tkH (i:=10) rfl (by kernel_rfl) (by rfl) (fun _ _ _ h => h) hS (by intro wS hSw;go_simp;try with_reducible rfl) ?_
 simp only [Act.put,actS]
 have B2 : Below w0.heap.size w0 w1.drew:=B1.drew
 have FB2 : Whole w1.drew o 98 cur:=FB1
 have YB2 : Whole w1.drew W.heap.size 30 Y.h.cells:=YB1
 clear B1 FB1 YB1 q01
 generalize w1.drew = w2 at *
 have q2:=(B2.cell (p:=⟨o,i * 15 + 12,none⟩) FB.lt).trans q11
 have q2a : (w2.alloc (.cells #[.string ⟨#[]⟩,.int .i64 0,.bool false,.bool false,.string ⟨#[]⟩,.int .i64 0,.int .i64 0,.int .i64 0,.int .i64 0,.int .i64 0,.string ⟨#[]⟩,.slice none 0 0,.slice none 0 0,.slice none 0 0] 76)).cell? ⟨o,i * 15 + 12,none⟩ = some (.slice a n cp):=(((Below.refl w2.heap.size w2).alloc (Nat.le_refl _) (.cells #[.string ⟨#[]⟩,.int .i64 0,.bool false,.bool false,.string ⟨#[]⟩,.int .i64 0,.int .i64 0,.int .i64 0,.int .i64 0,.int .i64 0,.string ⟨#[]⟩,.slice none 0 0,.slice none 0 0,.slice none 0 0] 76)).cell (p:=⟨o,i * 15 + 12,none⟩) FB2.lt).trans q2
 have FBa:=Whole.alloc FB2 (.cells #[.string ⟨#[]⟩,.int .i64 0,.bool false,.bool false,.string ⟨#[]⟩,.int .i64 0,.int .i64 0,.int .i64 0,.int .i64 0,.int .i64 0,.string ⟨#[]⟩,.slice none 0 0,.slice none 0 0,.slice none 0 0] 76)
 apply cutAt
 ·intro E
  refine wpAnyH_ready (rs:=[4,12]) (by kernel_rfl) (by simp) ?_
  refine (AllReadyH.cons rfl (fun KK hK => ?_) (AllReadyH.cons rfl (fun KK hK => ?_) AllReadyH.nil))
  ·go_simp
   refine hK.out _ _ hS (fun hS2 => ?_)
   clear hK KK
   try simp only [Act.put,actS]
   refine tkH (i:=11) rfl (by kernel_rfl) (by rfl) (fun _ _ _ h => h) hS2 (by intro wS hSw;go_simp;try with_reducible rfl) ?_
   simp only [Act.put,actS]
   refine wpAnyH_ready (rs:=[12]) (by kernel_rfl) (by simp) ?_
   refine AllReadyH.cons rfl (fun KK hK => ?_) AllReadyH.nil
   go_simp
   refine hK.out _ _ ⟨Whole.alloc hS2.1 _,(FBa.cell _).trans hc13⟩ (fun hS3 => ?_)
   clear hK KK
   try simp only [Act.put,actS]
   exact E
  ·go_simp
   refine hK.out _ _ ⟨Whole.alloc hS.1 _,(FBa.cell _).trans hc13⟩ (fun hS2 => ?_)
   clear hK KK
   try simp only [Act.put,actS]
   refine wpAnyH_ready (rs:=[4]) (by kernel_rfl) (by simp) ?_
   refine AllReadyH.cons rfl (fun KK hK => ?_) AllReadyH.nil
   go_simp
   refine hK.out _ _ hS2 (fun hS3 => ?_)
   clear hK KK
   try simp only [Act.put,actS]
   refine tkH (i:=11) rfl (by kernel_rfl) (by rfl) (fun _ _ _ h => h) hS3 (by intro wS hSw;go_simp;try with_reducible rfl) ?_
   simp only [Act.put,actS]
   exact E
 clear q2 q2a
 have YBa:=Whole.alloc YB2 (.cells #[.string ⟨#[]⟩,.int .i64 0,.bool false,.bool false,.string ⟨#[]⟩,.int .i64 0,.int .i64 0,.int .i64 0,.int .i64 0,.int .i64 0,.string ⟨#[]⟩,.slice none 0 0,.slice none 0 0,.slice none 0 0] 76)
 have Ba:=B2.alloc B2.size (.cells #[.string ⟨#[]⟩,.int .i64 0,.bool false,.bool false,.string ⟨#[]⟩,.int .i64 0,.int .i64 0,.int .i64 0,.int .i64 0,.int .i64 0,.string ⟨#[]⟩,.slice none 0 0,.slice none 0 0,.slice none 0 0] 76)
 have hs2:=B2.size
 have hsa : (w2.alloc (.cells #[.string ⟨#[]⟩,.int .i64 0,.bool false,.bool false,.string ⟨#[]⟩,.int .i64 0,.int .i64 0,.int .i64 0,.int .i64 0,.int .i64 0,.string ⟨#[]⟩,.slice none 0 0,.slice none 0 0,.slice none 0 0] 76)).heap.size = w2.heap.size + 1:=World.size_alloc _ _
 have Hown:=Lib.hid (own_block (W':=w2.alloc (.cells #[.string ⟨#[]⟩,.int .i64 0,.bool false,.bool false,.string ⟨#[]⟩,.int .i64 0,.int .i64 0,.int .i64 0,.int .i64 0,.int .i64 0,.string ⟨#[]⟩,.slice none 0 0,.slice none 0 0,.slice none 0 0] 76)) hown (fun g hg => Ba.block g (Ho g hg).2))
 have Hlen:=Lib.hid hown.1
 have s1:=Lib.hid (cells_new w2 76 #[.string ⟨#[]⟩,.int .i64 0,.bool false,.bool false,.string ⟨#[]⟩,.int .i64 0,.int .i64 0,.int .i64 0,.int .i64 0,.int .i64 0,.string ⟨#[]⟩,.slice none 0 0,.slice none 0 0,.slice none 0 0])
 have s2 : Hid (∀ u ∈ (#[.string ⟨#[]⟩,.int .i64 0,.bool false,.bool false,.string ⟨#[]⟩,.int .i64 0,.int .i64 0,.int .i64 0,.int .i64 0,.int .i64 0,.string ⟨#[]⟩,.slice none 0 0,.slice none 0 0,.slice none 0 0] : Array Value).toList,u.oneCell' = true):=Lib.hid (fcs_one (⟨#[]⟩,Vt.z))
 have s3 : Hid (n + 1 <= maxLen):=Lib.hid (by unfold maxLen;omega)
 have s4 : Hid ((n + 1) * 184 <= 140737488355328):=Lib.hid (by omega)
 obtain ⟨i0,hi0,hz0,hz1,hz2⟩:=info_parts Tryd.infoFld
 clear hown
 refine wpAnyH_ready (rs:=[13]) (by kernel_rfl) (by simp) ?_
 refine AllReadyH.cons rfl (fun KK hK => ?_) AllReadyH.nil
 refine step_append_lies _ (by rfl) _ _ _ (by rfl) B0 76 i0 _ 14 184 Tryd.underlying28 hi0 hz0 hz1 hz2 rfl (by decide) (.slice a n cp) n _ (by rfl) Hown.out ⟨w2.heap.size,0,none⟩ 1 1 (#[.string ⟨#[]⟩,.int .i64 0,.bool false,.bool false,.string ⟨#[]⟩,.int .i64 0,.int .i64 0,.int .i64 0,.int .i64 0,.int .i64 0,.string ⟨#[]⟩,.slice none 0 0,.slice none 0 0,.slice none 0 0] : Array Value).toList (by rfl) (by rfl) ?s1 s2.out (by omega) s3.out s4.out ?s5 (w2.heap.size + 1) (by simp) ?_
 case s1 => exact fun p v hv => s1.out p v hv
 case s5 => have:=FB.lt;rw [hsa];omega
 intro gg cap w3 hown3 hgrow hat hlt3
 obtain ⟨cg,GB,hcg,hBg,Hfill⟩:=own_fill (vs:=(fcs (key,Y)).toList) hown3 Hlen.out rfl
 have hgo : gg ≠ o:=fun e => by
  rcases hat with q | q
  ·exact (huo gg q).1 e
  ·have:=FB.lt;omega
 have hgy : gg ≠ W.heap.size:=fun e => by
  rcases hat with q | q
  ·exact (huo gg q).2 e
  ·omega
 have FB3:=FBa.kept hgrow (fun e => (huo o e.symm).1 rfl)
 have YB3:=YBa.kept hgrow (fun e => (huo _ e.symm).2 rfl)
 have HG : (Value.slice a n cp).ownBlock = some gg ∨ w0.heap.size <= gg:=hat.imp id (fun q => by omega)
 have K3 : Kept (fun b => b = o ∨ (Value.slice a n cp).ownBlock = some b) w0 w3:=(Kept.of Ba).trans (kept_grown (X:=fun b => (Value.slice a n cp).ownBlock = some b) hgrow (fun g hg => hg)) (fun b q => .inl (.inr q))
 clear FBa YBa Ba FB2 YB2 B2 hown3 hgrow hat s1 s2 s3 s4 Hown Hlen
 have hsz:=K3.size
 have HTh:=Lib.hid (whole_there (n:=14) GB hcg)
 have HTo:=Lib.hid (fun (v : Value) => whole_there (n:=14) (Whole.far (p:=⟨o,i * 15 + 12,none⟩) GB hgo v) hcg)
 have oF:=FB3.frozen (i * 15 + 12)
 have oC : ∃ z,w3.cell? ⟨o,i * 15 + 12,none⟩ = some z:=⟨_,(FB3.cell _).trans (Array.getElem?_eq_getElem (by omega))⟩
 obtain ⟨z,oC⟩:=oC
 refine hK.out _ _ ⟨YB3,(FB3.cell _).trans hc13⟩ (fun hS4 => ?_)
 clear hK KK
 try simp only [Act.put,actS]
 have k1 : (n : Int) < (n : Int) + 1:=by omega
 have k2 : (0 : Int) <= (n : Int):=by omega
 refine tkH (i:=14) rfl (by kernel_rfl) (by rfl) (fun _ _ _ h => h) hS4 (by intro wS hSw;go_simp;try with_reducible rfl) ?_
 simp only [Act.put,actS]
 refine tkH (i:=16) rfl (by kernel_rfl) (by rfl) (fun _ _ _ h => h) hS4 (by intro wS hSw;go_simp;try with_reducible rfl) ?_
 simp only [Act.put,actS]
 refine tkH (i:=17) rfl (by kernel_rfl) (by rfl) (fun _ _ _ h => h) hS4 (by intro wS hSw;go_simp;try with_reducible rfl) ?_
 simp only [Act.put,actS]
 refine tkH (i:=18) rfl (by kernel_rfl) (by rfl) (fun _ _ _ h => h) hS4 (by intro wS hSw;go_simp;try with_reducible rfl) ?_
 simp only [Act.put,actS]
 refine wpAnyH_ready (rs:=[15,19]) (by kernel_rfl) (by simp) ?_
 refine (AllReadyH.cons rfl (fun KK hK => ?_) (AllReadyH.cons rfl (fun KK hK => ?_) AllReadyH.nil))
 ·have hd13 : (cur.setIfInBounds (i * 15 + 12) (.slice (some ⟨gg,0,none⟩) (n + 1) cap))[i * 15 + 13]? = some (.string key):=by rw [Array.getElem?_setIfInBounds_ne (by omega)];exact hc13
  have hd14 : (cur.setIfInBounds (i * 15 + 12) (.slice (some ⟨gg,0,none⟩) (n + 1) cap))[i * 15 + 14]? = some (.bool kd):=by rw [Array.getElem?_setIfInBounds_ne (by omega)];exact hc14
  rw [if_pos (by rfl)]
  refine wp_store_mid 76 _ _ rfl gg (n * 14) #[.string key,.int .i64 Y.h.k,.bool Y.h.b,.bool Y.h.n,.string Y.h.d,.int .i64 Y.h.e,.int .i64 Y.h.tk,.int .i64 Y.h.td,.int .i64 Y.h.tn,.int .i64 Y.h.tz,.string Y.h.x,.slice Y.h.ba Y.h.bn Y.h.bc,.slice Y.h.la Y.h.ln Y.h.lc,.slice Y.h.fa Y.h.fn Y.h.fc] rfl rfl HTh.out fld_row hone.out ?_
  have FB4 : Whole (w3.setCells gg (n * 14) (fcs (key,Y)).toList) o 98 cur:=(heap_setCells (fun e => hgo e.symm) _ _ _).trans FB3
  have YB4 : Whole (w3.setCells gg (n * 14) (fcs (key,Y)).toList) W.heap.size 30 Y.h.cells:=(heap_setCells (fun e => hgy e.symm) _ _ _).trans YB3
  have GB4:=Whole.setCells (fcs (key,Y)).toList (n * 14) GB
  have K4:=K3.trans (kept_cells (fun b => b = gg) gg rfl (fcs (key,Y)).toList w3 (n * 14)) (fun b q => by subst q;exact HG.imp (fun q => .inr q) id)
  obtain ⟨w4,hw4⟩ : ∃ w4,w3.setCells gg (n * 14) (fcs (key,Y)).toList = w4:=⟨_,rfl⟩
  rw [hw4] at FB4 YB4 GB4 K4
  have hw4' : w3.setCells gg (n * 14) (#[.string key,.int .i64 Y.h.k,.bool Y.h.b,.bool Y.h.n,.string Y.h.d,.int .i64 Y.h.e,.int .i64 Y.h.tk,.int .i64 Y.h.td,.int .i64 Y.h.tn,.int .i64 Y.h.tz,.string Y.h.x,.slice Y.h.ba Y.h.bn Y.h.bc,.slice Y.h.la Y.h.ln Y.h.lc,.slice Y.h.fa Y.h.fn Y.h.fc] : Array Value).toList = w4:=hw4
  rw [hw4']
  clear hw4 hw4'
  refine hK.out _ _ ⟨YB4,(FB4.cell _).trans hc13⟩ (fun hS5 => ?_)
  clear hK KK
  try simp only [Act.put,actS]
  have oF4:=FB4.frozen (i * 15 + 12)
  have oC4 : ∃ z,w4.cell? ⟨o,i * 15 + 12,none⟩ = some z:=⟨_,(FB4.cell _).trans (Array.getElem?_eq_getElem (by omega))⟩
  obtain ⟨z4,oC4⟩:=oC4
  refine wpAnyH_ready (rs:=[19]) (by kernel_rfl) (by simp) ?_
  refine AllReadyH.cons rfl (fun KK hK => ?_) AllReadyH.nil
  go_simp
  have FB5:=FB4.set (i * 15 + 12) (.slice (some ⟨gg,0,none⟩) (n + 1) cap)
  have GB5:=Whole.far (p:=⟨o,i * 15 + 12,none⟩) GB4 hgo (.slice (some ⟨gg,0,none⟩) (n + 1) cap)
  have K5:=K4.trans (kept_set (fun b => b = o) _ o (i * 15 + 12) (.slice (some ⟨gg,0,none⟩) (n + 1) cap) rfl) (fun b q => .inl (.inl q))
  refine hK.out _ _ ⟨Whole.far YB4 (fun e => hoy e.symm) _,(FB5.cell _).trans hd13⟩ (fun hS6 => ?_)
  clear hK KK
  try simp only [Act.put,actS]
  refine wpAnyH_done (by kernel_rfl) ?_ _
  have HFF:=Lib.hid (HF.out _ gg cap ((K5.trans (kept_set (fun b => b = o) _ o (i * 15 + 13) (.string ⟨#[]⟩) rfl) (fun b q => .inl (.inl q))).trans (kept_set (fun b => b = o) _ o (i * 15 + 14) (.bool false) rfl) (fun b q => .inl (.inl q))) HG ((FB5.set (i * 15 + 13) (.string ⟨#[]⟩)).set (i * 15 + 14) (.bool false)) (Hfill _ (Whole.far (p:=⟨o,i * 15 + 14,none⟩) (Whole.far (p:=⟨o,i * 15 + 13,none⟩) GB5 hgo _) hgo _)))
  have r13:=(FB5.cell (i * 15 + 13)).trans hd13
  have r14:=(FB5.cell (i * 15 + 14)).trans hd14
  have f13:=FB5.frozen (i * 15 + 13)
  have f14:=FB5.frozen (i * 15 + 14)
  go_wp2_with fail
  go_end0
  exact HFF.out
 ·have hd13 : (cur.setIfInBounds (i * 15 + 12) (.slice (some ⟨gg,0,none⟩) (n + 1) cap))[i * 15 + 13]? = some (.string key):=by rw [Array.getElem?_setIfInBounds_ne (by omega)];exact hc13
  have hd14 : (cur.setIfInBounds (i * 15 + 12) (.slice (some ⟨gg,0,none⟩) (n + 1) cap))[i * 15 + 14]? = some (.bool kd):=by rw [Array.getElem?_setIfInBounds_ne (by omega)];exact hc14
  go_simp
  have FB4:=FB3.set (i * 15 + 12) (.slice (some ⟨gg,0,none⟩) (n + 1) cap)
  have YB4:=Whole.far (p:=⟨o,i * 15 + 12,none⟩) YB3 (fun e => hoy e.symm) (.slice (some ⟨gg,0,none⟩) (n + 1) cap)
  have GB4:=Whole.far (p:=⟨o,i * 15 + 12,none⟩) GB hgo (.slice (some ⟨gg,0,none⟩) (n + 1) cap)
  have K4:=K3.trans (kept_set (fun b => b = o) _ o (i * 15 + 12) (.slice (some ⟨gg,0,none⟩) (n + 1) cap) rfl) (fun b q => .inl (.inl q))
  refine hK.out _ _ ⟨YB4,(FB4.cell _).trans hd13⟩ (fun hS5 => ?_)
  clear hK KK
  try simp only [Act.put,actS]
  refine wpAnyH_ready (rs:=[15]) (by kernel_rfl) (by simp) ?_
  refine AllReadyH.cons rfl (fun KK hK => ?_) AllReadyH.nil
  rw [if_pos (by rfl)]
  refine wp_store_mid 76 _ _ rfl gg (n * 14) #[.string key,.int .i64 Y.h.k,.bool Y.h.b,.bool Y.h.n,.string Y.h.d,.int .i64 Y.h.e,.int .i64 Y.h.tk,.int .i64 Y.h.td,.int .i64 Y.h.tn,.int .i64 Y.h.tz,.string Y.h.x,.slice Y.h.ba Y.h.bn Y.h.bc,.slice Y.h.la Y.h.ln Y.h.lc,.slice Y.h.fa Y.h.fn Y.h.fc] rfl rfl (HTo.out _) fld_row hone.out ?_
  have FB5 : Whole ((w3.setCell ⟨o,i * 15 + 12,none⟩ (.slice (some ⟨gg,0,none⟩) (n + 1) cap)).setCells gg (n * 14) (fcs (key,Y)).toList) o 98 _:=(heap_setCells (fun e => hgo e.symm) _ _ _).trans FB4
  have YB5 : Whole ((w3.setCell ⟨o,i * 15 + 12,none⟩ (.slice (some ⟨gg,0,none⟩) (n + 1) cap)).setCells gg (n * 14) (fcs (key,Y)).toList) W.heap.size 30 Y.h.cells:=(heap_setCells (fun e => hgy e.symm) _ _ _).trans YB4
  have GB5:=Whole.setCells (fcs (key,Y)).toList (n * 14) GB4
  have K5:=K4.trans (kept_cells (fun b => b = gg) gg rfl (fcs (key,Y)).toList _ (n * 14)) (fun b q => by subst q;exact HG.imp (fun q => .inr q) id)
  obtain ⟨w5,hw5⟩ : ∃ w5,(w3.setCell ⟨o,i * 15 + 12,none⟩ (.slice (some ⟨gg,0,none⟩) (n + 1) cap)).setCells gg (n * 14) (fcs (key,Y)).toList = w5:=⟨_,rfl⟩
  rw [hw5] at FB5 YB5 GB5 K5
  have hw5' : (w3.setCell ⟨o,i * 15 + 12,none⟩ (.slice (some ⟨gg,0,none⟩) (n + 1) cap)).setCells gg (n * 14) (#[.string key,.int .i64 Y.h.k,.bool Y.h.b,.bool Y.h.n,.string Y.h.d,.int .i64 Y.h.e,.int .i64 Y.h.tk,.int .i64 Y.h.td,.int .i64 Y.h.tn,.int .i64 Y.h.tz,.string Y.h.x,.slice Y.h.ba Y.h.bn Y.h.bc,.slice Y.h.la Y.h.ln Y.h.lc,.slice Y.h.fa Y.h.fn Y.h.fc] : Array Value).toList = w5:=hw5
  rw [hw5']
  clear hw5 hw5'
  refine hK.out _ _ ⟨YB5,(FB5.cell _).trans hd13⟩ (fun hS6 => ?_)
  clear hK KK
  try simp only [Act.put,actS]
  refine wpAnyH_done (by kernel_rfl) ?_ _
  have HFF:=Lib.hid (HF.out _ gg cap ((K5.trans (kept_set (fun b => b = o) _ o (i * 15 + 13) (.string ⟨#[]⟩) rfl) (fun b q => .inl (.inl q))).trans (kept_set (fun b => b = o) _ o (i * 15 + 14) (.bool false) rfl) (fun b q => .inl (.inl q))) HG ((FB5.set (i * 15 + 13) (.string ⟨#[]⟩)).set (i * 15 + 14) (.bool false)) (Hfill _ (Whole.far (p:=⟨o,i * 15 + 14,none⟩) (Whole.far (p:=⟨o,i * 15 + 13,none⟩) GB5 hgo _) hgo _)))
  have r13:=(FB5.cell (i * 15 + 13)).trans hd13
  have r14:=(FB5.cell (i * 15 + 14)).trans hd14
  have f13:=FB5.frozen (i * 15 + 13)
  have f14:=FB5.frozen (i * 15 + 14)
  go_wp2_with fail
  go_end0
  exact HFF.out
end Go.Proofs.YtpcbhneaaibfiaaDoor
namespace Go.Proofs.YtpcbhneaaibfiaaDoor
theorem put_any {B0 bb : Nat} {A O : Nat -> Prop} {W : World} {s : Bst} {Y V : Vt} (h : BInv B0 bb A O W s) (hn : 0 < s.d -> (s.fr (s.d - 1)).n + 1 <= s.nd) (hY : Y.In W W.heap.size) (hYo : Y.Off (fun b => A b /\ ¬ O b)) (hYs : Y.Same V) (hu : V.upto (49 - s.d)) :
 Calls Tryd.prog 48 #[.pointer (some ⟨bb,0,none⟩),.agg Y.h.cells] W (BOut B0 bb A O W (putS s V) (.tuple #[])):=by
 rcases Nat.eq_zero_or_pos s.d with hd | hd
 ·exact put_out h hd hY hYo hYs (by rw [hd] at hu;exact hu)
 ·have hi : s.d = (s.d - 1) + 1:=by omega
  have hu' : V.upto (48 - (s.d - 1)):=by rw [show 48 - (s.d - 1) = 49 - s.d by omega];exact hu
  cases hm : (s.fr (s.d - 1)).mp with
  | false => exact put_list h hi hm (hn hd) hY hYo hYs hu'
  | true => exact put_map h hi hm (hn hd) hY hYo hYs hu'
end Go.Proofs.YtpcbhneaaibfiaaDoor
