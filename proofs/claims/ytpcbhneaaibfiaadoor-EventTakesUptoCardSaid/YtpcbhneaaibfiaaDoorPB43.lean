/- Laid together. -/
import Derived.Test.YtpcbhneaaibfiaaDoorPB33
import Derived.Test.YtpcbhneaaibfiaaDoorPB34
import Derived.Test.YtpcbhneaaibfiaaDoorPB17
import Derived.Test.YtpcbhneaaibfiaaDoorPB10
set_option linter.unusedVariables false
set_option linter.unusedSimpArgs false
set_option maxHeartbeats 16000000
set_option maxRecDepth 100000
namespace Go.Proofs.YtpcbhneaaibfiaaDoor
open Go.RowKit
theorem rat_step (i : Int) (w : World) : Calls Tryd.prog 53 #[.int .i64 i] w fun e w' => e = .returned (.agg #[.bool true,.string ⟨#[]⟩,.int .i64 i]) /\ Below w.heap.size w w':=by
 have Y:=Whole.new w 78 #[.bool false,.string ⟨#[]⟩,.int .i64 0]
 have hone:=Lib.hid (stp_all ⟨true,⟨#[]⟩,i⟩)
 go_enter Tryd.func53,Tryd.ntmps53
 go_wp2_with (refine wpList_store_row rfl 78 _ _ rfl w.heap.size (Stp.cells ⟨true,⟨#[]⟩,i⟩) rfl rfl 78 _ Y stp_size rfl hone.out ?_)
 exact bodyPost_ret (v:=.agg (Stp.cells ⟨true,⟨#[]⟩,i⟩)) (ret_stp (p:=2) rfl rfl (Y.setRow _)) rfl ⟨rfl,below_setRow ((Below.refl _ w).alloc (Nat.le_refl _) _) (Nat.le_refl _) _⟩
theorem rkey_step (k : ByteArray) (w : World) : Calls Tryd.prog 52 #[.string k] w fun e w' => e = .returned (.agg #[.bool false,.string k,.int .i64 0]) /\ Below w.heap.size w w':=by
 have Y:=Whole.new w 78 #[.bool false,.string ⟨#[]⟩,.int .i64 0]
 have hone:=Lib.hid (stp_all ⟨false,k,0⟩)
 go_enter Tryd.func52,Tryd.ntmps52
 go_wp2_with (refine wpList_store_row rfl 78 _ _ rfl w.heap.size (Stp.cells ⟨false,k,0⟩) rfl rfl 78 _ Y stp_size rfl hone.out ?_)
 exact bodyPost_ret (v:=.agg (Stp.cells ⟨false,k,0⟩)) (ret_stp (p:=2) rfl rfl (Y.setRow _)) rfl ⟨rfl,below_setRow ((Below.refl _ w).alloc (Nat.le_refl _) _) (Nat.le_refl _) _⟩
def Rst.pok (r : Rst) : Prop:=∀ j,j < r.O.n -> (r.O.O j).cnt <= 1048576 /\ ((r.O.O j).mp = true -> ((r.O.O j).due = true ∨ j + 1 ≠ r.O.n) -> 0 < (r.O.O j).k.n) /\ ((r.O.O j).mp = false -> j + 1 ≠ r.O.n -> 0 < (r.O.O j).cnt)
theorem Rst.is.pok {r : Rst} {s : Bst} {l : List Ev} (h : r.is s l) (hi : s.inv) : r.pok:=by
 intro j hj
 have hd:=h.d
 have q:=h.O j (by omega)
 have h1:=(hi.ok.fr j (by omega)).1
 have h2:=hi.ok.nd
 refine ⟨by rw [q.cnt];split <;> omega,fun hm hc => ?_,fun hm hc => ?_⟩
 ·have hfm : (s.fr j).mp = true:=by rw [<- q.mp];exact hm
  have hkd : (s.fr j).kd = true:=by
   rcases hc with hc | hc
   ·exact (q.due.1 hc).2.2
   ·have:=hi.keyed j (by omega)
    rw [<- this];exact hfm
  rw [q.kn,if_pos hfm,if_pos hkd]
  omega
 ·rw [q.cnt,decide_eq_false (by omega),if_neg (by decide)]
  omega
def pathR (O : Nat -> Opn) (n j : Nat) : List Stp:=catL (fun i => pathO (O i) (decide (i + 1 = n))) j
theorem pathO_len (o : Opn) (b : Bool) : (pathO o b).length <= 1:=by
 unfold pathO
 split
 ·split <;> simp
 ·simp
theorem pathR_len (O : Nat -> Opn) (n : Nat) : ∀ j,(pathR O n j).length <= j:=by
 intro j
 induction j with
 | zero => exact Nat.le_refl _
 | succ j ih =>
  show (pathR O n j ++ pathO (O j) (decide (j + 1 = n))).length <= _
  rw [List.length_append]
  have:=pathO_len (O j) (decide (j + 1 = n))
  omega
theorem StRow.low {B B' : Nat} {W : World} {v : Value} {q : List Stp} (h : StRow B W v q) (hb : B' <= B) : StRow B' W v q:=by
 obtain ⟨hl,ho⟩:=h
 refine ⟨hl,?_⟩
 rcases ho with ho | ⟨g,cap,cur,e,h1,h2⟩
 ·exact .inl ho
 ·exact .inr ⟨g,cap,cur,e,Nat.le_trans hb h1,h2⟩
theorem rpath_any {r : Rst} {top : Nat} {w : World} (hr : r.In w top) (ht : top <= w.heap.size) (hp : r.pok) : Calls Tryd.prog 28 #[.agg r.cells] w (PthOut r.path w):=by
 have hn48:=hr.1.2.1.1
 have HPO:=Lib.hid (fun (j : Nat) (hj : j < r.O.n) => hp j hj)
 have HLa:=Lib.hid hr.1.1
 have HLi:=Lib.hid (fun (j : Nat) (hj : j < r.O.n) (W : World) (hb : Below w.heap.size w W) => (hr.1.2.2 j hj).1.below (hb.mono ht) (hr.1.1 (by omega)).2)
 have HKi:=Lib.hid (fun (j : Nat) (hj : j < r.O.n) (W : World) (hb : Below w.heap.size w W) => ((hr.1.2.2 j hj).2.below (hb.mono ht)))
 have HEnd:=Lib.hid (fun (v : Value) (W : World) (ho : StRow (w.heap.size + 1) W v (pathR r.O.O r.O.n r.O.n)) (hb : Below w.heap.size w W) => (pth_of (ho.low (Nat.le_succ _)) (show (pathR r.O.O r.O.n r.O.n).length <= 1048576 by have:=pathR_len r.O.O r.O.n r.O.n;omega) (fun s hs => by
  obtain ⟨i,hi,hx⟩:=catL_mem hs
  obtain ⟨h1,h2,h3⟩:=hp i hi
  have hkk:=(hr.1.2.2 i hi).2
  unfold pathO at hx
  split at hx
  ·rename_i hm
   split at hx
   ·rename_i hc
    obtain rfl:=List.mem_singleton.1 hx
    have h4:=h2 hm (hc.imp id fun q => of_decide_eq_false q)
    exact ⟨(hkk.2.2 _ (by omega)).2,by show w64 0;exact ⟨by decide,by decide⟩⟩
   ·cases hx
  ·obtain rfl:=List.mem_singleton.1 hx
   refine ⟨Nat.zero_le _,?_⟩
   show w64 (((if decide (i + 1 = r.O.n) = true then (r.O.O i).cnt else (r.O.O i).cnt - 1 : Nat)) : Int)
   split
   ·exact ⟨by omega,by omega⟩
   ·exact ⟨by omega,by omega⟩) hb : PthOut r.path w (.returned v) W))
 obtain ⟨i0,hi0,hz0,hz1,hz2⟩:=info_parts Tryd.infoStp
 clear hr hp
 obtain ⟨⟨oa,on,oc,ob,oo,F⟩,⟨ta,tn,tc,tb,to',TS⟩,nd,wrong⟩:=r
 dsimp only at hn48 HPO HLa HLi HKi HEnd
 have hni : ((on : Nat) : Int) <= 48:=by omega
 have hnj : (0 : Int) <= ((on : Nat) : Int):=by omega
 simp only [Rst.cells]
 have P0:=Whole.new w 53 #[.slice oa on oc,.slice ta tn tc,.int .i64 nd,.bool wrong]
 have g0:=(Below.refl w.heap.size w).alloc (Nat.le_refl _) (.cells #[.slice oa on oc,.slice ta tn tc,.int .i64 nd,.bool wrong] 53)
 go_enter Tryd.func28,Tryd.ntmps28
 go_wp2_with fail
 go_loopw [3,4] (fun v i wr => ∃ j : Nat,j <= on /\ i = .int .i64 j /\ Hid (StRow (w.heap.size + 1) wr v (pathR F on j)) /\ Whole wr w.heap.size 53 #[.slice oa on oc,.slice ta tn tc,.int .i64 nd,.bool wrong] /\ Below w.heap.size w wr) (fun _ i _ => on - (intOf i).toNat)
 case atStart => exact ⟨0,by omega,rfl,Lib.hid (StRow.nil _ _),P0,g0⟩
 case round =>
  clear P0 g0
  obtain ⟨j,hj,rfl,HV,P1,g1⟩:=hrel
  have hji : (0 : Int) <= j:=by omega
  by_cases hjd : j < on
  ·have hjl : (j : Int) < on:=by omega
   obtain ⟨m,hm⟩ : ∃ m,on = m + 1:=⟨on - 1,by omega⟩
   have ei : ((on : Nat) : Int) - 1 = m:=by omega
   have hjm : j <= m:=by omega
   have hlast : decide (j + 1 = on) = decide (j = m):=by
    by_cases q : j = m
    ·rw [decide_eq_true q,decide_eq_true (by omega)]
    ·rw [decide_eq_false q,decide_eq_false (by omega)]
   have HLast : Hid (on = m + 1):=Lib.hid hm
   obtain ⟨ea,elt⟩:=HLa.out (by omega)
   have hl:=HLi.out j hjd wr g1
   have HK2:=Lib.hid (fun (W : World) (hb : Below w.heap.size w W) => HKi.out j hjd W hb)
   have hpo:=HPO.out j hjd
   have hsucc : pathR F on (j + 1) = pathR F on j ++ pathO (F j) (decide (j + 1 = on)):=rfl
   rw [hlast] at hsucc
   have hlen:=pathR_len F on j
   obtain ⟨va,vc,hvs⟩:=HV.out.sl
   subst hvs
   have HV1:=Lib.hid HV.out
   clear HV hlast
   obtain ⟨q2,hq2⟩ : ∃ q2,pathR F on (j + 1) = q2:=⟨_,rfl⟩
   rw [hq2] at hsucc
   have HQ2:=Lib.hid hq2
   clear hq2
   generalize pathR F on j = q1 at *
   generalize F j = y at *
   obtain ⟨ymp,⟨ka,kn,kc,kb,ko,K⟩,ycnt,ydue⟩:=y
   have hq1 : q1.length <= 48:=by omega
   have HS:=Lib.hid hsucc
   have hc20:=hpo.1
   have HPo:=Lib.hid hpo.2
   clear hsucc hpo hm
   dsimp only at HPo hc20
   rw [ea]
   subst ea
   simp only [Opn.cells] at hl
   obtain ⟨l0,l1,l2,l3⟩:=hl.o4
   obtain ⟨c0,-,-,-⟩:=Whole.o4s P1
   clear hl
   have h1:=Below.refl wr.heap.size wr
   have hg1:=g1.size
   have hP1:=Whole.lt P1
   have q3:=(Below.refl wr.heap.size wr).alloc (Nat.le_refl _) (.cells #[.bool false,.slice none 0 0,.int .i64 0,.bool false] 90)
   have N2:=Whole.new wr 90 #[.bool false,.slice none 0 0,.int .i64 0,.bool false]
   have N2b:=N2
   have P2:=Whole.below P1 q3 (Whole.lt P1)
   have g2:=below_then g1 q3
   have h2:=below_then h1 q3
   clear P1 g1 h1
   clear q3
   have hone : Hid ((#[.bool ymp,.slice ka kn kc,.int .i64 ycnt,.bool ydue] : Array Value).all (·.oneCell') = true):=Lib.hid (by simp [Value.oneCell'])
   have P3:=Whole.farRow (B':=wr.heap.size) P2 (by omega) #[.bool ymp,.slice ka kn kc,.int .i64 ycnt,.bool ydue]
   have N3:=Whole.setRow N2 #[.bool ymp,.slice ka kn kc,.int .i64 ycnt,.bool ydue]
   have g3:=below_setRow (g:=wr.heap.size) g2 (by omega) #[.bool ymp,.slice ka kn kc,.int .i64 ycnt,.bool ydue]
   have h3:=below_setRow (g:=wr.heap.size) h2 (by omega) #[.bool ymp,.slice ka kn kc,.int .i64 ycnt,.bool ydue]
   clear P2 N2 g2 h2
   go_upto_region 6 with (refine wpList_store_row rfl 90 _ _ rfl wr.heap.size #[.bool ymp,.slice ka kn kc,.int .i64 ycnt,.bool ydue] rfl rfl 90 _ N2b opn_row rfl hone.out ?_)
   clear hone N2b l0 l1 l2 l3 c0
   generalize (wr.alloc (.cells #[.bool false,.slice none 0 0,.int .i64 0,.bool false] 90)).setRow (wr.heap.size) #[.bool ymp,.slice ka kn kc,.int .i64 ycnt,.bool ydue] = w3 at *
   obtain ⟨n0,n1,n2,n3⟩:=N3.o4
   obtain ⟨c0,-,-,-⟩:=Whole.o4s P3
   by_cases hl : j = m
   ·cases ymp
    ·rw [decide_eq_true hl] at HS
     have dl : ((j : Int) == (m : Int)) = true:=beq_iff_eq.2 (by omega)
     go_wp2_with fail
     refine (rat_step (ycnt : Int) _).mono ?_;rintro _ w4 ⟨rfl,hb4⟩
     clear n0 n1 n2 n3 c0
     have P4:=Whole.below P3 hb4 (Whole.lt P3)
     have N4:=Whole.below N3 hb4 (Whole.lt N3)
     have g4:=below_then g3 hb4
     have h4:=below_then h3 hb4
     clear P3 N3 g3 h3
     clear hb4
     obtain ⟨n0,n1,n2,n3⟩:=N4.o4
     obtain ⟨c0,-,-,-⟩:=Whole.o4s P4
     have q5:=(Below.refl w4.heap.size w4).alloc (Nat.le_refl _) (.cells #[.bool true,.string ⟨#[]⟩,.int .i64 ycnt] 78)
     clear n0 n1 n2 n3 c0
     have P5:=Whole.below P4 q5 (Whole.lt P4)
     have N5:=Whole.below N4 q5 (Whole.lt N4)
     have g5:=below_then g4 q5
     have h5:=below_then h4 q5
     clear P4 N4 g4 h4
     clear q5
     obtain ⟨n0,n1,n2,n3⟩:=N5.o4
     obtain ⟨c0,-,-,-⟩:=Whole.o4s P5
     have s1:=Lib.hid (cells_new w4 78 #[.bool true,.string ⟨#[]⟩,.int .i64 ycnt])
     have s2 : Hid (∀ u ∈ (#[.bool true,.string ⟨#[]⟩,.int .i64 ycnt] : Array Value).toList,u.oneCell' = true):=Lib.hid (by simp [Value.oneCell'])
     have s3 : Hid (q1.length + 1 <= maxLen):=Lib.hid (by unfold maxLen;omega)
     have s4 : Hid ((q1.length + 1) * 32 <= 140737488355328):=Lib.hid (by omega)
     have s5 : Hid (w.heap.size + 1 <= (w4.alloc (.cells #[.bool true,.string ⟨#[]⟩,.int .i64 ycnt] 78)).heap.size):=Lib.hid (by have:=Whole.lt P5;omega)
     have O5:=Lib.hid (HV1.out.below h5)
     go_wp2_with (first | (at_builtin;refine wpList_append_told _ rfl _ _ 42 rfl (w.heap.size + 1) 78 i0 _ 3 32 Tryd.underlying42 hi0 hz0 hz1 hz2 rfl (by decide) _ _ _ rfl O5.out ⟨w4.heap.size,0,none⟩ 1 1 (#[.bool true,.string ⟨#[]⟩,.int .i64 ycnt] : Array Value).toList rfl rfl (by simpa using s1.out) s2.out s3.out s4.out s5.out Nat.one_pos ?_))
     intro v2 w6 ho6 hg6 hv6
     clear n0 n1 n2 n3 c0
     have N6:=Whole.kept N5 hg6 (fun e => by have:=(own_lt HV1.out e.symm).2;omega)
     have P6:=Whole.kept P5 hg6 (fun e => by have:=(own_lt O5.out e.symm).1;omega)
     have g6:=Below.grown g5 hg6 g5.size (fun g hg => by have:=(own_lt O5.out hg).1;omega)
     clear P5 g5
     have HV2 : Hid (StRow (w.heap.size + 1) w6 v2 q2):=Lib.hid (by rw [HS.out,show pathO ⟨false,⟨ka,kn,kc,kb,ko,K⟩,ycnt,ydue⟩ true = [⟨true,⟨#[]⟩,(ycnt : Int)⟩] from by (unfold pathO;simp [stI])];exact StRow.push (s:=⟨true,⟨#[]⟩,ycnt⟩) ho6)
     clear s1 s2 s3 s4 s5 O5 ho6 hg6 hv6 HV1 HS N5 h5
     obtain ⟨c0,-,-,-⟩:=Whole.o4s P6
     obtain ⟨n0,n1,n2,n3⟩:=N6.o4
     go_wp2
     go_roundw
     case rel => exact ⟨j + 1,by omega,by go_num,by rw [HQ2.out];exact HV2,P6,g6⟩
     case measure => simp [intOf];omega
    ·rw [decide_eq_true hl] at HS
     have dl : ((j : Int) == (m : Int)) = true:=beq_iff_eq.2 (by omega)
     cases ydue
     ·have HV2 : Hid (StRow (w.heap.size + 1) w3 (.slice va q1.length vc) q2):=Lib.hid (by rw [HS.out,show pathO ⟨true,⟨ka,kn,kc,kb,ko,K⟩,ycnt,false⟩ true = [] from by (unfold pathO;simp),List.append_nil];exact HV1.out.below h3)
      clear HV1 HS h3
      go_wp2
      go_roundw
      case rel => exact ⟨j + 1,by omega,by go_num,by rw [HQ2.out];exact HV2,P3,g3⟩
      case measure => simp [intOf];omega
     ·obtain ⟨km,hkm⟩ : ∃ km,kn = km + 1:=⟨kn - 1,by have:=HPo.out.1 rfl (.inl rfl);omega⟩
      have ek : ((kn : Nat) : Int) - 1 = km:=by omega
      have hk3:=HK2.out w3 g3
      obtain ⟨eka,hkl⟩:=hk3.1 (by show 0 < kn;omega)
      obtain ⟨ks,hks⟩:=hk3.2.2 km (by show km < kn;omega)
      have hk48:=hk3.2.1.1
      dsimp only at eka ks hks hk48
      have ek0 : (0 : Int) <= km:=by omega
      have ek1 : (km : Int) < kn:=by omega
      have ek2 : (km : Int) <= 1048576:=by omega
      have HKN:=Lib.hid hkm
      clear hk3 hkm hkl
      subst eka
      obtain ⟨kk,hkk⟩ : ∃ kk,K km = kk:=⟨_,rfl⟩
      rw [hkk] at ks hks
      have HKK:=Lib.hid hkk
      clear hkk
      go_wp2_with fail
      refine (rkey_step kk _).mono ?_;rintro _ w4 ⟨rfl,hb4⟩
      clear n0 n1 n2 n3 c0
      have P4:=Whole.below P3 hb4 (Whole.lt P3)
      have N4:=Whole.below N3 hb4 (Whole.lt N3)
      have g4:=below_then g3 hb4
      have h4:=below_then h3 hb4
      clear P3 N3 g3 h3
      clear hb4
      obtain ⟨n0,n1,n2,n3⟩:=N4.o4
      obtain ⟨c0,-,-,-⟩:=Whole.o4s P4
      have q5:=(Below.refl w4.heap.size w4).alloc (Nat.le_refl _) (.cells #[.bool false,.string kk,.int .i64 0] 78)
      clear n0 n1 n2 n3 c0
      have P5:=Whole.below P4 q5 (Whole.lt P4)
      have N5:=Whole.below N4 q5 (Whole.lt N4)
      have g5:=below_then g4 q5
      have h5:=below_then h4 q5
      clear P4 N4 g4 h4
      clear q5
      obtain ⟨n0,n1,n2,n3⟩:=N5.o4
      obtain ⟨c0,-,-,-⟩:=Whole.o4s P5
      have s1:=Lib.hid (cells_new w4 78 #[.bool false,.string kk,.int .i64 0])
      have s2 : Hid (∀ u ∈ (#[.bool false,.string kk,.int .i64 0] : Array Value).toList,u.oneCell' = true):=Lib.hid (by simp [Value.oneCell'])
      have s3 : Hid (q1.length + 1 <= maxLen):=Lib.hid (by unfold maxLen;omega)
      have s4 : Hid ((q1.length + 1) * 32 <= 140737488355328):=Lib.hid (by omega)
      have s5 : Hid (w.heap.size + 1 <= (w4.alloc (.cells #[.bool false,.string kk,.int .i64 0] 78)).heap.size):=Lib.hid (by have:=Whole.lt P5;omega)
      have O5:=Lib.hid (HV1.out.below h5)
      go_wp2_with (first | (at_builtin;refine wpList_append_told _ rfl _ _ 42 rfl (w.heap.size + 1) 78 i0 _ 3 32 Tryd.underlying42 hi0 hz0 hz1 hz2 rfl (by decide) _ _ _ rfl O5.out ⟨w4.heap.size,0,none⟩ 1 1 (#[.bool false,.string kk,.int .i64 0] : Array Value).toList rfl rfl (by simpa using s1.out) s2.out s3.out s4.out s5.out Nat.one_pos ?_))
      intro v2 w6 ho6 hg6 hv6
      clear n0 n1 n2 n3 c0
      have N6:=Whole.kept N5 hg6 (fun e => by have:=(own_lt HV1.out e.symm).2;omega)
      have P6:=Whole.kept P5 hg6 (fun e => by have:=(own_lt O5.out e.symm).1;omega)
      have g6:=Below.grown g5 hg6 g5.size (fun g hg => by have:=(own_lt O5.out hg).1;omega)
      clear P5 g5
      have HV2 : Hid (StRow (w.heap.size + 1) w6 v2 q2):=Lib.hid (by rw [HS.out,show pathO ⟨true,⟨some ⟨kb,ko,none⟩,kn,kc,kb,ko,K⟩,ycnt,true⟩ true = [⟨false,kk,0⟩] from by (unfold pathO;simp [stK,HKN.out,HKK.out])];exact StRow.push (s:=⟨false,kk,0⟩) ho6)
      clear s1 s2 s3 s4 s5 O5 ho6 hg6 hv6 HV1 HS N5 h5
      obtain ⟨c0,-,-,-⟩:=Whole.o4s P6
      obtain ⟨n0,n1,n2,n3⟩:=N6.o4
      go_wp2
      go_roundw
      case rel => exact ⟨j + 1,by omega,by go_num,by rw [HQ2.out];exact HV2,P6,g6⟩
      case measure => simp [intOf];omega
   ·cases ymp
    ·rw [decide_eq_false hl] at HS
     have dl : ((j : Int) == (m : Int)) = false:=beq_eq_false_iff_ne.2 (by omega)
     obtain ⟨cm,hcm⟩ : ∃ cm,ycnt = cm + 1:=⟨ycnt - 1,by have:=HPo.out.2 rfl (by have:=HLast.out;omega);omega⟩
     have ec : ((ycnt : Nat) : Int) - 1 = cm:=by omega
     have ec1 : (cm : Int) <= 1048576:=by omega
     have ec0 : (0 : Int) <= cm:=by omega
     have HCM:=Lib.hid hcm
     clear hcm
     go_wp2_with fail
     refine (rat_step (cm : Int) _).mono ?_;rintro _ w4 ⟨rfl,hb4⟩
     clear n0 n1 n2 n3 c0
     have P4:=Whole.below P3 hb4 (Whole.lt P3)
     have N4:=Whole.below N3 hb4 (Whole.lt N3)
     have g4:=below_then g3 hb4
     have h4:=below_then h3 hb4
     clear P3 N3 g3 h3
     clear hb4
     obtain ⟨n0,n1,n2,n3⟩:=N4.o4
     obtain ⟨c0,-,-,-⟩:=Whole.o4s P4
     have q5:=(Below.refl w4.heap.size w4).alloc (Nat.le_refl _) (.cells #[.bool true,.string ⟨#[]⟩,.int .i64 cm] 78)
     clear n0 n1 n2 n3 c0
     have P5:=Whole.below P4 q5 (Whole.lt P4)
     have N5:=Whole.below N4 q5 (Whole.lt N4)
     have g5:=below_then g4 q5
     have h5:=below_then h4 q5
     clear P4 N4 g4 h4
     clear q5
     obtain ⟨n0,n1,n2,n3⟩:=N5.o4
     obtain ⟨c0,-,-,-⟩:=Whole.o4s P5
     have s1:=Lib.hid (cells_new w4 78 #[.bool true,.string ⟨#[]⟩,.int .i64 cm])
     have s2 : Hid (∀ u ∈ (#[.bool true,.string ⟨#[]⟩,.int .i64 cm] : Array Value).toList,u.oneCell' = true):=Lib.hid (by simp [Value.oneCell'])
     have s3 : Hid (q1.length + 1 <= maxLen):=Lib.hid (by unfold maxLen;omega)
     have s4 : Hid ((q1.length + 1) * 32 <= 140737488355328):=Lib.hid (by omega)
     have s5 : Hid (w.heap.size + 1 <= (w4.alloc (.cells #[.bool true,.string ⟨#[]⟩,.int .i64 cm] 78)).heap.size):=Lib.hid (by have:=Whole.lt P5;omega)
     have O5:=Lib.hid (HV1.out.below h5)
     go_wp2_with (first | (at_builtin;refine wpList_append_told _ rfl _ _ 42 rfl (w.heap.size + 1) 78 i0 _ 3 32 Tryd.underlying42 hi0 hz0 hz1 hz2 rfl (by decide) _ _ _ rfl O5.out ⟨w4.heap.size,0,none⟩ 1 1 (#[.bool true,.string ⟨#[]⟩,.int .i64 cm] : Array Value).toList rfl rfl (by simpa using s1.out) s2.out s3.out s4.out s5.out Nat.one_pos ?_))
     intro v2 w6 ho6 hg6 hv6
     clear n0 n1 n2 n3 c0
     have N6:=Whole.kept N5 hg6 (fun e => by have:=(own_lt HV1.out e.symm).2;omega)
     have P6:=Whole.kept P5 hg6 (fun e => by have:=(own_lt O5.out e.symm).1;omega)
     have g6:=Below.grown g5 hg6 g5.size (fun g hg => by have:=(own_lt O5.out hg).1;omega)
     clear P5 g5
     have HV2 : Hid (StRow (w.heap.size + 1) w6 v2 q2):=Lib.hid (by rw [HS.out,show pathO ⟨false,⟨ka,kn,kc,kb,ko,K⟩,ycnt,ydue⟩ false = [⟨true,⟨#[]⟩,(cm : Int)⟩] from by (unfold pathO;simp [stI,HCM.out])];exact StRow.push (s:=⟨true,⟨#[]⟩,cm⟩) ho6)
     clear s1 s2 s3 s4 s5 O5 ho6 hg6 hv6 HV1 HS N5 h5
     obtain ⟨c0,-,-,-⟩:=Whole.o4s P6
     obtain ⟨n0,n1,n2,n3⟩:=N6.o4
     go_wp2
     go_roundw
     case rel => exact ⟨j + 1,by omega,by go_num,by rw [HQ2.out];exact HV2,P6,g6⟩
     case measure => simp [intOf];omega
    ·rw [decide_eq_false hl] at HS
     have dl : ((j : Int) == (m : Int)) = false:=beq_eq_false_iff_ne.2 (by omega)
     cases ydue
     ·obtain ⟨km,hkm⟩ : ∃ km,kn = km + 1:=⟨kn - 1,by have:=HPo.out.1 rfl (.inr (by have:=HLast.out;omega));omega⟩
      have ek : ((kn : Nat) : Int) - 1 = km:=by omega
      have hk3:=HK2.out w3 g3
      obtain ⟨eka,hkl⟩:=hk3.1 (by show 0 < kn;omega)
      obtain ⟨ks,hks⟩:=hk3.2.2 km (by show km < kn;omega)
      have hk48:=hk3.2.1.1
      dsimp only at eka ks hks hk48
      have ek0 : (0 : Int) <= km:=by omega
      have ek1 : (km : Int) < kn:=by omega
      have ek2 : (km : Int) <= 1048576:=by omega
      have HKN:=Lib.hid hkm
      clear hk3 hkm hkl
      subst eka
      obtain ⟨kk,hkk⟩ : ∃ kk,K km = kk:=⟨_,rfl⟩
      rw [hkk] at ks hks
      have HKK:=Lib.hid hkk
      clear hkk
      go_wp2_with fail
      refine (rkey_step kk _).mono ?_;rintro _ w4 ⟨rfl,hb4⟩
      clear n0 n1 n2 n3 c0
      have P4:=Whole.below P3 hb4 (Whole.lt P3)
      have N4:=Whole.below N3 hb4 (Whole.lt N3)
      have g4:=below_then g3 hb4
      have h4:=below_then h3 hb4
      clear P3 N3 g3 h3
      clear hb4
      obtain ⟨n0,n1,n2,n3⟩:=N4.o4
      obtain ⟨c0,-,-,-⟩:=Whole.o4s P4
      have q5:=(Below.refl w4.heap.size w4).alloc (Nat.le_refl _) (.cells #[.bool false,.string kk,.int .i64 0] 78)
      clear n0 n1 n2 n3 c0
      have P5:=Whole.below P4 q5 (Whole.lt P4)
      have N5:=Whole.below N4 q5 (Whole.lt N4)
      have g5:=below_then g4 q5
      have h5:=below_then h4 q5
      clear P4 N4 g4 h4
      clear q5
      obtain ⟨n0,n1,n2,n3⟩:=N5.o4
      obtain ⟨c0,-,-,-⟩:=Whole.o4s P5
      have s1:=Lib.hid (cells_new w4 78 #[.bool false,.string kk,.int .i64 0])
      have s2 : Hid (∀ u ∈ (#[.bool false,.string kk,.int .i64 0] : Array Value).toList,u.oneCell' = true):=Lib.hid (by simp [Value.oneCell'])
      have s3 : Hid (q1.length + 1 <= maxLen):=Lib.hid (by unfold maxLen;omega)
      have s4 : Hid ((q1.length + 1) * 32 <= 140737488355328):=Lib.hid (by omega)
      have s5 : Hid (w.heap.size + 1 <= (w4.alloc (.cells #[.bool false,.string kk,.int .i64 0] 78)).heap.size):=Lib.hid (by have:=Whole.lt P5;omega)
      have O5:=Lib.hid (HV1.out.below h5)
      go_wp2_with (first | (at_builtin;refine wpList_append_told _ rfl _ _ 42 rfl (w.heap.size + 1) 78 i0 _ 3 32 Tryd.underlying42 hi0 hz0 hz1 hz2 rfl (by decide) _ _ _ rfl O5.out ⟨w4.heap.size,0,none⟩ 1 1 (#[.bool false,.string kk,.int .i64 0] : Array Value).toList rfl rfl (by simpa using s1.out) s2.out s3.out s4.out s5.out Nat.one_pos ?_))
      intro v2 w6 ho6 hg6 hv6
      clear n0 n1 n2 n3 c0
      have N6:=Whole.kept N5 hg6 (fun e => by have:=(own_lt HV1.out e.symm).2;omega)
      have P6:=Whole.kept P5 hg6 (fun e => by have:=(own_lt O5.out e.symm).1;omega)
      have g6:=Below.grown g5 hg6 g5.size (fun g hg => by have:=(own_lt O5.out hg).1;omega)
      clear P5 g5
      have HV2 : Hid (StRow (w.heap.size + 1) w6 v2 q2):=Lib.hid (by rw [HS.out,show pathO ⟨true,⟨some ⟨kb,ko,none⟩,kn,kc,kb,ko,K⟩,ycnt,false⟩ false = [⟨false,kk,0⟩] from by (unfold pathO;simp [stK,HKN.out,HKK.out])];exact StRow.push (s:=⟨false,kk,0⟩) ho6)
      clear s1 s2 s3 s4 s5 O5 ho6 hg6 hv6 HV1 HS N5 h5
      obtain ⟨c0,-,-,-⟩:=Whole.o4s P6
      obtain ⟨n0,n1,n2,n3⟩:=N6.o4
      go_wp2
      go_roundw
      case rel => exact ⟨j + 1,by omega,by go_num,by rw [HQ2.out];exact HV2,P6,g6⟩
      case measure => simp [intOf];omega
     ·obtain ⟨km,hkm⟩ : ∃ km,kn = km + 1:=⟨kn - 1,by have:=HPo.out.1 rfl (.inl rfl);omega⟩
      have ek : ((kn : Nat) : Int) - 1 = km:=by omega
      have hk3:=HK2.out w3 g3
      obtain ⟨eka,hkl⟩:=hk3.1 (by show 0 < kn;omega)
      obtain ⟨ks,hks⟩:=hk3.2.2 km (by show km < kn;omega)
      have hk48:=hk3.2.1.1
      dsimp only at eka ks hks hk48
      have ek0 : (0 : Int) <= km:=by omega
      have ek1 : (km : Int) < kn:=by omega
      have ek2 : (km : Int) <= 1048576:=by omega
      have HKN:=Lib.hid hkm
      clear hk3 hkm hkl
      subst eka
      obtain ⟨kk,hkk⟩ : ∃ kk,K km = kk:=⟨_,rfl⟩
      rw [hkk] at ks hks
      have HKK:=Lib.hid hkk
      clear hkk
      go_wp2_with fail
      refine (rkey_step kk _).mono ?_;rintro _ w4 ⟨rfl,hb4⟩
      clear n0 n1 n2 n3 c0
      have P4:=Whole.below P3 hb4 (Whole.lt P3)
      have N4:=Whole.below N3 hb4 (Whole.lt N3)
      have g4:=below_then g3 hb4
      have h4:=below_then h3 hb4
      clear P3 N3 g3 h3
      clear hb4
      obtain ⟨n0,n1,n2,n3⟩:=N4.o4
      obtain ⟨c0,-,-,-⟩:=Whole.o4s P4
      have q5:=(Below.refl w4.heap.size w4).alloc (Nat.le_refl _) (.cells #[.bool false,.string kk,.int .i64 0] 78)
      clear n0 n1 n2 n3 c0
      have P5:=Whole.below P4 q5 (Whole.lt P4)
      have N5:=Whole.below N4 q5 (Whole.lt N4)
      have g5:=below_then g4 q5
      have h5:=below_then h4 q5
      clear P4 N4 g4 h4
      clear q5
      obtain ⟨n0,n1,n2,n3⟩:=N5.o4
      obtain ⟨c0,-,-,-⟩:=Whole.o4s P5
      have s1:=Lib.hid (cells_new w4 78 #[.bool false,.string kk,.int .i64 0])
      have s2 : Hid (∀ u ∈ (#[.bool false,.string kk,.int .i64 0] : Array Value).toList,u.oneCell' = true):=Lib.hid (by simp [Value.oneCell'])
      have s3 : Hid (q1.length + 1 <= maxLen):=Lib.hid (by unfold maxLen;omega)
      have s4 : Hid ((q1.length + 1) * 32 <= 140737488355328):=Lib.hid (by omega)
      have s5 : Hid (w.heap.size + 1 <= (w4.alloc (.cells #[.bool false,.string kk,.int .i64 0] 78)).heap.size):=Lib.hid (by have:=Whole.lt P5;omega)
      have O5:=Lib.hid (HV1.out.below h5)
      go_wp2_with (first | (at_builtin;refine wpList_append_told _ rfl _ _ 42 rfl (w.heap.size + 1) 78 i0 _ 3 32 Tryd.underlying42 hi0 hz0 hz1 hz2 rfl (by decide) _ _ _ rfl O5.out ⟨w4.heap.size,0,none⟩ 1 1 (#[.bool false,.string kk,.int .i64 0] : Array Value).toList rfl rfl (by simpa using s1.out) s2.out s3.out s4.out s5.out Nat.one_pos ?_))
      intro v2 w6 ho6 hg6 hv6
      clear n0 n1 n2 n3 c0
      have N6:=Whole.kept N5 hg6 (fun e => by have:=(own_lt HV1.out e.symm).2;omega)
      have P6:=Whole.kept P5 hg6 (fun e => by have:=(own_lt O5.out e.symm).1;omega)
      have g6:=Below.grown g5 hg6 g5.size (fun g hg => by have:=(own_lt O5.out hg).1;omega)
      clear P5 g5
      have HV2 : Hid (StRow (w.heap.size + 1) w6 v2 q2):=Lib.hid (by rw [HS.out,show pathO ⟨true,⟨some ⟨kb,ko,none⟩,kn,kc,kb,ko,K⟩,ycnt,true⟩ false = [⟨false,kk,0⟩] from by (unfold pathO;simp [stK,HKN.out,HKK.out])];exact StRow.push (s:=⟨false,kk,0⟩) ho6)
      clear s1 s2 s3 s4 s5 O5 ho6 hg6 hv6 HV1 HS N5 h5
      obtain ⟨c0,-,-,-⟩:=Whole.o4s P6
      obtain ⟨n0,n1,n2,n3⟩:=N6.o4
      go_wp2
      go_roundw
      case rel => exact ⟨j + 1,by omega,by go_num,by rw [HQ2.out];exact HV2,P6,g6⟩
      case measure => simp [intOf];omega
  ·obtain rfl : j = on:=by omega
   obtain ⟨c0,-,-,-⟩:=Whole.o4s P1
   have HF:=Lib.hid (HEnd.out _ _ HV.out g1)
   clear HV HEnd
   go_wp2
   (first | exact HF.out | (go_ret;exact HF.out))
end Go.Proofs.YtpcbhneaaibfiaaDoor
