/- Laid together. -/
import Derived.Test.YtpcbhneaaibfiaaDoorPB19
import Derived.Test.YtpcbhneaaibfiaaDoorPB20
import Derived.Test.YtpcbhneaaibfiaaDoorPB21
import Derived.Test.YtpcbhneaaibfiaaDoorPB22
import Derived.Test.YtpcbhneaaibfiaaDoorPB05
import Derived.OwnWalkIn
import Derived.Test.YtpcbhneaaibfiaaDoorPB04
import Derived.Test.YtpcbhneaaibfiaaDoorPB08
import Derived.Test.YtpcbhneaaibfiaaDoorPB07
import Derived.Test.YtpcbhneaaibfiaaDoorPB17
import Derived.Test.YtpcbhneaaibfiaaDoorPB10
set_option linter.unusedVariables false
set_option linter.unusedSimpArgs false
set_option maxHeartbeats 16000000
set_option maxRecDepth 100000
namespace Go.Proofs.YtpcbhneaaibfiaaDoor
theorem add_any {B0 bb : Nat} {A O : Nat -> Prop} {W : World} {s : Bst} {x : Ev} (h : BInv B0 bb A O W s) (hinv : s.inv) (hx : x.ok) (hV : x.V.In W B0) (hB0 : B0 <= W.heap.size) :
 Calls Tryd.prog 23 #[.pointer (some ⟨bb,0,none⟩),.agg x.cells] W (BOut B0 bb A O W (addS s x) (.int .i64 (addE s x))):=by
 have hV':=hV.up hB0
 cases hbd : s.bad with
 | true => exact add_bad h hx hV' hbd
 | false =>
  by_cases hs : shapeE x = 0
  ·by_cases hf : followE s x = 0
   ·by_cases hk : begE x
    ·by_cases hd : 48 <= s.d
     ·exact add_deep h hx hV' hbd hs hf hk hd
     ·by_cases hn : 65536 <= s.nd
      ·exact add_many h hx hV' hbd hs hf hk (by omega) hn
      ·have ha : addE s x = 0:=by
        unfold addE
        rw [if_neg (by rw [hbd];decide),if_neg (by simp [hs]),if_neg (by simp [hf]),if_neg (by omega),if_neg (by omega)]
       rcases hk with hk | hk | hk
       ·exact add_one h hinv hx hV hB0 ha hk
       ·exact add_beg2 h hinv hx hV hB0 ha hk
       ·exact add_beg4 h hinv hx hV hB0 ha hk
    ·have ha : addE s x = 0:=by
      unfold addE
      rw [if_neg (by rw [hbd];decide),if_neg (by simp [hs]),if_neg (by simp [hf]),if_neg (fun q => hk q.1),if_neg (fun q => hk q.1)]
     have hkk:=(shapeE_ok hs).1
     unfold begE at hk
     have hk3 : x.k = 3 ∨ x.k = 5 ∨ x.k = 6:=by omega
     rcases hk3 with hk3 | hk3 | hk3
     ·exact add_end3 h hinv hx hV hB0 ha hk3
     ·exact add_end5 h hinv hx hV hB0 ha hk3
     ·exact add_key h hinv hx hV hB0 ha hk3
   ·exact add_fol h hx hV' hbd hs hf
  ·exact add_shape h hx hV' hbd hs
theorem inv_bad {s : Bst} (h : s.inv) : Bst.inv { s with bad:=true }:=⟨ok_bad h.ok,h.dn,h.cnt,h.keyed,h.lst,h.val,h.out⟩
theorem add_inv {s : Bst} {x : Ev} (h : s.inv) (hx : x.ok) (hw : x.V.whole) : (addS s x).inv:=by
 unfold addS
 split
 ·exact h
 split
 ·rename_i q;exact (step_inv h hx hw q).1
 ·exact inv_bad h
theorem inv_zero : Bst.zero.inv:=⟨⟨Nat.zero_le _,Nat.zero_le _,fun i hi => absurd hi (Nat.not_lt_zero _),fun q => (by cases q)⟩,fun q => (by cases q),fun i hi => absurd hi (Nat.not_lt_zero _),fun i hi => absurd hi (Nat.not_lt_zero _),fun i hi => absurd hi (Nat.not_lt_zero _),fun i hi => absurd hi (Nat.not_lt_zero _),fun q => (by cases q)⟩
end Go.Proofs.YtpcbhneaaibfiaaDoor
namespace Go.Proofs.YtpcbhneaaibfiaaDoor
open Go.ChangeShapes Go.WideShapes Go.Joins Go.Deep Go.RowKit
theorem run_append_zero {P : Program} (w : World) (t ty e : TypeId) (i : TypeInfo) (ht : P.underlying t = some (.slice e)) (hi : P.info? e = some i) (b xa : Option Addr) (n c c' : Nat) (hnc : n <= c) :
 (Builtin.append_ #[t,t] ty #[.slice b n c,.slice xa 0 c']).run P w = .ok (.slice b n c) w:=by
 cases b <;> cases xa <;> simp [Builtin.append_,run_underlying ht,sizeOf,typeInfo,hi,Builtin.lenOf,Builtin.firstCells,loadCells,loadCellsFrom,hnc,storeCells]
theorem run_append_any {P : Program} (w : World) (base : Nat) (t ty e : TypeId) (i : TypeInfo) (z : Value) (size bytes : Nat) (ht : P.underlying t = some (.slice e)) (hi : P.info? e = some i) (hz : i.zero = some z)
 (hsize : i.size = size) (hby : i.bytes = bytes) (hzs : z.cells.size = size) (hsz : 0 < size) (v : Value) (n : Nat) (xs : List Value) (hown : w.ownsRow base e size v n xs)
 (xa : Option Addr) (m c : Nat) (news : List Value) (hl : news.length = m * size) (hnews : 0 < m -> ∃ ad,xa = some ad /\ ∀ j u,news[j]? = some u -> w.cell? (ad.add j) = some u) (h1 : ∀ u ∈ news,u.oneCell' = true)
 (h63 : n + m <= maxLen) (hbytes : (n + m) * bytes <= 140737488355328) (hbase : base <= w.heap.size) :
 ∃ v' w',(Builtin.append_ #[t,t] ty #[v,.slice xa m c]).run P w = .ok v' w' /\ w'.ownsRow base e size v' (n + m) (xs ++ news) /\ w.grownBy w' v.ownBlock /\ (v'.ownBlock = v.ownBlock ∨ v'.ownBlock = some w.heap.size):=by
 by_cases hm : m = 0
 ·subst hm
  have hn : news = []:=List.eq_nil_of_length_eq_zero (by simpa using hl)
  subst hn
  have hg : w.grownBy w v.ownBlock:=⟨rfl,rfl,rfl,Nat.le_refl _,fun _ _ _ => rfl⟩
  rw [List.append_nil,Nat.add_zero]
  rcases hown.2 with ⟨rfl,rfl⟩ | ⟨g,cap,cur,rfl,_,_,hnc,_⟩
  ·exact ⟨_,w,run_append_zero w t ty e i ht hi none xa 0 0 c (Nat.le_refl _),hown,hg,.inl rfl⟩
  ·exact ⟨_,w,run_append_zero w t ty e i ht hi (some ⟨g,0,none⟩) xa n cap c hnc,hown,hg,.inl rfl⟩
 ·obtain ⟨ad,rfl,hn⟩:=hnews (by omega)
  exact run_append_told (P:=P) w base t ty e i z size bytes ht hi hz hsize hby hzs hsz v n xs hown ad m c news hl hn h1 h63 hbytes hbase (by omega)
theorem wpList_append_any {P : Program} (w : World) {ops : Array Oper} {rest : List Oper} {o : Oper} {a : Act} {Q : Exit -> Act -> World -> Prop} (hgd : o.guard = none) (s x : Operand) (t : TypeId)
 (ho : o.op = .call { callee:=.builtin .append,args:=#[s,x],argTypes:=#[t,t] })
 (base : Nat) (e : TypeId) (i : TypeInfo) (z : Value) (size bytes : Nat) (ht : P.underlying t = some (.slice e)) (hi : P.info? e = some i) (hz : i.zero = some z)
 (hsize : i.size = size) (hby : i.bytes = bytes) (hzs : z.cells.size = size) (hsz : 0 < size)
 (v : Value) (n : Nat) (xs : List Value) (hs : a.eval s = v) (hown : w.ownsRow base e size v n xs)
 (xa : Option Addr) (m c : Nat) (news : List Value) (hx : a.eval x = .slice xa m c) (hl : news.length = m * size) (hnews : 0 < m -> ∃ ad,xa = some ad /\ ∀ j u,news[j]? = some u -> w.cell? (ad.add j) = some u) (h1 : ∀ u ∈ news,u.oneCell' = true)
 (h63 : n + m <= maxLen) (hbytes : (n + m) * bytes <= 140737488355328) (hbase : base <= w.heap.size)
 (h : ∀ v' w',w'.ownsRow base e size v' (n + m) (xs ++ news) -> w.grownBy w' v.ownBlock -> (v'.ownBlock = v.ownBlock ∨ v'.ownBlock = some w.heap.size) -> wpList P ops Q rest (a.put o.dst v') w') : wpList P ops Q (o :: rest) a w:=by
 refine wpList_plain hgd fun K hK => ?_
 obtain ⟨v',w',hr,h2,h3,h4⟩:=run_append_any (P:=P) w base t o.type e i z size bytes ht hi hz hsize hby hzs hsz v n xs hown xa m c news hl hnews h1 h63 hbytes hbase
 unfold Oper.wp execOp
 simp only [ho,resolve,invoke,builtin,Sem.run_bind,Sem.run_pure,Result.andThen_ok,List.map_toArray,List.map_cons,List.map_nil,hs,hx,hr]
 exact hK _ _ (h v' w' h2 h3 h4)
end Go.Proofs.YtpcbhneaaibfiaaDoor
namespace Go.Proofs.YtpcbhneaaibfiaaDoor
def stI (i : Nat) : Stp:=⟨true,⟨#[]⟩,i⟩
def stK (key : ByteArray) : Stp:=⟨false,key,0⟩
def lst (l : List Stp) (i : Nat) : Stp:=l.getD i default
theorem lst_get {l : List Stp} {i : Nat} (h : i < l.length) : lst l i = l[i]:=by unfold lst;simp [h]
end Go.Proofs.YtpcbhneaaibfiaaDoor
namespace Go.Proofs.YtpcbhneaaibfiaaDoor
open Go.ChangeShapes Go.WideShapes Go.Joins Go.Deep Go.RowKit
theorem catN_append {f : Nat -> Array Value} {m : Nat} : ∀ n,catN f (m + n) = catN f m ++ catN (fun j => f (m + j)) n:=by
 intro n
 induction n with
 | zero => simp [catN]
 | succ n ih => rw [show m + (n + 1) = (m + n) + 1 by omega,catN,ih,catN,List.append_assoc]
section
variable {ty el : TypeId} {C : Nat} (hu : Tryd.prog.underlying ty = some (.slice el)) (he : Tryd.prog.elem ty = el) (hs : (Tryd.prog.info? el).map (·.size) = some C)
include hu he hs
end
end Go.Proofs.YtpcbhneaaibfiaaDoor
namespace Go.Proofs.YtpcbhneaaibfiaaDoor
open Go.RowKit
def Pth.val (p : Pth) : Value:=.slice p.a p.n p.c
def Pth.steps (p : Pth) : List Stp:=(List.range p.n).map p.S
theorem Pth.steps_len (p : Pth) : p.steps.length = p.n:=by simp [Pth.steps]
theorem Pth.steps_get {p : Pth} {i : Nat} (h : i < p.n) : p.S i = lst p.steps i:=by
 rw [lst_get (by rw [Pth.steps_len];exact h)]
 simp [Pth.steps]
def PthOut (q : List Stp) (w : World) (e : Ending) (w' : World) : Prop :=
 ∃ r : Pth,e = .returned (.slice r.a r.n r.c) /\ r.In w' w'.heap.size /\ r.steps = q /\ (0 < r.n -> w.heap.size <= r.b) /\ Below w.heap.size w w'
theorem Tryd.infoStp : (Tryd.prog.info? 78).map (fun i => (i.zero,i.size,i.bytes)) = some (some (.agg #[.bool false,.string ⟨#[]⟩,.int .i64 0]),3,32):=by kernel_rfl
theorem stp_sz (s : Stp) : s.cells.size = 3:=rfl
theorem pth_of {w W : World} {v : Value} {q : List Stp} (hr : W.ownsRow w.heap.size 78 3 v q.length (catN (fun i => (lst q i).cells) q.length)) (hn : q.length <= 1048576) (hok : ∀ s,s ∈ q -> s.ok) (hb : Below w.heap.size w W) : PthOut q w (.returned v) W:=by
 obtain ⟨a,c,b,rfl,hcc,ha,hl⟩:=own_lies (fun i => stp_sz (lst q i)) hr
 refine ⟨⟨a,q.length,c,b,0,lst q⟩,rfl,⟨fun h => ⟨(ha h).1,(ha h).2.2⟩,⟨hn,hcc⟩,fun i hi => ⟨?_,?_⟩⟩,?_,fun h => (ha h).2.1,hb⟩
 ·show LiesAt W b (0 + i * 3) (lst q i).cells
  rw [Nat.zero_add]
  exact hl i hi
 ·show (lst q i).ok
  rw [lst_get hi]
  exact hok _ (List.getElem_mem hi)
 ·refine List.ext_getElem (by simp [Pth.steps]) fun i h1 h2 => ?_
  simp [Pth.steps,lst_get h2]
theorem lst_left {a b : List Stp} {i : Nat} (h : i < a.length) : lst (a ++ b) i = lst a i:=by unfold lst;simp [List.getD_eq_getElem?_getD,List.getElem?_append_left h]
theorem lst_right {a b : List Stp} (i : Nat) : lst (a ++ b) (a.length + i) = lst b i:=by unfold lst;rw [List.getD_eq_getElem?_getD,List.getD_eq_getElem?_getD,List.getElem?_append_right (Nat.le_add_right _ _),Nat.add_sub_cancel_left]
theorem ret_stp {fn : Func} {p : Tmp} (h : fn.results = #[.cell p 78]) {tmps : Array Value} {W : World} {B : Nat} {s : Stp} (hp : tmps.getD p undef = .pointer (some ⟨B,0,none⟩)) (H : Whole W B 78 s.cells) :
 (results fn tmps).run Tryd.prog W = .ok (.agg s.cells) W :=
 results_cell_row h tmps W B 78 s.cells (0,0) _ hp H Tryd.underlying78 rfl stp_size
theorem stp_all (s : Stp) : s.cells.all (·.oneCell') = true:=by simp [Stp.cells,Value.oneCell']
def StRow (B : Nat) (W : World) (v : Value) (q : List Stp) : Prop:=W.ownsRow B 78 3 v q.length (catN (fun i => (lst q i).cells) q.length)
theorem StRow.nil (B : Nat) (W : World) : StRow B W (.slice none 0 0) []:=World.ownsRow_nil _ _ _ _
theorem StRow.sl {B : Nat} {W : World} {v : Value} {q : List Stp} (h : StRow B W v q) : ∃ a c,v = .slice a q.length c:=by
 obtain ⟨_,h⟩:=h
 rcases h with ⟨rfl,h1⟩ | ⟨g,cap,cur,rfl,_⟩
 ·rw [h1];exact ⟨_,_,rfl⟩
 ·exact ⟨_,_,rfl⟩
theorem StRow.below {B : Nat} {W W' : World} {v : Value} {q : List Stp} (h : StRow B W v q) (hb : Below W.heap.size W W') : StRow B W' v q:=own_block h (fun g hg => hb.block g (own_lt h hg).2)
theorem StRow.push {B : Nat} {W : World} {v : Value} {q : List Stp} {s : Stp} (h : W.ownsRow B 78 3 v (q.length + 1) (catN (fun i => (lst q i).cells) q.length ++ s.cells.toList)) : StRow B W v (q ++ [s]):=by
 unfold StRow
 have e : catN (fun i => (lst (q ++ [s]) i).cells) (q ++ [s]).length = catN (fun i => (lst q i).cells) q.length ++ s.cells.toList:=by
  rw [List.length_append]
  show catN (fun i => (lst (q ++ [s]) i).cells) q.length ++ (lst (q ++ [s]) q.length).cells.toList = _
  rw [catN_congr (g:=fun i => (lst q i).cells) fun i hi => by rw [lst_left hi]]
  have:=lst_right (a:=q) (b:=[s]) 0
  rw [Nat.add_zero] at this
  rw [this]
  rfl
 rw [e,List.length_append]
 exact h
def pathF (f : Fr) : List Stp:=if f.mp = true then (if f.kd = true then [stK f.key] else []) else [stI f.n]
def pathN (fr : Nat -> Fr) (j : Nat) : List Stp:=catL (fun i => pathF (fr i)) j
def pathS (s : Bst) : List Stp:=pathN s.fr s.d
theorem pathF_len (f : Fr) : (pathF f).length <= 1:=by
 unfold pathF
 split
 ·split <;> simp
 ·simp
theorem pathN_len (fr : Nat -> Fr) : ∀ j,(pathN fr j).length <= j:=by
 intro j
 induction j with
 | zero => exact Nat.le_refl _
 | succ j ih =>
  show (catL (fun i => pathF (fr i)) j ++ pathF (fr j)).length <= _
  rw [List.length_append]
  have:=pathF_len (fr j)
  have ih' : (catL (fun i => pathF (fr i)) j).length <= j:=ih
  omega
theorem catL_mem {α : Type} {f : Nat -> List α} {x : α} : ∀ {n : Nat},x ∈ catL f n -> ∃ i,i < n /\ x ∈ f i:=by
 intro n
 induction n with
 | zero => intro h;cases h
 | succ n ih =>
  intro h
  rcases List.mem_append.1 h with h | h
  ·obtain ⟨i,hi,hx⟩:=ih h;exact ⟨i,by omega,hx⟩
  ·exact ⟨n,Nat.lt_succ_self n,h⟩
theorem pathN_ok {fr : Nat -> Fr} {d : Nat} (h : ∀ i,i < d -> (fr i).n <= 65536 /\ (fr i).key.size <= 1048576) : ∀ st,st ∈ pathN fr d -> st.ok:=by
 intro st hst
 obtain ⟨i,hi,hx⟩:=catL_mem hst
 obtain ⟨h1,h2⟩:=h i hi
 unfold pathF at hx
 split at hx
 ·split at hx
  ·obtain rfl:=List.mem_singleton.1 hx
   exact ⟨h2,by show w64 0;exact ⟨by decide,by decide⟩⟩
  ·cases hx
 ·obtain rfl:=List.mem_singleton.1 hx
  exact ⟨Nat.zero_le _,by show w64 ((fr i).n : Int);exact ⟨by omega,by omega⟩⟩
theorem pathS_len {s : Bst} (h : s.ok) : (pathS s).length <= 48:=Nat.le_trans (pathN_len s.fr s.d) h.d
theorem path_any {B0 bb : Nat} {A O : Nat -> Prop} {W : World} {s : Bst} (h : BInv B0 bb A O W s) : Calls Tryd.prog 27 #[.pointer (some ⟨bb,0,none⟩)] W (PthOut (pathS s) W):=by
 obtain ⟨ov,us,X,h⟩:=h
 have p0:=h.box.cell 0
 obtain ⟨a,c,hov⟩:=h.row.slice
 have hd48:=h.ok.d
 have HA:=Lib.hid (fun (j : Nat) (hj : j < s.d) => (show ∃ o cur,a = some ⟨o,0,none⟩ /\ Whole W o 98 cur /\ ∀ t,t < 15 -> cur[j * 15 + t]? = ((s.fr j).cells (us j))[t]? from by
  obtain ⟨o,c',cur,eo,FB,hB,hdc,hco,hcs,hcur⟩:=h.row.op (by omega)
  rw [hov] at eo
  injection eo with e1 e2 e3
  exact ⟨o,cur,e1,FB,hcur j hj⟩))
 have HU:=Lib.hid (fun (j : Nat) (hj : j < s.d) => Fr.row_sl (h.rows j hj))
 have HN:=Lib.hid (fun (j : Nat) (hj : j < s.d) => (show (s.fr j).n <= 65536 from Nat.le_trans (h.ok.fr j hj).1 h.ok.nd))
 have HK:=Lib.hid (fun (j : Nat) (hj : j < s.d) => (h.ok.fr j hj).2.1)
 rw [hov] at p0
 simp only [bcells,List.getElem?_toArray,List.getElem?_cons_succ,List.getElem?_cons_zero] at p0
 have HP : Hid (pathS s = pathN s.fr s.d):=Lib.hid rfl
 generalize s.d = d at *
 generalize s.fr = fr at *
 obtain ⟨R,hR⟩ : ∃ R,pathS s = R:=⟨_,rfl⟩
 rw [hR] at HP ⊢
 clear h hov hR
 have hdi : ((d : Nat) : Int) <= 48:=by omega
 have hdj : (0 : Int) <= ((d : Nat) : Int):=by omega
 obtain ⟨i0,hi0,hz0,hz1,hz2⟩:=info_parts Tryd.infoStp
 go_enter Tryd.func27,Tryd.ntmps27
 go_wp2_with fail
 go_loopw [3,14] (fun v i wr => ∃ j : Nat,j <= d /\ i = .int .i64 j /\ Hid (StRow W.heap.size wr v (pathN fr j)) /\ Below W.heap.size W wr) (fun _ i _ => d - (intOf i).toNat)
 case atStart => exact ⟨0,by omega,rfl,Lib.hid (StRow.nil _ _),Below.refl _ _⟩
 case round =>
  clear p0
  obtain ⟨j,hj,rfl,HV,hbr⟩:=hrel
  have hji : (0 : Int) <= j:=by omega
  by_cases hjd : j < d
  ·have hjl : (j : Int) < d:=by omega
   obtain ⟨o,cur,rfl,FB,hcur⟩:=HA.out j hjd
   obtain ⟨ua,uc,hu⟩:=HU.out j hjd
   have hn6:=HN.out j hjd
   have hk6:=HK.out j hjd
   have FBr:=FB.below hbr FB.lt
   have hsucc : pathN fr (j + 1) = pathN fr j ++ pathF (fr j):=rfl
   have hlen:=pathN_len fr j
   rw [hu] at hcur
   obtain ⟨va,vc,hvs⟩:=HV.out.sl
   subst hvs
   have HV1:=Lib.hid (HV.out)
   clear HA HV FB hu
   unfold Fr.cells at hcur
   generalize fr j = F at *
   obtain ⟨mp,n,K,M,fkey,kd⟩:=F
   obtain ⟨q2,hq2⟩ : ∃ q2,pathN fr (j + 1) = q2:=⟨_,rfl⟩
   rw [hq2] at hsucc
   have HQ2:=Lib.hid hq2
   clear hq2
   generalize pathN fr j = q1 at *
   dsimp only at hcur hn6 hk6
   have hq1 : q1.length <= 48:=by omega
   cases mp
   ·rw [if_neg (by decide)] at hcur
    simp only [frc] at hcur
    have l0:=(FBr.cell (j * 15 + 0)).trans (hcur 0 (by decide))
    have l1:=(FBr.cell (j * 15 + 1)).trans (hcur 1 (by decide))
    have l2:=(FBr.cell (j * 15 + 2)).trans (hcur 2 (by decide))
    have l3:=(FBr.cell (j * 15 + 3)).trans (hcur 3 (by decide))
    have l4:=(FBr.cell (j * 15 + 4)).trans (hcur 4 (by decide))
    have l5:=(FBr.cell (j * 15 + 5)).trans (hcur 5 (by decide))
    have l6:=(FBr.cell (j * 15 + 6)).trans (hcur 6 (by decide))
    have l7:=(FBr.cell (j * 15 + 7)).trans (hcur 7 (by decide))
    have l8:=(FBr.cell (j * 15 + 8)).trans (hcur 8 (by decide))
    have l9:=(FBr.cell (j * 15 + 9)).trans (hcur 9 (by decide))
    have l10:=(FBr.cell (j * 15 + 10)).trans (hcur 10 (by decide))
    have l11:=(FBr.cell (j * 15 + 11)).trans (hcur 11 (by decide))
    have l12:=(FBr.cell (j * 15 + 12)).trans (hcur 12 (by decide))
    have l13:=(FBr.cell (j * 15 + 13)).trans (hcur 13 (by decide))
    have l14:=(FBr.cell (j * 15 + 14)).trans (hcur 14 (by decide))
    simp only [List.getElem?_toArray,List.getElem?_cons_succ,List.getElem?_cons_zero,Nat.add_zero] at l0 l1 l2 l3 l4 l5 l6 l7 l8 l9 l10 l11 l12 l13 l14
    have g2:=hbr.alloc hbr.size (.cells #[.int .i64 6,.bool false,.bool false,.string ⟨#[]⟩,.int .i64 0,.int .i64 0,.int .i64 0,.int .i64 0,.int .i64 0,.string ⟨#[]⟩,.slice none 0 0,.slice ua n uc,.slice none 0 0,.string fkey,.bool kd] 98)
    have N:=Whole.new wr 98 #[.int .i64 6,.bool false,.bool false,.string ⟨#[]⟩,.int .i64 0,.int .i64 0,.int .i64 0,.int .i64 0,.int .i64 0,.string ⟨#[]⟩,.slice none 0 0,.slice ua n uc,.slice none 0 0,.string fkey,.bool kd]
    clear hcur FBr hbr
    have n0:=Whole.cell N 0
    have n11:=Whole.cell N 11
    have n13:=Whole.cell N 13
    have n14:=Whole.cell N 14
    simp only [List.getElem?_toArray,List.getElem?_cons_succ,List.getElem?_cons_zero] at n0 n11 n13 n14
    have hsucc : q2 = q1 ++ [stI n]:=hsucc
    have hn6i : ((n : Nat) : Int) <= 65536:=by omega
    have hn6j : (0 : Int) <= ((n : Nat) : Int):=by omega
    have s1:=Lib.hid (cells_new (wr.alloc (.cells #[.int .i64 6,.bool false,.bool false,.string ⟨#[]⟩,.int .i64 0,.int .i64 0,.int .i64 0,.int .i64 0,.int .i64 0,.string ⟨#[]⟩,.slice none 0 0,.slice ua n uc,.slice none 0 0,.string fkey,.bool kd] 98)) 78 #[.bool true,.string ⟨#[]⟩,.int .i64 n])
    have s2 : Hid (∀ u ∈ (#[.bool true,.string ⟨#[]⟩,.int .i64 n] : Array Value).toList,u.oneCell' = true):=Lib.hid (by simp [Value.oneCell'])
    have s3 : Hid (q1.length + 1 <= maxLen):=Lib.hid (by unfold maxLen;omega)
    have s4 : Hid ((q1.length + 1) * 32 <= 140737488355328):=Lib.hid (by omega)
    have g3:=g2.alloc g2.size (.cells #[.bool true,.string ⟨#[]⟩,.int .i64 n] 78)
    have s5 : Hid (W.heap.size <= ((wr.alloc (.cells #[.int .i64 6,.bool false,.bool false,.string ⟨#[]⟩,.int .i64 0,.int .i64 0,.int .i64 0,.int .i64 0,.int .i64 0,.string ⟨#[]⟩,.slice none 0 0,.slice ua n uc,.slice none 0 0,.string fkey,.bool kd] 98)).alloc (.cells #[.bool true,.string ⟨#[]⟩,.int .i64 n] 78)).heap.size):=Lib.hid g3.size
    have hown : ((wr.alloc (.cells #[.int .i64 6,.bool false,.bool false,.string ⟨#[]⟩,.int .i64 0,.int .i64 0,.int .i64 0,.int .i64 0,.int .i64 0,.string ⟨#[]⟩,.slice none 0 0,.slice ua n uc,.slice none 0 0,.string fkey,.bool kd] 98)).alloc (.cells #[.bool true,.string ⟨#[]⟩,.int .i64 n] 78)).ownsRow W.heap.size 78 3 (.slice va q1.length vc) q1.length (catN (fun i => (lst q1 i).cells) q1.length):=HV1.out.below (((Below.refl wr.heap.size wr).alloc (Nat.le_refl _) _).alloc (by simp) _)
    go_wp2_with (first | (at_builtin;refine wpList_append_told _ rfl _ _ 42 rfl W.heap.size 78 i0 _ 3 32 Tryd.underlying42 hi0 hz0 hz1 hz2 rfl (by decide) _ _ _ rfl hown ⟨wr.heap.size + 1,0,none⟩ 1 1 (#[.bool true,.string ⟨#[]⟩,.int .i64 n] : Array Value).toList rfl rfl (by simpa using s1.out) s2.out s3.out s4.out s5.out Nat.one_pos ?_))
    intro v2 w5 ho5 hg5 hv5
    have g5:=g3.grown hg5 s5.out (fun g hg => (own_lt hown hg).1)
    have HV2 : Hid (StRow W.heap.size w5 v2 q2):=Lib.hid (by rw [hsucc];exact StRow.push (s:=stI n) ho5)
    clear s1 s2 s3 s4 s5 hown ho5 hg5 hv5 g3 g2 HV1 hsucc N
    go_wp2
    go_roundw
    case rel => exact ⟨j + 1,by omega,by go_num,by rw [HQ2.out];exact HV2,g5⟩
    case measure => simp [intOf];omega
   ·cases kd
    ·rw [if_pos rfl] at hcur
     simp only [frc] at hcur
     have l0:=(FBr.cell (j * 15 + 0)).trans (hcur 0 (by decide))
     have l1:=(FBr.cell (j * 15 + 1)).trans (hcur 1 (by decide))
     have l2:=(FBr.cell (j * 15 + 2)).trans (hcur 2 (by decide))
     have l3:=(FBr.cell (j * 15 + 3)).trans (hcur 3 (by decide))
     have l4:=(FBr.cell (j * 15 + 4)).trans (hcur 4 (by decide))
     have l5:=(FBr.cell (j * 15 + 5)).trans (hcur 5 (by decide))
     have l6:=(FBr.cell (j * 15 + 6)).trans (hcur 6 (by decide))
     have l7:=(FBr.cell (j * 15 + 7)).trans (hcur 7 (by decide))
     have l8:=(FBr.cell (j * 15 + 8)).trans (hcur 8 (by decide))
     have l9:=(FBr.cell (j * 15 + 9)).trans (hcur 9 (by decide))
     have l10:=(FBr.cell (j * 15 + 10)).trans (hcur 10 (by decide))
     have l11:=(FBr.cell (j * 15 + 11)).trans (hcur 11 (by decide))
     have l12:=(FBr.cell (j * 15 + 12)).trans (hcur 12 (by decide))
     have l13:=(FBr.cell (j * 15 + 13)).trans (hcur 13 (by decide))
     have l14:=(FBr.cell (j * 15 + 14)).trans (hcur 14 (by decide))
     simp only [List.getElem?_toArray,List.getElem?_cons_succ,List.getElem?_cons_zero,Nat.add_zero] at l0 l1 l2 l3 l4 l5 l6 l7 l8 l9 l10 l11 l12 l13 l14
     have g2:=hbr.alloc hbr.size (.cells #[.int .i64 7,.bool false,.bool false,.string ⟨#[]⟩,.int .i64 0,.int .i64 0,.int .i64 0,.int .i64 0,.int .i64 0,.string ⟨#[]⟩,.slice none 0 0,.slice none 0 0,.slice ua n uc,.string fkey,.bool false] 98)
     have N:=Whole.new wr 98 #[.int .i64 7,.bool false,.bool false,.string ⟨#[]⟩,.int .i64 0,.int .i64 0,.int .i64 0,.int .i64 0,.int .i64 0,.string ⟨#[]⟩,.slice none 0 0,.slice none 0 0,.slice ua n uc,.string fkey,.bool false]
     clear hcur FBr hbr
     have n0:=Whole.cell N 0
     have n11:=Whole.cell N 11
     have n13:=Whole.cell N 13
     have n14:=Whole.cell N 14
     simp only [List.getElem?_toArray,List.getElem?_cons_succ,List.getElem?_cons_zero] at n0 n11 n13 n14
     have hsucc : q2 = q1:=by rw [hsucc];exact List.append_nil _
     have HV2 : Hid (StRow W.heap.size (wr.alloc (.cells #[.int .i64 7,.bool false,.bool false,.string ⟨#[]⟩,.int .i64 0,.int .i64 0,.int .i64 0,.int .i64 0,.int .i64 0,.string ⟨#[]⟩,.slice none 0 0,.slice none 0 0,.slice ua n uc,.string fkey,.bool false] 98)) (.slice va q1.length vc) q2):=Lib.hid (by rw [hsucc];exact HV1.out.below ((Below.refl wr.heap.size wr).alloc (Nat.le_refl _) _))
     clear HV1 hsucc N
     go_wp2
     go_roundw
     case rel => exact ⟨j + 1,by omega,by go_num,by rw [HQ2.out];exact HV2,g2⟩
     case measure => simp [intOf];omega
    ·rw [if_pos rfl] at hcur
     simp only [frc] at hcur
     have l0:=(FBr.cell (j * 15 + 0)).trans (hcur 0 (by decide))
     have l1:=(FBr.cell (j * 15 + 1)).trans (hcur 1 (by decide))
     have l2:=(FBr.cell (j * 15 + 2)).trans (hcur 2 (by decide))
     have l3:=(FBr.cell (j * 15 + 3)).trans (hcur 3 (by decide))
     have l4:=(FBr.cell (j * 15 + 4)).trans (hcur 4 (by decide))
     have l5:=(FBr.cell (j * 15 + 5)).trans (hcur 5 (by decide))
     have l6:=(FBr.cell (j * 15 + 6)).trans (hcur 6 (by decide))
     have l7:=(FBr.cell (j * 15 + 7)).trans (hcur 7 (by decide))
     have l8:=(FBr.cell (j * 15 + 8)).trans (hcur 8 (by decide))
     have l9:=(FBr.cell (j * 15 + 9)).trans (hcur 9 (by decide))
     have l10:=(FBr.cell (j * 15 + 10)).trans (hcur 10 (by decide))
     have l11:=(FBr.cell (j * 15 + 11)).trans (hcur 11 (by decide))
     have l12:=(FBr.cell (j * 15 + 12)).trans (hcur 12 (by decide))
     have l13:=(FBr.cell (j * 15 + 13)).trans (hcur 13 (by decide))
     have l14:=(FBr.cell (j * 15 + 14)).trans (hcur 14 (by decide))
     simp only [List.getElem?_toArray,List.getElem?_cons_succ,List.getElem?_cons_zero,Nat.add_zero] at l0 l1 l2 l3 l4 l5 l6 l7 l8 l9 l10 l11 l12 l13 l14
     have g2:=hbr.alloc hbr.size (.cells #[.int .i64 7,.bool false,.bool false,.string ⟨#[]⟩,.int .i64 0,.int .i64 0,.int .i64 0,.int .i64 0,.int .i64 0,.string ⟨#[]⟩,.slice none 0 0,.slice none 0 0,.slice ua n uc,.string fkey,.bool true] 98)
     have N:=Whole.new wr 98 #[.int .i64 7,.bool false,.bool false,.string ⟨#[]⟩,.int .i64 0,.int .i64 0,.int .i64 0,.int .i64 0,.int .i64 0,.string ⟨#[]⟩,.slice none 0 0,.slice none 0 0,.slice ua n uc,.string fkey,.bool true]
     clear hcur FBr hbr
     have n0:=Whole.cell N 0
     have n11:=Whole.cell N 11
     have n13:=Whole.cell N 13
     have n14:=Whole.cell N 14
     simp only [List.getElem?_toArray,List.getElem?_cons_succ,List.getElem?_cons_zero] at n0 n11 n13 n14
     have hsucc : q2 = q1 ++ [stK fkey]:=hsucc
     have s1:=Lib.hid (cells_new (wr.alloc (.cells #[.int .i64 7,.bool false,.bool false,.string ⟨#[]⟩,.int .i64 0,.int .i64 0,.int .i64 0,.int .i64 0,.int .i64 0,.string ⟨#[]⟩,.slice none 0 0,.slice none 0 0,.slice ua n uc,.string fkey,.bool true] 98)) 78 #[.bool false,.string fkey,.int .i64 0])
     have s2 : Hid (∀ u ∈ (#[.bool false,.string fkey,.int .i64 0] : Array Value).toList,u.oneCell' = true):=Lib.hid (by simp [Value.oneCell'])
     have s3 : Hid (q1.length + 1 <= maxLen):=Lib.hid (by unfold maxLen;omega)
     have s4 : Hid ((q1.length + 1) * 32 <= 140737488355328):=Lib.hid (by omega)
     have g3:=g2.alloc g2.size (.cells #[.bool false,.string fkey,.int .i64 0] 78)
     have s5 : Hid (W.heap.size <= ((wr.alloc (.cells #[.int .i64 7,.bool false,.bool false,.string ⟨#[]⟩,.int .i64 0,.int .i64 0,.int .i64 0,.int .i64 0,.int .i64 0,.string ⟨#[]⟩,.slice none 0 0,.slice none 0 0,.slice ua n uc,.string fkey,.bool true] 98)).alloc (.cells #[.bool false,.string fkey,.int .i64 0] 78)).heap.size):=Lib.hid g3.size
     have hown : ((wr.alloc (.cells #[.int .i64 7,.bool false,.bool false,.string ⟨#[]⟩,.int .i64 0,.int .i64 0,.int .i64 0,.int .i64 0,.int .i64 0,.string ⟨#[]⟩,.slice none 0 0,.slice none 0 0,.slice ua n uc,.string fkey,.bool true] 98)).alloc (.cells #[.bool false,.string fkey,.int .i64 0] 78)).ownsRow W.heap.size 78 3 (.slice va q1.length vc) q1.length (catN (fun i => (lst q1 i).cells) q1.length):=HV1.out.below (((Below.refl wr.heap.size wr).alloc (Nat.le_refl _) _).alloc (by simp) _)
     go_wp2_with (first | (at_builtin;refine wpList_append_told _ rfl _ _ 42 rfl W.heap.size 78 i0 _ 3 32 Tryd.underlying42 hi0 hz0 hz1 hz2 rfl (by decide) _ _ _ rfl hown ⟨wr.heap.size + 1,0,none⟩ 1 1 (#[.bool false,.string fkey,.int .i64 0] : Array Value).toList rfl rfl (by simpa using s1.out) s2.out s3.out s4.out s5.out Nat.one_pos ?_))
     intro v2 w5 ho5 hg5 hv5
     have g5:=g3.grown hg5 s5.out (fun g hg => (own_lt hown hg).1)
     have HV2 : Hid (StRow W.heap.size w5 v2 q2):=Lib.hid (by rw [hsucc];exact StRow.push (s:=stK fkey) ho5)
     clear s1 s2 s3 s4 s5 hown ho5 hg5 hv5 g3 g2 HV1 hsucc N
     go_wp2
     go_roundw
     case rel => exact ⟨j + 1,by omega,by go_num,by rw [HQ2.out];exact HV2,g5⟩
     case measure => simp [intOf];omega
  ·obtain rfl : j = d:=by omega
   have HV2:=Lib.hid (pth_of HV.out (by have:=pathN_len fr j;omega) (pathN_ok fun i hi => ⟨HN.out i hi,HK.out i hi⟩) hbr)
   have e:=HP.out
   subst e
   clear HV hjd HP
   go_wp2
   go_ret
   exact HV2.out
end Go.Proofs.YtpcbhneaaibfiaaDoor
