/- Laid together. -/
import Derived.Test.YtpcbhneaaibfiaaDoorPB16
import Derived.Test.YtpcbhneaaibfiaaDoorPB05
import Derived.Test.YtpcbhneaaibfiaaDoorPB25
import Derived.Test.YtpcbhneaaibfiaaDoorPB15
import Derived.Test.YtpcbhneaaibfiaaDoorPB08
import Derived.Deep.AppendLies
import Derived.Deep.RegionHeld3
import Derived.Test.YtpcbhneaaibfiaaDoorPB10
set_option linter.unusedVariables false
set_option linter.unusedSimpArgs false
set_option maxHeartbeats 16000000
set_option maxRecDepth 100000
namespace Go.Proofs.YtpcbhneaaibfiaaDoor
open Go.RowKit
theorem Tryd.infoEvt : (Tryd.prog.info? 57).map (fun i => (i.zero,i.size,i.bytes)) = some (some (.agg (evc 0 ⟨#[]⟩ Vh.zero)),15,192):=by kernel_rfl
def nth (l : List Ev) (i : Nat) : Ev:=l.getD i default
theorem nth_left {a b : List Ev} {i : Nat} (h : i < a.length) : nth (a ++ b) i = nth a i:=by unfold nth;simp [List.getD_eq_getElem?_getD,List.getElem?_append_left h]
theorem nth_last {a : List Ev} {y : Ev} : nth (a ++ [y]) a.length = y:=by unfold nth;simp
theorem nth_get {l : List Ev} {i : Nat} {x : Ev} (h : l[i]? = some x) : nth l i = x:=by unfold nth;simp [List.getD_eq_getElem?_getD,h]
def RowE (B : Nat) (S : Nat -> Prop) (W : World) (v : Value) (l : List Ev) : Prop:=RowG Ev.cells Ev.V 15 57 B S (fun t x => x.Same (nth l t) /\ x.ok) W v l.length
theorem RowE.nil (B : Nat) (S : Nat -> Prop) (W : World) : RowE B S W (.slice none 0 0) []:=RowG.nil
theorem RowE.congr {B : Nat} {S : Nat -> Prop} {W : World} {v : Value} {l m : List Ev} (h : RowE B S W v l) (hs : SameL l m) : RowE B S W v m:=by
 obtain ⟨f,ho,hf⟩:=h
 unfold RowE
 rw [<- hs.length]
 refine ⟨f,ho,fun i hi => ⟨(hf i hi).1,(hf i hi).2.1,(hf i hi).2.2.1.trans ?_,(hf i hi).2.2.2⟩⟩
 have h1 : l[i]? = some l[i]:=List.getElem?_eq_getElem hi
 have h2 : m[i]? = some (m[i]'(by rw [<- hs.length];exact hi)):=List.getElem?_eq_getElem _
 rw [nth_get h1,nth_get h2]
 exact hs.get h1 h2
theorem RowE.push {B : Nat} {S : Nat -> Prop} {W1 W3 : World} {v v' : Value} {l : List Ev} {x y : Ev} {f : Nat -> Ev} (ho : W1.ownsRow B 57 15 v l.length (catN (fun i => (f i).cells) l.length))
 (hf : ∀ i,i < l.length -> (f i).V.In W1 W1.heap.size /\ (f i).V.Off (fun b => S b /\ some b ≠ v.ownBlock) /\ (f i).Same (nth l i) /\ (f i).ok) (hx : x.V.In W1 W1.heap.size) (hS : x.V.Off S) (hxo : ∀ g,v.ownBlock = some g -> x.V.Off (· ≠ g)) (hxy : x.Same y) (hxk : x.ok)
 (ho3 : W3.ownsRow B 57 15 v' (l.length + 1) (catN (fun i => (f i).cells) l.length ++ x.cells.toList)) (hg : W1.grownBy W3 v.ownBlock) (hv : v'.ownBlock = v.ownBlock ∨ v'.ownBlock = some W1.heap.size) :
 RowE B S W3 v' (l ++ [y]):=by
 unfold RowE
 rw [List.length_append]
 refine RowG.push (q:=fun t z => z.Same (nth (l ++ [y]) t) /\ z.ok) (x:=x) ho (fun i hi => ⟨(hf i hi).1,(hf i hi).2.1,?_⟩) hx hS hxo ?_ ho3 hg hv
 ·rw [nth_left hi];exact (hf i hi).2.2
 ·rw [nth_last];exact ⟨hxy,hxk⟩
theorem RowE.below {B : Nat} {S : Nat -> Prop} {W W' : World} {v : Value} {l : List Ev} (h : RowE B S W v l) (hb : Below W.heap.size W W') : RowE B S W' v l:=RowG.below h hb
theorem RowE.sl {B : Nat} {S : Nat -> Prop} {W : World} {v : Value} {l : List Ev} (h : RowE B S W v l) : ∃ a c,v = .slice a l.length c:=by
 obtain ⟨f,⟨_,h⟩,_⟩:=h
 rcases h with ⟨rfl,h1⟩ | ⟨g,cap,cur,rfl,_⟩
 ·rw [h1];exact ⟨_,_,rfl⟩
 ·exact ⟨_,_,rfl⟩
theorem RowE.evs {B : Nat} {S : Nat -> Prop} {W : World} {v : Value} {l : List Ev} (h : RowE B S W v l) (hn : l.length <= 1048576) :
 ∃ p : Evs,v = .slice p.a p.n p.c /\ p.In W W.heap.size /\ SameL ((List.range p.n).map p.S) l /\ (0 < p.n -> B <= p.b) /\ ∀ i,i < p.n -> (p.S i).V.Off S:=by
 obtain ⟨f,a,c,b,rfl,hcc,ha,hrows⟩:=RowG.done (cs:=Ev.cells) (fun x : Ev => evc_size x.k x.key x.V.h) h
 refine ⟨⟨a,l.length,c,b,0,f⟩,rfl,⟨fun q => ⟨(ha q).1,(ha q).2.2⟩,⟨hn,hcc⟩,fun i hi => ⟨by simpa using (hrows i hi).1,(hrows i hi).2.2.2.2,(hrows i hi).2.1⟩⟩,?_,fun q => (ha q).2.1,fun i hi => (hrows i hi).2.2.1⟩
 refine SameL.of_get (by simp) fun i x y h1 h2 => ?_
 have hi : i < l.length:=(List.getElem?_eq_some_iff.1 h2).1
 have hx : x = f i:=by
  simp [hi] at h1
  exact h1.symm
 rw [hx,<- nth_get h2]
 exact (hrows i hi).2.2.2.1
theorem evs_len (T : Vt) : (evs T).length + 1 <= 3 * T.size:=by
 induction T with
 | nil => decide
 | mk h Y L K F ihL ihF =>
  have hs : ∀ (f g : Nat -> Nat) (n : Nat),(∀ i,f i + 1 <= 3 * g i) -> sumN f n <= 3 * sumN g n:=by
   intro f g n hfg
   induction n with
   | zero => exact Nat.le_refl _
   | succ n ih =>
    show sumN f n + f n <= 3 * (sumN g n + g n)
    have:=hfg n
    omega
  by_cases k6 : h.k = 6
  ·have e1 : evs (.mk h Y L K F) = evM 2 :: (catL (fun i => evs (L i)) h.ln ++ [evM 3]):=if_pos k6
   have e2 : (Vt.mk h Y L K F).size = 1 + sumN (fun i => (L i).size) h.ln:=by show 1 + (if h.k = 7 then _ else _) = _;rw [if_neg (by omega)]
   rw [e1,e2,List.length_cons,List.length_append,catL_len]
   have:=hs (fun i => (evs (L i)).length) (fun i => (L i).size) h.ln ihL
   simp only [List.length_singleton]
   omega
  by_cases k7 : h.k = 7
  ·have e1 : evs (.mk h Y L K F) = evM 4 :: (catL (fun i => evK (K i) :: evs (F i)) h.fn ++ [evM 5]):=by show (if h.k = 6 then _ else _) = _;rw [if_neg k6,if_pos k7]
   have e2 : (Vt.mk h Y L K F).size = 1 + sumN (fun i => (F i).size) h.fn:=by show 1 + (if h.k = 7 then _ else _) = _;rw [if_pos k7]
   rw [e1,e2,List.length_cons,List.length_append,catL_len]
   have hs2 : ∀ (f g : Nat -> Nat) (n : Nat),(∀ i,f i <= 3 * g i) -> sumN f n <= 3 * sumN g n:=by
    intro f g n hfg
    induction n with
    | zero => exact Nat.le_refl _
    | succ n ih =>
     show sumN f n + f n <= 3 * (sumN g n + g n)
     have:=hfg n
     omega
   have:=hs2 (fun i => (evK (K i) :: evs (F i)).length) (fun i => (F i).size) h.fn (fun i => ihF i)
   simp only [List.length_singleton]
   omega
  ·have e1 : evs (.mk h Y L K F) = [evS (.mk h Y L K F)]:=by show (if h.k = 6 then _ else _) = _;rw [if_neg k6,if_neg k7]
   have e2 : 0 < (Vt.mk h Y L K F).size:=by show 0 < 1 + _;omega
   rw [e1]
   simp only [List.length_singleton]
   omega
theorem utfB_a : utfB ⟨#[97]⟩ = true:=by
 obtain ⟨rs,hs⟩:=Utf.left_split ⟨#[97]⟩
 have h1:=hs.eq
 have h3:=hs.bad
 unfold utfB
 generalize Utf.left ⟨#[97]⟩ = r at *
 apply decide_eq_true
 cases rs with
 | nil =>
  have e : r = [97]:=h1.symm
  rw [e] at h3
  exact absurd h3 (by decide)
 | cons x rs =>
  have h4:=congrArg List.length h1
  rw [Utf.encs_cons,List.length_append,List.length_append,Utf.enc_length] at h4
  have h5 : 1 <= Utf.wid x:=by
   unfold Utf.wid
   split
   ·exact Nat.le_refl _
   split
   ·decide
   split <;> decide
  simp at h4
  omega
def lvH : Vh:={ Vh.zero with k:=1,b:=true }
def lvS : Vt:=.mk lvH (fun _ => 0) (fun _ => .nil) (fun _ => ⟨#[]⟩) (fun _ => .nil)
def lvT : Vt:=.mk { Vh.zero with k:=7,fn:=1 } (fun _ => 0) (fun _ => .nil) (fun _ => ⟨#[97]⟩) (fun _ => lvS)
def lvE (i : Nat) : Ev:=if i = 0 then evM 4 else if i = 1 then evK ⟨#[97]⟩ else if i = 2 then evS lvS else evM 5
def lvP (b : Nat) : Evs:=⟨some ⟨b,0,none⟩,4,4,b,0,lvE⟩
theorem lv_evs : evs lvT = [evM 4,evK ⟨#[97]⟩,evS lvS,evM 5]:=rfl
theorem lv_list (b : Nat) : (lvP b).list = [evM 4,evK ⟨#[97]⟩,evS lvS,evM 5]:=rfl
theorem lv_whole : lvT.whole:=⟨fun i hi => absurd hi (Nat.not_lt_zero _),fun i hi => ⟨fun i hi => absurd hi (Nat.not_lt_zero _),fun i hi => absurd hi (Nat.not_lt_zero _)⟩⟩
theorem lv_same (b : Nat) : SameL (lvP b).list (evs lvT):=by
 rw [lv_list,lv_evs]
 exact .cons (evM_same 4) (.cons (evK_same _) (.cons ⟨rfl,rfl,Vt.Same.rfl' (lv_whole.2 0 Nat.one_pos)⟩ (.cons (evM_same 5) .nil)))
theorem ba_nil_l : (⟨#[]⟩ : ByteArray).toList = []:=by rw [Lib.toList_data]
theorem lv_oneS : oneE lvS = 0:=by
 have ho : lvS.h.own = true:=by simp [lvS,lvH,Vt.h,Vh.zero,Vh.own,ownB,Vh.nz,Vh.tz0,ba_nil_l]
 unfold oneE
 rw [if_neg (by rw [ho];decide),if_neg (by
  rintro (q | ⟨q,-⟩)
  ·exact q (vd_zero rfl)
  ·exact absurd q (by decide)),if_neg (by rw [show lvS.h.x = ⟨#[]⟩ from rfl,utfB_nil rfl];decide),if_neg (by
  rintro (q | q)
  ·exact absurd q (Nat.not_lt_zero _)
  ·exact absurd q (Nat.not_lt_zero _))]
 rfl
theorem lv_oneT : oneE lvT = 0:=by
 have ho : lvT.h.own = true:=by simp [lvT,Vt.h,Vh.zero,Vh.own,ownB,Vh.nz,Vh.tz0,ba_nil_l]
 unfold oneE
 rw [if_neg (by rw [ho];decide),if_neg (by
  rintro (q | ⟨q,-⟩)
  ·exact q (vd_zero rfl)
  ·exact absurd q (by decide)),if_neg (by rw [show lvT.h.x = ⟨#[]⟩ from rfl,utfB_nil rfl];decide),if_neg (by
  rintro (q | q)
  ·exact absurd q (Nat.not_lt_zero _)
  ·exact absurd q (Nat.not_lt_zero _))]
 show keysE (fun _ => ⟨#[97]⟩) 1 = 0
 refine keysE_next rfl ?_
 unfold keyE
 rw [if_neg (by rw [utfB_a];decide),if_neg (by show ¬ 1024 < 1;omega),if_neg (by rintro ⟨k,hk,-⟩;omega)]
theorem lv_look : (lvT.look 1 0).2 = 0:=by
 have hS : ∀ t : Int,t < 65536 -> (lvS.look 2 t).2 = 0:=fun t ht => by
  rw [Vt.look_eq (by intro e;cases e),if_neg (by omega),if_neg (by omega),if_neg (by simp [lv_oneS])]
  rfl
 rw [Vt.look_eq (by intro e;cases e),if_neg (by omega),if_neg (by omega),if_neg (by simp [lv_oneT])]
 show (foldE (fun i t => lvS.look 2 t) 1 1).2 = 0
 rw [foldE_succ (by rfl)]
 exact hS 1 (by omega)
theorem lv_runs (b : Nat) : (runN (lvP b) 4).2 = 0 /\ (runN (lvP b) 4).1.dn = true /\ (runN (lvP b) 4).1.out.Same lvT:=by
 obtain ⟨T',h1,h2,h3,h4⟩:=run_value lv_whole lv_look (lv_same b)
 have e : runN (lvP b) 4 = runL (Bst.zero,0) (lvP b).list:=runN_all (lvP b)
 rw [e,h4]
 exact ⟨h2,h3,h1⟩
theorem lv_valE (b : Nat) : valE (lvP b) = 0:=by
 obtain ⟨h1,h2,h3⟩:=lv_runs b
 rw [valE_end h1,show (runN (lvP b) (lvP b).n).1.dn = true from h2,if_pos rfl]
theorem lv_valT (b : Nat) : (valT (lvP b)).Same lvT:=by
 unfold valT
 rw [if_pos (lv_valE b)]
 exact (lv_runs b).2.2
theorem lv_whE (b : Nat) : whE (lvP b) 2 = (0,[stK ⟨#[97]⟩]):=by
 have h4:=(lv_runs b).1
 have hz : ∀ j,j <= 4 -> (runN (lvP b) j).2 = 0:=fun j hj => Classical.byContradiction fun q => q (by rw [<- runN_bad q hj];exact h4)
 have r1:=runN_succ (p:=lvP b) (j:=0) (show 0 < 4 by decide) (hz 0 (by omega))
 have r2:=runN_succ (p:=lvP b) (j:=1) (show 1 < 4 by decide) (hz 1 (by omega))
 have r3:=runN_succ (p:=lvP b) (j:=2) (show 2 < 4 by decide) (hz 2 (by omega))
 have e1 : addE Bst.zero (evM 4) = 0:=by have:=hz 1 (by omega);rw [r1] at this;exact this
 have s1 : (runN (lvP b) 1).1 = pushS { Bst.zero with nd:=Bst.zero.nd + 1 } true:=by
  rw [r1]
  show addS Bst.zero (evM 4) = _
  rw [addS_ok e1]
  rfl
 have e2 : addE (runN (lvP b) 1).1 (evK ⟨#[97]⟩) = 0:=by have:=hz 2 (by omega);rw [r2] at this;exact this
 have s2 : (runN (lvP b) 2).1 = keyS (pushS { Bst.zero with nd:=Bst.zero.nd + 1 } true) ⟨#[97]⟩:=by
  rw [r2]
  show addS (runN (lvP b) 1).1 (evK ⟨#[97]⟩) = _
  rw [addS_ok e2,s1]
  rfl
 have e3 : addE (runN (lvP b) 2).1 (evS lvS) = 0:=by have:=hz 3 (by omega);rw [r3] at this;exact this
 have hw : whereS (runN (lvP b) 2).1 (evS lvS) = [stK ⟨#[97]⟩]:=by
  unfold whereS
  rw [if_neg (by decide),if_neg (by decide),s2]
  rfl
 unfold whE
 rw [if_neg (by
  rintro (q | q)
  ·exact absurd q (by decide)
  ·exact absurd q (by show ¬ ((4 : Nat) : Int) <= 2;decide))]
 show (if (runN (lvP b) 2).2 ≠ 0 then _ else (addE (runN (lvP b) 2).1 (evS lvS),if addE (runN (lvP b) 2).1 (evS lvS) = 0 then whereS (runN (lvP b) 2).1 (evS lvS) else [])) = _
 rw [if_neg (by simp [hz 2 (by omega)]),e3,if_pos rfl,hw]
theorem lvS_in (W : World) (top : Nat) : lvS.In W top:=by
 refine ⟨⟨?_,?_,?_,?_,?_,?_,?_,?_,?_,?_,?_,?_,?_⟩,fun h => absurd h (Nat.lt_irrefl _),fun i h => absurd h (Nat.not_lt_zero _),fun h => absurd h (Nat.lt_irrefl _),fun i h => absurd h (Nat.not_lt_zero _),fun h => absurd h (Nat.lt_irrefl _),fun i h => absurd h (Nat.not_lt_zero _)⟩ <;> simp [lvH,Vh.zero,w64,ByteArray.size]
def lvC : Array Value:=#[.int .i64 4,.string ⟨#[]⟩,.int .i64 0,.bool false,.bool false,.string ⟨#[]⟩,.int .i64 0,.int .i64 0,.int .i64 0,.int .i64 0,.int .i64 0,.string ⟨#[]⟩,.slice none 0 0,.slice none 0 0,.slice none 0 0,.int .i64 6,.string ⟨#[97]⟩,.int .i64 0,.bool false,.bool false,.string ⟨#[]⟩,.int .i64 0,.int .i64 0,.int .i64 0,.int .i64 0,.int .i64 0,.string ⟨#[]⟩,.slice none 0 0,.slice none 0 0,.slice none 0 0,.int .i64 1,.string ⟨#[]⟩,.int .i64 1,.bool true,.bool false,.string ⟨#[]⟩,.int .i64 0,.int .i64 0,.int .i64 0,.int .i64 0,.int .i64 0,.string ⟨#[]⟩,.slice none 0 0,.slice none 0 0,.slice none 0 0,.int .i64 5,.string ⟨#[]⟩,.int .i64 0,.bool false,.bool false,.string ⟨#[]⟩,.int .i64 0,.int .i64 0,.int .i64 0,.int .i64 0,.int .i64 0,.string ⟨#[]⟩,.slice none 0 0,.slice none 0 0,.slice none 0 0]
theorem lv_in {W : World} {b : Nat} (P : Whole W b 57 lvC) : (lvP b).In W W.heap.size:=by
 refine ⟨fun _ => ⟨rfl,P.lt⟩,⟨by show 4 <= 1048576;omega,Nat.le_refl _,by show 4 <= maxLen;unfold maxLen;omega⟩,fun i hi => ?_⟩
 have hi4 : i = 0 ∨ i = 1 ∨ i = 2 ∨ i = 3:=by have : i < 4:=hi;omega
 rcases hi4 with rfl | rfl | rfl | rfl
 ·refine ⟨fun j hj => ?_,⟨(show w64 (evM 4).k from ⟨by decide,by decide⟩),(show (evM 4).key.size <= 1048576 from by decide)⟩,Vt.z_in _ _⟩
  have hj15 : j < 15:=hj
  show W.cell? ⟨b,0 + 0 * 15 + j,none⟩ = _
  rw [P.cell]
  have hj' : j = 0 ∨ j = 1 ∨ j = 2 ∨ j = 3 ∨ j = 4 ∨ j = 5 ∨ j = 6 ∨ j = 7 ∨ j = 8 ∨ j = 9 ∨ j = 10 ∨ j = 11 ∨ j = 12 ∨ j = 13 ∨ j = 14:=by omega
  rcases hj' with rfl | rfl | rfl | rfl | rfl | rfl | rfl | rfl | rfl | rfl | rfl | rfl | rfl | rfl | rfl <;> rfl
 ·refine ⟨fun j hj => ?_,⟨(show w64 (evK ⟨#[97]⟩).k from ⟨by decide,by decide⟩),(show (evK ⟨#[97]⟩).key.size <= 1048576 from by decide)⟩,Vt.z_in _ _⟩
  have hj15 : j < 15:=hj
  show W.cell? ⟨b,0 + 1 * 15 + j,none⟩ = _
  rw [P.cell]
  have hj' : j = 0 ∨ j = 1 ∨ j = 2 ∨ j = 3 ∨ j = 4 ∨ j = 5 ∨ j = 6 ∨ j = 7 ∨ j = 8 ∨ j = 9 ∨ j = 10 ∨ j = 11 ∨ j = 12 ∨ j = 13 ∨ j = 14:=by omega
  rcases hj' with rfl | rfl | rfl | rfl | rfl | rfl | rfl | rfl | rfl | rfl | rfl | rfl | rfl | rfl | rfl <;> rfl
 ·refine ⟨fun j hj => ?_,⟨(show w64 (evS lvS).k from ⟨by decide,by decide⟩),(show (evS lvS).key.size <= 1048576 from by decide)⟩,lvS_in _ _⟩
  have hj15 : j < 15:=hj
  show W.cell? ⟨b,0 + 2 * 15 + j,none⟩ = _
  rw [P.cell]
  have hj' : j = 0 ∨ j = 1 ∨ j = 2 ∨ j = 3 ∨ j = 4 ∨ j = 5 ∨ j = 6 ∨ j = 7 ∨ j = 8 ∨ j = 9 ∨ j = 10 ∨ j = 11 ∨ j = 12 ∨ j = 13 ∨ j = 14:=by omega
  rcases hj' with rfl | rfl | rfl | rfl | rfl | rfl | rfl | rfl | rfl | rfl | rfl | rfl | rfl | rfl | rfl <;> rfl
 ·refine ⟨fun j hj => ?_,⟨(show w64 (evM 5).k from ⟨by decide,by decide⟩),(show (evM 5).key.size <= 1048576 from by decide)⟩,Vt.z_in _ _⟩
  have hj15 : j < 15:=hj
  show W.cell? ⟨b,0 + 3 * 15 + j,none⟩ = _
  rw [P.cell]
  have hj' : j = 0 ∨ j = 1 ∨ j = 2 ∨ j = 3 ∨ j = 4 ∨ j = 5 ∨ j = 6 ∨ j = 7 ∨ j = 8 ∨ j = 9 ∨ j = 10 ∨ j = 11 ∨ j = 12 ∨ j = 13 ∨ j = 14:=by omega
  rcases hj' with rfl | rfl | rfl | rfl | rfl | rfl | rfl | rfl | rfl | rfl | rfl | rfl | rfl | rfl | rfl <;> rfl
def OfOut (B : Nat) (v : Value) (l : List Ev) (w : World) (e : Ending) (w' : World) : Prop:=∃ (a : Option Addr) (c : Nat),e = .returned (.slice a l.length c) /\ RowE B (B <= ·) w' (.slice a l.length c) l /\ Kept (fun b => v.ownBlock = some b) w w' /\ ∀ b,(Value.slice a l.length c).ownBlock = some b -> v.ownBlock = some b ∨ w.heap.size <= b
def OfIs (T : Vt) : Prop:=∀ (l : List Ev) (a : Option Addr) (c top B : Nat) (w : World),T.In w top -> top <= B -> B <= w.heap.size -> RowE B (B <= ·) w (.slice a l.length c) l -> l.length + (evs T).length <= 1000000 -> T.upto 65536 ->
 Calls Tryd.prog 38 #[.slice a l.length c,.agg T.h.cells] w (OfOut B (.slice a l.length c) (l ++ evs T) w)
theorem kept_app {W W1 W2 : World} {v : Value} (hb : Below W.heap.size W W1) (hg : W1.grownBy W2 v.ownBlock) : Kept (fun b => v.ownBlock = some b) W W2:=(Kept.of hb).trans (kept_grown (X:=fun b => v.ownBlock = some b) hg (fun g hg => hg)) (fun b q => .inl q)
theorem own_app {W W1 : World} {v v' : Value} (hb : W.heap.size <= W1.heap.size) (hv : v'.ownBlock = v.ownBlock ∨ v'.ownBlock = some W1.heap.size) : ∀ b,v'.ownBlock = some b -> v.ownBlock = some b ∨ W.heap.size <= b:=fun b q => by
 rcases hv with hv | hv
 ·rw [hv] at q;exact .inl q
 ·rw [hv] at q;cases q;exact .inr hb
theorem off_z (S : Nat -> Prop) : Vt.z.Off S:=⟨fun q => absurd q (Nat.lt_irrefl _),fun q => absurd q (Nat.lt_irrefl _),fun i hi => absurd hi (Nat.not_lt_zero _),fun q => absurd q (Nat.lt_irrefl _),fun i hi => absurd hi (Nat.not_lt_zero _)⟩
theorem RowE.mark {B : Nat} {W1 W3 : World} {v v' : Value} {l : List Ev} {k : Int} {key : ByteArray} {f : Nat -> Ev} (hk : w64 k) (hkey : key.size <= 1048576) (ho : W1.ownsRow B 57 15 v l.length (catN (fun i => (f i).cells) l.length))
 (hf : ∀ i,i < l.length -> (f i).V.In W1 W1.heap.size /\ (f i).V.Off (fun b => B <= b /\ some b ≠ v.ownBlock) /\ (f i).Same (nth l i) /\ (f i).ok)
 (ho3 : W3.ownsRow B 57 15 v' (l.length + 1) (catN (fun i => (f i).cells) l.length ++ (Ev.mk k key Vt.z).cells.toList)) (hg : W1.grownBy W3 v.ownBlock) (hv : v'.ownBlock = v.ownBlock ∨ v'.ownBlock = some W1.heap.size) :
 RowE B (B <= ·) W3 v' (l ++ [Ev.mk k key Vt.z]) :=
 RowE.push (x:=⟨k,key,Vt.z⟩) ho hf (Vt.z_in _ _) (off_z _) (fun g hg => off_z _) ⟨rfl,rfl,Vt.z_same⟩ ⟨hk,hkey⟩ ho3 hg hv
theorem of_sca {h : Vh} {Y : Nat -> Int} {L : Nat -> Vt} {K : Nat -> ByteArray} {F : Nat -> Vt} (k6 : h.k ≠ 6) (k7 : h.k ≠ 7) : OfIs (.mk h Y L K F):=by
 intro l va vc top B w hT ht hB hR hlen hup
 have hb0:=(Below.refl w.heap.size w).alloc (Nat.le_refl _) (.cells h.cells 30)
 have P:=Whole.new w 30 h.cells
 have hR0:=hR.below hb0
 have HR0:=Lib.hid hR0
 have hT0:=Vt.In.below (hb0.mono (Nat.le_trans ht hB)) hT
 have hw0 : (w.alloc (.cells h.cells 30)).heap.size = w.heap.size + 1:=World.size_alloc _ _
 have hvo : Hid (∀ g,(Value.slice va l.length vc).ownBlock = some g -> B <= g /\ g < w.heap.size):=Lib.hid (by
  obtain ⟨f,ho,-⟩:=hR
  exact fun g hg => own_lt ho hg)
 obtain ⟨i0,hi0,hz0,hz1,hz2⟩:=info_parts Tryd.infoEvt
 have he : evs (.mk h Y L K F) = [evS (.mk h Y L K F)]:=by show (if h.k = 6 then _ else _) = _;rw [if_neg k6,if_neg k7]
 have HC:=Lib.hid (copy_any (T:=.mk h Y L K F) (w:=w.alloc (.cells h.cells 30)) hT0 (by omega) hup)
 rw [he] at hlen ⊢
 simp only [List.length_singleton] at hlen
 have HEnd : Hid (∀ (X : Vt) (w1 w2 w3 : World) (v' : Value) (f : Nat -> Ev),X.In w1 w1.heap.size -> X.Off (w.heap.size + 1 <= ·) -> X.Same (.mk h Y L K F) -> Below w.heap.size w w1 -> Below w1.heap.size w1 w2 -> w2.ownsRow B 57 15 (.slice va l.length vc) l.length (catN (fun i => (f i).cells) l.length) ->
  (∀ i,i < l.length -> (f i).V.In w2 w2.heap.size /\ (f i).V.Off (fun b => B <= b /\ some b ≠ (Value.slice va l.length vc).ownBlock) /\ (f i).Same (nth l i) /\ (f i).ok) ->
  w3.ownsRow B 57 15 v' (l.length + 1) (catN (fun i => (f i).cells) l.length ++ (Ev.mk 1 ⟨#[]⟩ X).cells.toList) -> w2.grownBy w3 (Value.slice va l.length vc).ownBlock -> (v'.ownBlock = (Value.slice va l.length vc).ownBlock ∨ v'.ownBlock = some w2.heap.size) ->
  OfOut B (.slice va l.length vc) (l ++ [evS (.mk h Y L K F)]) w (.returned v') w3):=Lib.hid (fun X w1 w2 w3 v' f hX hXo hXs hb1 hb2 ho hf ho3 hg hv => by
  have hr:=RowE.push (x:=⟨1,⟨#[]⟩,X⟩) (y:=evS (.mk h Y L K F)) ho hf (hX.later hb2) (hXo.mono fun b q => by omega) (fun g hg => hXo.mono fun b q => by have:=(hvo.out g hg).2;omega) ⟨rfl,rfl,hXs⟩ ⟨(show w64 1 from ⟨by decide,by decide⟩),Nat.zero_le _⟩ ho3 hg hv
  obtain ⟨a,c,rfl⟩:=hr.sl
  exact ⟨a,c,rfl,hr,kept_app (below_then hb1 hb2) hg,own_app (Nat.le_trans hb1.size hb2.size) hv⟩)
 have d6 : (h.k == 6) = false:=beq_eq_false_iff_ne.2 k6
 have d7 : (h.k == 7) = false:=beq_eq_false_iff_ne.2 k7
 obtain ⟨c0,c1,c2,c3,c4,c5,c6,c7,c8,c9,c10,c11,c12⟩:=Whole.c13 (h:=h) P
 clear hT hR hT0 hup he hR0 hvo k6 k7 P
 simp only [Vt.h,Vh.cells] at HC hb0 HR0 hw0 c0 c1 c2 c3 c4 c5 c6 c7 c8 c9 c10 c11 c12 ⊢
 go_enter Tryd.func38,Tryd.ntmps38
 go_wp2_with fail
 refine HC.out.mono ?_;rintro _ w1 ⟨X,rfl,hX,hXo,hXs,hb1⟩
 have g1:=below_then hb0 hb1
 have HR1:=Lib.hid (HR0.out.below hb1)
 rw [hw0] at hXo
 have HX:=Lib.hid (And.intro hX (And.intro hXo hXs))
 have hw1:=hb1.size
 clear HC hX hXo hXs hb1 c0 c1 c2 c3 c4 c5 c6 c7 c8 c9 c10 c11 c12 HR0 hb0
 obtain ⟨f,hown,hf⟩:=HR1.out.below ((Below.refl w1.heap.size w1).alloc (Nat.le_refl _) (.cells #[.int .i64 1,.string ⟨#[]⟩,.int .i64 X.h.k,.bool X.h.b,.bool X.h.n,.string X.h.d,.int .i64 X.h.e,.int .i64 X.h.tk,.int .i64 X.h.td,.int .i64 X.h.tn,.int .i64 X.h.tz,.string X.h.x,.slice X.h.ba X.h.bn X.h.bc,.slice X.h.la X.h.ln X.h.lc,.slice X.h.fa X.h.fn X.h.fc] 57))
 have Hf:=Lib.hid hf
 have HOwn:=Lib.hid hown
 have s1:=Lib.hid (cells_new w1 57 #[.int .i64 1,.string ⟨#[]⟩,.int .i64 X.h.k,.bool X.h.b,.bool X.h.n,.string X.h.d,.int .i64 X.h.e,.int .i64 X.h.tk,.int .i64 X.h.td,.int .i64 X.h.tn,.int .i64 X.h.tz,.string X.h.x,.slice X.h.ba X.h.bn X.h.bc,.slice X.h.la X.h.ln X.h.lc,.slice X.h.fa X.h.fn X.h.fc])
 have s2 : Hid (∀ u ∈ (#[.int .i64 1,.string ⟨#[]⟩,.int .i64 X.h.k,.bool X.h.b,.bool X.h.n,.string X.h.d,.int .i64 X.h.e,.int .i64 X.h.tk,.int .i64 X.h.td,.int .i64 X.h.tn,.int .i64 X.h.tz,.string X.h.x,.slice X.h.ba X.h.bn X.h.bc,.slice X.h.la X.h.ln X.h.lc,.slice X.h.fa X.h.fn X.h.fc] : Array Value).toList,u.oneCell' = true):=Lib.hid (by simp [Value.oneCell'])
 have s3 : Hid (l.length + 1 <= maxLen):=Lib.hid (by unfold maxLen;omega)
 have s4 : Hid ((l.length + 1) * 192 <= 140737488355328):=Lib.hid (by omega)
 have s5 : Hid (B <= (w1.alloc (.cells #[.int .i64 1,.string ⟨#[]⟩,.int .i64 X.h.k,.bool X.h.b,.bool X.h.n,.string X.h.d,.int .i64 X.h.e,.int .i64 X.h.tk,.int .i64 X.h.td,.int .i64 X.h.tn,.int .i64 X.h.tz,.string X.h.x,.slice X.h.ba X.h.bn X.h.bc,.slice X.h.la X.h.ln X.h.lc,.slice X.h.fa X.h.fn X.h.fc] 57)).heap.size):=Lib.hid (by rw [World.size_alloc];omega)
 clear hf
 go_wp2_with (first | (at_builtin;refine wpList_append_told _ rfl _ _ 34 rfl B 57 i0 _ 15 192 Tryd.underlying34 hi0 hz0 hz1 hz2 rfl (by decide) _ _ _ rfl hown ⟨w1.heap.size,0,none⟩ 1 1 (#[.int .i64 1,.string ⟨#[]⟩,.int .i64 X.h.k,.bool X.h.b,.bool X.h.n,.string X.h.d,.int .i64 X.h.e,.int .i64 X.h.tk,.int .i64 X.h.td,.int .i64 X.h.tn,.int .i64 X.h.tz,.string X.h.x,.slice X.h.ba X.h.bn X.h.bc,.slice X.h.la X.h.ln X.h.lc,.slice X.h.fa X.h.fn X.h.fc] : Array Value).toList rfl rfl (by simpa using s1.out) s2.out s3.out s4.out s5.out Nat.one_pos ?_))
 clear s1 s2 s3 s4 s5 hown
 intro v2 w3 ho2 hg2 hv2
 have HE:=Lib.hid (HEnd.out X w1 _ w3 v2 f HX.out.1 HX.out.2.1 HX.out.2.2 g1 ((Below.refl _ _).alloc (Nat.le_refl _) _) HOwn.out Hf.out ho2 hg2 (by rw [World.size_alloc];exact hv2))
 clear HEnd HX HOwn Hf ho2 hg2 hv2 HR1 g1
 go_wp2
 (first | exact HE.out | (go_ret;exact HE.out))
theorem of_lst {h : Vh} {Y : Nat -> Int} {L : Nat -> Vt} {K : Nat -> ByteArray} {F : Nat -> Vt} (k6 : h.k = 6) (ih : ∀ i,OfIs (L i)) : OfIs (.mk h Y L K F):=by
 intro l va vc top B w hT ht hB hR hlen hup
 have hb0:=(Below.refl w.heap.size w).alloc (Nat.le_refl _) (.cells h.cells 30)
 have P:=Whole.new w 30 h.cells
 have hR0:=hR.below hb0
 have HR0:=Lib.hid hR0
 have hT0:=Vt.In.below (hb0.mono (Nat.le_trans ht hB)) hT
 have hw0 : (w.alloc (.cells h.cells 30)).heap.size = w.heap.size + 1:=World.size_alloc _ _
 have hvo : Hid (∀ g,(Value.slice va l.length vc).ownBlock = some g -> B <= g /\ g < w.heap.size):=Lib.hid (by
  obtain ⟨f,ho,-⟩:=hR
  exact fun g hg => own_lt ho hg)
 obtain ⟨i0,hi0,hz0,hz1,hz2⟩:=info_parts Tryd.infoEvt
 have he : evs (.mk h Y L K F) = evM 2 :: (catL (fun i => evs (L i)) h.ln ++ [evM 3]):=if_pos k6
 rw [he] at hlen ⊢
 have hsum : Hid (∀ j,j <= h.ln -> (l ++ [evM 2] ++ catL (fun i => evs (L i)) j).length + 1 <= 1000000):=Lib.hid fun j hj => by
  have e:=sumN_mono (f:=fun i => (evs (L i)).length) hj
  have hl:=hlen
  rw [List.length_cons,List.length_append,List.length_singleton,catL_len] at hl
  rw [List.length_append,List.length_append,List.length_singleton,catL_len]
  omega
 have HKid:=Lib.hid (show ∀ i,i < h.ln -> Below B w w -> True from fun _ _ _ => trivial)
 have hkn:=hT.1.ln
 have HI:=Lib.hid (fun (j : Nat) (hj : j < h.ln) (M : List Ev) (a : Option Addr) (c : Nat) (w1 : World) (hb : Below B w w1) (hr : RowE B (B <= ·) w1 (.slice a M.length c) M) (hm : M.length + (evs (L j)).length <= 1000000) => ih j M a c top B w1 (Vt.In.below (hb.mono ht) ((hT.2.2.2.2.1 j hj).2)) ht (Nat.le_trans hB hb.size) hr hm (Vt.upto_le (hup.2.1 j hj) (by omega)))
 have HLa : Hid (0 < h.ln -> h.la = some ⟨h.lb,h.lo,none⟩ /\ h.lb < B):=Lib.hid fun q => ⟨(hT.2.2.2.1 q).1,Nat.lt_of_lt_of_le (hT.2.2.2.1 q).2 ht⟩
 have HLs:=Lib.hid (hT.2.2.2.2.1)
 have hne : Hid (∀ g,(Value.slice va l.length vc).ownBlock = some g -> g ≠ w.heap.size):=Lib.hid fun g hg => by have:=(hvo.out g hg).2;omega
 have HKB : Hid (∀ w1,Kept (fun b => (Value.slice va l.length vc).ownBlock = some b) w w1 -> Below B w w1):=Lib.hid fun w1 hk => hk.below hB (fun b hb q => by have:=(hvo.out b q).1;omega)
 have HEnd : Hid (∀ (M : List Ev) (w1 w2 w3 : World) (u v' : Value) (f : Nat -> Ev),M = l ++ [evM 2] ++ catL (fun i => evs (L i)) h.ln -> Kept (fun b => (Value.slice va l.length vc).ownBlock = some b) w w1 -> Below w1.heap.size w1 w2 -> (∀ b,u.ownBlock = some b -> (Value.slice va l.length vc).ownBlock = some b ∨ w.heap.size <= b) -> w2.ownsRow B 57 15 u M.length (catN (fun i => (f i).cells) M.length) ->
  (∀ i,i < M.length -> (f i).V.In w2 w2.heap.size /\ (f i).V.Off (fun b => B <= b /\ some b ≠ u.ownBlock) /\ (f i).Same (nth M i) /\ (f i).ok) ->
  w3.ownsRow B 57 15 v' (M.length + 1) (catN (fun i => (f i).cells) M.length ++ (evM 3).cells.toList) -> w2.grownBy w3 u.ownBlock -> (v'.ownBlock = u.ownBlock ∨ v'.ownBlock = some w2.heap.size) ->
  OfOut B (.slice va l.length vc) (l ++ evM 2 :: (catL (fun i => evs (L i)) h.ln ++ [evM 3])) w (.returned v') w3):=Lib.hid (fun M w1 w2 w3 u v' f hM hk1 hb2 hu ho hf ho3 hg hv => by
  have hr:=RowE.mark (k:=3) (key:=⟨#[]⟩) ⟨by decide,by decide⟩ (Nat.zero_le _) ho hf ho3 hg hv
  have e : l ++ evM 2 :: (catL (fun i => evs (L i)) h.ln ++ [evM 3]) = M ++ [evM 3]:=by rw [hM];simp
  rw [e]
  obtain ⟨a,c,rfl⟩:=hr.sl
  refine ⟨a,c,rfl,hr,hk1.trans (kept_app hb2 hg) hu,fun b q => ?_⟩
  rcases own_app hb2.size hv b q with q | q
  ·exact hu b q
  ·exact .inr (Nat.le_trans hk1.size q))
 have p0:=Whole.cell P 0
 simp only [Vh.cells,List.getElem?_toArray,List.getElem?_cons_succ,List.getElem?_cons_zero] at p0
 have d6 : (h.k == 6) = true:=beq_iff_eq.2 k6
 clear hT hR hT0 hup he hR0 ih k6 hlen
 obtain ⟨kids,hkids⟩ : ∃ kids : Nat -> List Ev,kids = catL (fun i => evs (L i)):=⟨_,rfl⟩
 have HSucc : Hid (∀ j,kids (j + 1) = kids j ++ evs (L j)):=Lib.hid fun j => by rw [hkids];rfl
 have HZero : Hid (kids 0 = []):=Lib.hid (by rw [hkids];rfl)
 rw [<- hkids] at hsum HEnd ⊢
 clear hkids HKid
 have n2 : (0 : Int) <= h.ln:=by omega
 have n3 : (h.ln : Int) <= 1048576:=by omega
 have hl9 : Hid (l.length + 1 <= 1000000):=Lib.hid (by have:=hsum.out 0 (Nat.zero_le _);rw [HZero.out] at this;simp at this;omega)
 have hl9':=hl9.out
 have Pb:=P
 simp only [Vt.h,Vh.cells] at hb0 HR0 hw0 Pb ⊢
 clear P
 go_enter Tryd.func38,Tryd.ntmps38
 go_upto_region 3 with (fail)
 have hP0:=Pb
 obtain ⟨w0,hw0'⟩ : ∃ w0,w.alloc (.cells #[.int .i64 h.k,.bool h.b,.bool h.n,.string h.d,.int .i64 h.e,.int .i64 h.tk,.int .i64 h.td,.int .i64 h.tn,.int .i64 h.tz,.string h.x,.slice h.ba h.bn h.bc,.slice h.la h.ln h.lc,.slice h.fa h.fn h.fc] 30) = w0:=⟨_,rfl⟩
 simp only [hw0'] at hb0 HR0 hw0 hP0 p0 ⊢
 clear hw0' Pb
 obtain ⟨f,hown,hf⟩:=HR0.out.below ((Below.refl w0.heap.size w0).alloc (Nat.le_refl _) (.cells #[.int .i64 2,.string ⟨#[]⟩,.int .i64 0,.bool false,.bool false,.string ⟨#[]⟩,.int .i64 0,.int .i64 0,.int .i64 0,.int .i64 0,.int .i64 0,.string ⟨#[]⟩,.slice none 0 0,.slice none 0 0,.slice none 0 0] 57))
 have Hf:=Lib.hid hf
 have HOwn:=Lib.hid hown
 have s1:=Lib.hid (cells_new w0 57 #[.int .i64 2,.string ⟨#[]⟩,.int .i64 0,.bool false,.bool false,.string ⟨#[]⟩,.int .i64 0,.int .i64 0,.int .i64 0,.int .i64 0,.int .i64 0,.string ⟨#[]⟩,.slice none 0 0,.slice none 0 0,.slice none 0 0])
 have s2 : Hid (∀ u ∈ (#[.int .i64 2,.string ⟨#[]⟩,.int .i64 0,.bool false,.bool false,.string ⟨#[]⟩,.int .i64 0,.int .i64 0,.int .i64 0,.int .i64 0,.int .i64 0,.string ⟨#[]⟩,.slice none 0 0,.slice none 0 0,.slice none 0 0] : Array Value).toList,u.oneCell' = true):=Lib.hid (by simp [Value.oneCell'])
 have s3 : Hid (l.length + 1 <= maxLen):=Lib.hid (by unfold maxLen;omega)
 have s4 : Hid ((l.length + 1) * 192 <= 140737488355328):=Lib.hid (by omega)
 have s5 : Hid (B <= (w0.alloc (.cells #[.int .i64 2,.string ⟨#[]⟩,.int .i64 0,.bool false,.bool false,.string ⟨#[]⟩,.int .i64 0,.int .i64 0,.int .i64 0,.int .i64 0,.int .i64 0,.string ⟨#[]⟩,.slice none 0 0,.slice none 0 0,.slice none 0 0] 57)).heap.size):=Lib.hid (by rw [World.size_alloc];omega)
 clear hf
 go_wp2_with (first | (at_builtin;refine wpList_append_told _ rfl _ _ 34 rfl B 57 i0 _ 15 192 Tryd.underlying34 hi0 hz0 hz1 hz2 rfl (by decide) _ _ _ rfl hown ⟨w.heap.size + 1,0,none⟩ 1 1 (#[.int .i64 2,.string ⟨#[]⟩,.int .i64 0,.bool false,.bool false,.string ⟨#[]⟩,.int .i64 0,.int .i64 0,.int .i64 0,.int .i64 0,.int .i64 0,.string ⟨#[]⟩,.slice none 0 0,.slice none 0 0,.slice none 0 0] : Array Value).toList rfl rfl (by have:=s1.out;rw [hw0] at this;exact this) s2.out s3.out s4.out s5.out Nat.one_pos ?_))
 clear s1 s2 s3 s4 s5 hown
 intro v2 w2 ho2 hg2 hv2
 have HR2:=Lib.hid (RowE.mark (k:=2) (key:=⟨#[]⟩) ⟨by decide,by decide⟩ (Nat.zero_le _) HOwn.out Hf.out ho2 hg2 (by rw [World.size_alloc,hw0];exact hv2))
 have gw : Below w.heap.size w (w0.alloc (.cells #[.int .i64 2,.string ⟨#[]⟩,.int .i64 0,.bool false,.bool false,.string ⟨#[]⟩,.int .i64 0,.int .i64 0,.int .i64 0,.int .i64 0,.int .i64 0,.string ⟨#[]⟩,.slice none 0 0,.slice none 0 0,.slice none 0 0] 57)):=hb0.alloc hb0.size _
 have HK2:=Lib.hid (kept_app gw hg2)
 have HO2 : Hid (∀ b,v2.ownBlock = some b -> (Value.slice va l.length vc).ownBlock = some b ∨ w.heap.size <= b):=Lib.hid (own_app gw.size (by rw [World.size_alloc,hw0];exact hv2))
 have P2:=(hP0.alloc (.cells #[.int .i64 2,.string ⟨#[]⟩,.int .i64 0,.bool false,.bool false,.string ⟨#[]⟩,.int .i64 0,.int .i64 0,.int .i64 0,.int .i64 0,.int .i64 0,.string ⟨#[]⟩,.slice none 0 0,.slice none 0 0,.slice none 0 0] 57)).kept hg2 (fun e => hne.out _ e.symm rfl)
 have pl:=Whole.cell P2 11
 simp only [List.getElem?_toArray,List.getElem?_cons_succ,List.getElem?_cons_zero] at pl
 have HM0 : Hid (RowE B (B <= ·) w2 v2 (l ++ [evM 2] ++ kids 0)):=Lib.hid (by rw [HZero.out,List.append_nil];exact HR2.out)
 clear hP0 P2 p0 HOwn Hf ho2 hg2 hv2 HR2 HR0 hb0 gw hne
 obtain ⟨a2,c2,hv2s⟩:=HM0.out.sl
 go_wp2_with fail
 go_loopw [0,20] (fun v i wr => ∃ j : Nat,j <= h.ln /\ i = .int .i64 j /\ Hid (RowE B (B <= ·) wr v (l ++ [evM 2] ++ kids j)) /\ Hid (Kept (fun b => (Value.slice va l.length vc).ownBlock = some b) w wr) /\ Hid (∀ b,v.ownBlock = some b -> (Value.slice va l.length vc).ownBlock = some b ∨ w.heap.size <= b)) (fun _ i _ => h.ln - (intOf i).toNat)
 case atStart => exact ⟨0,by omega,rfl,HM0,HK2,HO2⟩
 case round =>
  clear HM0 HK2 HO2 pl hv2s
  obtain ⟨j,hj,rfl,HRr,HKr,HOr⟩:=hrel
  have hji : (0 : Int) <= j:=by omega
  have hsz:=HKr.out.size
  have hml:=hsum.out j hj
  obtain ⟨M,hM⟩ : ∃ M,l ++ [evM 2] ++ kids j = M:=⟨_,rfl⟩
  rw [hM] at HRr hml
  have HM:=Lib.hid hM
  clear hM
  obtain ⟨ar,cr,hvr⟩:=HRr.out.sl
  subst hvr
  by_cases hjn : j < h.ln
  ·have hjl : (j : Int) < h.ln:=by omega
   obtain ⟨ea,elt⟩:=HLa.out (by omega)
   have HBr:=Lib.hid (HKB.out wr HKr.out)
   have hl:=(HLs.out j hjn).1.below HBr.out elt
   obtain ⟨c0,c1,c2,c3,c4,c5,c6,c7,c8,c9,c10,c11,c12⟩:=hl.c13
   have HC:=Lib.hid (fun (w1 : World) (hb : Below wr.heap.size wr w1) => HI.out j hjn M ar cr w1 (HBr.out.trans (hb.mono (Nat.le_trans hB hsz))) (HRr.out.below hb) (by have:=hsum.out (j + 1) hjn;rw [HSucc.out,<- List.append_assoc,HM.out,List.length_append] at this;omega))
   have HSj : Hid (l ++ [evM 2] ++ kids (j + 1) = M ++ evs (L j)):=Lib.hid (by rw [HSucc.out,<- List.append_assoc,HM.out])
   obtain ⟨M2,hM2⟩ : ∃ M2,M ++ evs (L j) = M2:=⟨_,rfl⟩
   simp only [hM2] at HC HSj
   clear hM2
   generalize hG : (L j).h = G at *
   clear hG
   simp only [Vh.cells] at HC
   rw [ea]
   have ga : Below wr.heap.size wr (wr.alloc (.cells #[.int .i64 G.k,.bool G.b,.bool G.n,.string G.d,.int .i64 G.e,.int .i64 G.tk,.int .i64 G.td,.int .i64 G.tn,.int .i64 G.tz,.string G.x,.slice G.ba G.bn G.bc,.slice G.la G.ln G.lc,.slice G.fa G.fn G.fc] 30)):=(Below.refl _ _).alloc (Nat.le_refl _) _
   clear hl
   go_wp2_with fail
   refine (HC.out _ ga).mono ?_;rintro _ w4 ⟨a40,c40,rfl,hr4,hk4,ho4⟩
   have HR4:=Lib.hid hr4
   have HK4 : Hid (Kept (fun b => (Value.slice va l.length vc).ownBlock = some b) w w4):=Lib.hid (HKr.out.trans ((Kept.of (O:=fun b => (Value.slice ar M.length cr).ownBlock = some b) ga).trans hk4 (fun b q => .inl q)) HOr.out)
   have HO4 : Hid (∀ b,(Value.slice a40 M2.length c40).ownBlock = some b -> (Value.slice va l.length vc).ownBlock = some b ∨ w.heap.size <= b):=Lib.hid fun b q => by
    rcases ho4 b q with q | q
    ·exact HOr.out b q
    ·have:=ga.size;exact .inr (by omega)
   clear HC hr4 hk4 ho4 ga c0 c1 c2 c3 c4 c5 c6 c7 c8 c9 c10 c11 c12 HRr HKr HOr
   go_wp2
   go_roundw
   case rel => exact ⟨j + 1,by omega,by go_num,by rw [HSj.out];exact HR4,HK4,HO4⟩
   case measure => simp [intOf];omega
  ·obtain rfl : j = h.ln:=by omega
   obtain ⟨f,hown,hf⟩:=HRr.out.below ((Below.refl wr.heap.size wr).alloc (Nat.le_refl _) (.cells #[.int .i64 3,.string ⟨#[]⟩,.int .i64 0,.bool false,.bool false,.string ⟨#[]⟩,.int .i64 0,.int .i64 0,.int .i64 0,.int .i64 0,.int .i64 0,.string ⟨#[]⟩,.slice none 0 0,.slice none 0 0,.slice none 0 0] 57))
   have Hf:=Lib.hid hf
   have HOwn:=Lib.hid hown
   have s1:=Lib.hid (cells_new wr 57 #[.int .i64 3,.string ⟨#[]⟩,.int .i64 0,.bool false,.bool false,.string ⟨#[]⟩,.int .i64 0,.int .i64 0,.int .i64 0,.int .i64 0,.int .i64 0,.string ⟨#[]⟩,.slice none 0 0,.slice none 0 0,.slice none 0 0])
   have s2 : Hid (∀ u ∈ (#[.int .i64 3,.string ⟨#[]⟩,.int .i64 0,.bool false,.bool false,.string ⟨#[]⟩,.int .i64 0,.int .i64 0,.int .i64 0,.int .i64 0,.int .i64 0,.string ⟨#[]⟩,.slice none 0 0,.slice none 0 0,.slice none 0 0] : Array Value).toList,u.oneCell' = true):=Lib.hid (by simp [Value.oneCell'])
   have s3 : Hid (M.length + 1 <= maxLen):=Lib.hid (by unfold maxLen;omega)
   have s4 : Hid ((M.length + 1) * 192 <= 140737488355328):=Lib.hid (by omega)
   have s5 : Hid (B <= (wr.alloc (.cells #[.int .i64 3,.string ⟨#[]⟩,.int .i64 0,.bool false,.bool false,.string ⟨#[]⟩,.int .i64 0,.int .i64 0,.int .i64 0,.int .i64 0,.int .i64 0,.string ⟨#[]⟩,.slice none 0 0,.slice none 0 0,.slice none 0 0] 57)).heap.size):=Lib.hid (by rw [World.size_alloc];omega)
   clear hf
   go_wp2_with (first | (at_builtin;refine wpList_append_told _ rfl _ _ 34 rfl B 57 i0 _ 15 192 Tryd.underlying34 hi0 hz0 hz1 hz2 rfl (by decide) _ _ _ rfl hown ⟨wr.heap.size,0,none⟩ 1 1 (#[.int .i64 3,.string ⟨#[]⟩,.int .i64 0,.bool false,.bool false,.string ⟨#[]⟩,.int .i64 0,.int .i64 0,.int .i64 0,.int .i64 0,.int .i64 0,.string ⟨#[]⟩,.slice none 0 0,.slice none 0 0,.slice none 0 0] : Array Value).toList rfl rfl (by simpa using s1.out) s2.out s3.out s4.out s5.out Nat.one_pos ?_))
   clear s1 s2 s3 s4 s5 hown
   intro v3 w3 ho2 hg2 hv2
   have HE:=Lib.hid (HEnd.out M wr _ w3 _ v3 f HM.out.symm HKr.out ((Below.refl _ _).alloc (Nat.le_refl _) _) HOr.out HOwn.out Hf.out ho2 hg2 (by rw [World.size_alloc];exact hv2))
   clear HEnd HOwn Hf ho2 hg2 hv2 HRr HKr HOr HM
   go_wp2
   (first | exact HE.out | (go_ret;exact HE.out))
end Go.Proofs.YtpcbhneaaibfiaaDoor
