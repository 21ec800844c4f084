/- Laid together. -/
import Derived.Test.YtpcbhneaaibfiaaDoorPB04
import Derived.Laws.Tables
import Derived.Laws.CopyOwn
import Derived.Test.YtpcbhneaaibfiaaDoorPB01
import Derived.Lib.Hide
import Derived.Laws.BytesArg
import Derived.BigRegion
import Derived.Deep.Cut
import Derived.Deep.DeepCutAuto
set_option linter.unusedVariables false
set_option linter.unusedSimpArgs false
set_option maxHeartbeats 16000000
set_option maxRecDepth 100000
namespace Go.Proofs.YtpcbhneaaibfiaaDoor
open Go.ChangeShapes Go.WideShapes Go.Joins Go.Deep Go.RowKit
def Vt.Off (S : Nat -> Prop) : Vt -> Prop
 | .nil => True
 | .mk h _ L _ F => (0 < h.bn -> S h.bb) /\ (0 < h.ln -> S h.lb) /\ (∀ i,i < h.ln -> (L i).Off S) /\ (0 < h.fn -> S h.fb) /\ (∀ i,i < h.fn -> (F i).Off S)
theorem Vt.Off.mono {S S' : Nat -> Prop} (hs : ∀ b,S b -> S' b) : ∀ {T : Vt},T.Off S -> T.Off S':=by
 intro T
 induction T with
 | nil => exact fun _ => trivial
 | mk h Y L K F ihL ihF =>
  rintro ⟨a,b,c,d,e⟩
  exact ⟨fun q => hs _ (a q),fun q => hs _ (b q),fun i hi => ihL i (c i hi),fun q => hs _ (d q),fun i hi => ihF i (e i hi)⟩
theorem Vt.Off.and {S S' : Nat -> Prop} : ∀ {T : Vt},T.Off S -> T.Off S' -> T.Off (fun b => S b /\ S' b):=by
 intro T
 induction T with
 | nil => exact fun _ _ => trivial
 | mk h Y L K F ihL ihF =>
  rintro ⟨a,b,c,d,e⟩ ⟨a',b',c',d',e'⟩
  exact ⟨fun q => ⟨a q,a' q⟩,fun q => ⟨b q,b' q⟩,fun i hi => ihL i (c i hi) (c' i hi),fun q => ⟨d q,d' q⟩,fun i hi => ihF i (e i hi) (e' i hi)⟩
theorem Vt.In.off {W : World} {top : Nat} : ∀ {T : Vt},T.In W top -> T.Off (· < top):=by
 intro T
 induction T with
 | nil => exact fun h => h.elim
 | mk h Y L K F ihL ihF =>
  rintro ⟨_,a,_,b,c,d,e⟩
  exact ⟨fun q => (a q).2,fun q => (b q).2,fun i hi => ihL i (c i hi).2,fun q => (d q).2,fun i hi => ihF i (e i hi).2.2.2⟩
theorem Vt.In.turn {W W' : World} {top top' : Nat} {S : Nat -> Prop} (hs : ∀ b,S b -> b < top -> W'.heap[b]? = W.heap[b]? /\ b < top') : ∀ {T : Vt},T.In W top -> T.Off S -> T.In W' top':=by
 have hc : ∀ b,S b -> b < top -> ∀ i,W'.cell? ⟨b,i,none⟩ = W.cell? ⟨b,i,none⟩:=fun b h1 h2 i => World.cell?_of_block (a:=⟨b,i,none⟩) (hs b h1 h2).1
 intro T
 induction T with
 | nil => exact fun h => h.elim
 | mk h Y L K F ihL ihF =>
  rintro ⟨h0,h1,h2,h3,h4,h5,h6⟩ ⟨a,b,c,d,e⟩
  refine ⟨h0,fun q => ⟨(h1 q).1,(hs _ (a q) (h1 q).2).2⟩,fun i hi => ?_,fun q => ⟨(h3 q).1,(hs _ (b q) (h3 q).2).2⟩,fun i hi => ⟨fun j hj => ?_,ihL i (h4 i hi).2 (c i hi)⟩,fun q => ⟨(h5 q).1,(hs _ (d q) (h5 q).2).2⟩,fun i hi => ⟨?_,(h6 i hi).2.1,fun j hj => ?_,ihF i (h6 i hi).2.2.2 (e i hi)⟩⟩
  ·rw [hc _ (a (by omega)) (h1 (by omega)).2];exact h2 i hi
  ·rw [hc _ (b (by omega)) (h3 (by omega)).2];exact (h4 i hi).1 j hj
  ·rw [hc _ (d (by omega)) (h5 (by omega)).2];exact (h6 i hi).1
  ·rw [hc _ (d (by omega)) (h5 (by omega)).2];exact (h6 i hi).2.2.1 j hj
theorem Vt.In.grown {W W' : World} {g : Option Nat} {T : Vt} (h : T.In W W.heap.size) (ho : T.Off (fun b => some b ≠ g)) (hg : W.grownBy W' g) : T.In W' W'.heap.size :=
 Vt.In.turn (S:=fun b => some b ≠ g) (fun b hb hlt => ⟨hg.block b hlt hb,Nat.lt_of_lt_of_le hlt hg.size⟩) h ho
theorem Vt.In.later {W W' : World} {T : Vt} (h : T.In W W.heap.size) (hb : Below W.heap.size W W') : T.In W' W'.heap.size:=(h.below hb).up hb.size
theorem run_append_told {P : Program} (w : World) (base : Nat) (t ty e : TypeId) (i : TypeInfo) (z : Value) (size bytes : Nat) (ht : P.underlying t = some (.slice e)) (hi : P.info? e = some i) (hz : i.zero = some z)
 (hsize : i.size = size) (hby : i.bytes = bytes) (hzs : z.cells.size = size) (hsz : 0 < size)
 (v : Value) (n : Nat) (xs : List Value) (hown : w.ownsRow base e size v n xs)
 (a : Addr) (m c : Nat) (news : List Value) (hl : news.length = m * size) (hnews : ∀ j u,news[j]? = some u -> w.cell? (a.add j) = some u) (h1 : ∀ u ∈ news,u.oneCell' = true)
 (h63 : n + m <= maxLen) (hbytes : (n + m) * bytes <= 140737488355328) (hbase : base <= w.heap.size) (hm : 0 < m) :
 ∃ v' w',(Builtin.append_ #[t,t] ty #[v,.slice (some a) m c]).run P w = .ok v' w' /\ w'.ownsRow base e size v' (n + m) (xs ++ news) /\ w.grownBy w' v.ownBlock /\
  (v'.ownBlock = v.ownBlock ∨ v'.ownBlock = some w.heap.size):=by
 obtain ⟨v',w',hr,h2,h3,_⟩:=run_append_own (P:=P) w base t ty e i z size bytes ht hi hz hsize hby hzs hsz v n xs hown a m c news hl hnews h1 h63 hbytes hbase
 refine ⟨v',w',hr,h2,h3,?_⟩
 subst hsize
 subst hby
 have hml : n + m <= 9223372036854775807:=by simp only [maxLen] at h63;omega
 rcases hown.2 with ⟨rfl,rfl⟩ | ⟨g,cap,cur,rfl,hbg,hg,hnc,hcm,hcs,htake⟩
 ·have hr2:=run_append_nil (P:=P) w t ty e i z ht hi hz a m c news hl hnews hm (by omega) (by have hb:=hbytes;simp only [Nat.zero_add] at hb;omega)
  rw [hr2] at hr
  injection hr with e1 e2
  exact .inr (by rw [<- e1];rfl)
 ·by_cases hroom : n + m <= cap
  ·have hfit : n * i.size + news.length <= cur.size:=by rw [hl,hcs,<- Nat.add_mul];exact Nat.mul_le_mul_right _ hroom
   have hr2:=run_append_room (P:=P) w t ty e i ht hi g n cap cur hg a m c news hl hnews h1 hroom hfit
   rw [hr2] at hr
   injection hr with e1 e2
   exact .inl (by rw [<- e1];rfl)
  ·have holds : ∀ j u,xs[j]? = some u -> w.cell? ((⟨g,0,none⟩ : Addr).add j) = some u:=hown.cells (g:=g) rfl
   have hr2:=run_append_grow (P:=P) w t ty e i z ht hi hz ⟨g,0,none⟩ n cap xs hown.1 holds a m c news hl hnews (by omega) (by omega) (growslice_fits (by omega) hbytes)
   rw [hr2] at hr
   injection hr with e1 e2
   exact .inr (by rw [<- e1];rfl)
theorem wpList_append_told {P : Program} (w : World) {ops : Array Oper} {rest : List Oper} {o : Oper} {a : Act} {Q : Exit -> Act -> World -> Prop} (hgd : o.guard = none) (s x : Operand) (t : TypeId)
 (ho : o.op = .call { callee:=.builtin .append,args:=#[s,x],argTypes:=#[t,t] })
 (base : Nat) (e : TypeId) (i : TypeInfo) (z : Value) (size bytes : Nat) (ht : P.underlying t = some (.slice e)) (hi : P.info? e = some i) (hz : i.zero = some z)
 (hsize : i.size = size) (hby : i.bytes = bytes) (hzs : z.cells.size = size) (hsz : 0 < size)
 (v : Value) (n : Nat) (xs : List Value) (hs : a.eval s = v) (hown : w.ownsRow base e size v n xs)
 (ad : Addr) (m c : Nat) (news : List Value) (hx : a.eval x = .slice (some ad) m c) (hl : news.length = m * size) (hnews : ∀ j u,news[j]? = some u -> w.cell? (ad.add j) = some u) (h1 : ∀ u ∈ news,u.oneCell' = true)
 (h63 : n + m <= maxLen) (hbytes : (n + m) * bytes <= 140737488355328) (hbase : base <= w.heap.size) (hm : 0 < m)
 (h : ∀ v' w',w'.ownsRow base e size v' (n + m) (xs ++ news) -> w.grownBy w' v.ownBlock -> (v'.ownBlock = v.ownBlock ∨ v'.ownBlock = some w.heap.size) -> wpList P ops Q rest (a.put o.dst v') w') : wpList P ops Q (o :: rest) a w:=by
 refine wpList_plain hgd fun K hK => ?_
 obtain ⟨v',w',hr,h2,h3,h4⟩:=run_append_told (P:=P) w base t o.type e i z size bytes ht hi hz hsize hby hzs hsz v n xs hown ad m c news hl hnews h1 h63 hbytes hbase hm
 unfold Oper.wp execOp
 simp only [ho,resolve,invoke,builtin,Sem.run_bind,Sem.run_pure,Result.andThen_ok,List.map_toArray,List.map_cons,List.map_nil,hs,hx,hr]
 exact hK _ _ (h v' w' h2 h3 h4)
section
variable {α : Type}
def RowG (cs : α -> Array Value) (tr : α -> Vt) (C : Nat) (e : TypeId) (B : Nat) (S : Nat -> Prop) (q : Nat -> α -> Prop) (W : World) (v : Value) (k : Nat) : Prop :=
 ∃ f : Nat -> α,W.ownsRow B e C v k (catN (fun i => cs (f i)) k) /\ ∀ i,i < k -> (tr (f i)).In W W.heap.size /\ (tr (f i)).Off (fun b => S b /\ some b ≠ v.ownBlock) /\ q i (f i)
variable {cs : α -> Array Value} {tr : α -> Vt} {C : Nat} {e : TypeId} {B : Nat} {S : Nat -> Prop} {q : Nat -> α -> Prop} {W W' : World} {v : Value} {k : Nat}
theorem catN_congr {f g : Nat -> Array Value} : ∀ {n : Nat},(∀ i,i < n -> f i = g i) -> catN f n = catN g n:=by
 intro n
 induction n with
 | zero => intro _;rfl
 | succ n ih =>
  intro h
  show catN f n ++ _ = catN g n ++ _
  rw [ih (fun i hi => h i (by omega)),h n (by omega)]
theorem RowG.nil [Inhabited α] : RowG cs tr C e B S q W (.slice none 0 0) 0:=⟨fun _ => default,World.ownsRow_nil _ _ _ _,fun _ h => absurd h (Nat.not_lt_zero _)⟩
theorem RowG.below (h : RowG cs tr C e B S q W v k) (hb : Below W.heap.size W W') : RowG cs tr C e B S q W' v k:=by
 obtain ⟨f,ho,hf⟩:=h
 refine ⟨f,ho.kept ⟨hb.os,hb.tape,hb.output,hb.size,fun i hi _ => hb.block i hi⟩ (row:=none) ?_,fun i hi => ⟨(hf i hi).1.later hb,(hf i hi).2⟩⟩
 cases hv : v.ownBlock with
 | none => exact .inl rfl
 | some g => exact .inr (by simp)
theorem RowG.alloc (h : RowG cs tr C e B S q W v k) (o : Obj) : RowG cs tr C e B S q (W.alloc o) v k:=h.below ((Below.refl _ W).alloc (Nat.le_refl _) o)
theorem RowG.drew (h : RowG cs tr C e B S q W v k) : RowG cs tr C e B S q W.drew v k:=h.below (Below.refl _ W).drew
theorem RowG.turn (h : RowG cs tr C e B S q W v k) {g : Nat} (hg : W.grownBy W' (some g)) (hgB : g < B) (hS : ∀ b,S b -> b ≠ g) : RowG cs tr C e B S q W' v k:=by
 obtain ⟨f,ho,hf⟩:=h
 refine ⟨f,ho.kept hg ?_,fun i hi => ⟨(hf i hi).1.grown ((hf i hi).2.1.mono fun b hb e => hS b hb.1 (Option.some.inj e)) hg,(hf i hi).2⟩⟩
 exact .inr fun e => own_away ho hgB e.symm
theorem RowG.push [Inhabited α] {f : Nat -> α} {x : α} {w1 w3 : World} {v' : Value} (ho : w1.ownsRow B e C v k (catN (fun i => cs (f i)) k)) (hf : ∀ i,i < k -> (tr (f i)).In w1 w1.heap.size /\ (tr (f i)).Off (fun b => S b /\ some b ≠ v.ownBlock) /\ q i (f i))
 (hx : (tr x).In w1 w1.heap.size) (hS : (tr x).Off S) (hxo : ∀ g,v.ownBlock = some g -> (tr x).Off (· ≠ g)) (hq : q k x)
 (ho3 : w3.ownsRow B e C v' (k + 1) (catN (fun i => cs (f i)) k ++ (cs x).toList)) (hg : w1.grownBy w3 v.ownBlock) (hv : v'.ownBlock = v.ownBlock ∨ v'.ownBlock = some w1.heap.size) :
 RowG cs tr C e B S q w3 v' (k + 1):=by
 have hxo' : (tr x).Off (fun b => some b ≠ v.ownBlock):=by
  cases hvb : v.ownBlock with
  | none => exact hS.mono fun b _ e => by cases e
  | some g => exact (hxo g hvb).mono fun b hb e => by cases e;exact hb rfl
 refine ⟨fun i => if i = k then x else f i,?_,fun i hi => ?_⟩
 ·have e1 : catN (fun i => cs (if i = k then x else f i)) (k + 1) = catN (fun i => cs (f i)) k ++ (cs x).toList:=by
   show catN (fun i => cs (if i = k then x else f i)) k ++ (cs (if k = k then x else f k)).toList = _
   rw [catN_congr (g:=fun i => cs (f i)) (fun i hi => by rw [if_neg (by omega)]),if_pos rfl]
  rw [e1]
  exact ho3
 ·have key : ∀ {y : α},(tr y).In w1 w1.heap.size -> (tr y).Off (fun b => S b /\ some b ≠ v.ownBlock) -> (tr y).In w3 w3.heap.size /\ (tr y).Off (fun b => S b /\ some b ≠ v'.ownBlock):=by
   intro y h1 h2
   refine ⟨h1.grown (h2.mono fun b hb => hb.2) hg,?_⟩
   rcases hv with e1 | e1
   ·rw [e1];exact h2
   ·rw [e1]
    exact (h2.and h1.off).mono fun b hb => ⟨hb.1.1,fun e2 => by cases e2;exact absurd hb.2 (Nat.lt_irrefl _)⟩
  by_cases hik : i = k
  ·subst hik
   simp only [if_true]
   obtain ⟨a,b⟩:=key hx (hS.and hxo')
   exact ⟨a,b,hq⟩
  ·simp only [if_neg hik]
   obtain ⟨h1,h2,h3⟩:=hf i (by omega)
   obtain ⟨a,b⟩:=key h1 h2
   exact ⟨a,b,h3⟩
theorem RowG.done (hC : ∀ x,(cs x).size = C) (h : RowG cs tr C e B S q W v k) : ∃ (f : Nat -> α) (a : Option Addr) (c b : Nat),v = .slice a k c /\ (k <= c /\ c <= maxLen) /\ (0 < k -> a = some ⟨b,0,none⟩ /\ B <= b /\ b < W.heap.size) /\
 ∀ i,i < k -> LiesAt W b (i * C) (cs (f i)) /\ (tr (f i)).In W W.heap.size /\ (tr (f i)).Off S /\ q i (f i):=by
 obtain ⟨f,ho,hf⟩:=h
 obtain ⟨a,c,b,rfl,hcc,ha,hl⟩:=own_lies (fun i => hC (f i)) ho
 exact ⟨f,a,c,b,rfl,hcc,ha,fun i hi => ⟨hl i hi,(hf i hi).1,(hf i hi).2.1.mono fun _ h => h.1,(hf i hi).2.2⟩⟩
end
def fcs (x : ByteArray × Vt) : Array Value:=#[.string x.1,.int .i64 x.2.h.k,.bool x.2.h.b,.bool x.2.h.n,.string x.2.h.d,.int .i64 x.2.h.e,.int .i64 x.2.h.tk,.int .i64 x.2.h.td,.int .i64 x.2.h.tn,.int .i64 x.2.h.tz,.string x.2.h.x,.slice x.2.h.ba x.2.h.bn x.2.h.bc,.slice x.2.h.la x.2.h.ln x.2.h.lc,.slice x.2.h.fa x.2.h.fn x.2.h.fc]
theorem fcs_size (x : ByteArray × Vt) : (fcs x).size = 14:=rfl
theorem fcs_one (x : ByteArray × Vt) : ∀ u ∈ (fcs x).toList,u.oneCell' = true:=by
 intro u hu
 simp only [fcs,List.mem_cons,List.not_mem_nil,or_false] at hu
 rcases hu with rfl | rfl | rfl | rfl | rfl | rfl | rfl | rfl | rfl | rfl | rfl | rfl | rfl | rfl <;> rfl
theorem LiesAt.fcs {W : World} {b o : Nat} {x : ByteArray × Vt} (h : LiesAt W b o (Proofs.YtpcbhneaaibfiaaDoor.fcs x)) : W.cell? ⟨b,o,none⟩ = some (.string x.1) /\ LiesAt W b (o + 1) x.2.h.cells:=by
 have z : (Proofs.YtpcbhneaaibfiaaDoor.fcs x).size = 14:=rfl
 refine ⟨h 0 (by omega),fun j hj => ?_⟩
 have hj' : j < 13:=hj
 have:=h (j + 1) (by omega)
 rw [show o + 1 + j = o + (j + 1) by omega,this]
 match j,hj' with
 | 0,_ | 1,_ | 2,_ | 3,_ | 4,_ | 5,_ | 6,_ | 7,_ | 8,_ | 9,_ | 10,_ | 11,_ | 12,_ => rfl
instance : Inhabited (ByteArray × Vt):=⟨(ByteArray.empty,.nil)⟩
structure Ev where
 k : Int
 key : ByteArray
 V : Vt
instance : Inhabited Ev:=⟨⟨0,ByteArray.empty,.nil⟩⟩
def evc (k : Int) (key : ByteArray) (g : Vh) : Array Value:=#[.int .i64 k,.string key,.int .i64 g.k,.bool g.b,.bool g.n,.string g.d,.int .i64 g.e,.int .i64 g.tk,.int .i64 g.td,.int .i64 g.tn,.int .i64 g.tz,.string g.x,.slice g.ba g.bn g.bc,.slice g.la g.ln g.lc,.slice g.fa g.fn g.fc]
def Ev.cells (x : Ev) : Array Value:=evc x.k x.key x.V.h
structure Ev.ok (x : Ev) : Prop where
 k : w64 x.k
 key : x.key.size <= 1048576
theorem evc_size (k : Int) (key : ByteArray) (g : Vh) : (evc k key g).size = 15:=rfl
theorem evc_one (x : Ev) : ∀ u ∈ x.cells.toList,u.oneCell' = true:=by
 intro u hu
 simp only [Ev.cells,evc] at hu
 simp only [List.mem_cons,List.mem_nil_iff,or_false] at hu
 rcases hu with rfl | rfl | rfl | rfl | rfl | rfl | rfl | rfl | rfl | rfl | rfl | rfl | rfl | rfl | rfl <;> rfl
structure Evs where
 a : Option Addr
 n : Nat
 c : Nat
 b : Nat
 o : Nat
 S : Nat -> Ev
def Evs.In (W : World) (top : Nat) (p : Evs) : Prop:=(0 < p.n -> p.a = some ⟨p.b,p.o,none⟩ /\ p.b < top) /\ (p.n <= 1048576 /\ p.n <= p.c /\ p.c <= maxLen) /\ ∀ i,i < p.n -> LiesAt W p.b (p.o + i * 15) (p.S i).cells /\ (p.S i).ok /\ (p.S i).V.In W top
theorem Evs.In.below {W W' : World} {top : Nat} {p : Evs} (h : p.In W top) (hb : Below top W W') : p.In W' top :=
 ⟨h.1,h.2.1,fun i hi => ⟨(h.2.2 i hi).1.below hb (h.1 (by omega)).2,(h.2.2 i hi).2.1,Vt.In.below hb (h.2.2 i hi).2.2⟩⟩
theorem Evs.In.up {W : World} {top top' : Nat} {p : Evs} (h : p.In W top) (hle : top <= top') : p.In W top' :=
 ⟨fun q => ⟨(h.1 q).1,Nat.lt_of_lt_of_le (h.1 q).2 hle⟩,h.2.1,fun i hi => ⟨(h.2.2 i hi).1,(h.2.2 i hi).2.1,(h.2.2 i hi).2.2.up hle⟩⟩
theorem LiesAt.e15 {W : World} {b o : Nat} {k : Int} {key : ByteArray} {g : Vh} (H : LiesAt W b o (evc k key g)) :
 W.cell? ⟨b,o,none⟩ = some (.int .i64 k) /\ W.cell? ⟨b,o + 1,none⟩ = some (.string key) /\ W.cell? ⟨b,o + 2,none⟩ = some (.int .i64 g.k) /\ W.cell? ⟨b,o + 3,none⟩ = some (.bool g.b) /\ W.cell? ⟨b,o + 4,none⟩ = some (.bool g.n) /\ W.cell? ⟨b,o + 5,none⟩ = some (.string g.d) /\ W.cell? ⟨b,o + 6,none⟩ = some (.int .i64 g.e) /\ W.cell? ⟨b,o + 7,none⟩ = some (.int .i64 g.tk) /\ W.cell? ⟨b,o + 8,none⟩ = some (.int .i64 g.td) /\ W.cell? ⟨b,o + 9,none⟩ = some (.int .i64 g.tn) /\ W.cell? ⟨b,o + 10,none⟩ = some (.int .i64 g.tz) /\ W.cell? ⟨b,o + 11,none⟩ = some (.string g.x) /\ W.cell? ⟨b,o + 12,none⟩ = some (.slice g.ba g.bn g.bc) /\ W.cell? ⟨b,o + 13,none⟩ = some (.slice g.la g.ln g.lc) /\ W.cell? ⟨b,o + 14,none⟩ = some (.slice g.fa g.fn g.fc) :=
 have z : (evc k key g).size = 15:=rfl
 ⟨H 0 (by omega),H 1 (by omega),H 2 (by omega),H 3 (by omega),H 4 (by omega),H 5 (by omega),H 6 (by omega),H 7 (by omega),H 8 (by omega),H 9 (by omega),H 10 (by omega),H 11 (by omega),H 12 (by omega),H 13 (by omega),H 14 (by omega)⟩
theorem Whole.e15 {W : World} {B : Nat} {t : TypeId} {k : Int} {key : ByteArray} {g : Vh} (H : Whole W B t (evc k key g)) :
 W.cell? ⟨B,0,none⟩ = some (.int .i64 k) /\ W.cell? ⟨B,1,none⟩ = some (.string key) /\ W.cell? ⟨B,2,none⟩ = some (.int .i64 g.k) /\ W.cell? ⟨B,3,none⟩ = some (.bool g.b) /\ W.cell? ⟨B,4,none⟩ = some (.bool g.n) /\ W.cell? ⟨B,5,none⟩ = some (.string g.d) /\ W.cell? ⟨B,6,none⟩ = some (.int .i64 g.e) /\ W.cell? ⟨B,7,none⟩ = some (.int .i64 g.tk) /\ W.cell? ⟨B,8,none⟩ = some (.int .i64 g.td) /\ W.cell? ⟨B,9,none⟩ = some (.int .i64 g.tn) /\ W.cell? ⟨B,10,none⟩ = some (.int .i64 g.tz) /\ W.cell? ⟨B,11,none⟩ = some (.string g.x) /\ W.cell? ⟨B,12,none⟩ = some (.slice g.ba g.bn g.bc) /\ W.cell? ⟨B,13,none⟩ = some (.slice g.la g.ln g.lc) /\ W.cell? ⟨B,14,none⟩ = some (.slice g.fa g.fn g.fc) :=
 ⟨H.cell 0,H.cell 1,H.cell 2,H.cell 3,H.cell 4,H.cell 5,H.cell 6,H.cell 7,H.cell 8,H.cell 9,H.cell 10,H.cell 11,H.cell 12,H.cell 13,H.cell 14⟩
theorem cEvt : Tryd.prog.cellsOf 57 = 15:=by kernel_rfl
section
variable {H : Type} {enc : TypeId × Value -> H} {w : World} {base : Nat} {spare : Nat -> Bool} {held : Bool}
theorem evt15 {n : Nat} {cs : List Value} {x : DataW H × List MemPlace} (hl : cs.length = 15) (h : DataW.trod enc Tryd.prog w base spare held n 57 cs = some x) (hM : Rows.uptoBulk x.1 <= 1048576) : ∃ s : Ev,cs = s.cells.toList /\ s.ok /\ s.V.In w w.heap.size:=by
 match cs,hl with
 | c0 :: c1 :: rest,hl' =>
 obtain ⟨xs,m,_,hx,_,hlen,hf⟩:=DataW.trod_struct Tryd.underlying57 h
 match xs,hlen with
 | [x0,x1,x2],_ =>
 rw [hx] at hM
 simp only [List.map_cons,List.map_nil,Rows.uptoBulk,Rows.uptoBulkAll] at hM
 obtain ⟨k,rfl,hk⟩:=int1 (n:=m) (c:=c0) (x:=x0) (by simpa [cInt] using hf 0 _ rfl)
 obtain ⟨key,rfl,hkey⟩:=str1 (n:=m) (c:=c1) (x:=x1) (by simpa [cStr] using hf 1 _ rfl)
 have hr : rest.length = 13:=by simpa using hl'
 obtain ⟨T,rfl,hT⟩:=val13 m (cs:=rest) (x:=x2) (by simpa [cVal,List.take_of_length_le (Nat.le_of_eq hr)] using hf 2 _ rfl) (by omega)
 exact ⟨⟨k,key,T⟩,rfl,⟨hk,by dsimp only;omega⟩,hT⟩
theorem open_events {r : Reach} {b0 : Nat} {v : Value} {d : DataW H} {p : List MemPlace} (hv : Value.okWide Tryd.prog w r b0 34 v) (h : DataW.Trod enc Tryd.prog w base spare held 34 v d p) (hM : Rows.uptoBulk d <= 1048576) :
 ∃ q : Evs,v = .slice q.a q.n q.c /\ q.In w w.heap.size:=by
 obtain ⟨a',len',cap',rfl⟩:=okWide_slice Tryd.underlying34 hv
 obtain ⟨fuel,hf⟩:=h
 obtain ⟨a,len,cap,b,o,S,hcs,hcc,hn,ha,hS⟩:=row_down (α:=Ev) (fun B O z => LiesAt w B O z.cells /\ z.ok /\ z.V.In w w.heap.size) Tryd.underlying34 cEvt (by omega) hf (fun B O m cs' y _ hl' hc hy hyM => by
  obtain ⟨s,rfl,hs1,hs2⟩:=evt15 hl' hy hyM
  exact ⟨s,fun j hj => by rw [hc j hj,Array.getElem?_toList],hs1,hs2⟩) hM
 have e : Value.slice a' len' cap' = .slice a len cap:=by
  simp only [Value.cells,List.cons.injEq,and_true] at hcs
  exact hcs
 exact ⟨⟨a,len,cap,b,o,S⟩,e,ha,⟨hn,hcc⟩,hS⟩
end
end Go.Proofs.YtpcbhneaaibfiaaDoor
namespace Go.Proofs.YtpcbhneaaibfiaaDoor
open Go.RowKit
def ownB (k : Int) (b nz tz xz yz lz fz : Bool) : Bool :=
 decide (0 <= k) && decide (k <= 7) && (decide (k = 1) || !b) && (decide (k = 2) || nz) && (decide (k = 3) || tz) && (decide (k = 4) || xz) && (decide (k = 5) || yz) && (decide (k = 6) || lz) && (decide (k = 7) || fz)
def Vh.nz (h : Vh) : Bool:=!h.n && h.d.toList.isEmpty && decide (h.e = 0)
def Vh.tz0 (h : Vh) : Bool:=decide (h.tk = 0) && decide (h.td = 0) && decide (h.tn = 0) && decide (h.tz = 0)
def Vh.own (h : Vh) : Bool:=ownB h.k h.b h.nz h.tz0 h.x.toList.isEmpty (decide (h.bn = 0)) (decide (h.ln = 0)) (decide (h.fn = 0))
theorem num_neq (a : Bool) (s : ByteArray) (e : Int) (W : World) : (binOp .neq 23 (.agg #[.bool a,.string s,.int .i64 e]) (.agg #[.bool false,.string ⟨#[]⟩,.int .i64 0])).run Tryd.prog W = .ok (.bool (!(!a && s.toList.isEmpty && decide (e = 0)))) W:=by
 cases a
 ·cases h2 : s.toList with
  | nil =>
   by_cases h3 : e = 0
   ·subst h3
    simp [go_sem,h2]
   ·simp [go_sem,h2,h3]
  | cons x l => simp [go_sem,h2]
 ·simp [go_sem]
theorem tim_neq (a b c d : Int) (W : World) : (binOp .neq 25 (.agg #[.int .i64 a,.int .i64 b,.int .i64 c,.int .i64 d]) (.agg #[.int .i64 0,.int .i64 0,.int .i64 0,.int .i64 0])).run Tryd.prog W = .ok (.bool (!(decide (a = 0) && decide (b = 0) && decide (c = 0) && decide (d = 0)))) W:=by
 by_cases h1 : a = 0
 ·by_cases h2 : b = 0
  ·by_cases h3 : c = 0
   ·by_cases h4 : d = 0
    ·subst h1 h2 h3 h4
     simp [go_sem]
    ·simp [go_sem,h1,h2,h3,h4]
   ·simp [go_sem,h1,h2,h3]
  ·simp [go_sem,h1,h2]
 ·simp [go_sem,h1]
theorem own_any (h : Vh) (hk : w64 h.k) (w : World) :
 Calls Tryd.prog 71 #[.agg h.cells] w fun r w' => r = .returned (.bool h.own) /\ Below w.heap.size w w':=by
 obtain ⟨k,b,n,d,e,tk,td,tn,tz,x,ba,bn,bc,la,ln,lc,fa,fn,fc,bb,bo,lb,lo,fb,fo⟩:=h
 have qn:=num_neq n d e
 have qt:=tim_neq tk td tn tz
 have hs : Vh.own ⟨k,b,n,d,e,tk,td,tn,tz,x,ba,bn,bc,la,ln,lc,fa,fn,fc,bb,bo,lb,lo,fb,fo⟩ = ownB k b (!n && d.toList.isEmpty && decide (e = 0)) (decide (tk = 0) && decide (td = 0) && decide (tn = 0) && decide (tz = 0)) x.toList.isEmpty (decide (bn = 0)) (decide (ln = 0)) (decide (fn = 0)):=rfl
 rw [hs]
 clear hs
 generalize (!n && d.toList.isEmpty && decide (e = 0)) = nz at *
 generalize (decide (tk = 0) && decide (td = 0) && decide (tn = 0) && decide (tz = 0)) = tz0 at *
 obtain ⟨xz,hx⟩ : ∃ c,x.toList.isEmpty = c:=⟨_,rfl⟩
 obtain ⟨yz,hy⟩ : ∃ c,decide (bn = 0) = c:=⟨_,rfl⟩
 obtain ⟨lz,hl⟩ : ∃ c,decide (ln = 0) = c:=⟨_,rfl⟩
 obtain ⟨fz,hf⟩ : ∃ c,decide (fn = 0) = c:=⟨_,rfl⟩
 rw [hx,hy,hl,hf]
 simp only [Vh.cells]
 dsimp only at hk
 have hk1:=hk.1
 have hk2:=hk.2
 clear hk
 obtain ⟨R,hR⟩ : ∃ R,ownB k b nz tz0 xz yz lz fz = R:=⟨_,rfl⟩
 rw [hR]
 have HR:=Lib.hid hR
 clear hR
 have far : (k < 0 ∨ 7 < k) ∨ k = 0 ∨ k = 1 ∨ k = 2 ∨ k = 3 ∨ k = 4 ∨ k = 5 ∨ k = 6 ∨ k = 7:=by omega
 rcases far with (c | c) | rfl | rfl | rfl | rfl | rfl | rfl | rfl | rfl
 ·go_enter Tryd.func71,Tryd.ntmps71
  go_wp2
  all_goals (go_ret;refine ⟨?_,(Below.refl w.heap.size w).alloc (Nat.le_refl _) _⟩;rw [<- HR.out];simp [ownB];try omega)
 ·go_enter Tryd.func71,Tryd.ntmps71
  go_wp2
  all_goals (go_ret;refine ⟨?_,(Below.refl w.heap.size w).alloc (Nat.le_refl _) _⟩;rw [<- HR.out];simp [ownB];try omega)
 ·go_enter Tryd.func71,Tryd.ntmps71
  go_wp2
  all_goals first
   | done
   | (go_ret
      refine ⟨?_,(Below.refl w.heap.size w).alloc (Nat.le_refl _) _⟩
      rw [<- HR.out]
      simp_all [ownB]
      try (rw [<- hf];simp [Bool.beq_eq_decide_eq]))
 ·go_enter Tryd.func71,Tryd.ntmps71
  go_wp2
  all_goals first
   | done
   | (go_ret
      refine ⟨?_,(Below.refl w.heap.size w).alloc (Nat.le_refl _) _⟩
      rw [<- HR.out]
      simp_all [ownB]
      try (rw [<- hf];simp [Bool.beq_eq_decide_eq]))
 ·go_enter Tryd.func71,Tryd.ntmps71
  go_wp2
  all_goals first
   | done
   | (go_ret
      refine ⟨?_,(Below.refl w.heap.size w).alloc (Nat.le_refl _) _⟩
      rw [<- HR.out]
      simp_all [ownB]
      try (rw [<- hf];simp [Bool.beq_eq_decide_eq]))
 ·go_enter Tryd.func71,Tryd.ntmps71
  go_wp2
  all_goals first
   | done
   | (go_ret
      refine ⟨?_,(Below.refl w.heap.size w).alloc (Nat.le_refl _) _⟩
      rw [<- HR.out]
      simp_all [ownB]
      try (rw [<- hf];simp [Bool.beq_eq_decide_eq]))
 ·go_enter Tryd.func71,Tryd.ntmps71
  go_wp2
  all_goals first
   | done
   | (go_ret
      refine ⟨?_,(Below.refl w.heap.size w).alloc (Nat.le_refl _) _⟩
      rw [<- HR.out]
      simp_all [ownB]
      try (rw [<- hf];simp [Bool.beq_eq_decide_eq]))
 ·go_enter Tryd.func71,Tryd.ntmps71
  go_wp2
  all_goals first
   | done
   | (go_ret
      refine ⟨?_,(Below.refl w.heap.size w).alloc (Nat.le_refl _) _⟩
      rw [<- HR.out]
      simp_all [ownB]
      try (rw [<- hf];simp [Bool.beq_eq_decide_eq]))
 ·go_enter Tryd.func71,Tryd.ntmps71
  go_wp2
  all_goals first
   | done
   | (go_ret
      refine ⟨?_,(Below.refl w.heap.size w).alloc (Nat.le_refl _) _⟩
      rw [<- HR.out]
      simp_all [ownB]
      try (rw [<- hf];simp [Bool.beq_eq_decide_eq]))
 ·go_enter Tryd.func71,Tryd.ntmps71
  go_wp2
  all_goals first
   | done
   | (go_ret
      refine ⟨?_,(Below.refl w.heap.size w).alloc (Nat.le_refl _) _⟩
      rw [<- HR.out]
      simp_all [ownB]
      try (rw [<- hf];simp [Bool.beq_eq_decide_eq]))
def Vt.bs (T : Vt) : ByteArray:=strOfNums ((List.range T.h.bn).map T.Y)
theorem conv_bs {W : World} {top : Nat} {T : Vt} (hT : T.In W top) : (convert 26 9 (.slice T.h.ba T.h.bn T.h.bc)).run Tryd.prog W = .ok (.string T.bs) W:=by
 cases T with
 | nil => exact hT.elim
 | mk h Y L K F =>
  obtain ⟨_,h1,h2,_⟩:=hT
  unfold Vt.bs
  simp only [Vt.h,Vt.Y]
  by_cases hz : h.bn = 0
  ·rw [hz]
   have e0 : strOfNums ((List.range 0).map Y) = ByteArray.empty:=rfl
   rw [e0]
   cases hb : h.ba with
   | none => exact run_convert_bytes_nil W 26 5 Tryd.underlying26 Tryd.underlying5 0 h.bc _ Tryd.underlying9
   | some a =>
    rw [run_convert_bytes_string W 26 9 5 _ 0 h.bc Tryd.underlying26 Tryd.underlying5 Tryd.underlying9,
     run_bytesToString W a 0 h.bc [] (by simp [loadCells,loadCellsFrom])]
    rfl
  ·obtain ⟨hba,_⟩:=h1 (by omega)
   rw [hba]
   exact run_convert_bytes_arg W 26 5 Tryd.underlying26 Tryd.underlying5 h.bb h.bo h.bn h.bc _ (by simp) (fun i hi => by
    rw [(h2 i hi).1]
    simp [List.getD,hi]) _ Tryd.underlying9
theorem byte_inj {a b : Int} (a0 : 0 <= a) (a1 : a < 256) (b0 : 0 <= b) (b1 : b < 256) (h : UInt8.ofNat a.toNat = UInt8.ofNat b.toNat) : a = b:=by
 have:=congrArg UInt8.toNat h
 simp only [UInt8.toNat_ofNat'] at this
 omega
theorem bs_eq {W V : World} {t u : Nat} {T U : Vt} (hT : T.In W t) (hU : U.In V u) : T.bs = U.bs ↔ T.h.bn = U.h.bn /\ ∀ i,i < T.h.bn -> T.Y i = U.Y i:=by
 have bT : ∀ i,i < T.h.bn -> 0 <= T.Y i /\ T.Y i < 256:=by
  cases T with
  | nil => exact hT.elim
  | mk h Y L K F => exact fun i hi => (hT.2.2.1 i hi).2
 have bU : ∀ i,i < U.h.bn -> 0 <= U.Y i /\ U.Y i < 256:=by
  cases U with
  | nil => exact hU.elim
  | mk h Y L K F => exact fun i hi => (hU.2.2.1 i hi).2
 constructor
 ·intro h
  have h2 : T.bs.data.toList = U.bs.data.toList:=by rw [h]
  unfold Vt.bs at h2
  rw [strOfNums_data,strOfNums_data] at h2
  have hl:=congrArg List.length h2
  simp only [List.length_map,List.length_range] at hl
  refine ⟨hl,fun i hi => ?_⟩
  have h3:=congrArg (fun l => l[i]?) h2
  simp only [List.map_map,List.getElem?_map,List.getElem?_range hi,List.getElem?_range (show i < U.h.bn by omega),Option.map_some,Option.some.injEq,Function.comp] at h3
  have a:=bT i hi
  have b:=bU i (by omega)
  exact byte_inj a.1 a.2 b.1 b.2 h3
 ·rintro ⟨h1,h2⟩
  unfold Vt.bs
  rw [<- h1]
  congr 1
  exact List.map_congr_left fun i hi => h2 i (List.mem_range.1 hi)
theorem num_neq2 (a : Bool) (s : ByteArray) (e : Int) (a' : Bool) (s' : ByteArray) (e' : Int) (W : World) : (binOp .neq 23 (.agg #[.bool a,.string s,.int .i64 e]) (.agg #[.bool a',.string s',.int .i64 e'])).run Tryd.prog W = .ok (.bool (!(decide (a = a' /\ s.toList = s'.toList /\ e = e')))) W:=by
 by_cases h1 : a = a'
 ·subst h1
  by_cases h2 : s.toList = s'.toList
  ·by_cases h3 : e = e'
   ·subst h3
    simp [go_sem,h2]
   ·simp [go_sem,h2,h3]
  ·simp [go_sem,h2]
 ·simp [go_sem,h1]
theorem tim_neq2 (a b c d a' b' c' d' : Int) (W : World) : (binOp .neq 25 (.agg #[.int .i64 a,.int .i64 b,.int .i64 c,.int .i64 d]) (.agg #[.int .i64 a',.int .i64 b',.int .i64 c',.int .i64 d'])).run Tryd.prog W = .ok (.bool (!(decide (a = a' /\ b = b' /\ c = c' /\ d = d')))) W:=by
 by_cases h1 : a = a'
 ·by_cases h2 : b = b'
  ·by_cases h3 : c = c'
   ·by_cases h4 : d = d'
    ·subst h1 h2 h3 h4
     simp [go_sem]
    ·simp [go_sem,h1,h2,h3,h4]
   ·simp [go_sem,h1,h2,h3]
  ·simp [go_sem,h1,h2]
 ·simp [go_sem,h1]
theorem ba_eq {s t : ByteArray} (h : s.toList = t.toList) : s = t:=by
 rw [Lib.toList_data,Lib.toList_data] at h
 exact ByteArray.ext (Array.ext' h)
def Vt.z : Vt:=.mk Vh.zero (fun _ => 0) (fun _ => .nil) (fun _ => ByteArray.empty) (fun _ => .nil)
theorem Vt.z_in (W : World) (top : Nat) : Vt.z.In W top:=by
 refine ⟨⟨?_,?_,?_,?_,?_,?_,?_,?_,?_,?_,?_,?_,?_⟩,fun h => absurd h (Nat.lt_irrefl _),fun i h => absurd h (Nat.not_lt_zero _),fun h => absurd h (Nat.lt_irrefl _),fun i h => absurd h (Nat.not_lt_zero _),fun h => absurd h (Nat.lt_irrefl _),fun i h => absurd h (Nat.not_lt_zero _)⟩ <;> simp [Vh.zero,w64,ByteArray.size]
theorem Vt.z_same : Vt.z.Same Vt.z:=Vt.Same.rfl' (Vt.In.whole (Vt.z_in default 0))
def Vh.plain (h : Vh) : Bool:=decide (h.k = 0) && !h.b && h.nz && h.tz0 && h.x.toList.isEmpty && decide (h.bn = 0) && decide (h.ln = 0) && decide (h.fn = 0)
theorem ba_emp {s : ByteArray} : s.toList.isEmpty = true ↔ s = ⟨#[]⟩:=by
 constructor
 ·intro h
  have h' : s.toList = []:=by simpa using h
  rw [Lib.toList_data] at h'
  exact ByteArray.ext (Array.toList_inj.1 h')
 ·rintro rfl
  rw [Lib.toList_data]
  rfl
theorem plain_same {T : Vt} (hT : T ≠ .nil) : T.h.plain = true ↔ T.Same Vt.z:=by
 cases T with
 | nil => exact absurd rfl hT
 | mk h Y L K F =>
  show h.plain = true ↔ _
  constructor
  ·intro q
   unfold Vh.plain Vh.nz Vh.tz0 at q
   simp only [Bool.and_eq_true,decide_eq_true_eq,Bool.not_eq_true'] at q
   obtain ⟨⟨⟨⟨⟨⟨⟨q1,q2⟩,⟨q3,q4⟩,q5⟩,⟨⟨q6,q7⟩,q8⟩,q9⟩,q10⟩,q11⟩,q12⟩,q13⟩:=q
   exact ⟨(fun e => by cases e),⟨q1,q2,q3,ba_emp.1 q4,q5,q6,q7,q8,q9,ba_emp.1 q10,q11,q12,q13⟩,fun i hi => by rw [q11] at hi;exact absurd hi (Nat.not_lt_zero _),fun i hi => by rw [q12] at hi;exact absurd hi (Nat.not_lt_zero _),fun i hi => by rw [q13] at hi;exact absurd hi (Nat.not_lt_zero _)⟩
  ·intro q
   obtain ⟨q1,q2,q3,q4,q5,q6,q7,q8,q9,q10,q11,q12,q13⟩:=q.flat
   unfold Vh.plain Vh.nz Vh.tz0
   simp only [Bool.and_eq_true,decide_eq_true_eq,Bool.not_eq_true']
   exact ⟨⟨⟨⟨⟨⟨⟨q1,q2⟩,⟨q3,ba_emp.2 q4⟩,q5⟩,⟨⟨q6,q7⟩,q8⟩,q9⟩,ba_emp.2 q10⟩,q11⟩,q12⟩,q13⟩
theorem num_eql (a : Bool) (s : ByteArray) (e : Int) (W : World) : (binOp .eql 23 (.agg #[.bool a,.string s,.int .i64 e]) (.agg #[.bool false,.string ⟨#[]⟩,.int .i64 0])).run Tryd.prog W = .ok (.bool (!a && s.toList.isEmpty && decide (e = 0))) W:=by
 cases a
 ·cases h2 : s.toList with
  | nil =>
   by_cases h3 : e = 0
   ·subst h3
    simp [go_sem,h2]
   ·simp [go_sem,h2,h3]
  | cons x l => simp [go_sem,h2]
 ·simp [go_sem]
theorem tim_eql (a b c d : Int) (W : World) : (binOp .eql 25 (.agg #[.int .i64 a,.int .i64 b,.int .i64 c,.int .i64 d]) (.agg #[.int .i64 0,.int .i64 0,.int .i64 0,.int .i64 0])).run Tryd.prog W = .ok (.bool (decide (a = 0) && decide (b = 0) && decide (c = 0) && decide (d = 0))) W:=by
 by_cases h1 : a = 0
 ·by_cases h2 : b = 0
  ·by_cases h3 : c = 0
   ·by_cases h4 : d = 0
    ·subst h1 h2 h3 h4
     simp [go_sem]
    ·simp [go_sem,h1,h2,h3,h4]
   ·simp [go_sem,h1,h2,h3]
  ·simp [go_sem,h1,h2]
 ·simp [go_sem,h1]
theorem plain_any (h : Vh) (hk : w64 h.k) (w : World) :
 Calls Tryd.prog 60 #[.agg h.cells] w fun r w' => r = .returned (.bool h.plain) /\ Below w.heap.size w w':=by
 obtain ⟨k,b,n,d,e,tk,td,tn,tz,x,ba,bn,bc,la,ln,lc,fa,fn,fc,bb,bo,lb,lo,fb,fo⟩:=h
 have qn:=num_eql n d e
 have qt:=tim_eql tk td tn tz
 have hs : Vh.plain ⟨k,b,n,d,e,tk,td,tn,tz,x,ba,bn,bc,la,ln,lc,fa,fn,fc,bb,bo,lb,lo,fb,fo⟩ = (decide (k = 0) && !b && (!n && d.toList.isEmpty && decide (e = 0)) && (decide (tk = 0) && decide (td = 0) && decide (tn = 0) && decide (tz = 0)) && x.toList.isEmpty && decide (bn = 0) && decide (ln = 0) && decide (fn = 0)):=rfl
 rw [hs]
 clear hs
 generalize (!n && d.toList.isEmpty && decide (e = 0)) = nz at *
 generalize (decide (tk = 0) && decide (td = 0) && decide (tn = 0) && decide (tz = 0)) = tz0 at *
 obtain ⟨kz,hkz⟩ : ∃ c,decide (k = 0) = c:=⟨_,rfl⟩
 obtain ⟨xz,hx⟩ : ∃ c,x.toList.isEmpty = c:=⟨_,rfl⟩
 obtain ⟨yz,hy⟩ : ∃ c,decide (bn = 0) = c:=⟨_,rfl⟩
 obtain ⟨lz,hl⟩ : ∃ c,decide (ln = 0) = c:=⟨_,rfl⟩
 obtain ⟨fz,hf⟩ : ∃ c,decide (fn = 0) = c:=⟨_,rfl⟩
 rw [hkz,hx,hy,hl,hf]
 have hk2 : (k == 0) = kz:=by rw [<- hkz];by_cases q : k = 0 <;> simp [q]
 have hx2 : (x.toList == ([] : List UInt8)) = xz:=by rw [<- hx];cases x.toList <;> rfl
 have hy2 : ((bn : Int) == 0) = yz:=by rw [<- hy];by_cases q : bn = 0 <;> simp [q]
 have hl2 : ((ln : Int) == 0) = lz:=by rw [<- hl];by_cases q : ln = 0 <;> simp [q]
 have hf2 : ((fn : Int) == 0) = fz:=by rw [<- hf];by_cases q : fn = 0 <;> simp [q]
 have hy3 : (bn == 0) = yz:=by rw [<- hy];by_cases q : bn = 0 <;> simp [q]
 have hl3 : (ln == 0) = lz:=by rw [<- hl];by_cases q : ln = 0 <;> simp [q]
 have hf3 : (fn == 0) = fz:=by rw [<- hf];by_cases q : fn = 0 <;> simp [q]
 clear hkz hx hy hl hf hk
 simp only [Vh.cells]
 cases kz
 ·go_enter Tryd.func60,Tryd.ntmps60
  go_upto_region 2 with (fail)
  try simp only [List.append]
  go_wp2
  go_ret
  exact ⟨rfl,(Below.refl w.heap.size w).alloc (Nat.le_refl _) _⟩
 ·cases b
  ·cases nz
   ·go_enter Tryd.func60,Tryd.ntmps60
    go_upto_region 2 with (fail)
    try simp only [List.append]
    go_wp2
    go_ret
    exact ⟨rfl,(Below.refl w.heap.size w).alloc (Nat.le_refl _) _⟩
   ·cases tz0
    ·go_enter Tryd.func60,Tryd.ntmps60
     go_upto_region 2 with (fail)
     try simp only [List.append]
     go_wp2
     go_ret
     exact ⟨rfl,(Below.refl w.heap.size w).alloc (Nat.le_refl _) _⟩
    ·cases xz
     ·go_enter Tryd.func60,Tryd.ntmps60
      go_upto_region 2 with (fail)
      try simp only [List.append]
      go_wp2
      go_ret
      exact ⟨rfl,(Below.refl w.heap.size w).alloc (Nat.le_refl _) _⟩
     ·cases yz
      ·go_enter Tryd.func60,Tryd.ntmps60
       go_upto_region 2 with (fail)
       try simp only [List.append]
       go_wp2
       go_ret
       exact ⟨rfl,(Below.refl w.heap.size w).alloc (Nat.le_refl _) _⟩
      ·cases lz
       ·go_enter Tryd.func60,Tryd.ntmps60
        go_upto_region 2 with (fail)
        try simp only [List.append]
        go_wp2
        go_ret
        exact ⟨rfl,(Below.refl w.heap.size w).alloc (Nat.le_refl _) _⟩
       ·cases fz
        ·go_enter Tryd.func60,Tryd.ntmps60
         go_upto_region 2 with (fail)
         try simp only [List.append]
         go_wp2
         go_ret
         exact ⟨rfl,(Below.refl w.heap.size w).alloc (Nat.le_refl _) _⟩
        ·go_enter Tryd.func60,Tryd.ntmps60
         go_upto_region 2 with (fail)
         try simp only [List.append]
         go_wp2
         go_ret
         exact ⟨rfl,(Below.refl w.heap.size w).alloc (Nat.le_refl _) _⟩
  ·go_enter Tryd.func60,Tryd.ntmps60
   go_upto_region 2 with (fail)
   try simp only [List.append]
   go_wp2
   go_ret
   exact ⟨rfl,(Below.refl w.heap.size w).alloc (Nat.le_refl _) _⟩
end Go.Proofs.YtpcbhneaaibfiaaDoor
