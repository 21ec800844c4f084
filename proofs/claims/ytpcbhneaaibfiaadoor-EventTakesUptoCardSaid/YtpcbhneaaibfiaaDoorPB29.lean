/- Laid together. -/
import Derived.Test.YtpcbhneaaibfiaaDoorPB26
import Derived.Test.YtpcbhneaaibfiaaDoorPB17
import Derived.Test.YtpcbhneaaibfiaaDoorPB10
import Derived.Test.YtpcbhneaaibfiaaDoorPB08
import Derived.Test.YtpcbhneaaibfiaaDoorPB23
import Derived.Deep.AppendLies
set_option linter.unusedVariables false
set_option linter.unusedSimpArgs false
set_option maxHeartbeats 16000000
set_option maxRecDepth 100000
namespace Go.Proofs.YtpcbhneaaibfiaaDoor
open Go.RowKit
theorem evs_some {T : Vt} (hT : T ≠ .nil) : 0 < (evs T).length:=by
 cases T with
 | nil => exact absurd rfl hT
 | mk h Y L K F =>
  show 0 < (if h.k = 6 then _ else if h.k = 7 then _ else _ : List Ev).length
  split
  ·simp
  split
  ·simp
  ·simp
def Vt.cln : Vt -> Prop
 | .nil => False
 | .mk h Y L K F =>
  if h.k = 6 then h.ln <= 1048576 /\ (∀ (a : Option Addr) (c b : Nat) (M : Nat -> Vt),(∀ j,j < h.ln -> (M j).Same (L j)) -> (Vt.mk (Vh.lst 6 a h.ln c b) (fun _ => 0) M (fun _ => ByteArray.empty) (fun _ => .nil)).Same (.mk h Y L K F)) /\ ∀ i,i < h.ln -> (L i).cln
  else if h.k = 7 then h.fn <= 1048576 /\ (∀ (a : Option Addr) (c b : Nat) (N : Nat -> ByteArray) (M : Nat -> Vt),(∀ j,j < h.fn -> N j = K j /\ (M j).Same (F j)) -> (Vt.mk (Vh.fld 7 a h.fn c b) (fun _ => 0) (fun _ => .nil) N M).Same (.mk h Y L K F)) /\ ∀ i,i < h.fn -> (K i).size <= 1048576 /\ (F i).cln
  else True
theorem nth_right {a b : List Ev} (i : Nat) : nth (a ++ b) (a.length + i) = nth b i:=by
 unfold nth
 rw [List.getD_eq_getElem?_getD,List.getD_eq_getElem?_getD,List.getElem?_append_right (Nat.le_add_right _ _),Nat.add_sub_cancel_left]
theorem nth_catL {f : Nat -> List Ev} {j : Nat} : ∀ {n i : Nat},j < n -> i < (f j).length -> nth (catL f n) ((catL f j).length + i) = nth (f j) i:=by
 intro n
 induction n with
 | zero => intro i h;exact absurd h (Nat.not_lt_zero _)
 | succ n ih =>
  intro i hj hi
  by_cases q : j = n
  ·subst q
   exact nth_right i
  ·have hle : (catL f j).length + i < (catL f n).length:=by
    have h1 : (catL f (j + 1)).length <= (catL f n).length:=by
     rw [catL_len,catL_len]
     exact sumN_mono (f:=fun i => (f i).length) (by omega)
    have h2 : (catL f (j + 1)).length = (catL f j).length + (f j).length:=by show (catL f j ++ f j).length = _;rw [List.length_append]
    omega
   show nth (catL f n ++ f n) _ = _
   rw [nth_left hle]
   exact ih (by omega) hi
theorem nth_cons (y : Ev) (l : List Ev) (i : Nat) : nth (y :: l) (1 + i) = nth l i:=by
 rw [Nat.add_comm]
 rfl
theorem evs_first {T : Vt} (hT : T ≠ .nil) : (nth (evs T) 0).k = 1 ∨ (nth (evs T) 0).k = 2 ∨ (nth (evs T) 0).k = 4:=by
 cases T with
 | nil => exact absurd rfl hT
 | mk h Y L K F =>
  by_cases h6 : h.k = 6
  ·have e : evs (.mk h Y L K F) = evM 2 :: (catL (fun i => evs (L i)) h.ln ++ [evM 3]):=if_pos h6
   rw [e]
   exact .inr (.inl rfl)
  by_cases h7 : h.k = 7
  ·have e : evs (.mk h Y L K F) = evM 4 :: (catL (fun i => evK (K i) :: evs (F i)) h.fn ++ [evM 5]):=(if_neg h6).trans (if_pos h7)
   rw [e]
   exact .inr (.inr rfl)
  ·have e : evs (.mk h Y L K F) = [evS (.mk h Y L K F)]:=(if_neg h6).trans (if_neg h7)
   rw [e]
   exact .inl rfl
def offE (f : Nat -> List Ev) (j : Nat) : Nat:=1 + (catL f j).length
theorem offE_succ (f : Nat -> List Ev) (j : Nat) : offE f (j + 1) = offE f j + (f j).length:=by
 show 1 + (catL f j ++ f j).length = 1 + (catL f j).length + (f j).length
 rw [List.length_append]
 omega
theorem offE_at {f : Nat -> List Ev} {y z : Ev} {n j i : Nat} (hj : j < n) (hi : i < (f j).length) : nth (y :: (catL f n ++ [z])) (offE f j + i) = nth (f j) i:=by
 have hle : (catL f j).length + i < (catL f n).length:=by
  have h1 : (catL f (j + 1)).length <= (catL f n).length:=by
   rw [catL_len,catL_len]
   exact sumN_mono (f:=fun i => (f i).length) (by omega)
  have h2 : (catL f (j + 1)).length = (catL f j).length + (f j).length:=by show (catL f j ++ f j).length = _;rw [List.length_append]
  omega
 unfold offE
 rw [Nat.add_assoc,nth_cons,nth_left hle,nth_catL hj hi]
theorem offE_end {f : Nat -> List Ev} {y z : Ev} {n : Nat} : nth (y :: (catL f n ++ [z])) (offE f n) = z:=by
 unfold offE
 rw [nth_cons]
 have:=nth_right (a:=catL f n) (b:=[z]) 0
 rw [Nat.add_zero] at this
 exact this
theorem offE_len {f : Nat -> List Ev} {y z : Ev} {n : Nat} : (y :: (catL f n ++ [z])).length = offE f n + 1:=by
 unfold offE
 rw [List.length_cons,List.length_append,List.length_singleton]
 omega
theorem offE_mono {f : Nat -> List Ev} {i n : Nat} (h : i <= n) : offE f i <= offE f n:=by
 unfold offE
 rw [catL_len,catL_len]
 have:=sumN_mono (f:=fun i => (f i).length) h
 omega
def Evs.drop (p : Evs) (o : Nat) : Evs:=⟨some ⟨p.b,p.o + o * 15,none⟩,p.n - o,p.c - o,p.b,p.o + o * 15,fun i => p.S (o + i)⟩
theorem Evs.In.drop {W : World} {top o : Nat} {p : Evs} (h : p.In W top) (ho : o < p.n) : (p.drop o).In W top:=by
 refine ⟨fun _ => ⟨rfl,(h.1 (by omega)).2⟩,⟨?_,?_,?_⟩,fun i hi => ?_⟩
 ·have:=h.2.1.1;show p.n - o <= _;omega
 ·have:=h.2.1.2.1;show p.n - o <= p.c - o;omega
 ·have:=h.2.1.2.2;show p.c - o <= _;exact Nat.le_trans (Nat.sub_le _ _) this
 ·have hi' : i < p.n - o:=hi
  have q:=h.2.2 (o + i) (by omega)
  refine ⟨?_,q.2⟩
  have q1:=q.1
  rw [Nat.add_mul,<- Nat.add_assoc] at q1
  exact q1
def ParV (T : Vt) (top : Nat) (w : World) (e : Ending) (w' : World) : Prop:=∃ X : Vt,e = .returned (.tuple #[.agg #[.int .i64 X.h.k,.bool X.h.b,.bool X.h.n,.string X.h.d,.int .i64 X.h.e,.int .i64 X.h.tk,.int .i64 X.h.td,.int .i64 X.h.tn,.int .i64 X.h.tz,.string X.h.x,.slice X.h.ba X.h.bn X.h.bc,.slice X.h.la X.h.ln X.h.lc,.slice X.h.fa X.h.fn X.h.fc],.int .i64 (evs T).length]) /\ X.In w' w'.heap.size /\ X.Off (fun b => b < top ∨ w.heap.size <= b) /\ X.Same T /\ Below w.heap.size w w'
def ParIs (T : Vt) : Prop:=∀ (p : Evs) (top : Nat) (w : World),p.In w top -> top <= w.heap.size -> T.cln -> (evs T).length <= p.n -> (∀ i,i < (evs T).length -> (p.S i).Same (nth (evs T) i)) -> Calls Tryd.prog 51 #[.slice p.a p.n p.c] w (ParV T top w)
theorem par_lst {w W W' : World} {B m n top c : Nat} {a : Option Addr} {T : Vt} (hr : RowG (fun x : Vt => x.h.cells) id 13 30 B (fun b => b < top ∨ w.heap.size + 2 <= b) (fun i X => X.Same (T.L i)) W (.slice a m c) m) (hm : m <= 1048576) (hB : w.heap.size + 2 <= B) (hl : (evs T).length = n)
 (hso : ∀ (a : Option Addr) (c b : Nat) (M : Nat -> Vt),(∀ j,j < m -> (M j).Same (T.L j)) -> (Vt.mk (Vh.lst 6 a m c b) (fun _ => 0) M (fun _ => ByteArray.empty) (fun _ => .nil)).Same T) (ht : top <= w.heap.size) (hk : ∀ b,b ≠ w.heap.size -> W'.heap[b]? = W.heap[b]?) (hz : W.heap.size <= W'.heap.size) (hb : Below w.heap.size w W') :
 ParV T top w (.returned (.tuple #[.agg #[.int .i64 6,.bool false,.bool false,.string ⟨#[]⟩,.int .i64 0,.int .i64 0,.int .i64 0,.int .i64 0,.int .i64 0,.string ⟨#[]⟩,.slice none 0 0,.slice a m c,.slice none 0 0],.int .i64 n])) W':=by
 obtain ⟨f,a',c',b,e,hcc,ha,hrows⟩:=RowG.done (fun x : Vt => vh_size x.h) hr
 injection e with e1 e2 e3
 subst e1 e3
 have hin : (Vt.mk (Vh.lst 6 a m c b) (fun _ => 0) f (fun _ => ByteArray.empty) (fun _ => .nil)).In W W.heap.size:=lst_in ⟨by decide,by decide⟩ hm hcc (fun h => ⟨(ha h).1,(ha h).2.2⟩) (fun j hj => ⟨(hrows j hj).1,(hrows j hj).2.1⟩)
 have hoff : (Vt.mk (Vh.lst 6 a m c b) (fun _ => 0) f (fun _ => ByteArray.empty) (fun _ => .nil)).Off (fun b => b < top ∨ w.heap.size + 2 <= b) :=
  ⟨fun q => absurd q (Nat.lt_irrefl _),fun q => .inr (Nat.le_trans hB (ha q).2.1),fun j hj => (hrows j hj).2.2.1,fun q => absurd q (Nat.lt_irrefl _),fun i hi => absurd hi (Nat.not_lt_zero _)⟩
 exact ⟨_,by rw [<- hl];rfl,hin.stays hoff (fun b hb => hk b (by omega)) hz,hoff.mono fun b hb => by omega,hso a c b f (fun j hj => (hrows j hj).2.2.2),hb⟩
theorem par_fld {w W W' : World} {B m n top c : Nat} {a : Option Addr} {T : Vt} (hr : RowG fcs Prod.snd 14 76 B (fun b => b < top ∨ w.heap.size + 2 <= b) (fun i x => x.1 = T.K i /\ x.1.size <= 1048576 /\ x.2.Same (T.F i)) W (.slice a m c) m) (hm : m <= 1048576) (hB : w.heap.size + 2 <= B) (hl : (evs T).length = n)
 (hso : ∀ (a : Option Addr) (c b : Nat) (N : Nat -> ByteArray) (M : Nat -> Vt),(∀ j,j < m -> N j = T.K j /\ (M j).Same (T.F j)) -> (Vt.mk (Vh.fld 7 a m c b) (fun _ => 0) (fun _ => .nil) N M).Same T) (ht : top <= w.heap.size) (hk : ∀ b,b ≠ w.heap.size -> W'.heap[b]? = W.heap[b]?) (hz : W.heap.size <= W'.heap.size) (hb : Below w.heap.size w W') :
 ParV T top w (.returned (.tuple #[.agg #[.int .i64 7,.bool false,.bool false,.string ⟨#[]⟩,.int .i64 0,.int .i64 0,.int .i64 0,.int .i64 0,.int .i64 0,.string ⟨#[]⟩,.slice none 0 0,.slice none 0 0,.slice a m c],.int .i64 n])) W':=by
 obtain ⟨f,a',c',b,e,hcc,ha,hrows⟩:=hr.done fcs_size
 injection e with e1 e2 e3
 subst e1 e3
 have hin : (Vt.mk (Vh.fld 7 a m c b) (fun _ => 0) (fun _ => .nil) (fun j => (f j).1) (fun j => (f j).2)).In W W.heap.size:=fld_in (K:=fun j => (f j).1) (M:=fun j => (f j).2) ⟨by decide,by decide⟩ hm hcc (fun h => ⟨(ha h).1,(ha h).2.2⟩) (fun j hj => ⟨(hrows j hj).1,(hrows j hj).2.2.2.2.1,(hrows j hj).2.1⟩)
 have hoff : (Vt.mk (Vh.fld 7 a m c b) (fun _ => 0) (fun _ => .nil) (fun j => (f j).1) (fun j => (f j).2)).Off (fun b => b < top ∨ w.heap.size + 2 <= b) :=
  ⟨fun q => absurd q (Nat.lt_irrefl _),fun q => absurd q (Nat.lt_irrefl _),fun i hi => absurd hi (Nat.not_lt_zero _),fun q => .inr (Nat.le_trans hB (ha q).2.1),fun j hj => (hrows j hj).2.2.1⟩
 exact ⟨_,by rw [<- hl];rfl,hin.stays hoff (fun b hb => hk b (by omega)) hz,hoff.mono fun b hb => by omega,hso a c b _ _ (fun j hj => ⟨(hrows j hj).2.2.2.1,(hrows j hj).2.2.2.2.2⟩),hb⟩
end Go.Proofs.YtpcbhneaaibfiaaDoor
namespace Go.Proofs.YtpcbhneaaibfiaaDoor
open Go.ChangeShapes Go.WideShapes Go.Joins Go.Deep Go.RowKit
theorem own_slv {w : World} {base size n : Nat} {e : TypeId} {v : Value} {xs : List Value} (h : w.ownsRow base e size v n xs) : ∃ a c,v = .slice a n c:=by
 rcases h.2 with ⟨rfl,h0⟩ | ⟨g,cap,cur,rfl,_⟩
 ·exact ⟨none,0,by rw [h0]⟩
 ·exact ⟨_,_,rfl⟩
theorem own_empty {W : World} {B C g : Nat} {e : TypeId} (h : Whole W g e #[]) (hB : B <= g) : W.ownsRow B e C (.slice (some ⟨g,0,none⟩) 0 0) 0 [] :=
 ⟨by simp,.inr ⟨g,0,#[],rfl,hB,h,Nat.le_refl _,Nat.zero_le _,(Nat.zero_mul C).symm,List.take_nil⟩⟩
section
variable {P : Program} (w : World)
theorem step_append_any {ops : Array Oper} {o : Oper} {a : Act} {K : Act -> World -> Prop} {Q : Exit -> Act -> World -> Prop} {E : Prop} (hgd : o.guard = none) (s x : Operand) (t : TypeId)
 (ho : o.op = .call { callee:=.builtin .append,args:=#[s,x],argTypes:=#[t,t] })
 (base : Nat) (e : TypeId) (i : TypeInfo) (z : Value) (size bytes : Nat) (ht : P.underlying t = some (.slice e)) (hi : P.info? e = some i) (hz : i.zero = some z)
 (hsize : i.size = size) (hby : i.bytes = bytes) (hzs : z.cells.size = size) (hsz : 0 < size)
 (v : Value) (n : Nat) (xs : List Value) (hs : a.eval s = v) (hown : w.ownsRow base e size v n xs)
 (xa : Option Addr) (m c : Nat) (news : List Value) (hx : a.eval x = .slice xa m c) (hl : news.length = m * size) (hnews : 0 < m -> ∃ ad,xa = some ad /\ ∀ j u,news[j]? = some u -> w.cell? (ad.add j) = some u) (h1 : ∀ u ∈ news,u.oneCell' = true)
 (N : Nat) (hN : n + m = N) (h63 : N <= maxLen) (hbytes : N * bytes <= 140737488355328) (hbase : base <= w.heap.size)
 (h : ∀ a' c' w',w'.ownsRow base e size (.slice a' N c') N (xs ++ news) -> w.grownBy w' v.ownBlock -> ((Value.slice a' N c').ownBlock = v.ownBlock ∨ (Value.slice a' N c').ownBlock = some w.heap.size) -> K (a.put o.dst (.slice a' N c')) w') :
 if Region.wanted o (yielded ops a.tmps) = true then Oper.wp P o a w K Q else E:=by
 have hw : Region.wanted o (yielded ops a.tmps) = true:=by simp [Region.wanted,hgd]
 rw [if_pos hw]
 subst hN
 obtain ⟨v',w',hr,h2,h3,h4⟩:=run_append_any (P:=P) w base t o.type e i z size bytes ht hi hz hsize hby hzs hsz v n xs hown xa m c news hl hnews h1 h63 hbytes hbase
 obtain ⟨a',c',rfl⟩:=own_slv h2
 unfold Oper.wp execOp
 simp only [ho,resolve,invoke,builtin,Sem.run_bind,Sem.run_pure,Result.andThen_ok,List.map_toArray,List.map_cons,List.map_nil,hs,hx,hr]
 exact h a' c' w' h2 h3 h4
end
end Go.Proofs.YtpcbhneaaibfiaaDoor
