/- Laid together. -/
import Derived.OrdersHeld
import Derived.ProofKit
import Derived.Deep.RegionHeld
import Derived.OpenShut
import Derived.Lib.SmallJoins
import Derived.Below
import Derived.ChangeOld
import Derived.DataReads
import Derived.Deep.Slices
import Derived.Test.YtpcbhneaaibfiaaDoorProg
import Derived.Test.YtpcbhneaaibfiaaDoorRows
set_option linter.unusedVariables false
set_option linter.unusedSimpArgs false
set_option maxHeartbeats 16000000
set_option maxRecDepth 100000
namespace Go.Proofs.YtpcbhneaaibfiaaDoor
open Go
section
variable {P : Program} {ops : Array Oper} {Q : Exit -> Act -> World -> Prop} {md : Region.Mode} {S : World -> Prop}
theorem tkH {i : Nat} {oi : Oper} {v : Value} {fuel : Nat} {listed : Array Bool} {a : Act} {w : World} (hi : ops[i]? = some oi) (hc : (Region.noSelect ops && (Region.free md ops listed i && (Region.ready md ops listed).contains i)) = true) (hw : Region.wanted oi (yielded ops a.tmps) = true)
 (hQ : ∀ c a w,Q (.panic c) (a.put oi.dst v) w -> Q (.panic c) a w) (hS : S w) (hv : ∀ w,S w -> (execOp a.eval oi).run P w = .ok (.value v) w)
 (h : wpAnyH P md ops Q S fuel (listed.setIfInBounds i true) (a.put oi.dst v) w) : wpAnyH P md ops Q S (fuel + 1) listed a w:=by
 rw [Bool.and_eq_true,Bool.and_eq_true] at hc
 exact wpAnyH_take hi hc.1 hc.2.1 hc.2.2 hQ (Or.inl ⟨hw,hv⟩) hS h
end
theorem actS : (∀ (l : List Value) (i : Nat) (v : Value),l.toArray.setIfInBounds i v = (l.set i v).toArray) /\ (∀ (l : List Bool) (i : Nat) (v : Bool),l.toArray.setIfInBounds i v = (l.set i v).toArray) /\ (∀ (a : Value) (l : List Value) (v : Value),(a :: l).set 0 v = v :: l) /\ (∀ (a : Bool) (l : List Bool) (v : Bool),(a :: l).set 0 v = v :: l) /\
 (∀ (a : Value) (l : List Value) (n : Nat) (v : Value),(a :: l).set (n + 1) v = a :: l.set n v) /\ (∀ (a : Bool) (l : List Bool) (n : Nat) (v : Bool),(a :: l).set (n + 1) v = a :: l.set n v) /\
 (∀ (l : List Oper) (i : Nat) (h : i < l.toArray.size),l.toArray[i]'h = l[i]'(by simpa using h)) /\ (∀ (a : Oper) (l : List Oper) (h : 0 < (a :: l).length),(a :: l)[0]'h = a) /\ (∀ (a : Oper) (l : List Oper) (n : Nat) (h : n + 1 < (a :: l).length),(a :: l)[n + 1]'h = l[n]'(by simpa using h)) :=
 ⟨fun _ _ _ => by simp,fun _ _ _ => by simp,fun _ _ _ => rfl,fun _ _ _ => rfl,fun _ _ _ _ => rfl,fun _ _ _ _ => rfl,fun _ _ _ => by simp,fun _ _ _ => rfl,fun _ _ _ _ => rfl⟩
end Go.Proofs.YtpcbhneaaibfiaaDoor
namespace Go.Proofs.YtpcbhneaaibfiaaDoor
open Go.ChangeShapes Go.WideShapes Go.Joins Go.Deep Go.RowKit
structure Vh where
 k : Int
 b : Bool
 n : Bool
 d : ByteArray
 e : Int
 tk : Int
 td : Int
 tn : Int
 tz : Int
 x : ByteArray
 ba : Option Addr
 bn : Nat
 bc : Nat
 la : Option Addr
 ln : Nat
 lc : Nat
 fa : Option Addr
 fn : Nat
 fc : Nat
 bb : Nat
 bo : Nat
 lb : Nat
 lo : Nat
 fb : Nat
 fo : Nat
def Vh.cells (h : Vh) : Array Value:=#[.int .i64 h.k,.bool h.b,.bool h.n,.string h.d,.int .i64 h.e,.int .i64 h.tk,.int .i64 h.td,.int .i64 h.tn,.int .i64 h.tz,.string h.x,.slice h.ba h.bn h.bc,.slice h.la h.ln h.lc,.slice h.fa h.fn h.fc]
def w64 (n : Int) : Prop:=-9223372036854775808 <= n /\ n <= 9223372036854775807
structure Vh.ok (h : Vh) : Prop where
 k : w64 h.k
 e : w64 h.e
 tk : w64 h.tk
 td : w64 h.td
 tn : w64 h.tn
 tz : w64 h.tz
 d : h.d.size <= 1048576
 x : h.x.size <= 1048576
 bn : h.bn <= 1048576
 ln : h.ln <= 1048576
 fn : h.fn <= 1048576
 lc : h.ln <= h.lc /\ h.lc <= maxLen
 fc : h.fn <= h.fc /\ h.fc <= maxLen
inductive Vt where
 | nil : Vt
 | mk (h : Vh) (Y : Nat -> Int) (L : Nat -> Vt) (K : Nat -> ByteArray) (F : Nat -> Vt) : Vt
def Vh.zero : Vh:=⟨0,false,false,⟨#[]⟩,0,0,0,0,0,⟨#[]⟩,none,0,0,none,0,0,none,0,0,0,0,0,0,0,0⟩
def Vt.h : Vt -> Vh | .nil => .zero | .mk h _ _ _ _ => h
def Vt.Y : Vt -> Nat -> Int | .nil => fun _ => 0 | .mk _ Y _ _ _ => Y
def Vt.L : Vt -> Nat -> Vt | .nil => fun _ => .nil | .mk _ _ L _ _ => L
def Vt.K : Vt -> Nat -> ByteArray | .nil => fun _ => ByteArray.empty | .mk _ _ _ K _ => K
def Vt.F : Vt -> Nat -> Vt | .nil => fun _ => .nil | .mk _ _ _ _ F => F
def Vt.cells (T : Vt) : Array Value:=T.h.cells
instance : Inhabited Vt:=⟨.nil⟩
def LiesAt (W : World) (b o : Nat) (cs : Array Value) : Prop:=∀ j,j < cs.size -> W.cell? ⟨b,o + j,none⟩ = cs[j]?
theorem LiesAt.below {W W' : World} {b o top : Nat} {cs : Array Value} (h : LiesAt W b o cs) (hb : Below top W W') (hlt : b < top) : LiesAt W' b o cs:=fun j hj => (hb.cell hlt).trans (h j hj)
def Vt.In (W : World) (top : Nat) : Vt -> Prop
 | .nil => False
 | .mk h Y L K F => h.ok /\
  (0 < h.bn -> h.ba = some ⟨h.bb,h.bo,none⟩ /\ h.bb < top) /\ (∀ i,i < h.bn -> W.cell? ⟨h.bb,h.bo + i,none⟩ = some (.int .u8 (Y i)) /\ 0 <= Y i /\ Y i < 256) /\
  (0 < h.ln -> h.la = some ⟨h.lb,h.lo,none⟩ /\ h.lb < top) /\ (∀ i,i < h.ln -> LiesAt W h.lb (h.lo + i * 13) (L i).h.cells /\ (L i).In W top) /\
  (0 < h.fn -> h.fa = some ⟨h.fb,h.fo,none⟩ /\ h.fb < top) /\ (∀ i,i < h.fn -> W.cell? ⟨h.fb,h.fo + i * 14,none⟩ = some (.string (K i)) /\ (K i).size <= 1048576 /\ LiesAt W h.fb (h.fo + i * 14 + 1) (F i).h.cells /\ (F i).In W top)
theorem Vt.In.below {W W' : World} {top : Nat} (hb : Below top W W') : ∀ {T : Vt},T.In W top -> T.In W' top:=by
 intro T
 induction T with
 | nil => exact fun h => h
 | mk h Y L K F ihL ihF =>
  intro hT
  obtain ⟨h0,h1,h2,h3,h4,h5,h6⟩:=hT
  refine ⟨h0,h1,fun i hi => ?_,h3,fun i hi => ?_,h5,fun i hi => ?_⟩
  ·obtain ⟨a,b⟩:=h2 i hi
   exact ⟨(hb.cell (h1 (by omega)).2).trans a,b⟩
  ·obtain ⟨a,b⟩:=h4 i hi
   exact ⟨a.below hb (h3 (by omega)).2,ihL i b⟩
  ·obtain ⟨a,b,c,d⟩:=h6 i hi
   exact ⟨(hb.cell (h5 (by omega)).2).trans a,b,c.below hb (h5 (by omega)).2,ihF i d⟩
theorem Vt.In.up {W : World} {top top' : Nat} (hle : top <= top') : ∀ {T : Vt},T.In W top -> T.In W top':=by
 intro T
 induction T with
 | nil => exact fun h => h
 | mk h Y L K F ihL ihF =>
  intro hT
  obtain ⟨h0,h1,h2,h3,h4,h5,h6⟩:=hT
  exact ⟨h0,fun hp => ⟨(h1 hp).1,by have:=(h1 hp).2;omega⟩,h2,fun hp => ⟨(h3 hp).1,by have:=(h3 hp).2;omega⟩,fun i hi => ⟨(h4 i hi).1,ihL i (h4 i hi).2⟩,
   fun hp => ⟨(h5 hp).1,by have:=(h5 hp).2;omega⟩,fun i hi => ⟨(h6 i hi).1,(h6 i hi).2.1,(h6 i hi).2.2.1,ihF i (h6 i hi).2.2.2⟩⟩
section
variable {H : Type} {enc : TypeId × Value -> H} {P : Program} {w : World} {base : Nat} {spare : Nat -> Bool} {held : Bool}
theorem bulk_pos (d : DataW H) : 1 <= Rows.uptoBulk d:=by
 cases d with
 | lit l => cases l <;> simp [Rows.uptoBulk]
 | _ => simp [Rows.uptoBulk]
theorem bulk_len : ∀ l : List (DataW H),l.length <= Rows.uptoBulkAll l:=by
 intro l
 induction l with
 | nil => simp
 | cons d l ih =>
  have:=bulk_pos d
  simp only [List.length_cons,Rows.uptoBulkAll]
  omega
theorem bulk_mem {d : DataW H} : ∀ {l : List (DataW H)},d ∈ l -> Rows.uptoBulk d <= Rows.uptoBulkAll l:=by
 intro l
 induction l with
 | nil => intro h;cases h
 | cons e l ih =>
  intro h
  simp only [Rows.uptoBulkAll]
  rcases List.mem_cons.1 h with rfl | h
  ·omega
  ·have:=ih h
   omega
theorem slice_down {t e : TypeId} {fuel : Nat} {cs : List Value} {x : DataW H × List MemPlace} (ht : P.underlying t = some (.slice e)) (hpos : 0 < P.cellsOf e) (h : DataW.trod enc P w base spare held fuel t cs = some x) :
 ∃ (a : Option Addr) (len cap : Nat),cs = [.slice a len cap] /\ (len <= cap /\ cap <= maxLen) /\ len <= Rows.uptoBulk x.1 /\ (len = 0 ∨ ∃ b o n,a = some ⟨b,o,none⟩ /\ b < w.heap.size /\ fuel = n + 1 /\
  ∀ i,i < len -> ∃ (cs' : List Value) (y : DataW H × List MemPlace),cs'.length = P.cellsOf e /\ (∀ j,j < P.cellsOf e -> w.cell? ⟨b,o + i * P.cellsOf e + j,none⟩ = cs'[j]?) /\ DataW.trod enc P w base spare held n e cs' = some y /\ Rows.uptoBulk y.1 <= Rows.uptoBulk x.1):=by
 rcases DataW.trod_slice ht h with ⟨rfl,rfl⟩ | ⟨a,len,cap,elems,rest,n,hf,rfl,rfl,_,hl,hm,hlen,hel,_,_⟩
 ·exact ⟨none,0,0,rfl,⟨Nat.le_refl _,Nat.zero_le _⟩,by omega,.inl rfl⟩
 have hbk : Rows.uptoBulk (DataW.slice (elems.map (·.1)) (rest.map (·.1))) = Rows.uptoBulkAll (elems.map (·.1)) + Rows.uptoBulkAll (rest.map (·.1)) + 1:=by simp [Rows.uptoBulk]
 have hbl:=bulk_len (elems.map (·.1))
 rw [List.length_map,hlen] at hbl
 refine ⟨some a,len,cap,rfl,⟨hl,hm⟩,by dsimp only;omega,?_⟩
 by_cases hz : len = 0
 ·exact .inl hz
 right
 have hall : ∀ i,i < len -> ∃ (cs' : List Value) (y : DataW H × List MemPlace),w.cells? base (a.add (i * P.cellsOf e)) (P.cellsOf e) = some cs' /\ DataW.trod enc P w base spare held n e cs' = some y /\ Rows.uptoBulk y.1 <= Rows.uptoBulkAll (elems.map (·.1)):=fun i hi => by
  have k:=hel i hi
  rw [List.getElem?_eq_getElem (by omega)] at k
  obtain ⟨cs',h1,h2⟩:=Option.bind_eq_some_iff.1 k
  exact ⟨cs',_,h1,h2,bulk_mem (List.mem_map_of_mem (List.getElem_mem _))⟩
 obtain ⟨b,o,spot⟩:=a
 have hlt : b < w.heap.size:=by
  obtain ⟨cs',_,h1,_,_⟩:=hall 0 (by omega)
  have:=World.cells?_block h1 hpos
  simpa [Addr.add] using this
 have hspot : spot = none:=by
  obtain ⟨cs',_,h1,_,_⟩:=hall 0 (by omega)
  obtain ⟨_,h3,h4⟩:=World.cells?_some h1
  have h5:=h4 0 hpos
  rw [List.getElem?_eq_getElem (by omega)] at h5
  simpa [Addr.add] using World.cell?_spot h5
 subst hspot
 refine ⟨b,o,n,rfl,hlt,hf,fun i hi => ?_⟩
 obtain ⟨cs',y,h1,h2,h2b⟩:=hall i hi
 obtain ⟨_,h3,h4⟩:=World.cells?_some h1
 refine ⟨cs',y,h3,fun j hj => ?_,h2,by dsimp only;omega⟩
 have:=h4 j hj
 rwa [add_plain,add_plain] at this
theorem row_down {α : Type} [Inhabited α] (q : Nat -> Nat -> α -> Prop) {t e : TypeId} {C fuel : Nat} {cs : List Value} {x : DataW H × List MemPlace} (ht : P.underlying t = some (.slice e)) (hC : P.cellsOf e = C) (hpos : 0 < C) (h : DataW.trod enc P w base spare held fuel t cs = some x)
 (hq : ∀ (b o n : Nat) (cs' : List Value) (y : DataW H × List MemPlace),fuel = n + 1 -> cs'.length = C -> (∀ j,j < C -> w.cell? ⟨b,o + j,none⟩ = cs'[j]?) -> DataW.trod enc P w base spare held n e cs' = some y -> Rows.uptoBulk y.1 <= 1048576 -> ∃ z,q b o z) (hM : Rows.uptoBulk x.1 <= 1048576) :
 ∃ (a : Option Addr) (len cap b o : Nat) (f : Nat -> α),cs = [.slice a len cap] /\ (len <= cap /\ cap <= maxLen) /\ len <= 1048576 /\ (0 < len -> a = some ⟨b,o,none⟩ /\ b < w.heap.size) /\ ∀ i,i < len -> q b (o + i * C) (f i):=by
 subst hC
 obtain ⟨a,len,cap,rfl,hcp,hm,rfl | ⟨b,o,n,rfl,hlt,hf,hall⟩⟩:=slice_down ht hpos h
 ·exact ⟨a,0,cap,0,0,fun _ => default,rfl,hcp,by omega,fun h => absurd h (Nat.lt_irrefl _),fun i h => absurd h (Nat.not_lt_zero _)⟩
 ·obtain ⟨f,hff⟩:=choose_lt (n:=len) (p:=fun i z => q b (o + i * P.cellsOf e) z) (fun i hi => by
   obtain ⟨cs',y,h1,h2,h3,h4⟩:=hall i hi
   exact hq b _ n cs' y hf h1 h2 h3 (by omega))
  exact ⟨some ⟨b,o,none⟩,len,cap,b,o,f,rfl,hcp,by omega,fun _ => ⟨rfl,hlt⟩,hff⟩
end
theorem cVal : Tryd.prog.cellsOf 30 = 13:=by kernel_rfl
theorem cFld : Tryd.prog.cellsOf 76 = 14:=by kernel_rfl
theorem cDec : Tryd.prog.cellsOf 23 = 3:=by kernel_rfl
theorem cTim : Tryd.prog.cellsOf 25 = 4:=by kernel_rfl
theorem cInt : Tryd.prog.cellsOf 3 = 1:=by kernel_rfl
theorem cBool : Tryd.prog.cellsOf 4 = 1:=by kernel_rfl
theorem cStr : Tryd.prog.cellsOf 9 = 1:=by kernel_rfl
theorem cByte : Tryd.prog.cellsOf 5 = 1:=by kernel_rfl
theorem cBytes : Tryd.prog.cellsOf 26 = 1:=by kernel_rfl
theorem cVals : Tryd.prog.cellsOf 27 = 1:=by kernel_rfl
theorem cFlds : Tryd.prog.cellsOf 28 = 1:=by kernel_rfl
theorem w64_of {n : Int} (h : (Lit.int .i64 n).wf = true) : w64 n:=by
 simp [Lit.wf,IntKind.min,IntKind.max,IntKind.signed,IntKind.bits] at h
 exact ⟨by omega,by omega⟩
section
variable {H : Type} {enc : TypeId × Value -> H} {w : World} {base : Nat} {spare : Nat -> Bool} {held : Bool}
theorem int1 {n : Nat} {c : Value} {x : DataW H × List MemPlace} (h : DataW.trod enc Tryd.prog w base spare held n 3 [c] = some x) : ∃ k,c = .int .i64 k /\ w64 k:=by
 obtain ⟨k,e,_,wf⟩:=DataW.trod_int Tryd.underlying3 h
 simp only [List.cons.injEq,and_true] at e
 exact ⟨k,e,w64_of wf⟩
theorem bool1 {n : Nat} {c : Value} {x : DataW H × List MemPlace} (h : DataW.trod enc Tryd.prog w base spare held n 4 [c] = some x) : ∃ k,c = .bool k:=by
 obtain ⟨k,e,_⟩:=DataW.trod_bool Tryd.underlying4 h
 simp only [List.cons.injEq,and_true] at e
 exact ⟨k,e⟩
theorem str1 {n : Nat} {c : Value} {x : DataW H × List MemPlace} (h : DataW.trod enc Tryd.prog w base spare held n 9 [c] = some x) : ∃ s : ByteArray,c = .string s /\ s.size <= Rows.uptoBulk x.1:=by
 obtain ⟨k,e,rfl,_⟩:=DataW.trod_string Tryd.underlying9 h
 simp only [List.cons.injEq,and_true] at e
 have e2 : k.data.toList.length = k.size:=by simp
 exact ⟨k,e,by simp only [Rows.uptoBulk];omega⟩
theorem dec3 {n : Nat} {c0 c1 c2 : Value} {x : DataW H × List MemPlace} (h : DataW.trod enc Tryd.prog w base spare held n 23 [c0,c1,c2] = some x) : ∃ (a : Bool) (s : ByteArray) (e : Int),c0 = .bool a /\ c1 = .string s /\ c2 = .int .i64 e /\ s.size <= Rows.uptoBulk x.1 /\ w64 e:=by
 obtain ⟨xs,m,_,hx,_,hlen,hf⟩:=DataW.trod_struct Tryd.underlying23 h
 match xs,hlen with
 | [x0,x1,x2],_ =>
 obtain ⟨a,rfl⟩:=bool1 (n:=m) (c:=c0) (x:=x0) (by simpa [cBool] using hf 0 _ rfl)
 obtain ⟨s,rfl,hs⟩:=str1 (n:=m) (c:=c1) (x:=x1) (by simpa [cStr] using hf 1 _ rfl)
 obtain ⟨e,rfl,he⟩:=int1 (n:=m) (c:=c2) (x:=x2) (by simpa [cInt] using hf 2 _ rfl)
 refine ⟨a,s,e,rfl,rfl,rfl,?_,he⟩
 rw [hx]
 simp only [List.map_cons,List.map_nil,Rows.uptoBulk,Rows.uptoBulkAll]
 omega
theorem tim4 {n : Nat} {c0 c1 c2 c3 : Value} {x : DataW H × List MemPlace} (h : DataW.trod enc Tryd.prog w base spare held n 25 [c0,c1,c2,c3] = some x) : ∃ a b c d : Int,c0 = .int .i64 a /\ c1 = .int .i64 b /\ c2 = .int .i64 c /\ c3 = .int .i64 d /\ w64 a /\ w64 b /\ w64 c /\ w64 d:=by
 obtain ⟨xs,m,_,_,_,hlen,hf⟩:=DataW.trod_struct Tryd.underlying25 h
 match xs,hlen with
 | [x0,x1,x2,x3],_ =>
 obtain ⟨a,rfl,ha⟩:=int1 (n:=m) (c:=c0) (x:=x0) (by simpa [cInt] using hf 0 _ rfl)
 obtain ⟨b,rfl,hb⟩:=int1 (n:=m) (c:=c1) (x:=x1) (by simpa [cInt] using hf 1 _ rfl)
 obtain ⟨c,rfl,hc⟩:=int1 (n:=m) (c:=c2) (x:=x2) (by simpa [cInt] using hf 2 _ rfl)
 obtain ⟨d,rfl,hd⟩:=int1 (n:=m) (c:=c3) (x:=x3) (by simpa [cInt] using hf 3 _ rfl)
 exact ⟨a,b,c,d,rfl,rfl,rfl,rfl,ha,hb,hc,hd⟩
theorem byte1 {n : Nat} {c : Value} {x : DataW H × List MemPlace} (h : DataW.trod enc Tryd.prog w base spare held n 5 [c] = some x) : ∃ k,c = .int .u8 k /\ 0 <= k /\ k < 256:=by
 obtain ⟨k,e,_,wf⟩:=DataW.trod_int Tryd.underlying5 h
 simp only [List.cons.injEq,and_true] at e
 simp [Lit.wf,IntKind.min,IntKind.max,IntKind.signed,IntKind.bits] at wf
 exact ⟨k,e,by omega,by omega⟩
theorem val13 : ∀ (fuel : Nat) {cs : List Value} {x : DataW H × List MemPlace},DataW.trod enc Tryd.prog w base spare held fuel 30 cs = some x -> Rows.uptoBulk x.1 <= 1048576 -> ∃ T : Vt,cs = T.h.cells.toList /\ T.In w w.heap.size:=by
 intro fuel
 induction fuel using Nat.strongRecOn with
 | ind fuel ih =>
 intro cs x h hM
 obtain ⟨xs,n,rfl,hx,hl,hlen,hf⟩:=DataW.trod_struct Tryd.underlying30 h
 rw [cVal] at hl
 match cs,hl with
 | [c0,c1,c2,c3,c4,c5,c6,c7,c8,c9,c10,c11,c12],_ =>
 match xs,hlen with
 | [x0,x1,x2,x3,x4,x5,x6,x7],_ =>
 rw [hx] at hM
 simp only [List.map_cons,List.map_nil,Rows.uptoBulk,Rows.uptoBulkAll] at hM
 obtain ⟨k,rfl,hk⟩:=int1 (n:=n) (c:=c0) (x:=x0) (by simpa [cInt] using hf 0 _ rfl)
 obtain ⟨b,rfl⟩:=bool1 (n:=n) (c:=c1) (x:=x1) (by simpa [cBool] using hf 1 _ rfl)
 obtain ⟨dn,dd,de,rfl,rfl,rfl,hdd,hde⟩:=dec3 (n:=n) (c0:=c2) (c1:=c3) (c2:=c4) (x:=x2) (by simpa [cDec] using hf 2 _ rfl)
 obtain ⟨tk,td,tn,tz,rfl,rfl,rfl,rfl,htk,htd,htn,htz⟩:=tim4 (n:=n) (c0:=c5) (c1:=c6) (c2:=c7) (c3:=c8) (x:=x3) (by simpa [cTim] using hf 3 _ rfl)
 obtain ⟨s,rfl,hs⟩:=str1 (n:=n) (c:=c9) (x:=x4) (by simpa [cStr] using hf 4 _ rfl)
 have g5 : DataW.trod enc Tryd.prog w base spare held n 26 [c10] = some x5:=by simpa [cBytes] using hf 5 _ rfl
 have g6 : DataW.trod enc Tryd.prog w base spare held n 27 [c11] = some x6:=by simpa [cVals] using hf 6 _ rfl
 have g7 : DataW.trod enc Tryd.prog w base spare held n 28 [c12] = some x7:=by simpa [cFlds] using hf 7 _ rfl
 obtain ⟨ba,bn,bc,bb,bo,Y,e10,_,hbn,hba,hY⟩:=row_down (α:=Int) (fun B O z => w.cell? ⟨B,O,none⟩ = some (.int .u8 z) /\ 0 <= z /\ z < 256) Tryd.underlying26 cByte (by omega) g5 (fun B O m cs' y _ hl' hc hy _ => by
  match cs',hl' with
  | [c],_ =>
  obtain ⟨z,rfl,hz⟩:=byte1 hy
  exact ⟨z,by simpa using hc 0 (by omega),hz⟩) (by omega)
 obtain ⟨la,ln,lc,lb,lo,L,e11,hlc,hln,hla,hL⟩:=row_down (α:=Vt) (fun B O z => LiesAt w B O z.h.cells /\ z.In w w.heap.size) Tryd.underlying27 cVal (by omega) g6 (fun B O m cs' y hm hl' hc hy hyM => by
  obtain ⟨T,rfl,hT⟩:=ih m (by omega) hy hyM
  exact ⟨T,fun j hj => by rw [hc j hj,Array.getElem?_toList],hT⟩) (by omega)
 obtain ⟨fa,fn,fc,fb,fo,F,e12,hfc,hfn,hfa,hF⟩:=row_down (α:=ByteArray × Vt) (fun B O z => w.cell? ⟨B,O,none⟩ = some (.string z.1) /\ z.1.size <= 1048576 /\ LiesAt w B (O + 1) z.2.h.cells /\ z.2.In w w.heap.size) Tryd.underlying28 cFld (by omega) g7 (fun B O m cs' y hm hl' hc hy hyM => by
  obtain ⟨ys,m',hm',hyx,_,hlen',hf'⟩:=DataW.trod_struct Tryd.underlying76 hy
  match cs',hl' with
  | a0 :: rest,hl'' =>
  match ys,hlen' with
  | [y0,y1],_ =>
  rw [hyx] at hyM
  simp only [List.map_cons,List.map_nil,Rows.uptoBulk,Rows.uptoBulkAll] at hyM
  obtain ⟨key,rfl,hkey⟩:=str1 (n:=m') (c:=a0) (x:=y0) (by simpa [cStr] using hf' 0 _ rfl)
  have hr : rest.length = 13:=by simpa using hl''
  obtain ⟨T,rfl,hT⟩:=ih m' (by omega) (cs:=rest) (x:=y1) (by simpa [cVal,List.take_of_length_le (Nat.le_of_eq hr)] using hf' 1 _ rfl) (by omega)
  exact ⟨(key,T),by simpa using hc 0 (by omega),by dsimp only;omega,fun j hj => by
   have hj' : j < 13:=hj
   have:=hc (1 + j) (by omega)
   rw [Nat.add_assoc,this,Nat.add_comm 1 j,List.getElem?_cons_succ,Array.getElem?_toList],hT⟩) (by omega)
 simp only [List.cons.injEq,and_true] at e10 e11 e12
 subst e10 e11 e12
 exact ⟨.mk ⟨k,b,dn,dd,de,tk,td,tn,tz,s,ba,bn,bc,la,ln,lc,fa,fn,fc,bb,bo,lb,lo,fb,fo⟩ Y L (fun i => (F i).1) (fun i => (F i).2),rfl,
  ⟨hk,hde,htk,htd,htn,htz,by dsimp only;omega,by dsimp only;omega,hbn,hln,hfn,hlc,hfc⟩,hba,fun i hi => by simpa using hY i hi,hla,hL,hfa,hF⟩
end
end Go.Proofs.YtpcbhneaaibfiaaDoor
namespace Go.Proofs.YtpcbhneaaibfiaaDoor
open Go.RowKit
structure Vh.flat (h g : Vh) : Prop where
 k : h.k = g.k
 b : h.b = g.b
 n : h.n = g.n
 d : h.d = g.d
 e : h.e = g.e
 tk : h.tk = g.tk
 td : h.td = g.td
 tn : h.tn = g.tn
 tz : h.tz = g.tz
 x : h.x = g.x
 bn : h.bn = g.bn
 ln : h.ln = g.ln
 fn : h.fn = g.fn
theorem Vh.flat.refl (h : Vh) : h.flat h:=⟨rfl,rfl,rfl,rfl,rfl,rfl,rfl,rfl,rfl,rfl,rfl,rfl,rfl⟩
theorem Vh.flat.symm {h g : Vh} (a : h.flat g) : g.flat h:=⟨a.k.symm,a.b.symm,a.n.symm,a.d.symm,a.e.symm,a.tk.symm,a.td.symm,a.tn.symm,a.tz.symm,a.x.symm,a.bn.symm,a.ln.symm,a.fn.symm⟩
theorem Vh.flat.trans {h g l : Vh} (a : h.flat g) (b : g.flat l) : h.flat l:=⟨a.k.trans b.k,a.b.trans b.b,a.n.trans b.n,a.d.trans b.d,a.e.trans b.e,a.tk.trans b.tk,a.td.trans b.td,a.tn.trans b.tn,a.tz.trans b.tz,a.x.trans b.x,a.bn.trans b.bn,a.ln.trans b.ln,a.fn.trans b.fn⟩
def Vt.Same : Vt -> Vt -> Prop
 | .nil,_ => False
 | .mk h Y L K F,U => U ≠ .nil /\ h.flat U.h /\ (∀ i,i < h.bn -> Y i = U.Y i) /\ (∀ i,i < h.ln -> (L i).Same (U.L i)) /\ (∀ i,i < h.fn -> K i = U.K i /\ (F i).Same (U.F i))
theorem Vt.Same.left {T U : Vt} (h : T.Same U) : T ≠ .nil:=by
 cases T with
 | nil => exact h.elim
 | mk => intro e;cases e
theorem Vt.Same.right {T U : Vt} (h : T.Same U) : U ≠ .nil:=by
 cases T with
 | nil => exact h.elim
 | mk => exact h.1
theorem Vt.Same.flat {T U : Vt} (h : T.Same U) : T.h.flat U.h:=by
 cases T with
 | nil => exact h.elim
 | mk => exact h.2.1
theorem Vt.Same.Y {T U : Vt} (h : T.Same U) {i : Nat} (hi : i < T.h.bn) : T.Y i = U.Y i:=by
 cases T with
 | nil => exact h.elim
 | mk => exact h.2.2.1 i hi
theorem Vt.Same.L {T U : Vt} (h : T.Same U) {i : Nat} (hi : i < T.h.ln) : (T.L i).Same (U.L i):=by
 cases T with
 | nil => exact h.elim
 | mk => exact h.2.2.2.1 i hi
theorem Vt.Same.K {T U : Vt} (h : T.Same U) {i : Nat} (hi : i < T.h.fn) : T.K i = U.K i:=by
 cases T with
 | nil => exact h.elim
 | mk => exact (h.2.2.2.2 i hi).1
theorem Vt.Same.F {T U : Vt} (h : T.Same U) {i : Nat} (hi : i < T.h.fn) : (T.F i).Same (U.F i):=by
 cases T with
 | nil => exact h.elim
 | mk => exact (h.2.2.2.2 i hi).2
theorem Vt.same_mk {T U : Vt} (ht : T ≠ .nil) (hu : U ≠ .nil) (h : T.h.flat U.h) (hy : ∀ i,i < T.h.bn -> T.Y i = U.Y i) (hl : ∀ i,i < T.h.ln -> (T.L i).Same (U.L i)) (hf : ∀ i,i < T.h.fn -> T.K i = U.K i /\ (T.F i).Same (U.F i)) : T.Same U:=by
 cases T with
 | nil => exact absurd rfl ht
 | mk => exact ⟨hu,h,hy,hl,hf⟩
theorem Vt.Same.symm : ∀ {T U : Vt},T.Same U -> U.Same T:=by
 intro T
 induction T with
 | nil => intro U h;exact h.elim
 | mk h Y L K F ihL ihF =>
  intro U hs
  have fl:=hs.flat
  refine Vt.same_mk hs.right hs.left fl.symm ?_ ?_ ?_
  ·intro i hi
   exact (hs.Y (show i < h.bn by rw [show h.bn = U.h.bn from fl.bn];exact hi)).symm
  ·intro i hi
   exact ihL i (hs.L (show i < h.ln by rw [show h.ln = U.h.ln from fl.ln];exact hi))
  ·intro i hi
   have hi' : i < h.fn:=by rw [show h.fn = U.h.fn from fl.fn];exact hi
   exact ⟨(hs.K hi').symm,ihF i (hs.F hi')⟩
theorem Vt.Same.trans : ∀ {T U V : Vt},T.Same U -> U.Same V -> T.Same V:=by
 intro T
 induction T with
 | nil => intro U V h;exact h.elim
 | mk h Y L K F ihL ihF =>
  intro U V a b
  have fl:=a.flat
  have g1 : h.bn = U.h.bn:=fl.bn
  have g2 : h.ln = U.h.ln:=fl.ln
  have g3 : h.fn = U.h.fn:=fl.fn
  refine Vt.same_mk a.left b.right (fl.trans b.flat) ?_ ?_ ?_
  ·intro i hi
   exact (a.Y hi).trans (b.Y (by rw [<- g1];exact hi))
  ·intro i hi
   exact ihL i (a.L hi) (b.L (by rw [<- g2];exact hi))
  ·intro i hi
   exact ⟨(a.K hi).trans (b.K (by rw [<- g3];exact hi)),ihF i (a.F hi) (b.F (by rw [<- g3];exact hi))⟩
def Vt.whole : Vt -> Prop
 | .nil => False
 | .mk h _ L _ F => (∀ i,i < h.ln -> (L i).whole) /\ (∀ i,i < h.fn -> (F i).whole)
theorem Vt.Same.rfl' : ∀ {T : Vt},T.whole -> T.Same T:=by
 intro T
 induction T with
 | nil => intro h;exact h
 | mk h Y L K F ihL ihF =>
  intro hw
  exact ⟨(fun e => by cases e),Vh.flat.refl h,fun _ _ => rfl,fun i hi => ihL i (hw.1 i hi),fun i hi => ⟨rfl,ihF i (hw.2 i hi)⟩⟩
theorem Vt.In.whole {W : World} {top : Nat} : ∀ {T : Vt},T.In W top -> T.whole:=by
 intro T
 induction T with
 | nil => exact fun h => h
 | mk h Y L K F ihL ihF =>
  intro hT
  obtain ⟨_,_,_,_,h4,_,h6⟩:=hT
  exact ⟨fun i hi => ihL i (h4 i hi).2,fun i hi => ihF i (h6 i hi).2.2.2⟩
theorem Vt.Same.whole : ∀ {T U : Vt},T.Same U -> T.whole:=by
 intro T
 induction T with
 | nil => intro U h;exact h
 | mk h Y L K F ihL ihF => intro U hs;exact ⟨fun i hi => ihL i (hs.L hi),fun i hi => ihF i (hs.F hi)⟩
def Vt.kn (T : Vt) : Nat:=if T.h.k = 7 then T.h.fn else T.h.ln
def Vt.kid (T : Vt) (i : Nat) : Vt:=if T.h.k = 7 then T.F i else T.L i
def sumN (f : Nat -> Nat) : Nat -> Nat
 | 0 => 0
 | n + 1 => sumN f n + f n
theorem sumN_mono {f : Nat -> Nat} {m : Nat} : ∀ {n : Nat},m <= n -> sumN f m <= sumN f n:=by
 intro n
 induction n with
 | zero => intro h;rw [Nat.le_zero.1 h];exact Nat.le_refl _
 | succ n ih =>
  intro h
  show sumN f m <= sumN f n + f n
  by_cases e : m = n + 1
  ·subst e;exact Nat.le_refl _
  ·have:=ih (by omega);omega
def Vt.size : Vt -> Nat
 | .nil => 1
 | .mk h _ L _ F => 1 + if h.k = 7 then sumN (fun i => (F i).size) h.fn else sumN (fun i => (L i).size) h.ln
theorem Vt.size_eq {T : Vt} (hT : T ≠ .nil) : T.size = 1 + sumN (fun i => (T.kid i).size) T.kn:=by
 cases T with
 | nil => exact absurd rfl hT
 | mk h Y L K F =>
  by_cases k7 : h.k = 7
  ·have e1 : (Vt.mk h Y L K F).kn = h.fn:=if_pos k7
   have e2 : ∀ i,(Vt.mk h Y L K F).kid i = F i:=fun i => if_pos k7
   show 1 + (if h.k = 7 then _ else _) = _
   rw [if_pos k7,e1]
   simp only [e2]
  ·have e1 : (Vt.mk h Y L K F).kn = h.ln:=if_neg k7
   have e2 : ∀ i,(Vt.mk h Y L K F).kid i = L i:=fun i => if_neg k7
   show 1 + (if h.k = 7 then _ else _) = _
   rw [if_neg k7,e1]
   simp only [e2]
end Go.Proofs.YtpcbhneaaibfiaaDoor
