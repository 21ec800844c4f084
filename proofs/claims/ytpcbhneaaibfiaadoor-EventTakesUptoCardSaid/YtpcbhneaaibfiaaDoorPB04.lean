/- Laid together. -/
import Derived.Test.YtpcbhneaaibfiaaDoorPB03
import Derived.OwnWalk
import Derived.Maps.AppendAt
import Derived.Laws.AppendOwn
import Derived.Deep.QuietTactic
import Derived.BigQuiet
import Derived.Test.YtpcbhneaaibfiaaDoorPB01
import Derived.RangeFuncBox
import Derived.RangeFuncNested
import Derived.RangeFuncWrites
import Derived.Lib.Hide
import Derived.BigRegion
set_option linter.unusedVariables false
set_option linter.unusedSimpArgs false
set_option maxHeartbeats 16000000
set_option maxRecDepth 100000
namespace Go.Proofs.YtpcbhneaaibfiaaDoor
open Go.RowKit
theorem at_char {s : ByteArray} {rs : List Int} {rest : List UInt8} (h : Utf.Split s.data.toList rs rest) (k : Nat) (hk : k < rs.length) : Utf.off rs k < s.size /\ Utf.dec (from_ s (Utf.off rs k)) = (rs[k],Utf.wid rs[k]) :=
 ⟨by simpa using Utf.off_lt h k hk,Utf.dec_off h k hk⟩
theorem at_end {s : ByteArray} {rs : List Int} {rest : List UInt8} (h : Utf.Split s.data.toList rs rest) : s.size = Utf.off rs rs.length + rest.length /\ Utf.dec (from_ s (Utf.off rs rs.length)) = (0,0) :=
 ⟨by have:=Utf.len_split h;simpa using this,Utf.dec_end h⟩
theorem decode_char {s : ByteArray} {rs : List Int} {rest : List UInt8} (h : Utf.Split s.data.toList rs rest) (hs : s.size <= maxLen) (k : Nat) (hk : k < rs.length) (w : World) :
 Calls Tryd.prog 80 #[.string s,.int .i64 (Utf.off rs k)] w fun e w' => e = .returned (.tuple #[.int .i64 rs[k],.int .i64 (Utf.wid rs[k])]) /\ w = w':=by
 obtain ⟨h1,h2⟩:=at_char h k hk
 have:=decode_at s (Utf.off rs k) w hs h1
 rw [h2] at this
 exact this
theorem rdecode_char {s : ByteArray} {rs : List Int} {rest : List UInt8} (h : Utf.Split s.data.toList rs rest) (hs : s.size <= maxLen) (k : Nat) (hk : k < rs.length) (w : World) :
 Calls Tryd.prog 75 #[.string s,.int .i64 (Utf.off rs k)] w fun e w' => e = .returned (.tuple #[.int .i64 rs[k],.int .i64 (Utf.wid rs[k])]) /\ Below w.heap.size w w':=by
 obtain ⟨h1,h2⟩:=at_char h k hk
 have:=rdecode_at s (Utf.off rs k) w hs h1
 rw [h2] at this
 exact this
theorem decode_rest {s : ByteArray} {rs : List Int} {rest : List UInt8} (h : Utf.Split s.data.toList rs rest) (hs : s.size <= maxLen) (hr : 0 < rest.length) (w : World) :
 Calls Tryd.prog 80 #[.string s,.int .i64 (Utf.off rs rs.length)] w fun e w' => e = .returned (.tuple #[.int .i64 0,.int .i64 0]) /\ w = w':=by
 obtain ⟨h1,h2⟩:=at_end h
 have:=decode_at s (Utf.off rs rs.length) w hs (by omega)
 rw [h2] at this
 exact this
theorem rdecode_rest {s : ByteArray} {rs : List Int} {rest : List UInt8} (h : Utf.Split s.data.toList rs rest) (hs : s.size <= maxLen) (hr : 0 < rest.length) (w : World) :
 Calls Tryd.prog 75 #[.string s,.int .i64 (Utf.off rs rs.length)] w fun e w' => e = .returned (.tuple #[.int .i64 0,.int .i64 0]) /\ Below w.heap.size w w':=by
 obtain ⟨h1,h2⟩:=at_end h
 have:=rdecode_at s (Utf.off rs rs.length) w hs (by omega)
 rw [h2] at this
 exact this
def lenN (rs : List Int) (rest : List UInt8) : Int:=if rest.length = 0 then rs.length else 0
def lenE (rest : List UInt8) : Int:=if rest.length = 0 then 0 else 5
theorem len_any {s : ByteArray} {rs : List Int} {rest : List UInt8} (h : Utf.Split s.data.toList rs rest) (hs : s.size <= maxLen) (w : World) :
 Calls Tryd.prog 69 #[.string s] w fun e w' => e = .returned (.tuple #[.int .i64 (lenN rs rest),.int .i64 (lenE rest)]) /\ w = w':=by
 have hend:=at_end h
 have hcnt:=Utf.count_le h
 have HE:=hend.1
 have hcl : rs.length <= s.size:=by simpa using hcnt
 have HN : Hid (lenN rs rest = if rest.length = 0 then (rs.length : Int) else 0):=Lib.hid rfl
 have HM : Hid (lenE rest = if rest.length = 0 then 0 else 5):=Lib.hid rfl
 have hs':=hs
 unfold maxLen at hs'
 have HS:=Lib.hid hs;clear hs
 have HSP:=Lib.hid h;clear h hend hcnt
 have HE':=Lib.hid HE;clear HE
 go_enter Tryd.func69,Tryd.ntmps69
 go_wp2
 go_loop [4,5] (fun n i => ∃ k : Nat,k <= rs.length /\ n = .int .i64 k /\ i = .int .i64 (Utf.off rs k)) (fun n _ => rs.length - (intOf n).toNat)
 case atStart => exact ⟨0,by omega,rfl,rfl⟩
 case round =>
  obtain ⟨k,hk,rfl,rfl⟩:=hrel
  by_cases hlt : k < rs.length
  ·have hlt' : Utf.off rs k < s.size:=(at_char HSP.out k hlt).1
   have hw:=Utf.wid_bd rs[k]
   have hle : Utf.off rs k + Utf.wid rs[k] <= s.size:=by rw [<- Utf.off_succ rs k hlt];simpa using Utf.off_le HSP.out (k + 1)
   have t1 : ((Utf.wid rs[k] : Int) == 0) = false:=by simp;omega
   have HO:=Lib.hid (Utf.off_succ rs k hlt)
   go_wp2_with (go_at_call 80;refine (decode_char HSP.out HS.out k hlt _).mono ?_;rintro e w' ⟨rfl,rfl⟩)
   go_round
   case rel => exact ⟨k + 1,by omega,by go_num,by rw [HO.out];go_num⟩
   case measure => simp [intOf];omega
  ·obtain rfl : k = rs.length:=by omega
   by_cases hr : rest.length = 0
   ·have hlt' : ¬ Utf.off rs rs.length < s.size:=by have:=HE'.out;omega
    have HR:=Lib.hid hr;clear hr
    go_wp2
    go_ret2
    rw [HN.out,HM.out,if_pos HR.out,if_pos HR.out]
    exact ⟨rfl,rfl⟩
   ·have hlt' : Utf.off rs rs.length < s.size:=by have:=HE'.out;omega
    have HR:=Lib.hid hr;clear hr
    go_wp2_with (go_at_call 80;refine (decode_rest HSP.out HS.out (by have:=HR.out;omega) _).mono ?_;rintro e w' ⟨rfl,rfl⟩)
    go_ret2
    rw [HN.out,HM.out,if_neg HR.out,if_neg HR.out]
    exact ⟨rfl,rfl⟩
theorem valid_any {s : ByteArray} {rs : List Int} {rest : List UInt8} (h : Utf.Split s.data.toList rs rest) (hs : s.size <= maxLen) (w : World) :
 Calls Tryd.prog 62 #[.string s] w fun e w' => e = .returned (.bool (decide (rest.length = 0))) /\ w = w':=by
 have HL:=Lib.hid (len_any h hs)
 clear h
 by_cases hr : rest.length = 0
 ·have e1 : lenE rest = 0:=by unfold lenE;rw [if_pos hr]
  rw [e1] at HL
  rw [decide_eq_true hr]
  clear e1 hr
  go_enter Tryd.func62,Tryd.ntmps62
  go_wp2_with (go_at_call 69;refine (HL.out _).mono ?_;rintro e w' ⟨rfl,rfl⟩)
  go_ret
  exact ⟨rfl,rfl⟩
 ·have e1 : lenE rest = 5:=by unfold lenE;rw [if_neg hr]
  rw [e1] at HL
  rw [decide_eq_false hr]
  clear e1 hr
  go_enter Tryd.func62,Tryd.ntmps62
  go_wp2_with (go_at_call 69;refine (HL.out _).mono ?_;rintro e w' ⟨rfl,rfl⟩)
  go_ret
  exact ⟨rfl,rfl⟩
def bounds (rs : List Int) (n : Nat) : List Value:=(List.range n).map fun i => Value.int .i64 (Utf.off rs i)
theorem bounds_succ (rs : List Int) (n : Nat) : bounds rs (n + 1) = bounds rs n ++ [.int .i64 (Utf.off rs n)]:=by unfold bounds;rw [List.range_succ,List.map_append];rfl
theorem Tryd.infoInt : (Tryd.prog.info? 3).map (fun i => (i.zero,i.size,i.bytes)) = some (some (.int .i64 0),1,8):=by kernel_rfl
theorem boundaries_any {s : ByteArray} {rs : List Int} {rest : List UInt8} (h : Utf.Split s.data.toList rs rest) (hs : s.size <= 1048576) (w : World) :
 Calls Tryd.prog 67 #[.string s] w fun e w' =>
  ∃ v : Value,e = .returned (.tuple #[v,.bool (decide (rest.length = 0))]) /\ w'.ownsRow w.heap.size 3 1 v (rs.length + 1) (bounds rs (rs.length + 1)) /\ Below w.heap.size w w':=by
 obtain ⟨i0,hi,hz0,hz1,hz2⟩:=info_parts Tryd.infoInt
 have HE:=(at_end h).1
 have hcl : rs.length <= s.size:=by simpa using Utf.count_le h
 have HS : Hid (s.size <= maxLen):=Lib.hid (by unfold maxLen;omega)
 have HSP:=Lib.hid h;clear h
 have HE':=Lib.hid HE;clear HE
 go_enter Tryd.func67,Tryd.ntmps67
 go_wp2
 go_loopw [4,5] (fun v i wr => ∃ k : Nat,k <= rs.length /\ i = .int .i64 (Utf.off rs k) /\ wr.ownsRow w.heap.size 3 1 v (k + 1) (bounds rs (k + 1)) /\ Below w.heap.size w wr) (fun _ i _ => s.size - (intOf i).toNat)
 case atStart =>
  exact ⟨0,by omega,rfl,World.ownsRow_lit w #[.int .i64 0] 1 (Nat.le_refl _) (by decide) (by decide),(Below.refl _ _).alloc (Nat.le_refl _) _⟩
 case round =>
  obtain ⟨k,hk,rfl,hown,hbr⟩:=hrel
  by_cases hlt : k < rs.length
  ·have hlt' : Utf.off rs k < s.size:=(at_char HSP.out k hlt).1
   have hw:=Utf.wid_bd rs[k]
   have HO:=Lib.hid (Utf.off_succ rs k hlt)
   have hle : Utf.off rs k + Utf.wid rs[k] <= s.size:=by rw [<- HO.out];simpa using Utf.off_le HSP.out (k + 1)
   have t1 : ((Utf.wid rs[k] : Int) == 0) = false:=by simp;omega
   have HC:=Lib.hid (rdecode_char HSP.out HS.out k hlt)
   go_wp2_with (first | (go_at_call 75;refine (HC.out _).mono ?_;rintro e w2 ⟨rfl,hb2⟩;have hown2:=own_below hown hb2;have hsz2:=hb2.size;replace hbr:=hbr.trans (hb2.mono hbr.size)) | (at_builtin;refine wpList_append_own _ rfl _ _ 111 rfl w.heap.size 3 i0 (.int .i64 0) 1 8 Tryd.underlying111 hi hz0 hz1 hz2 rfl (by decide) _ _ _ rfl (hown2.alloc _) ⟨w2.heap.size,0,none⟩ 1 1 [.int .i64 (Utf.off rs k + Utf.wid rs[k])] rfl rfl ?c1 ?c2 ?c3 ?c4 ?c5 ?_))
   case c1 => exact cell_one_new _ _ _
   case c2 => simp [Value.oneCell']
   case c3 => unfold maxLen;omega
   case c4 => omega
   case c5 => have:=hbr.size;simp;omega
   intro v' w3 hown3 hgrow _
   have hb3:=below_grown hbr hbr.size hown2 (Nat.le_refl _) hgrow
   rw [<- Int.natCast_add,<- HO.out,<- bounds_succ] at hown3
   clear hown hown2 hgrow
   go_wp2
   go_roundw
   case rel => exact ⟨k + 1,by omega,by rw [HO.out];go_num,hown3,hb3⟩
   case measure => simp [intOf];omega
  ·obtain rfl : k = rs.length:=by omega
   by_cases hr : rest.length = 0
   ·have hlt' : ¬ Utf.off rs rs.length < s.size:=by have:=HE'.out;omega
    have HR:=Lib.hid hr;clear hr
    go_wp2
    go_ret2
    rw [decide_eq_true HR.out]
    exact ⟨_,rfl,hown,hbr⟩
   ·have hlt' : Utf.off rs rs.length < s.size:=by have:=HE'.out;omega
    have HC:=Lib.hid (rdecode_rest HSP.out HS.out (by omega))
    have HR:=Lib.hid hr;clear hr
    go_wp2_with (go_at_call 75;refine (HC.out _).mono ?_;rintro e w2 ⟨rfl,hb2⟩;have hown2:=own_below hown hb2;replace hbr:=hbr.trans (hb2.mono hbr.size))
    go_ret2
    rw [decide_eq_false HR.out]
    exact ⟨_,rfl,hown2,hbr⟩
theorem rvalid_any {s : ByteArray} {rs : List Int} {rest : List UInt8} (h : Utf.Split s.data.toList rs rest) (hs : s.size <= 1048576) (w : World) :
 Calls Tryd.prog 58 #[.string s] w fun e w' => e = .returned (.bool (decide (rest.length = 0))) /\ Below w.heap.size w w':=by
 have HB:=Lib.hid (boundaries_any h hs)
 clear h
 generalize decide (rest.length = 0) = b at *
 go_enter Tryd.func58,Tryd.ntmps58
 go_wp2_with fail
 refine (HB.out _).mono ?_;rintro e w1 ⟨v,rfl,hown,hb1⟩
 go_wp2_with fail
 go_ret
 exact ⟨rfl,hb1⟩
theorem below_drewN' {B : Nat} {a w : World} (h : Below B a w) (n : Nat) : Below B a (w.drewN n):=⟨h.os,h.tape,h.output,h.size,h.block⟩
noncomputable def Utf.left (s : ByteArray) : List UInt8:=Classical.choose (Classical.choose_spec (Utf.split_ex s.data.toList))
theorem Utf.left_split (s : ByteArray) : ∃ rs,Utf.Split s.data.toList rs (Utf.left s):=⟨_,Classical.choose_spec (Classical.choose_spec (Utf.split_ex s.data.toList))⟩
noncomputable def utfB (s : ByteArray) : Bool:=decide ((Utf.left s).length = 0)
theorem rutf_any {s : ByteArray} (hs : s.size <= 1048576) (w : World) : Calls Tryd.prog 58 #[.string s] w fun e w' => e = .returned (.bool (utfB s)) /\ Below w.heap.size w w':=by
 obtain ⟨rs,h⟩:=Utf.left_split s
 exact rvalid_any h hs w
theorem putf_any {s : ByteArray} (hs : s.size <= 1048576) (w : World) : Calls Tryd.prog 62 #[.string s] w fun e w' => e = .returned (.bool (utfB s)) /\ w = w':=by
 obtain ⟨rs,h⟩:=Utf.left_split s
 exact valid_any h (by unfold maxLen;omega) w
noncomputable def keyE (K : Nat -> ByteArray) (i : Nat) : Int:=if utfB (K i) = false then 5 else if 1024 < (K i).size then 10 else if ∃ k,k < i /\ K k = K i then 8 else 0
noncomputable def keysE (K : Nat -> ByteArray) : Nat -> Int
 | 0 => 0
 | n + 1 => if keysE K n ≠ 0 then keysE K n else keyE K n
theorem keysE_stays {K : Nat -> ByteArray} {n : Nat} (h : keysE K n ≠ 0) : ∀ m,n <= m -> keysE K m = keysE K n:=by
 intro m hm
 induction m with
 | zero =>
  obtain rfl : n = 0:=by omega
  rfl
 | succ m ih =>
  by_cases hn : n = m + 1
  ·rw [hn]
  ·have e:=ih (by omega)
   show (if keysE K m ≠ 0 then keysE K m else keyE K m) = _
   rw [if_pos (by rw [e];exact h),e]
theorem keysE_bad {K : Nat -> ByteArray} {k n : Nat} (h : keysE K k = 0) (hk : k < n) (hb : keyE K k ≠ 0) : keysE K n = keyE K k:=by
 have e : keysE K (k + 1) = keyE K k:=by
  show (if keysE K k ≠ 0 then keysE K k else keyE K k) = _
  rw [if_neg (by simp [h])]
 rw [keysE_stays (by rw [e];exact hb) n (by omega),e]
theorem keysE_next {K : Nat -> ByteArray} {k : Nat} (h : keysE K k = 0) (hb : keyE K k = 0) : keysE K (k + 1) = 0:=by
 show (if keysE K k ≠ 0 then keysE K k else keyE K k) = _
 rw [if_neg (by simp [h]),hb]
end Go.Proofs.YtpcbhneaaibfiaaDoor
namespace Go.Proofs.YtpcbhneaaibfiaaDoor
open Go.ChangeShapes Go.WideShapes Go.Joins Go.Deep Go.RowKit
structure Stp where
 ix : Bool
 key : ByteArray
 n : Int
instance : Inhabited Stp:=⟨⟨false,ByteArray.empty,0⟩⟩
def Stp.cells (s : Stp) : Array Value:=#[.bool s.ix,.string s.key,.int .i64 s.n]
structure Stp.ok (s : Stp) : Prop where
 key : s.key.size <= 1048576
 n : w64 s.n
structure Pth where
 a : Option Addr
 n : Nat
 c : Nat
 b : Nat
 o : Nat
 S : Nat -> Stp
def Pth.In (W : World) (top : Nat) (p : Pth) : Prop:=(0 < p.n -> p.a = some ⟨p.b,p.o,none⟩ /\ p.b < top) /\ (p.n <= 1048576 /\ p.n <= p.c /\ p.c <= maxLen) /\ ∀ i,i < p.n -> LiesAt W p.b (p.o + i * 3) (p.S i).cells /\ (p.S i).ok
theorem Pth.In.below {W W' : World} {top : Nat} {p : Pth} (h : p.In W top) (hb : Below top W W') : p.In W' top :=
 ⟨h.1,h.2.1,fun i hi => ⟨(h.2.2 i hi).1.below hb (h.1 (by omega)).2,(h.2.2 i hi).2⟩⟩
theorem Pth.In.up {W : World} {top top' : Nat} {p : Pth} (h : p.In W top) (hle : top <= top') : p.In W top' :=
 ⟨fun q => ⟨(h.1 q).1,Nat.lt_of_lt_of_le (h.1 q).2 hle⟩,h.2⟩
theorem LiesAt.s3 {W : World} {b o : Nat} {s : Stp} (H : LiesAt W b o s.cells) : W.cell? ⟨b,o,none⟩ = some (.bool s.ix) /\ W.cell? ⟨b,o + 1,none⟩ = some (.string s.key) /\ W.cell? ⟨b,o + 2,none⟩ = some (.int .i64 s.n) :=
 have z : s.cells.size = 3:=rfl
 ⟨H 0 (by omega),H 1 (by omega),H 2 (by omega)⟩
theorem cStp : Tryd.prog.cellsOf 78 = 3:=by kernel_rfl
section
variable {H : Type} {enc : TypeId × Value -> H} {w : World} {base : Nat} {spare : Nat -> Bool} {held : Bool}
theorem stp3 {n : Nat} {cs : List Value} {x : DataW H × List MemPlace} (hl : cs.length = 3) (h : DataW.trod enc Tryd.prog w base spare held n 78 cs = some x) (hM : Rows.uptoBulk x.1 <= 1048576) : ∃ s : Stp,cs = s.cells.toList /\ s.ok:=by
 match cs,hl with
 | [c0,c1,c2],_ =>
 obtain ⟨xs,m,_,hx,_,hlen,hf⟩:=DataW.trod_struct Tryd.underlying78 h
 match xs,hlen with
 | [x0,x1,x2],_ =>
 obtain ⟨a,rfl⟩:=bool1 (n:=m) (c:=c0) (x:=x0) (by simpa [cBool] using hf 0 _ rfl)
 obtain ⟨s,rfl,hs⟩:=str1 (n:=m) (c:=c1) (x:=x1) (by simpa [cStr] using hf 1 _ rfl)
 obtain ⟨e,rfl,he⟩:=int1 (n:=m) (c:=c2) (x:=x2) (by simpa [cInt] using hf 2 _ rfl)
 rw [hx] at hM
 simp only [List.map_cons,List.map_nil,Rows.uptoBulk,Rows.uptoBulkAll] at hM
 exact ⟨⟨a,s,e⟩,rfl,by dsimp only;omega,he⟩
theorem open_path {r : Reach} {b0 : Nat} {v : Value} {d : DataW H} {p : List MemPlace} (hv : Value.okWide Tryd.prog w r b0 42 v) (h : DataW.Trod enc Tryd.prog w base spare held 42 v d p) (hM : Rows.uptoBulk d <= 1048576) :
 ∃ q : Pth,v = .slice q.a q.n q.c /\ q.In w w.heap.size:=by
 obtain ⟨a',len',cap',rfl⟩:=okWide_slice Tryd.underlying42 hv
 obtain ⟨fuel,hf⟩:=h
 obtain ⟨a,len,cap,b,o,S,hcs,hcc,hn,ha,hS⟩:=row_down (α:=Stp) (fun B O z => LiesAt w B O z.cells /\ z.ok) Tryd.underlying42 cStp (by omega) hf (fun B O m cs' y _ hl' hc hy hyM => by
  obtain ⟨s,rfl,hs⟩:=stp3 hl' hy hyM
  exact ⟨s,fun j hj => by rw [hc j hj,Array.getElem?_toList],hs⟩) hM
 have e : Value.slice a' len' cap' = .slice a len cap:=by
  simp only [Value.cells,List.cons.injEq,and_true] at hcs
  exact hcs
 exact ⟨⟨a,len,cap,b,o,S⟩,e,ha,⟨hn,hcc⟩,hS⟩
end
def stepOk (s : Stp) : Prop:=if s.ix = true then s.key.toList = [] /\ 0 <= s.n /\ s.n <= 65536 else s.n = 0 /\ s.key.size <= 1024 /\ utfB s.key = true
def pathOk (S : Nat -> Stp) (n : Nat) : Prop:=n <= 48 /\ ∀ i,i < n -> stepOk (S i)
noncomputable def pathB (S : Nat -> Stp) (n : Nat) : Bool:=@decide (pathOk S n) (Classical.propDecidable _)
theorem pathB_yes {S : Nat -> Stp} {n : Nat} (h : pathOk S n) : pathB S n = true:=@decide_eq_true _ (Classical.propDecidable _) h
theorem pathB_no {S : Nat -> Stp} {n : Nat} (h : ¬ pathOk S n) : pathB S n = false:=@decide_eq_false _ (Classical.propDecidable _) h
noncomputable def fidx (K : Nat -> ByteArray) (key : ByteArray) : Nat -> Nat
 | 0 => 0
 | n + 1 => if fidx K key n < n then fidx K key n else if K n = key then n else n + 1
theorem fidx_none {K : Nat -> ByteArray} {key : ByteArray} : ∀ {n : Nat},(∀ i,i < n -> K i ≠ key) -> fidx K key n = n:=by
 intro n
 induction n with
 | zero => intro _;rfl
 | succ n ih =>
  intro h
  unfold fidx
  rw [ih (fun i hi => h i (by omega)),if_neg (by omega),if_neg (h n (by omega))]
theorem fidx_first {K : Nat -> ByteArray} {key : ByteArray} {i : Nat} (hi : ∀ j,j < i -> K j ≠ key) (hk : K i = key) : ∀ {n : Nat},i < n -> fidx K key n = i:=by
 intro n
 induction n with
 | zero => intro h;omega
 | succ n ih =>
  intro h
  unfold fidx
  by_cases e : i = n
  ·subst e
   rw [fidx_none hi,if_neg (by omega),if_pos hk]
  ·rw [ih (by omega),if_pos (by omega)]
noncomputable def Vt.find (T : Vt) (s : Stp) : Int × Int :=
 if s.ix = true then (if T.h.k ≠ 6 then (0,6) else if s.n < 0 ∨ (T.h.ln : Int) <= s.n then (0,7) else (s.n,0))
 else if T.h.k ≠ 7 then (0,6) else if fidx T.K s.key T.h.fn < T.h.fn then ((fidx T.K s.key T.h.fn : Nat),0) else (0,7)
def Vt.part (T : Vt) (i : Nat) : Vt:=if T.h.k = 6 then T.L i else T.F i
theorem Vt.find_ok {T : Vt} {s : Stp} (h : (T.find s).2 = 0) : ∃ i : Nat,(T.find s).1 = i /\ ((s.ix = true /\ T.h.k = 6 /\ i < T.h.ln /\ s.n = i) ∨ (s.ix = false /\ T.h.k = 7 /\ i < T.h.fn /\ i = fidx T.K s.key T.h.fn)):=by
 unfold Vt.find at h ⊢
 split at h
 ·rename_i hx
  rw [if_pos hx]
  split at h
  ·simp at h
  ·rename_i h6
   split at h
   ·simp at h
   ·rename_i hn
    rw [if_neg h6,if_neg hn]
    exact ⟨s.n.toNat,by dsimp only;omega,.inl ⟨hx,by omega,by omega,by omega⟩⟩
 ·rename_i hx
  rw [if_neg hx]
  split at h
  ·simp at h
  ·rename_i h7
   split at h
   ·rename_i hf
    rw [if_neg h7,if_pos hf]
    exact ⟨_,rfl,.inr ⟨by simpa using hx,by omega,hf,rfl⟩⟩
   ·simp at h
theorem Vt.In.part {W : World} {top : Nat} {T : Vt} (h : T.In W top) {s : Stp} (h0 : (T.find s).2 = 0) : (T.part (T.find s).1.toNat).In W top:=by
 obtain ⟨i,e,hc⟩:=Vt.find_ok h0
 rw [e,Int.toNat_natCast]
 cases T with
 | nil => exact h.elim
 | mk g Y L K F =>
  obtain ⟨_,_,_,_,h4,_,h6⟩:=h
  unfold Vt.part
  rcases hc with ⟨_,k6,hi,_⟩ | ⟨_,k7,hi,_⟩
  ·rw [if_pos k6];exact (h4 i hi).2
  ·rw [if_neg (by rw [k7];decide)];exact (h6 i hi).2.2.2
end Go.Proofs.YtpcbhneaaibfiaaDoor
namespace Go.Proofs.YtpcbhneaaibfiaaDoor
open Go.RowKit
def Whole (W : World) (B : Nat) (t : TypeId) (cs : Array Value) : Prop:=W.heap[B]? = some (.cells cs t (0,0))
theorem Whole.lt {W : World} {B : Nat} {t : TypeId} {cs : Array Value} (h : Whole W B t cs) : B < W.heap.size:=(Array.getElem?_eq_some_iff.1 h).1
theorem Whole.cell {W : World} {B : Nat} {t : TypeId} {cs : Array Value} (h : Whole W B t cs) (i : Nat) : W.cell? ⟨B,i,none⟩ = cs[i]?:=by simp [World.cell?,show W.heap[B]? = _ from h]
theorem Whole.frozen {W : World} {B : Nat} {t : TypeId} {cs : Array Value} (h : Whole W B t cs) (i : Nat) : W.frozen? ⟨B,i,none⟩ = false:=by simp [World.frozen?,show W.heap[B]? = _ from h]
theorem Whole.c {W : World} {B : Nat} {t : TypeId} {a : Value} (h : Whole W B t #[a]) : W.cell? ⟨B,0,none⟩ = some a:=h.cell 0
theorem Whole.c0 {W : World} {B : Nat} {t : TypeId} {a b : Value} (h : Whole W B t #[a,b]) : W.cell? ⟨B,0,none⟩ = some a:=h.cell 0
theorem Whole.c1 {W : World} {B : Nat} {t : TypeId} {a b : Value} (h : Whole W B t #[a,b]) : W.cell? ⟨B,1,none⟩ = some b:=h.cell 1
theorem Whole.new (W : World) (t : TypeId) (cs : Array Value) : Whole (W.alloc (.cells cs t)) W.heap.size t cs:=World.alloc_heap_new W _
theorem Whole.kept {W W' : World} {row : Option Nat} {B : Nat} {t : TypeId} {cs : Array Value} (h : Whole W B t cs) (hg : W.grownBy W' row) (hne : some B ≠ row) : Whole W' B t cs:=(hg.block B h.lt hne).trans h
theorem Whole.alloc {W : World} {B : Nat} {t : TypeId} {cs : Array Value} (h : Whole W B t cs) (o : Obj) : Whole (W.alloc o) B t cs:=h.kept (World.grownBy_alloc W o none) (by simp)
theorem Whole.below {W W' : World} {n B : Nat} {t : TypeId} {cs : Array Value} (h : Whole W B t cs) (hb : Below n W W') (hn : B < n) : Whole W' B t cs:=(hb.block B hn).trans h
theorem Whole.drew {W : World} {B : Nat} {t : TypeId} {cs : Array Value} (h : Whole W B t cs) : Whole W.drew B t cs:=h
theorem Whole.far {W : World} {B : Nat} {t : TypeId} {cs : Array Value} (h : Whole W B t cs) {p : Addr} (hp : B ≠ p.block) (u : Value) : Whole (W.setCell p u) B t cs:=(Below.heap_setCell W p u B hp).trans h
theorem Whole.set {W : World} {B : Nat} {t : TypeId} {cs : Array Value} (h : Whole W B t cs) (i : Nat) (u : Value) : Whole (W.setCell ⟨B,i,none⟩ u) B t (cs.setIfInBounds i u):=by
 unfold Whole at h ⊢
 simp [World.setCell,Array.getElem?_modify,h]
theorem Whole.s {W : World} {B : Nat} {t : TypeId} {a : Value} (h : Whole W B t #[a]) (u : Value) : Whole (W.setCell ⟨B,0,none⟩ u) B t #[u]:=h.set 0 u
theorem Whole.s2 {W : World} {B : Nat} {t : TypeId} {a b : Value} (h : Whole W B t #[a,b]) (u v : Value) : Whole ((W.setCell ⟨B,0,none⟩ u).setCell ⟨B,1,none⟩ v) B t #[u,v]:=(h.set 0 u).set 1 v
theorem Whole.put {W : World} {B D : Nat} {t : TypeId} {cs : Array Value} {o : Obj} (h : Whole W B t cs) (hD : W.heap[D]? = some o) (hc : o.isCells = false) (o' : Obj) : Whole (W.putObj D o') B t cs :=
 h.kept (grownBy_putObj' W D o') (fun e => by cases e;rw [show W.heap[B]? = _ from h] at hD;cases hD;cases hc)
end Go.Proofs.YtpcbhneaaibfiaaDoor
namespace Go.Proofs.YtpcbhneaaibfiaaDoor
open Go.ChangeShapes Go.WideShapes Go.Joins Go.Deep Go.RowKit
def catN (f : Nat -> Array Value) : Nat -> List Value
 | 0 => []
 | n + 1 => catN f n ++ (f n).toList
theorem catN_len {f : Nat -> Array Value} {C : Nat} (hf : ∀ i,(f i).size = C) : ∀ n,(catN f n).length = n * C:=by
 intro n
 induction n with
 | zero => simp [catN]
 | succ n ih => rw [catN,List.length_append,ih,Array.length_toList,hf,Nat.succ_mul]
theorem catN_get {f : Nat -> Array Value} {C : Nat} (hf : ∀ i,(f i).size = C) {i j : Nat} (hj : j < C) : ∀ {n : Nat},i < n -> (catN f n)[i * C + j]? = (f i)[j]?:=by
 intro n
 induction n with
 | zero => intro h;omega
 | succ n ih =>
  intro h
  rw [catN]
  have hl:=catN_len hf n
  by_cases e : i = n
  ·subst e
   rw [List.getElem?_append_right (by omega),hl,Nat.add_sub_cancel_left,Array.getElem?_toList]
  ·have h1 : (i + 1) * C <= n * C:=Nat.mul_le_mul_right C (by omega)
   rw [Nat.succ_mul] at h1
   rw [List.getElem?_append_left (by omega)]
   exact ih (by omega)
theorem cells_new (w : World) (t : TypeId) (cs : Array Value) : ∀ j u,cs.toList[j]? = some u -> (w.alloc (.cells cs t)).cell? ((⟨w.heap.size,0,none⟩ : Addr).add j) = some u:=by
 intro j u h
 have hw:=Whole.new w t cs
 have:=hw.cell j
 rw [add_plain,Nat.zero_add,this,<- Array.getElem?_toList,h]
theorem own_lies {w : World} {base C n : Nat} {e : TypeId} {v : Value} {f : Nat -> Array Value} (hf : ∀ i,(f i).size = C) (h : w.ownsRow base e C v n (catN f n)) :
 ∃ (a : Option Addr) (c b : Nat),v = .slice a n c /\ (n <= c /\ c <= maxLen) /\ (0 < n -> a = some ⟨b,0,none⟩ /\ base <= b /\ b < w.heap.size) /\ ∀ i,i < n -> LiesAt w b (i * C) (f i):=by
 by_cases hn : n = 0
 ·subst hn
  rcases h.2 with ⟨rfl,_⟩ | ⟨g,cap,cur,rfl,_,_,hc1,hc2,_⟩
  ·exact ⟨none,0,0,rfl,⟨Nat.le_refl _,Nat.zero_le _⟩,fun h => absurd h (Nat.lt_irrefl _),fun i h => absurd h (Nat.not_lt_zero _)⟩
  ·exact ⟨_,cap,g,rfl,⟨hc1,hc2⟩,fun h => absurd h (Nat.lt_irrefl _),fun i h => absurd h (Nat.not_lt_zero _)⟩
 ·obtain ⟨g,cap,rfl,hb,hlt⟩:=own_form h (by omega)
  have hcc : n <= cap /\ cap <= maxLen:=by
   rcases h.2 with ⟨h0,_⟩ | ⟨g',cap',cur',h0,_,_,hc1,hc2,_⟩
   ·cases h0
   ·cases h0;exact ⟨hc1,hc2⟩
  refine ⟨_,cap,g,rfl,hcc,fun _ => ⟨rfl,hb,hlt⟩,fun i hi j hj => ?_⟩
  rw [hf] at hj
  have hg:=catN_get hf hj hi
  have hsome : (f i)[j]? = some ((f i)[j]'(by rw [hf];exact hj)):=Array.getElem?_eq_getElem _
  rw [hsome] at hg ⊢
  have:=h.cells (g:=g) rfl _ _ hg
  rwa [add_plain,Nat.zero_add] at this
theorem LiesAt.c13 {W : World} {b o : Nat} {h : Vh} (H : LiesAt W b o h.cells) :
 W.cell? ⟨b,o,none⟩ = some (.int .i64 h.k) /\ W.cell? ⟨b,o + 1,none⟩ = some (.bool h.b) /\ W.cell? ⟨b,o + 2,none⟩ = some (.bool h.n) /\ W.cell? ⟨b,o + 3,none⟩ = some (.string h.d) /\ W.cell? ⟨b,o + 4,none⟩ = some (.int .i64 h.e) /\
 W.cell? ⟨b,o + 5,none⟩ = some (.int .i64 h.tk) /\ W.cell? ⟨b,o + 6,none⟩ = some (.int .i64 h.td) /\ W.cell? ⟨b,o + 7,none⟩ = some (.int .i64 h.tn) /\ W.cell? ⟨b,o + 8,none⟩ = some (.int .i64 h.tz) /\ W.cell? ⟨b,o + 9,none⟩ = some (.string h.x) /\
 W.cell? ⟨b,o + 10,none⟩ = some (.slice h.ba h.bn h.bc) /\ W.cell? ⟨b,o + 11,none⟩ = some (.slice h.la h.ln h.lc) /\ W.cell? ⟨b,o + 12,none⟩ = some (.slice h.fa h.fn h.fc) :=
 have z : h.cells.size = 13:=rfl
 ⟨H 0 (by omega),H 1 (by omega),H 2 (by omega),H 3 (by omega),H 4 (by omega),H 5 (by omega),H 6 (by omega),H 7 (by omega),H 8 (by omega),H 9 (by omega),H 10 (by omega),H 11 (by omega),H 12 (by omega)⟩
theorem own_away {w : World} {base size n B : Nat} {e : TypeId} {v : Value} {xs : List Value} (h : w.ownsRow base e size v n xs) (hB : B < base) : some B ≠ v.ownBlock:=fun e' => by have:=(h.lt B e'.symm).1;omega
theorem vh_size (h : Vh) : h.cells.size = 13:=rfl
theorem vh_one (h : Vh) : ∀ u ∈ h.cells.toList,u.oneCell' = true:=by
 intro u hu
 simp only [Vh.cells,List.mem_cons,List.not_mem_nil,or_false] at hu
 rcases hu with rfl | rfl | rfl | rfl | rfl | rfl | rfl | rfl | rfl | rfl | rfl | rfl | rfl <;> rfl
theorem Tryd.infoVal : (Tryd.prog.info? 30).map (fun i => (i.zero,i.size,i.bytes)) = some (some (.agg Vh.zero.cells),13,168):=by kernel_rfl
theorem Tryd.infoFld : (Tryd.prog.info? 76).map (fun i => (i.zero,i.size,i.bytes)) = some (some (.agg (#[.string ⟨#[]⟩] ++ Vh.zero.cells)),14,184):=by kernel_rfl
end Go.Proofs.YtpcbhneaaibfiaaDoor
