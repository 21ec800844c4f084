/- Laid together. -/
import Derived.Test.YtpcbhneaaibfiaaDoorPB37
import Derived.Test.YtpcbhneaaibfiaaDoorPB38
import Derived.Test.YtpcbhneaaibfiaaDoorPB39
import Derived.Test.YtpcbhneaaibfiaaDoorPB34
import Derived.Test.YtpcbhneaaibfiaaDoorPB25
import Derived.Test.YtpcbhneaaibfiaaDoorPB30
import Derived.Test.YtpcbhneaaibfiaaDoorPB16
import Derived.Test.YtpcbhneaaibfiaaDoorPB05
import Derived.Test.YtpcbhneaaibfiaaDoorPB07
set_option linter.unusedVariables false
set_option linter.unusedSimpArgs false
set_option maxHeartbeats 16000000
set_option maxRecDepth 100000
namespace Go.Proofs.YtpcbhneaaibfiaaDoor
open Go.RowKit
theorem radd_any {r : Rst} {s : Bst} {l : List Ev} {x : Ev} {top : Nat} {w : World} (hr : r.In w top) (hx : x.ok) (hV : x.V.In w top) (ht : top <= w.heap.size) (his : r.is s l) (hi : s.inv) (hTn : r.T.n + 1 <= 1048576) :
 Calls Tryd.prog 22 #[.agg r.cells,.agg x.cells] w (RAddOut r x w):=by
 have hnd : r.nd <= 65536:=by rw [his.nd];exact hi.ok.nd
 by_cases h0 : r.addE x = 0
 ·obtain ⟨hw,hs,hf⟩:=radd_zero h0
  have hfr : 0 < r.O.n -> (r.O.O (r.O.n - 1)).k.n + 1 <= 1048576 /\ (r.O.O (r.O.n - 1)).cnt <= 1048576:=fun q => by
   have hq:=his.O (r.O.n - 1) (by have:=his.d;omega)
   have h1:=(hi.ok.fr (r.O.n - 1) (by have:=his.d;omega)).1
   have h2:=hi.ok.nd
   rw [hq.kn,hq.cnt]
   constructor
   ·split
    ·split <;> omega
    ·omega
   ·split <;> omega
  by_cases q : 0 < r.O.n
  ·exact radd_ok hr hx hV ht hnd hTn h0 q (fun _ => (hfr q).1) (hfr q).2
  ·exact radd_ok0 hr hx hV ht hnd hTn h0 (by omega)
 ·cases hw : r.wrong with
  | true => exact radd_w hr hx hV ht hnd hw
  | false =>
   by_cases hs : shapeE x = 0
   ·refine radd_f hr hx hV ht hnd hw hs fun hf => h0 ?_
    unfold Rst.addE
    rw [if_neg (by rw [hw];decide),if_neg (fun q => q hs)]
    exact hf
   ·exact radd_s hr hx hV ht hnd hw hs
def SAddOut (s : Bst) (l : List Ev) (x : Ev) (w : World) (e : Ending) (w' : World) : Prop:=∃ r' : Rst,e = .returned (.tuple #[.agg r'.cells,.int .i64 (addE s x)]) /\ r'.In w' w'.heap.size /\ (addE s x = 0 -> r'.is (addS s x) (l ++ [x])) /\ (addE s x ≠ 0 -> r'.is (addS s x) l) /\ Below w.heap.size w w'
def SAddOff (r : Rst) (s : Bst) (l : List Ev) (x : Ev) (w : World) (e : Ending) (w' : World) : Prop:=∃ r' : Rst,e = .returned (.tuple #[.agg r'.cells,.int .i64 (addE s x)]) /\ r'.In w' w'.heap.size /\ r'.is (addS s x) (if addE s x = 0 then l ++ [x] else l) /\ Below w.heap.size w w' /\ ∀ S : Nat -> Prop,r.Off S -> x.V.Off S -> (∀ b,w.heap.size <= b -> S b) -> r'.Off S
theorem sadd_off {r : Rst} {s : Bst} {l : List Ev} {x : Ev} {top : Nat} {w : World} (hr : r.In w top) (hx : x.ok) (hV : x.V.In w top) (ht : top <= w.heap.size) (his : r.is s l) (hi : s.inv) (hl : l.length + 1 <= 1048576) :
 Calls Tryd.prog 22 #[.agg r.cells,.agg x.cells] w (SAddOff r s l x w):=by
 have hTn : r.T.n + 1 <= 1048576:=by rw [<- his.T,Evs.list_len] at hl;exact hl
 refine (radd_any hr hx hV ht his hi hTn).mono fun e w' hq => ?_
 obtain ⟨r',h1,h2,h3,h4,h5,h6⟩:=hq
 have e1:=raddE (x:=x) his
 rw [e1] at h1 h3 h4
 refine ⟨r',h1,h2,?_,h5,h6⟩
 by_cases h0 : addE s x = 0
 ·rw [if_pos h0]
  exact nxt_is his hi h0 (h3 h0)
 rw [if_neg h0]
 have hr':=h4 h0
 subst hr'
 by_cases hb : s.bad = true
 ·have e : addS s x = s:=by unfold addS;rw [if_pos hb]
  rw [e]
  exact ⟨his.d,his.O,his.T,his.nd,hb.symm,his.dn⟩
 ·have hbf : s.bad = false:=by simpa using hb
  rw [addS_bad hbf h0]
  exact his.bad rfl rfl rfl rfl
theorem sadd_any {r : Rst} {s : Bst} {l : List Ev} {x : Ev} {top : Nat} {w : World} (hr : r.In w top) (hx : x.ok) (hV : x.V.In w top) (ht : top <= w.heap.size) (his : r.is s l) (hi : s.inv) (hl : l.length + 1 <= 1048576) :
 Calls Tryd.prog 22 #[.agg r.cells,.agg x.cells] w (SAddOut s l x w) :=
 (sadd_off hr hx hV ht his hi hl).mono fun e w' ⟨r',h1,h2,h3,h4,_⟩ => ⟨r',h1,h2,fun q => by rw [if_pos q] at h3;exact h3,fun q => by rw [if_neg q] at h3;exact h3,h4⟩
def StB (W : World) (B : Nat) : Prop:=∃ (t : TypeId) (a : Option Addr) (b c : Nat) (d : Option Addr) (e f : Nat) (n : Int) (m : Bool),Whole W B t #[.slice a b c,.slice d e f,.int .i64 n,.bool m]
theorem StB.cell {W : World} {B i : Nat} {v : Value} (h : StB W B) (hv : W.cell? ⟨B,i,none⟩ = some v) : (∃ a b c,v = .slice a b c) ∨ (i = 2 /\ ∃ n,v = .int .i64 n) ∨ (i = 3 /\ ∃ m,v = .bool m):=by
 obtain ⟨t,a,b,c,d,e,f,n,m,h⟩:=h
 rw [h.cell i] at hv
 match i,hv with
 | 0,hv => exact .inl ⟨a,b,c,(by simpa using hv.symm)⟩
 | 1,hv => exact .inl ⟨d,e,f,(by simpa using hv.symm)⟩
 | 2,hv => exact .inr (.inl ⟨rfl,n,(by simpa using hv.symm)⟩)
 | 3,hv => exact .inr (.inr ⟨rfl,m,(by simpa using hv.symm)⟩)
 | j + 4,hv => simp at hv
theorem StB.no_string {W : World} {B i : Nat} {k : ByteArray} (h : StB W B) (hv : W.cell? ⟨B,i,none⟩ = some (.string k)) : False:=by
 rcases h.cell hv with ⟨a,b,c,e⟩ | ⟨-,n,e⟩ | ⟨-,m,e⟩ <;> cases e
theorem StB.no_u8 {W : World} {B i : Nat} {k : Int} (h : StB W B) (hv : W.cell? ⟨B,i,none⟩ = some (.int .u8 k)) : False:=by
 rcases h.cell hv with ⟨a,b,c,e⟩ | ⟨-,n,e⟩ | ⟨-,m,e⟩ <;> cases e
theorem StB.no_int {W : World} {B i : Nat} {k : Int} {v : Value} (h : StB W B) (h0 : W.cell? ⟨B,i,none⟩ = some (.int .i64 k)) (h2 : W.cell? ⟨B,i + 2,none⟩ = some v) : False:=by
 have hi : i = 2:=by
  rcases h.cell h0 with ⟨a,b,c,e⟩ | ⟨q,-⟩ | ⟨-,m,e⟩
  ·cases e
  ·exact q
  ·cases e
 subst hi
 obtain ⟨t,a,b,c,d,e,f,n,m,h⟩:=h
 rw [h.cell 4] at h2
 simp at h2
theorem StB.no_bool {W : World} {B i : Nat} {k : Bool} {v : Value} (h : StB W B) (h0 : W.cell? ⟨B,i,none⟩ = some (.bool k)) (h2 : W.cell? ⟨B,i + 1,none⟩ = some v) : False:=by
 have hi : i = 3:=by
  rcases h.cell h0 with ⟨a,b,c,e⟩ | ⟨-,n,e⟩ | ⟨q,-⟩
  ·cases e
  ·cases e
  ·exact q
 subst hi
 obtain ⟨t,a,b,c,d,e,f,n,m,h⟩:=h
 rw [h.cell 4] at h2
 simp at h2
theorem vt_avoid {W : World} {top B : Nat} (hB : StB W B) : ∀ {T : Vt},T.In W top -> T.Off (· ≠ B):=by
 intro T
 induction T with
 | nil => exact fun h => h.elim
 | mk h Y L K F ihL ihF =>
  rintro ⟨h0,h1,h2,h3,h4,h5,h6⟩
  refine ⟨fun q e => ?_,fun q e => ?_,fun i hi => ihL i (h4 i hi).2,fun q e => ?_,fun i hi => ihF i (h6 i hi).2.2.2⟩
  ·have:=(h2 0 q).1
   rw [e] at this
   exact hB.no_u8 this
  ·have a:=(h4 0 q).1
   have z : (L 0).h.cells.size = 13:=rfl
   have a0:=a 0 (by omega)
   have a2:=a 2 (by omega)
   rw [e] at a0 a2
   exact hB.no_int (i:=h.lo + 0 * 13 + 0) a0 a2
  ·have:=(h6 0 q).1
   rw [e] at this
   exact hB.no_string this
theorem sts_avoid {W : World} {top B : Nat} {p : Sts} (hB : StB W B) (h : p.In W top) (hn : 0 < p.n) : p.b ≠ B:=fun e => by
 have:=(h.2.2 0 hn).1
 rw [e] at this
 exact hB.no_string this
theorem ops_avoid {W : World} {top B : Nat} {p : Ops} (hB : StB W B) (h : p.In W top) (hn : 0 < p.n) : p.b ≠ B:=fun e => by
 have a:=(h.2.2 0 hn).1
 have z : (p.O 0).cells.size = 4:=rfl
 have a0:=a 0 (by omega)
 have a1:=a 1 (by omega)
 rw [e] at a0 a1
 exact hB.no_bool (i:=p.o + 0 * 4 + 0) a0 a1
theorem evs_avoid {W : World} {top B : Nat} {p : Evs} (hB : StB W B) (h : p.In W top) (hn : 0 < p.n) : p.b ≠ B:=fun e => by
 have a:=(h.2.2 0 hn).1
 have z : (p.S 0).cells.size = 15:=rfl
 have a0:=a 0 (by omega)
 have a2:=a 2 (by omega)
 rw [e] at a0 a2
 exact hB.no_int (i:=p.o + 0 * 15 + 0) a0 a2
theorem Rst.In.past {W W' : World} {top B : Nat} {r : Rst} (h : r.In W top) (hB : StB W B) (hk : ∀ b,b ≠ B -> b < top -> W'.heap[b]? = W.heap[b]?) : r.In W' top:=by
 refine ⟨⟨h.1.1,h.1.2.1,fun i hi => ⟨lies_block (h.1.2.2 i hi).1 (hk _ (ops_avoid hB h.1 (by omega)) (h.1.1 (by omega)).2),?_⟩⟩,⟨h.2.1,h.2.2.1,fun i hi => ⟨lies_block (h.2.2.2 i hi).1 (hk _ (evs_avoid hB h.2 (by omega)) (h.2.1 (by omega)).2),(h.2.2.2 i hi).2.1,?_⟩⟩⟩
 ·have q:=(h.1.2.2 i hi).2
  exact ⟨q.1,q.2.1,fun j hj => ⟨(World.cell?_of_block (a:=⟨(r.O.O i).k.b,(r.O.O i).k.o + j,none⟩) (hk (r.O.O i).k.b (sts_avoid hB q (by omega)) (q.1 (by omega)).2)).trans (q.2.2 j hj).1,(q.2.2 j hj).2⟩⟩
 ·exact Vt.In.turn (S:=(· ≠ B)) (fun b hb hlt => ⟨hk b hb hlt,hlt⟩) (h.2.2.2 i hi).2.2 (vt_avoid hB (h.2.2.2 i hi).2.2)
theorem Rst.In.setRow {W : World} {top B : Nat} {r : Rst} {cs : Array Value} (h : r.In W top) (hB : StB W B) : r.In (W.setRow B cs) top:=h.past hB fun b hb _ => setRow_other _ _ _ _ hb
def AllOut (p : Evs) (w : World) (e : Ending) (w' : World) : Prop:=∃ r : Rst,e = .returned (.tuple #[.agg r.cells,.int .i64 (runN p p.n).2]) /\ r.In w' w'.heap.size /\ ((runN p p.n).2 = 0 -> r.is (runN p p.n).1 p.list) /\ Below w.heap.size w w'
theorem valE_all {p : Evs} {r : Rst} (h : (runN p p.n).2 = 0 -> r.is (runN p p.n).1 p.list) : valE p = if (runN p p.n).2 = 0 /\ r.whole = false then 4 else (runN p p.n).2:=by
 by_cases h0 : (runN p p.n).2 = 0
 ·rw [valE_end h0,h0,(h h0).whole]
  cases (runN p p.n).1.dn <;> simp
 ·rw [valE_bad (Nat.le_refl _) h0,if_neg (fun q => h0 q.1)]
theorem Evs.take_succ {p : Evs} {j : Nat} (hj : j < p.n) : p.list.take (j + 1) = p.list.take j ++ [p.S j]:=by
 rw [List.take_add_one,List.getElem?_eq_getElem (by rw [Evs.list_len];exact hj),Evs.list_get hj]
 rfl
theorem st_one (a : Option Addr) (b c : Nat) (d : Option Addr) (e f : Nat) (n : Int) (m : Bool) : (#[.slice a b c,.slice d e f,.int .i64 n,.bool m] : Array Value).all (·.oneCell') = true:=by simp [Value.oneCell']
theorem rall_any {p : Evs} {top : Nat} {w : World} (hp : p.In w top) (ht : top <= w.heap.size) : Calls Tryd.prog 40 #[.slice p.a p.n p.c] w (AllOut p w):=by
 have hn1:=hp.2.1.1
 have hnj : ((p.n : Nat) : Int) <= 1048576:=by omega
 have hni : (0 : Int) <= ((p.n : Nat) : Int):=by omega
 have HInv:=Lib.hid (fun (j : Nat) (hj : j <= p.n) => runN_inv hp j hj)
 have HLa:=Lib.hid hp.1
 have HLi:=Lib.hid (fun (j : Nat) (hj : j < p.n) (W : World) (hb : Below w.heap.size w W) => ((hp.2.2 j hj).1.below (hb.mono ht) (hp.1 (by omega)).2))
 have HX:=Lib.hid (fun (j : Nat) (hj : j < p.n) (W : World) (hb : Below w.heap.size w W) => (And.intro (hp.2.2 j hj).2.1 ((Vt.In.below (hb.mono ht) (hp.2.2 j hj).2.2).up (Nat.le_trans ht hb.size)) : (p.S j).ok /\ (p.S j).V.In W W.heap.size))
 have HLb : Hid (0 < p.n -> p.b < w.heap.size):=Lib.hid fun q => Nat.lt_of_lt_of_le (hp.1 q).2 ht
 clear hp ht
 have Q0:=(Whole.new w 53 #[.slice none 0 0,.slice none 0 0,.int .i64 0,.bool false]).alloc (.cells #[.slice none 0 0,.slice none 0 0,.int .i64 0,.bool false] 53)
 have N0:=Whole.new (w.alloc (.cells #[.slice none 0 0,.slice none 0 0,.int .i64 0,.bool false] 53)) 53 #[.slice none 0 0,.slice none 0 0,.int .i64 0,.bool false]
 rw [World.size_alloc] at N0
 have g0:=((Below.refl w.heap.size w).alloc (Nat.le_refl _) (.cells #[.slice none 0 0,.slice none 0 0,.int .i64 0,.bool false] 53)).alloc (by simp) (.cells #[.slice none 0 0,.slice none 0 0,.int .i64 0,.bool false] 53)
 have HR0 : Hid (Rst.In ((w.alloc (.cells #[.slice none 0 0,.slice none 0 0,.int .i64 0,.bool false] 53)).alloc (.cells #[.slice none 0 0,.slice none 0 0,.int .i64 0,.bool false] 53)) ((w.alloc (.cells #[.slice none 0 0,.slice none 0 0,.int .i64 0,.bool false] 53)).alloc (.cells #[.slice none 0 0,.slice none 0 0,.int .i64 0,.bool false] 53)).heap.size ⟨⟨none,0,0,0,0,fun _ => Opn.zero⟩,⟨none,0,0,0,0,fun _ => default⟩,0,false⟩):=Lib.hid ⟨⟨fun q => absurd q (Nat.lt_irrefl _),⟨Nat.zero_le _,Nat.le_refl _,by decide⟩,fun i q => absurd q (Nat.not_lt_zero _)⟩,⟨fun q => absurd q (Nat.lt_irrefl _),⟨by decide,Nat.le_refl _,by decide⟩,fun i q => absurd q (Nat.not_lt_zero _)⟩⟩
 have HI0 : Hid (Rst.is ⟨⟨none,0,0,0,0,fun _ => Opn.zero⟩,⟨none,0,0,0,0,fun _ => default⟩,0,false⟩ (runN p 0).1 (p.list.take 0)):=Lib.hid (Rst.is.zero rfl rfl rfl rfl)
 go_enter Tryd.func40,Tryd.ntmps40
 go_wp2_with fail
 go_loopw [5] (fun i wr => ∃ (j : Nat) (r : Rst),j <= p.n /\ i = .int .i64 j /\ Hid ((runN p j).2 = 0) /\ Hid (r.In wr wr.heap.size) /\ Hid (r.is (runN p j).1 (p.list.take j)) /\ Whole wr w.heap.size 53 #[.slice none 0 0,.slice none 0 0,.int .i64 0,.bool false] /\ Whole wr (w.heap.size + 1) 53 #[.slice r.O.a r.O.n r.O.c,.slice r.T.a r.T.n r.T.c,.int .i64 r.nd,.bool r.wrong] /\ Below w.heap.size w wr) (fun i _ => p.n - (intOf i).toNat)
 case atStart => exact ⟨0,⟨⟨none,0,0,0,0,fun _ => Opn.zero⟩,⟨none,0,0,0,0,fun _ => default⟩,0,false⟩,by omega,rfl,Lib.hid rfl,HR0,HI0,Q0,N0,g0⟩
 case round =>
  clear Q0 N0 g0 HR0 HI0
  obtain ⟨j,r,hj,rfl,HE,HR,HI,Q1,N1,g1⟩:=hrel
  have hji : (0 : Int) <= j:=by omega
  have hsz:=Whole.lt N1
  by_cases hjn : j < p.n
  ·have hjl : (j : Int) < p.n:=by omega
   obtain ⟨ea,-⟩:=HLa.out (by omega)
   have hpb:=HLb.out (by omega)
   have L1:=HLi.out j hjn wr g1
   have HS:=Lib.hid (runN_succ hjn HE.out)
   have HTk:=Lib.hid (Evs.take_succ hjn)
   have HAdd:=Lib.hid (fun (w1 : World) (hb : Below wr.heap.size wr w1) => sadd_any (r:=r) (x:=p.S j) (top:=w1.heap.size) (w:=w1) ((HR.out.below hb).up hb.size) (HX.out j hjn w1 (below_then g1 hb)).1 (HX.out j hjn w1 (below_then g1 hb)).2 (Nat.le_refl _) HI.out (HInv.out j (by omega)) (by rw [List.length_take,Evs.list_len];omega))
   have HBad:=Lib.hid (fun (q : (runN p (j + 1)).2 ≠ 0) => (show runN p p.n = runN p (j + 1) from runN_bad q hjn))
   unfold SAddOut at HAdd
   obtain ⟨x,hx⟩ : ∃ x,p.S j = x:=⟨_,rfl⟩
   rw [hx] at HAdd HS HTk L1
   generalize (runN p j).1 = s at *
   obtain ⟨E,hE⟩ : ∃ E,addE s x = E:=⟨_,rfl⟩
   rw [hE] at HAdd HS
   generalize addS s x = T at *
   clear hE hx HE HR HI
   obtain ⟨k,key,V⟩:=x
   simp only [Rst.cells,Ev.cells,evc] at HAdd L1
   rw [ea]
   clear ea
   go_upto_region 6 with (fail)
   have h1:=Below.refl wr.heap.size wr
   refine wp_region_T (fun Wz => LiesAt Wz p.b (p.o + j * 15) #[.int .i64 k,.string key,.int .i64 V.h.k,.bool V.h.b,.bool V.h.n,.string V.h.d,.int .i64 V.h.e,.int .i64 V.h.tk,.int .i64 V.h.td,.int .i64 V.h.tn,.int .i64 V.h.tz,.string V.h.x,.slice V.h.ba V.h.bn V.h.bc,.slice V.h.la V.h.ln V.h.lc,.slice V.h.fa V.h.fn V.h.fc]) [] (by kernel_rfl) ?_
   have qd : Below wr.heap.size wr wr.drew:=(Below.refl _ wr).drew
   have L2:=L1.below (top:=w.heap.size) (W':=wr.drew) (qd.mono g1.size) hpb
   clear L1
   generalize wr.drew = w2 at *
   have Q2:=Whole.below Q1 qd (Whole.lt Q1)
   have N2:=Whole.below N1 qd (Whole.lt N1)
   have g2:=below_then g1 qd
   have h2:=below_then h1 qd
   clear Q1 N1 g1 h1
   clear qd
   refine tk (i:=1) rfl (by kernel_rfl) (by rfl) (fun _ _ _ h => h) L2 (by intro wS hSw;go_simp;try with_reducible rfl) ?_
   simp only [Act.put,actS]
   refine tk (i:=2) rfl (by kernel_rfl) (by rfl) (fun _ _ _ h => h) L2 (by intro wS hSw;go_simp;try with_reducible rfl) ?_
   simp only [Act.put,actS]
   refine tk (i:=3) rfl (by kernel_rfl) (by rfl) (fun _ _ _ h => h) L2 (by intro wS hSw;go_simp;try with_reducible rfl) ?_
   simp only [Act.put,actS]
   refine tk (i:=4) rfl (by kernel_rfl) (by rfl) (fun _ _ _ h => h) L2 (by intro wS hSw;obtain ⟨x0,x1,x2,x3,x4,x5,x6,x7,x8,x9,x10,x11,x12,x13,x14⟩:=hSw.e15;go_simp;try with_reducible rfl) ?_
   simp only [Act.put,actS]
   refine wpAnyT_ready (rs:=[0]) (by kernel_rfl) (by simp) ?_
   refine (AllT.cons rfl (fun KK hK => ?_) AllT.nil)
   obtain ⟨c0,c1,c2,c3⟩:=Whole.o4s N2
   go_simp
   clear c0 c1 c2 c3
   refine hK.out _ _ (.inr L2) ?_
   clear hK KK
   try simp only [Act.put,actS]
   refine wpAnyT_ready (rs:=[5]) (by kernel_rfl) (by simp) ?_
   refine (AllT.cons rfl (fun KK hK => ?_) AllT.nil)
   go_simp
   go_at_call 22
   refine (HAdd.out _ h2).mono ?_
   rintro _ w3 ⟨r',rfl,q1,q2,q3,hb3⟩
   have HR2:=Lib.hid q1
   have HI2:=Lib.hid q2
   have L3:=L2.below (top:=w.heap.size) (hb3.mono g2.size) hpb
   clear q1 q2 q3 HAdd L2
   have Q3:=Whole.below Q2 hb3 (Whole.lt Q2)
   have N3:=Whole.below N2 hb3 (Whole.lt N2)
   have g3:=below_then g2 hb3
   have h3:=below_then h2 hb3
   clear Q2 N2 g2 h2
   clear hb3
   refine hK.out _ _ (.inr L3) ?_
   clear hK KK
   try simp only [Act.put,actS]
   refine tk (i:=6) rfl (by kernel_rfl) (by rfl) (fun _ _ _ h => h) L3 (by intro wS hSw;go_simp;try with_reducible rfl) ?_
   simp only [Act.put,actS]
   refine tk (i:=7) rfl (by kernel_rfl) (by rfl) (fun _ _ _ h => h) L3 (by intro wS hSw;go_simp;try with_reducible rfl) ?_
   simp only [Act.put,actS]
   refine tk (i:=8) rfl (by kernel_rfl) (by rfl) (fun _ _ _ h => h) L3 (by intro wS hSw;go_simp;try with_reducible rfl) ?_
   simp only [Act.put,actS]
   refine wpAnyT_ready (rs:=[9]) (by kernel_rfl) (by simp) ?_
   refine (AllT.cons rfl (fun KK hK => ?_) AllT.nil)
   rw [if_pos (by rfl)]
   refine wp_store_row 53 _ _ rfl (w.heap.size + 1) #[.slice r'.O.a r'.O.n r'.O.c,.slice r'.T.a r'.T.n r'.T.c,.int .i64 r'.nd,.bool r'.wrong] rfl rfl 53 _ N3 st_row rfl (st_one _ _ _ _ _ _ _ _) ?_
   have HR4 : Hid (r'.In (w3.setRow (w.heap.size + 1) #[.slice r'.O.a r'.O.n r'.O.c,.slice r'.T.a r'.T.n r'.T.c,.int .i64 r'.nd,.bool r'.wrong]) (w3.setRow (w.heap.size + 1) #[.slice r'.O.a r'.O.n r'.O.c,.slice r'.T.a r'.T.n r'.T.c,.int .i64 r'.nd,.bool r'.wrong]).heap.size):=Lib.hid (by
    rw [size_setRow]
    exact HR2.out.setRow ⟨_,_,_,_,_,_,_,_,_,N3⟩)
   have L4 : LiesAt (w3.setRow (w.heap.size + 1) #[.slice r'.O.a r'.O.n r'.O.c,.slice r'.T.a r'.T.n r'.T.c,.int .i64 r'.nd,.bool r'.wrong]) p.b (p.o + j * 15) #[.int .i64 k,.string key,.int .i64 V.h.k,.bool V.h.b,.bool V.h.n,.string V.h.d,.int .i64 V.h.e,.int .i64 V.h.tk,.int .i64 V.h.td,.int .i64 V.h.tn,.int .i64 V.h.tz,.string V.h.x,.slice V.h.ba V.h.bn V.h.bc,.slice V.h.la V.h.ln V.h.lc,.slice V.h.fa V.h.fn V.h.fc]:=lies_block L3 (setRow_other _ _ _ _ (by omega))
   have hp3:=h3.size
   clear HR2 L3 h3
   have Q4:=Whole.farRow (B':=(w.heap.size + 1)) Q3 (by omega) #[.slice r'.O.a r'.O.n r'.O.c,.slice r'.T.a r'.T.n r'.T.c,.int .i64 r'.nd,.bool r'.wrong]
   have N4:=Whole.setRow N3 #[.slice r'.O.a r'.O.n r'.O.c,.slice r'.T.a r'.T.n r'.T.c,.int .i64 r'.nd,.bool r'.wrong]
   have g4:=below_setRow (g:=(w.heap.size + 1)) g3 (by omega) #[.slice r'.O.a r'.O.n r'.O.c,.slice r'.T.a r'.T.n r'.T.c,.int .i64 r'.nd,.bool r'.wrong]
   clear Q3 N3 g3
   generalize w3.setRow ((w.heap.size + 1)) #[.slice r'.O.a r'.O.n r'.O.c,.slice r'.T.a r'.T.n r'.T.c,.int .i64 r'.nd,.bool r'.wrong] = w4 at *
   refine hK.out _ _ (.inr L4) ?_
   clear hK KK
   try simp only [Act.put,actS]
   refine wpAnyT_ready (rs:=[10]) (by kernel_rfl) (by simp) ?_
   refine (AllT.cons rfl (fun KK hK => ?_) AllT.nil)
   go_simp
   refine hK.out _ _ (.inr L4) ?_
   clear hK KK
   try simp only [Act.put,actS]
   refine wpAnyT_done (by kernel_rfl) ?_ _
   clear L4
   by_cases hE0 : E = 0
   ·subst hE0
    have HI5:=Lib.hid (HI2.out rfl)
    clear HI2 HBad
    go_wp2_with fail
    go_roundw
    case rel => exact ⟨j + 1,r',by omega,by go_num,Lib.hid (by rw [HS.out]),HR4,Lib.hid (by rw [HS.out,HTk.out];exact HI5.out),Q4,N4,g4⟩
    case measure => simp [intOf];omega
   ·have dE : (E != 0) = true:=bne_iff_ne.2 hE0
    have hru:=HBad.out (by rw [HS.out];exact hE0)
    rw [HS.out] at hru
    have HE1 : Hid ((runN p p.n).2 = E):=Lib.hid (by rw [hru])
    clear hru HBad HI2
    have HE0:=Lib.hid hE0
    clear hE0
    obtain ⟨c0,c1,c2,c3⟩:=Whole.o4s N4
    have hone2 : Hid ((#[.slice r'.O.a r'.O.n r'.O.c,.slice r'.T.a r'.T.n r'.T.c,.int .i64 r'.nd,.bool r'.wrong] : Array Value).all (·.oneCell') = true):=Lib.hid (st_one _ _ _ _ _ _ _ _)
    have Qb:=Q4
    have HR5:=Lib.hid (HR4.out.setRow (cs:=#[.slice r'.O.a r'.O.n r'.O.c,.slice r'.T.a r'.T.n r'.T.c,.int .i64 r'.nd,.bool r'.wrong]) (B:=w.heap.size) ⟨_,_,_,_,_,_,_,_,_,Q4⟩)
    have Q5:=Whole.setRow Q4 #[.slice r'.O.a r'.O.n r'.O.c,.slice r'.T.a r'.T.n r'.T.c,.int .i64 r'.nd,.bool r'.wrong]
    have N5:=Whole.farRow (B':=w.heap.size) N4 (by omega) #[.slice r'.O.a r'.O.n r'.O.c,.slice r'.T.a r'.T.n r'.T.c,.int .i64 r'.nd,.bool r'.wrong]
    have g5:=below_setRow (g:=w.heap.size) g4 (by omega) #[.slice r'.O.a r'.O.n r'.O.c,.slice r'.T.a r'.T.n r'.T.c,.int .i64 r'.nd,.bool r'.wrong]
    go_wp2_with (refine wpList_store_row rfl 53 _ _ rfl w.heap.size #[.slice r'.O.a r'.O.n r'.O.c,.slice r'.T.a r'.T.n r'.T.c,.int .i64 r'.nd,.bool r'.wrong] rfl rfl 53 _ Qb st_row rfl hone2.out ?_)
    exact bodyPost_ret (v:=.tuple #[.agg #[.slice r'.O.a r'.O.n r'.O.c,.slice r'.T.a r'.T.n r'.T.c,.int .i64 r'.nd,.bool r'.wrong],.int .i64 E]) (ret_rst2 (p:=2) (q:=3) rfl rfl Q5) rfl ⟨r',by rw [HE1.out];rfl,by rw [size_setRow];exact HR5.out,fun q => absurd (HE1.out ▸ q) HE0.out,g5⟩
  ·obtain rfl : j = p.n:=by omega
   have HEn:=Lib.hid (fun (_ : (runN p p.n).2 = 0) => (show r.is (runN p p.n).1 p.list from by have:=HI.out;rwa [List.take_of_length_le (by rw [Evs.list_len];exact Nat.le_refl _)] at this))
   clear HI HX HLi HInv HLa HLb hjn
   obtain ⟨c0,c1,c2,c3⟩:=Whole.o4s N1
   have hone2 : Hid ((#[.slice r.O.a r.O.n r.O.c,.slice r.T.a r.T.n r.T.c,.int .i64 r.nd,.bool r.wrong] : Array Value).all (·.oneCell') = true):=Lib.hid (st_one _ _ _ _ _ _ _ _)
   have Qb:=Q1
   have HR5:=Lib.hid (HR.out.setRow (cs:=#[.slice r.O.a r.O.n r.O.c,.slice r.T.a r.T.n r.T.c,.int .i64 r.nd,.bool r.wrong]) (B:=w.heap.size) ⟨_,_,_,_,_,_,_,_,_,Q1⟩)
   have Q2:=Whole.setRow Q1 #[.slice r.O.a r.O.n r.O.c,.slice r.T.a r.T.n r.T.c,.int .i64 r.nd,.bool r.wrong]
   have N2:=Whole.farRow (B':=w.heap.size) N1 (by omega) #[.slice r.O.a r.O.n r.O.c,.slice r.T.a r.T.n r.T.c,.int .i64 r.nd,.bool r.wrong]
   have g2:=below_setRow (g:=w.heap.size) g1 (by omega) #[.slice r.O.a r.O.n r.O.c,.slice r.T.a r.T.n r.T.c,.int .i64 r.nd,.bool r.wrong]
   go_wp2_with (refine wpList_store_row rfl 53 _ _ rfl w.heap.size #[.slice r.O.a r.O.n r.O.c,.slice r.T.a r.T.n r.T.c,.int .i64 r.nd,.bool r.wrong] rfl rfl 53 _ Qb st_row rfl hone2.out ?_)
   exact bodyPost_ret (v:=.tuple #[.agg #[.slice r.O.a r.O.n r.O.c,.slice r.T.a r.T.n r.T.c,.int .i64 r.nd,.bool r.wrong],.int .i64 0]) (ret_rst2 (p:=2) (q:=3) rfl rfl Q2) rfl ⟨r,by rw [HE.out];rfl,by rw [size_setRow];exact HR5.out,HEn.out,g2⟩
theorem st_all (r : Rst) : r.cells.all (·.oneCell') = true:=by simp [Rst.cells,Value.oneCell']
theorem rcheckof {p : Evs} {w : World} (HA : Calls Tryd.prog 40 #[.slice p.a p.n p.c] w (AllOut p w)) : Calls Tryd.prog 31 #[.slice p.a p.n p.c] w fun e w' => e = .returned (.int .i64 (valE p)) /\ Below w.heap.size w w':=by
 have HAll:=Lib.hid HA
 have HV:=Lib.hid (fun (r : Rst) (h : (runN p p.n).2 = 0 -> r.is (runN p p.n).1 p.list) => valE_all h)
 clear HA
 unfold AllOut at HAll
 obtain ⟨E,hEE⟩ : ∃ E,(runN p p.n).2 = E:=⟨_,rfl⟩
 obtain ⟨R,hR⟩ : ∃ R,valE p = R:=⟨_,rfl⟩
 rw [hEE] at HAll HV
 rw [hR] at HV ⊢
 clear hEE hR
 go_enter Tryd.func31,Tryd.ntmps31
 go_wp2_with fail
 refine HAll.out.mono ?_;rintro _ w1 ⟨r,rfl,hr,his,hb1⟩
 have hv:=HV.out r his
 clear HAll HV his
 have N:=Whole.new w1 53 #[.slice none 0 0,.slice none 0 0,.int .i64 0,.bool false]
 have g2:=hb1.alloc hb1.size (.cells #[.slice none 0 0,.slice none 0 0,.int .i64 0,.bool false] 53)
 have hone:=Lib.hid (st_all r)
 have N5:=N.setRow r.cells
 have g5:=below_setRow (g:=w1.heap.size) g2 (by have:=hb1.size;omega) r.cells
 have HCo:=Lib.hid (complete_any (r:=r) (top:=w1.heap.size) (w:=(w1.alloc (.cells #[.slice none 0 0,.slice none 0 0,.int .i64 0,.bool false] 53)).setRow w1.heap.size r.cells) (hr.below (below_setRow (g:=w1.heap.size) ((Below.refl w1.heap.size w1).alloc (Nat.le_refl _) _) (Nat.le_refl _) _)))
 generalize r.whole = wh at *
 clear hr hb1 g2
 obtain ⟨c0,c1,c2,c3⟩ : _ /\ _ /\ _ /\ _:=⟨N5.cell 0,N5.cell 1,N5.cell 2,N5.cell 3⟩
 simp only [Rst.cells,List.getElem?_toArray,List.getElem?_cons_succ,List.getElem?_cons_zero] at c0 c1 c2 c3 HCo g5 ⊢
 go_upto_region 2 with (refine wpList_store_row rfl 53 _ _ rfl w1.heap.size (Rst.cells r) rfl rfl 53 _ N st_row rfl hone.out ?_)
 simp only [Rst.cells]
 by_cases e0 : E = 0
 ·subst e0
  go_wp2_with fail
  refine HCo.out.mono ?_;rintro _ w6 ⟨rfl,hb6⟩
  have g6:=below_then g5 hb6
  clear HCo
  cases wh
  ·obtain rfl : R = 4:=by rw [hv];rfl
   clear hv
   go_wp2
   go_ret
   exact ⟨rfl,g6⟩
  ·obtain rfl : R = 0:=by rw [hv];rfl
   clear hv
   go_wp2
   go_ret
   exact ⟨rfl,g6⟩
 ·obtain rfl : R = E:=by rw [hv,if_neg (fun q => e0 q.1)]
  have d0 : (R == 0) = false:=beq_eq_false_iff_ne.2 e0
  clear hv HCo
  go_wp2
  go_ret
  exact ⟨rfl,g5⟩
theorem rcheck_any {p : Evs} {top : Nat} {w : World} (hp : p.In w top) (ht : top <= w.heap.size) : Calls Tryd.prog 31 #[.slice p.a p.n p.c] w fun e w' => e = .returned (.int .i64 (valE p)) /\ Below w.heap.size w w':=rcheckof (rall_any hp ht)
end Go.Proofs.YtpcbhneaaibfiaaDoor
namespace Go.Proofs.YtpcbhneaaibfiaaDoor
def Vt.owd : Vt -> Prop
 | .nil => True
 | .mk h Y L K F => h.own = true /\ (∀ i,i < h.ln -> (L i).owd) /\ (∀ i,i < h.fn -> (F i).owd)
theorem Vt.good.owd : ∀ {T : Vt},T.good -> T.owd:=by
 intro T
 induction T with
 | nil => intro _;trivial
 | mk h Y L K F ihL ihF =>
  intro g
  have o : h.own = true:=oneE_own (T:=.mk h Y L K F) g.1
  exact ⟨o,fun i hi => ihL i (g.2.1 i hi),fun i hi => ihF i (g.2.2 i hi)⟩
theorem own_flat {h g : Vh} (hf : h.flat g) : h.own = g.own:=by
 unfold Vh.own Vh.nz Vh.tz0
 rw [hf.k,hf.b,hf.n,hf.d,hf.e,hf.tk,hf.td,hf.tn,hf.tz,hf.x,hf.bn,hf.ln,hf.fn]
theorem owd_same : ∀ {T U : Vt},T.Same U -> U.owd -> T.owd:=by
 intro T
 induction T with
 | nil => intro U h _;trivial
 | mk h Y L K F ihL ihF =>
  intro U hS hU
  cases U with
  | nil => exact absurd rfl hS.right
  | mk g Y' L' K' F' =>
   obtain ⟨-,hf,-,hL,hF⟩:=hS
   replace hf : h.flat g:=hf
   obtain ⟨u1,u2,u3⟩:=hU
   exact ⟨(own_flat hf).trans u1,fun i hi => ihL i (hL i hi) (u2 i (by have:=hf.ln;omega)),fun i hi => ihF i (hF i hi).2 (u3 i (by have:=hf.fn;omega))⟩
theorem own_lst (a : Option Addr) (n c b : Nat) : (Vh.lst 6 a n c b).own = true:=by
 have e : (⟨#[]⟩ : ByteArray).toList.isEmpty = true:=ba_emp.2 rfl
 simp [Vh.own,ownB,Vh.nz,Vh.tz0,Vh.lst,e]
theorem own_fld (a : Option Addr) (n c b : Nat) : (Vh.fld 7 a n c b).own = true:=by
 have e : (⟨#[]⟩ : ByteArray).toList.isEmpty = true:=ba_emp.2 rfl
 simp [Vh.own,ownB,Vh.nz,Vh.tz0,Vh.fld,e]
end Go.Proofs.YtpcbhneaaibfiaaDoor
