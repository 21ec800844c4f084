/- Laid together. -/
import Derived.Test.YtpcbhneaaibfiaaDoorPB35
import Derived.Test.YtpcbhneaaibfiaaDoorPB36
import Derived.Test.YtpcbhneaaibfiaaDoorPB32
import Derived.Test.YtpcbhneaaibfiaaDoorPB23
import Derived.Deep.Cut
import Derived.Deep.DeepCutAuto
set_option linter.unusedVariables false
set_option linter.unusedSimpArgs false
set_option maxHeartbeats 16000000
set_option maxRecDepth 100000
namespace Go.Proofs.YtpcbhneaaibfiaaDoor
open Go.RowKit
theorem info_str : (Tryd.prog.info? 9).map (fun i => (i.zero,i.size,i.bytes)) = some (some (.string ⟨#[]⟩),1,16):=by kernel_rfl
theorem radd_ok {r : Rst} {x : Ev} {top : Nat} {w : World} (hr : r.In w top) (hx : x.ok) (hV : x.V.In w top) (ht : top <= w.heap.size) (hnd : r.nd <= 65536) (hTn : r.T.n + 1 <= 1048576) (h0 : r.addE x = 0) (hn : 0 < r.O.n) (hkn : x.k = 6 -> (r.O.O (r.O.n - 1)).k.n + 1 <= 1048576) (hcn : (r.O.O (r.O.n - 1)).cnt <= 1048576) :
 Calls Tryd.prog 22 #[.agg r.cells,.agg x.cells] w (RAddOut r x w):=by
 obtain ⟨hw0,hs0,hf0⟩:=radd_zero h0
 have hkk:=shape_kinds hs0
 have HBg:=Lib.hid (fun (q : x.k = 1 ∨ x.k = 2 ∨ x.k = 4) => rfol_beg hf0 q)
 have HForm:=Lib.hid (fun (w1 : World) (hb : Below w.heap.size w w1) => form_any (x:=x) (top:=top) (w:=w1) hx (Vt.In.below (hb.mono ht) hV) (Nat.le_trans ht hb.size))
 have HFol:=Lib.hid (fun (w1 : World) (hb : Below w.heap.size w w1) => rfol_any (r:=r) (x:=x) (top:=top) (w:=w1) (hr.below (hb.mono ht)) (Nat.le_trans ht hb.size) hx hkk hnd)
 rw [hs0] at HForm
 rw [hf0] at HFol
 have HTin:=Lib.hid (fun (T' : Evs) (C : Nat) (W' : World) (hb : Below w.heap.size w W') (hT : T'.Row W' C) (h1 : T'.n = r.T.n + 1) (h2 : T'.S = fun i => if i < r.T.n then r.T.S i else x) => evs_ok hr hx hV ht hb hT h1 h2)
 have HOin:=Lib.hid (fun (W' : World) (hb : Below w.heap.size w W') => (hr.1.below (hb.mono ht)).up (Nat.le_trans ht hb.size))
 have HTop : Hid (∀ (T' : Evs) (w1 : World),r.O.In w1 w1.heap.size -> T'.In w1 w1.heap.size -> Calls Tryd.prog 44 #[.agg (Rst.cells ⟨r.O,T',r.nd,false⟩)] w1 fun e w' => e = .returned (.tuple #[.agg (r.O.O (r.O.n - 1)).cells,.bool true]) /\ Below w1.heap.size w1 w'):=Lib.hid fun T' w1 hO hT => by
  have q:=top_any (r:=⟨r.O,T',r.nd,false⟩) (top:=w1.heap.size) (w:=w1) ⟨hO,hT⟩ (Nat.le_refl _)
  unfold TopOut at q
  rw [topO_pos (r:=⟨r.O,T',r.nd,false⟩) hn] at q
  dsimp only at q
  rw [decide_eq_true hn] at q
  exact q
 have HSet:=Lib.hid (fun (T' : Evs) (nd' : Nat) (y' : Opn) (w1 : World) (hO : r.O.In w1 w1.heap.size) (hT : T'.In w1 w1.heap.size) => rset_any (r:=⟨r.O,T',nd',false⟩) (y:=y') (top:=w1.heap.size) (w:=w1) ⟨hO,hT⟩ (Nat.le_refl _) hn)
 have HK:=Lib.hid (fun (q : x.k = 6) => out_key hr hx hV ht h0 q hn)
 have HE:=Lib.hid (fun (q : x.k = 3 ∨ x.k = 5) => out_end hr hx hV ht h0 q)
 have HS:=Lib.hid (fun (q : x.k = 1) => out_sca hr hx hV ht h0 q hn)
 have HB:=Lib.hid (fun (q : x.k = 2 ∨ x.k = 4) => out_beg hr hx hV ht h0 q)
 unfold OutS at HK HE HS HB
 obtain ⟨news,hnews⟩ : ∃ news,catN (fun i => (r.T.S i).cells) r.T.n = news:=⟨_,rfl⟩
 have HT9 : Hid (∀ (a2 : Option Addr) (c2 : Nat) (B : Nat) (w' : World),w'.ownsRow B 57 15 (.slice a2 (r.T.n + 1) c2) (r.T.n + 1) (([] ++ news) ++ x.cells.toList) -> ∃ T' : Evs,Value.slice a2 (r.T.n + 1) c2 = .slice T'.a T'.n T'.c /\ T'.n = r.T.n + 1 /\ (T'.S = fun i => if i < r.T.n then r.T.S i else x) /\ T'.Row w' B):=Lib.hid fun a2 c2 B w' ho => by
  refine evs_row (S:=fun i => if i < r.T.n then r.T.S i else x) ?_ hTn
  have e : catN (fun i => (if i < r.T.n then r.T.S i else x : Ev).cells) (r.T.n + 1) = news ++ x.cells.toList:=by
   rw [<- hnews]
   exact catN_more (fun i hi => by rw [if_pos hi]) (by rw [if_neg (Nat.lt_irrefl _)])
  rw [e,<- List.nil_append news]
  exact ho
 have s1:=Lib.hid (fun (w1 : World) (hb : Below w.heap.size w w1) (h : 0 < r.T.n) => (⟨⟨r.T.b,r.T.o,none⟩,(hr.2.1 h).1,hnews ▸ rowL_src (fun j => (show (r.T.S j).cells.size = 15 from rfl)) (fun j hj => ((hr.2.2.2 j hj).1.below (hb.mono ht) (hr.2.1 h).2))⟩ : ∃ ad,r.T.a = some ad /\ ∀ j u,news[j]? = some u -> w1.cell? (ad.add j) = some u))
 have s2 : Hid (∀ u ∈ news,u.oneCell' = true):=Lib.hid (hnews ▸ catN_one (fun j => evc_one (r.T.S j)) r.T.n)
 have s0 : Hid (news.length = r.T.n * 15):=Lib.hid (hnews ▸ catN_len (fun j => (show (r.T.S j).cells.size = 15 from rfl)) r.T.n)
 have t2:=Lib.hid (evc_one x)
 have s3 : Hid (r.T.n <= maxLen):=Lib.hid (by unfold maxLen;omega)
 have s4 : Hid (r.T.n * 192 <= 140737488355328):=Lib.hid (by omega)
 have t3 : Hid (r.T.n + 1 <= maxLen):=Lib.hid (by unfold maxLen;omega)
 have t4 : Hid ((r.T.n + 1) * 192 <= 140737488355328):=Lib.hid (by omega)
 have hy:=(hr.1.2.2 (r.O.n - 1) (by omega)).2
 obtain ⟨yk,hyk2⟩ : ∃ yk,(r.O.O (r.O.n - 1)).k = yk:=⟨_,rfl⟩
 rw [hyk2] at hy HK hkn
 obtain ⟨newk,hnewk⟩ : ∃ newk,catN (fun i => #[.string (yk.K i)]) yk.n = newk:=⟨_,rfl⟩
 have hykn:=hy.2.1.1
 have HT13 : Hid (∀ (a2 : Option Addr) (c2 : Nat) (B : Nat) (w' : World),yk.n + 1 <= 1048576 -> w'.ownsRow B 9 1 (.slice a2 (yk.n + 1) c2) (yk.n + 1) (([] ++ newk) ++ (#[.string x.key] : Array Value).toList) -> ∃ K' : Sts,Value.slice a2 (yk.n + 1) c2 = .slice K'.a K'.n K'.c /\ K'.n = yk.n + 1 /\ (K'.K = fun j => if j < yk.n then yk.K j else x.key) /\ K'.Row w' B):=Lib.hid fun a2 c2 B w' hkn2 ho => by
  refine sts_row (K:=fun j => if j < yk.n then yk.K j else x.key) ?_ hkn2
  have e : catN (fun i => #[Value.string (if i < yk.n then yk.K i else x.key)]) (yk.n + 1) = newk ++ (#[.string x.key] : Array Value).toList:=by
   rw [<- hnewk]
   exact catN_more (fun i hi => by rw [if_pos hi]) (by rw [if_neg (Nat.lt_irrefl _)])
  rw [e,<- List.nil_append newk]
  exact ho
 have ks1:=Lib.hid (fun (w1 : World) (hb : Below w.heap.size w w1) (h : 0 < yk.n) => (⟨⟨yk.b,yk.o,none⟩,(hy.1 h).1,hnewk ▸ rowL_src (f:=fun j => #[.string (yk.K j)]) (fun j => rfl) (fun j hj i hi => by obtain rfl : i = 0:=(by have : i < 1:=hi;omega);rw [show yk.o + j * 1 + 0 = yk.o + j by omega,hb.mono ht |>.cell (hy.1 h).2];exact (hy.2.2 j hj).1)⟩ : ∃ ad,yk.a = some ad /\ ∀ j u,newk[j]? = some u -> w1.cell? (ad.add j) = some u))
 have ks2 : Hid (∀ u ∈ newk,u.oneCell' = true):=Lib.hid (hnewk ▸ catN_one (fun j u hu => by obtain rfl : u = .string (yk.K j):=(by simpa using hu);rfl) yk.n)
 have ks0 : Hid (newk.length = yk.n * 1):=Lib.hid (hnewk ▸ catN_len (f:=fun i => #[.string (yk.K i)]) (C:=1) (fun j => rfl) yk.n)
 have kt2 : Hid (∀ u ∈ (#[.string x.key] : Array Value).toList,u.oneCell' = true):=Lib.hid (by simp [Value.oneCell'])
 have ks3 : Hid (yk.n <= maxLen):=Lib.hid (by unfold maxLen;omega)
 have ks4 : Hid (yk.n * 16 <= 140737488355328):=Lib.hid (by omega)
 have kt3 : Hid (yk.n + 1 <= maxLen):=Lib.hid (by unfold maxLen;omega)
 have kt4 : Hid ((yk.n + 1) * 16 <= 140737488355328):=Lib.hid (by omega)
 clear hy hnewk hykn
 obtain ⟨m,hm⟩ : ∃ m,r.O.n = m + 1:=⟨r.O.n - 1,by omega⟩
 obtain ⟨newo,hnewo⟩ : ∃ newo,catN (fun i => (r.O.O i).cells) m = newo:=⟨_,rfl⟩
 have ho48:=hr.1.2.1.1
 have hocap:=hr.1.2.1.2.1
 obtain ⟨eoa,hoalt⟩:=hr.1.1 hn
 have HT18 : Hid (∀ (a2 : Option Addr) (c2 : Nat) (B : Nat) (w' : World),w'.ownsRow B 90 4 (.slice a2 m c2) m ([] ++ newo) -> ∃ p : Ops,Value.slice a2 m c2 = .slice p.a p.n p.c /\ p.n = m /\ p.O = r.O.O /\ p.Row w' B):=Lib.hid fun a2 c2 B w' ho => by
  refine ops_row (O:=r.O.O) ?_ (by omega)
  rw [hnewo,<- List.nil_append newo]
  exact ho
 have es1:=Lib.hid (fun (w1 : World) (hb : Below w.heap.size w w1) (h : 0 < m) => (⟨⟨r.O.b,r.O.o,none⟩,(hr.1.1 hn).1,hnewo ▸ rowL_src (fun j => (show (r.O.O j).cells.size = 4 from rfl)) (fun j hj => ((hr.1.2.2 j (by omega)).1.below (hb.mono ht) hoalt))⟩ : ∃ ad,r.O.a = some ad /\ ∀ j u,newo[j]? = some u -> w1.cell? (ad.add j) = some u))
 have es2 : Hid (∀ u ∈ newo,u.oneCell' = true):=Lib.hid (hnewo ▸ catN_one (fun j u hu => by simp only [Opn.cells,List.mem_cons,List.not_mem_nil,or_false] at hu;rcases hu with rfl | rfl | rfl | rfl <;> rfl) m)
 have es0 : Hid (newo.length = m * 4):=Lib.hid (hnewo ▸ catN_len (fun j => (show (r.O.O j).cells.size = 4 from rfl)) m)
 clear hnewo
 have es3 : Hid (0 + m <= maxLen):=Lib.hid (by unfold maxLen;omega)
 have es4 : Hid ((0 + m) * 48 <= 140737488355328):=Lib.hid (by omega)
 have HT26:=Lib.hid (fun (mp : Bool) (q : r.O.n < 48) => ops_push (mp:=mp) q)
 have os3 : Hid (r.O.n <= maxLen):=Lib.hid (by unfold maxLen;omega)
 have os4 : Hid (r.O.n * 48 <= 140737488355328):=Lib.hid (by omega)
 have ot3 : Hid (r.O.n + 1 <= maxLen):=Lib.hid (by unfold maxLen;omega)
 have ot4 : Hid ((r.O.n + 1) * 48 <= 140737488355328):=Lib.hid (by omega)
 obtain ⟨i0,hi0,hz0,hz1,hz2⟩:=info_parts Tryd.infoEvt
 obtain ⟨j0,hj0,hy0,hy1,hy2⟩:=info_parts info_open
 obtain ⟨l0,hl0,hx0,hx1,hx2⟩:=info_parts info_str
 clear hr hx hV ht h0 hs0 hf0 hnews
 obtain ⟨k,key,V⟩:=x
 obtain ⟨⟨oa,on,oc,ob,oo,F⟩,⟨ta,tn,tc,tb,to',TS⟩,nd,wrong⟩:=r
 dsimp only at hw0 hn hnd hTn hkk HBg HK HE HS HB HTop HSet hyk2 hkn hcn eoa hm ho48 hocap
 subst hw0
 subst eoa
 have ei : ((on : Nat) : Int) - 1 = m:=by omega
 have b0 : (0 : Int) <= m:=by omega
 have b1 : (m : Int) <= oc:=by omega
 have b2 : (m : Int) <= on:=by omega
 have b3 : m <= oc:=by omega
 have b4 : IntKind.i64.wrap (m : Int) = m:=by rw [IntKind.wrap_i64];omega
 have HM1 : Hid (on - 1 = m):=Lib.hid (by omega)
 clear hm hoalt
 obtain ⟨y,hy⟩ : ∃ y,F (on - 1) = y:=⟨_,rfl⟩
 rw [hy] at HK HS HB HTop hcn hyk2
 clear hy
 obtain ⟨ymp,yk',ycnt,ydue⟩:=y
 dsimp only at hyk2 hcn
 subst hyk2
 obtain ⟨ka,kn,kc,kb,ko,K⟩:=yk'
 generalize hM : ((nd : Nat) : Int) = M at *
 have HM:=Lib.hid hM
 have hM0 : 0 <= M:=by omega
 have hM1 : M <= 65536:=by omega
 clear hM
 have hM2 : IntKind.i64.wrap (M + 1) = M + 1:=by rw [IntKind.wrap_i64];omega
 have HSetK : Hid (∀ (T' : Evs) (K' : Sts) (w1 : World),Ops.In w1 w1.heap.size ⟨(some ⟨ob,oo,none⟩),on,oc,ob,oo,F⟩ -> T'.In w1 w1.heap.size -> Calls Tryd.prog 45 #[.agg #[.slice (some ⟨ob,oo,none⟩) on oc,.slice T'.a T'.n T'.c,.int .i64 M,.bool false],.agg #[.bool ymp,.slice K'.a K'.n K'.c,.int .i64 ycnt,.bool true]] w1 (fun e w' => ∃ p : Ops,e = .returned (.agg #[.slice p.a p.n p.c,.slice T'.a T'.n T'.c,.int .i64 M,.bool false]) /\ p.n = on /\ (∀ i,i + 1 < on -> p.O i = F i) /\ p.O (on - 1) = ⟨ymp,K',ycnt,true⟩ /\ p.Row w' w1.heap.size /\ Below w1.heap.size w1 w')):=Lib.hid (by
  intro T' K' w1 hO hT
  have q:=HSet.out T' nd ⟨ymp,K',ycnt,true⟩ w1 hO hT
  unfold SetOut at q
  simp only [Rst.cells,Opn.cells,HM.out] at q
  exact q)
 have HSetS : Hid (∀ (T' : Evs) (C N : Int) (w1 : World),C = (ycnt : Int) + 1 -> N = M + 1 -> Ops.In w1 w1.heap.size ⟨(some ⟨ob,oo,none⟩),on,oc,ob,oo,F⟩ -> T'.In w1 w1.heap.size -> Calls Tryd.prog 45 #[.agg #[.slice (some ⟨ob,oo,none⟩) on oc,.slice T'.a T'.n T'.c,.int .i64 N,.bool false],.agg #[.bool ymp,.slice ka kn kc,.int .i64 C,.bool false]] w1 (fun e w' => ∃ p : Ops,e = .returned (.agg #[.slice p.a on p.c,.slice T'.a T'.n T'.c,.int .i64 N,.bool false]) /\ p.n = on /\ (∀ i,i + 1 < on -> p.O i = F i) /\ p.O (on - 1) = Opn.bump ⟨ymp,⟨ka,kn,kc,kb,ko,K⟩,ycnt,ydue⟩ /\ p.Row w' w1.heap.size /\ Below w1.heap.size w1 w')):=Lib.hid (by
  intro T' C N w1 hC hN hO hT
  subst hC
  rw [<- HM.out] at hN
  subst hN
  exact (HSet.out T' (nd + 1) ⟨ymp,⟨ka,kn,kc,kb,ko,K⟩,ycnt + 1,false⟩ w1 hO hT).mono fun e w' ⟨p,q1,q2,q3⟩ => ⟨p,by rw [q1,q2];rfl,q2,q3⟩)
 clear HSet
 generalize hC : ((ycnt : Nat) : Int) = C at *
 have HC:=Lib.hid hC
 have hC2 : IntKind.i64.wrap (C + 1) = C + 1:=by rw [IntKind.wrap_i64];omega
 clear hC hcn
 have HK3:=Lib.hid hkk
 clear hkk hTn hnd
 have HKN:=Lib.hid hkn
 clear hkn
 have g0:=((Below.refl w.heap.size w).alloc (Nat.le_refl _) (.cells #[.slice (some ⟨ob,oo,none⟩) on oc,.slice ta tn tc,.int .i64 M,.bool false] 53)).alloc (by simp) (.cells #[.int .i64 k,.string key,.int .i64 V.h.k,.bool V.h.b,.bool V.h.n,.string V.h.d,.int .i64 V.h.e,.int .i64 V.h.tk,.int .i64 V.h.td,.int .i64 V.h.tn,.int .i64 V.h.tz,.string V.h.x,.slice V.h.ba V.h.bn V.h.bc,.slice V.h.la V.h.ln V.h.lc,.slice V.h.fa V.h.fn V.h.fc] 57) |>.alloc (by simp;omega) (.cells #[.slice none 0 0,.slice none 0 0,.int .i64 0,.bool false] 53)
 have P0:=((Whole.new w 53 #[.slice (some ⟨ob,oo,none⟩) on oc,.slice ta tn tc,.int .i64 M,.bool false]).alloc (.cells #[.int .i64 k,.string key,.int .i64 V.h.k,.bool V.h.b,.bool V.h.n,.string V.h.d,.int .i64 V.h.e,.int .i64 V.h.tk,.int .i64 V.h.td,.int .i64 V.h.tn,.int .i64 V.h.tz,.string V.h.x,.slice V.h.ba V.h.bn V.h.bc,.slice V.h.la V.h.ln V.h.lc,.slice V.h.fa V.h.fn V.h.fc] 57)).alloc (.cells #[.slice none 0 0,.slice none 0 0,.int .i64 0,.bool false] 53)
 have X0:=(Whole.new (w.alloc (.cells #[.slice (some ⟨ob,oo,none⟩) on oc,.slice ta tn tc,.int .i64 M,.bool false] 53)) 57 #[.int .i64 k,.string key,.int .i64 V.h.k,.bool V.h.b,.bool V.h.n,.string V.h.d,.int .i64 V.h.e,.int .i64 V.h.tk,.int .i64 V.h.td,.int .i64 V.h.tn,.int .i64 V.h.tz,.string V.h.x,.slice V.h.ba V.h.bn V.h.bc,.slice V.h.la V.h.ln V.h.lc,.slice V.h.fa V.h.fn V.h.fc]).alloc (.cells #[.slice none 0 0,.slice none 0 0,.int .i64 0,.bool false] 53)
 have Q0:=Whole.new ((w.alloc (.cells #[.slice (some ⟨ob,oo,none⟩) on oc,.slice ta tn tc,.int .i64 M,.bool false] 53)).alloc (.cells #[.int .i64 k,.string key,.int .i64 V.h.k,.bool V.h.b,.bool V.h.n,.string V.h.d,.int .i64 V.h.e,.int .i64 V.h.tk,.int .i64 V.h.td,.int .i64 V.h.tn,.int .i64 V.h.tz,.string V.h.x,.slice V.h.ba V.h.bn V.h.bc,.slice V.h.la V.h.ln V.h.lc,.slice V.h.fa V.h.fn V.h.fc] 57)) 53 #[.slice none 0 0,.slice none 0 0,.int .i64 0,.bool false]
 rw [World.size_alloc] at X0
 rw [World.size_alloc,World.size_alloc] at Q0
 simp only [Rst.cells,Ev.cells,evc,Opn.cells,Opn.zero] at HForm HFol HTop HT9 t2 ⊢
 try simp only [HM.out] at HForm HFol HTop ⊢
 try simp only [HC.out] at HTop
 obtain ⟨c0,c1,c2,c3⟩:=P0.o4s
 obtain ⟨x0,x1,x2,x3,x4,x5,x6,x7,x8,x9,x10,x11,x12,x13,x14⟩:=Whole.e15 (g:=V.h) X0
 go_enter Tryd.func22,Tryd.ntmps22
 go_wp2_with fail
 refine (HForm.out _ g0).mono ?_;rintro _ w1 ⟨rfl,hb1⟩
 clear c0 c1 c2 c3 x0 x1 x2 x3 x4 x5 x6 x7 x8 x9 x10 x11 x12 x13 x14
 have P1:=Whole.below P0 hb1 (Whole.lt P0)
 have X1:=Whole.below X0 hb1 (Whole.lt X0)
 have Q1:=Whole.below Q0 hb1 (Whole.lt Q0)
 have g1:=below_then g0 hb1
 clear P0 X0 Q0 g0
 clear hb1 HForm
 obtain ⟨c0,c1,c2,c3⟩:=P1.o4s
 obtain ⟨x0,x1,x2,x3,x4,x5,x6,x7,x8,x9,x10,x11,x12,x13,x14⟩:=Whole.e15 (g:=V.h) X1
 go_wp2_with fail
 refine (HFol.out _ g1).mono ?_;rintro _ w2 ⟨rfl,hb2⟩
 clear c0 c1 c2 c3 x0 x1 x2 x3 x4 x5 x6 x7 x8 x9 x10 x11 x12 x13 x14
 have P2:=Whole.below P1 hb2 (Whole.lt P1)
 have X2:=Whole.below X1 hb2 (Whole.lt X1)
 have Q2:=Whole.below Q1 hb2 (Whole.lt Q1)
 have g2:=below_then g1 hb2
 clear P1 X1 Q1 g1
 clear hb2 HFol
 go_upto_region 9 with (fail)
 go_cut [] (fun wx => ∃ (T' : Evs) (B : Nat),w.heap.size + 3 <= B /\ B <= wx.heap.size /\ Hid (T'.Row wx B /\ T'.n = tn + 1 /\ T'.S = fun i => if i < tn then TS i else ⟨k,key,V⟩) /\ Whole wx w.heap.size 53 #[.slice (some ⟨ob,oo,none⟩) on oc,.slice T'.a T'.n T'.c,.int .i64 M,.bool false] /\ Whole wx (w.heap.size + 1) 57 #[.int .i64 k,.string key,.int .i64 V.h.k,.bool V.h.b,.bool V.h.n,.string V.h.d,.int .i64 V.h.e,.int .i64 V.h.tk,.int .i64 V.h.td,.int .i64 V.h.tn,.int .i64 V.h.tz,.string V.h.x,.slice V.h.ba V.h.bn V.h.bc,.slice V.h.la V.h.ln V.h.lc,.slice V.h.fa V.h.fn V.h.fc] /\ Whole wx (w.heap.size + 2) 53 #[.slice none 0 0,.slice none 0 0,.int .i64 0,.bool false] /\ Below w.heap.size w wx)
 case first =>
  refine wp_region_T (fun Wz => Whole Wz (w.heap.size) 53 #[.slice (some ⟨ob,oo,none⟩) on oc,.slice ta tn tc,.int .i64 M,.bool false] /\ Whole Wz ((w.heap.size + 1)) 57 #[.int .i64 k,.string key,.int .i64 V.h.k,.bool V.h.b,.bool V.h.n,.string V.h.d,.int .i64 V.h.e,.int .i64 V.h.tk,.int .i64 V.h.td,.int .i64 V.h.tn,.int .i64 V.h.tz,.string V.h.x,.slice V.h.ba V.h.bn V.h.bc,.slice V.h.la V.h.ln V.h.lc,.slice V.h.fa V.h.fn V.h.fc]) [8] (by kernel_rfl) ?_
  have g3:=Below.drew g2
  have P3:=Whole.drew P2
  have X3:=Whole.drew X2
  have Q3:=Whole.drew Q2
  clear g2 P2 X2 Q2
  generalize w2.drew = w3 at *
  have hlq:=Q3.lt
  have h:=Below.refl w3.heap.size w3
  refine tk (i:=1) rfl (by kernel_rfl) (by rfl) (fun _ _ _ h => h) ⟨(P3.below h P3.lt),(X3.below h X3.lt)⟩ (by intro wS hSw;go_simp;try with_reducible rfl) ?_
  simp only [Act.put,actS]
  refine tk (i:=2) rfl (by kernel_rfl) (by rfl) (fun _ _ _ h => h) ⟨(P3.below h P3.lt),(X3.below h X3.lt)⟩ (by intro wS hSw;obtain ⟨Pz,Xz⟩:=hSw;obtain ⟨-,c1,-,-⟩:=Pz.o4s;go_simp;try with_reducible rfl) ?_
  simp only [Act.put,actS]
  refine tk (i:=4) rfl (by kernel_rfl) (by rfl) (fun _ _ _ h => h) ⟨(P3.below h P3.lt),(X3.below h X3.lt)⟩ (by intro wS hSw;obtain ⟨Pz,Xz⟩:=hSw;obtain ⟨x0,x1,x2,x3,x4,x5,x6,x7,x8,x9,x10,x11,x12,x13,x14⟩:=Whole.e15 (g:=V.h) Xz;go_simp;try with_reducible rfl) ?_
  simp only [Act.put,actS]
  refine wpAnyT_ready (rs:=[0,5]) (by kernel_rfl) (by simp) ?_
  refine (AllT.cons rfl (fun KK hK => ?_) (AllT.cons rfl (fun KK hK => ?_) AllT.nil))
  ·go_simp
   have q:=(Below.refl w3.heap.size w3).alloc (Nat.le_refl _) (.cells #[] 57)
   have A:=Whole.new w3 57 #[]
   generalize w3.alloc (.cells #[] 57) = w4 at q A ⊢
   have Vr:=Lib.hid (own_empty (C:=15) A h.size)
   replace h:=below_then h q
   clear q A
   refine hK.out _ _ (.inr ⟨(P3.below h P3.lt),(X3.below h X3.lt)⟩) ?_
   clear hK KK
   try simp only [Act.put,actS]
   refine wpAnyT_ready (rs:=[3,5]) (by kernel_rfl) (by simp) ?_
   refine (AllT.cons rfl (fun KK hK => ?_) (AllT.cons rfl (fun KK hK => ?_) AllT.nil))
   ·refine step_append_any _ (by rfl) _ _ _ (by rfl) _ 57 i0 _ 15 192 Tryd.underlying34 hi0 hz0 hz1 hz2 rfl (by decide) (.slice (some ⟨w3.heap.size,0,none⟩) 0 0) 0 [] (by rfl) Vr.out ta tn tc news (by rfl) s0.out (s1.out _ (below_then g3 h)) s2.out tn (by omega) s3.out s4.out h.size ?_
    intro a1 z1 w5 o hg ht
    replace h:=h.grown hg h.size (fun g q => (own_lt Vr.out q).1)
    replace Vr:=Lib.hid o
    clear o hg ht
    refine hK.out _ _ (.inr ⟨(P3.below h P3.lt),(X3.below h X3.lt)⟩) ?_
    clear hK KK
    try simp only [Act.put,actS]
    refine wpAnyT_ready (rs:=[5]) (by kernel_rfl) (by simp) ?_
    refine (AllT.cons rfl (fun KK hK => ?_) AllT.nil)
    go_simp
    have q:=(Below.refl w5.heap.size w5).alloc (Nat.le_refl _) (.cells #[.int .i64 k,.string key,.int .i64 V.h.k,.bool V.h.b,.bool V.h.n,.string V.h.d,.int .i64 V.h.e,.int .i64 V.h.tk,.int .i64 V.h.td,.int .i64 V.h.tn,.int .i64 V.h.tz,.string V.h.x,.slice V.h.ba V.h.bn V.h.bc,.slice V.h.la V.h.ln V.h.lc,.slice V.h.fa V.h.fn V.h.fc] 57)
    have A:=Whole.new w5 57 #[.int .i64 k,.string key,.int .i64 V.h.k,.bool V.h.b,.bool V.h.n,.string V.h.d,.int .i64 V.h.e,.int .i64 V.h.tk,.int .i64 V.h.td,.int .i64 V.h.tn,.int .i64 V.h.tz,.string V.h.x,.slice V.h.ba V.h.bn V.h.bc,.slice V.h.la V.h.ln V.h.lc,.slice V.h.fa V.h.fn V.h.fc]
    generalize w5.alloc (.cells #[.int .i64 k,.string key,.int .i64 V.h.k,.bool V.h.b,.bool V.h.n,.string V.h.d,.int .i64 V.h.e,.int .i64 V.h.tk,.int .i64 V.h.td,.int .i64 V.h.tn,.int .i64 V.h.tz,.string V.h.x,.slice V.h.ba V.h.bn V.h.bc,.slice V.h.la V.h.ln V.h.lc,.slice V.h.fa V.h.fn V.h.fc] 57) = w6 at q A ⊢
    replace Vr:=Lib.hid (own_below Vr.out q)
    have Xe:=A
    replace h:=below_then h q
    clear q A
    refine hK.out _ _ (.inr ⟨(P3.below h P3.lt),(X3.below h X3.lt)⟩) ?_
    clear hK KK
    try simp only [Act.put,actS]
    refine wpAnyT_ready (rs:=[6]) (by kernel_rfl) (by simp) ?_
    refine (AllT.cons rfl (fun KK hK => ?_) AllT.nil)
    refine step_append_any _ (by rfl) _ _ _ (by rfl) _ 57 i0 _ 15 192 Tryd.underlying34 hi0 hz0 hz1 hz2 rfl (by decide) (.slice a1 tn z1) tn _ (by rfl) Vr.out (some ⟨w5.heap.size,0,none⟩) 1 1 (#[.int .i64 k,.string key,.int .i64 V.h.k,.bool V.h.b,.bool V.h.n,.string V.h.d,.int .i64 V.h.e,.int .i64 V.h.tk,.int .i64 V.h.td,.int .i64 V.h.tn,.int .i64 V.h.tz,.string V.h.x,.slice V.h.ba V.h.bn V.h.bc,.slice V.h.la V.h.ln V.h.lc,.slice V.h.fa V.h.fn V.h.fc] : Array Value).toList (by rfl) (by rfl) (fun _ => ⟨_,rfl,World.news_of_block Xe⟩) t2.out (tn + 1) rfl t3.out t4.out h.size ?_
    intro a2 z2 w7 o hg ht
    clear Xe
    replace h:=h.grown hg h.size (fun g q => (own_lt Vr.out q).1)
    replace Vr:=Lib.hid o
    clear o hg ht
    refine hK.out _ _ (.inr ⟨(P3.below h P3.lt),(X3.below h X3.lt)⟩) ?_
    clear hK KK
    try simp only [Act.put,actS]
    refine tk (i:=7) rfl (by kernel_rfl) (by rfl) (fun _ _ _ h => h) ⟨(P3.below h P3.lt),(X3.below h X3.lt)⟩ (by intro wS hSw;go_simp;try with_reducible rfl) ?_
    simp only [Act.put,actS]
    refine wpAnyT_ready (rs:=[8]) (by kernel_rfl) (by simp) ?_
    refine (AllT.cons rfl (fun KK hK => ?_) AllT.nil)
    have hsW0:=h.size
    have P4:=Whole.below P3 h (Whole.lt P3)
    have X4:=Whole.below X3 h (Whole.lt X3)
    have Q4:=Whole.below Q3 h (Whole.lt Q3)
    have g4:=below_then g3 h
    clear P3 X3 Q3 g3
    have sc:=Whole.cell P4 1
    have sf:=Whole.frozen P4 1
    simp only [List.getElem?_toArray,List.getElem?_cons_succ,List.getElem?_cons_zero] at sc
    go_simp
    replace Vr:=Lib.hid (own_block (W':=w7.setCell ⟨w.heap.size,1,none⟩ (.slice a2 (tn + 1) z2)) Vr.out (fun g q => Below.heap_setCell _ _ _ _ (by have:=(own_lt Vr.out q).1;show g ≠ w.heap.size;omega)))
    have hsW : w3.heap.size <= (w7.setCell ⟨w.heap.size,1,none⟩ (.slice a2 (tn + 1) z2)).heap.size:=by rw [show (w7.setCell ⟨w.heap.size,1,none⟩ (.slice a2 (tn + 1) z2)).heap.size = w7.heap.size by simp];exact hsW0
    clear sc sf h hsW0
    have P5 : Whole (w7.setCell ⟨w.heap.size,1,none⟩ (.slice a2 (tn + 1) z2)) w.heap.size 53 #[.slice (some ⟨ob,oo,none⟩) on oc,(.slice a2 (tn + 1) z2),.int .i64 M,.bool false]:=Whole.set P4 1 (.slice a2 (tn + 1) z2)
    have X5:=Whole.far (p:=⟨w.heap.size,1,none⟩) X4 (by show (w.heap.size + 1) ≠ w.heap.size;omega) (.slice a2 (tn + 1) z2)
    have Q5:=Whole.far (p:=⟨w.heap.size,1,none⟩) Q4 (by show (w.heap.size + 2) ≠ w.heap.size;omega) (.slice a2 (tn + 1) z2)
    have g5:=Below.setCell (p:=⟨w.heap.size,1,none⟩) g4 (by show _ <= w.heap.size;omega) (.slice a2 (tn + 1) z2)
    clear P4 X4 Q4 g4
    generalize w7.setCell ⟨w.heap.size,1,none⟩ (.slice a2 (tn + 1) z2) = w8 at *
    refine hK.out _ _ (.inl (by decide)) ?_
    clear hK KK
    try simp only [Act.put,actS]
    refine wpAnyT_done (by kernel_rfl) ?_ _
    go_wp2_with fail
    go_meet
    obtain ⟨T',e1,e2,e3,e4⟩:=HT9.out _ _ _ _ Vr.out
    exact ⟨T',w3.heap.size,by omega,hsW,Lib.hid ⟨e4,e2,e3⟩,e1 ▸ P5,X5,Q5,g5⟩
   ·go_simp
    have q:=(Below.refl w4.heap.size w4).alloc (Nat.le_refl _) (.cells #[.int .i64 k,.string key,.int .i64 V.h.k,.bool V.h.b,.bool V.h.n,.string V.h.d,.int .i64 V.h.e,.int .i64 V.h.tk,.int .i64 V.h.td,.int .i64 V.h.tn,.int .i64 V.h.tz,.string V.h.x,.slice V.h.ba V.h.bn V.h.bc,.slice V.h.la V.h.ln V.h.lc,.slice V.h.fa V.h.fn V.h.fc] 57)
    have A:=Whole.new w4 57 #[.int .i64 k,.string key,.int .i64 V.h.k,.bool V.h.b,.bool V.h.n,.string V.h.d,.int .i64 V.h.e,.int .i64 V.h.tk,.int .i64 V.h.td,.int .i64 V.h.tn,.int .i64 V.h.tz,.string V.h.x,.slice V.h.ba V.h.bn V.h.bc,.slice V.h.la V.h.ln V.h.lc,.slice V.h.fa V.h.fn V.h.fc]
    generalize w4.alloc (.cells #[.int .i64 k,.string key,.int .i64 V.h.k,.bool V.h.b,.bool V.h.n,.string V.h.d,.int .i64 V.h.e,.int .i64 V.h.tk,.int .i64 V.h.td,.int .i64 V.h.tn,.int .i64 V.h.tz,.string V.h.x,.slice V.h.ba V.h.bn V.h.bc,.slice V.h.la V.h.ln V.h.lc,.slice V.h.fa V.h.fn V.h.fc] 57) = w5 at q A ⊢
    have hne : w3.heap.size ≠ w4.heap.size:=by have:=(own_lt Vr.out (g:=w3.heap.size) rfl).2;omega
    replace Vr:=Lib.hid (own_below Vr.out q)
    have Xe:=A
    replace h:=below_then h q
    clear q A
    refine hK.out _ _ (.inr ⟨(P3.below h P3.lt),(X3.below h X3.lt)⟩) ?_
    clear hK KK
    try simp only [Act.put,actS]
    refine wpAnyT_ready (rs:=[3]) (by kernel_rfl) (by simp) ?_
    refine (AllT.cons rfl (fun KK hK => ?_) AllT.nil)
    refine step_append_any _ (by rfl) _ _ _ (by rfl) _ 57 i0 _ 15 192 Tryd.underlying34 hi0 hz0 hz1 hz2 rfl (by decide) (.slice (some ⟨w3.heap.size,0,none⟩) 0 0) 0 [] (by rfl) Vr.out ta tn tc news (by rfl) s0.out (s1.out _ (below_then g3 h)) s2.out tn (by omega) s3.out s4.out h.size ?_
    intro a1 z1 w6 o hg ht
    replace Xe:=Xe.kept hg (fun e => hne (Option.some.inj (show some _ = some _ from e)).symm)
    replace h:=h.grown hg h.size (fun g q => (own_lt Vr.out q).1)
    replace Vr:=Lib.hid o
    clear o hg ht
    refine hK.out _ _ (.inr ⟨(P3.below h P3.lt),(X3.below h X3.lt)⟩) ?_
    clear hK KK
    try simp only [Act.put,actS]
    refine wpAnyT_ready (rs:=[6]) (by kernel_rfl) (by simp) ?_
    refine (AllT.cons rfl (fun KK hK => ?_) AllT.nil)
    refine step_append_any _ (by rfl) _ _ _ (by rfl) _ 57 i0 _ 15 192 Tryd.underlying34 hi0 hz0 hz1 hz2 rfl (by decide) (.slice a1 tn z1) tn _ (by rfl) Vr.out (some ⟨w4.heap.size,0,none⟩) 1 1 (#[.int .i64 k,.string key,.int .i64 V.h.k,.bool V.h.b,.bool V.h.n,.string V.h.d,.int .i64 V.h.e,.int .i64 V.h.tk,.int .i64 V.h.td,.int .i64 V.h.tn,.int .i64 V.h.tz,.string V.h.x,.slice V.h.ba V.h.bn V.h.bc,.slice V.h.la V.h.ln V.h.lc,.slice V.h.fa V.h.fn V.h.fc] : Array Value).toList (by rfl) (by rfl) (fun _ => ⟨_,rfl,World.news_of_block Xe⟩) t2.out (tn + 1) rfl t3.out t4.out h.size ?_
    intro a2 z2 w7 o hg ht
    clear Xe
    replace h:=h.grown hg h.size (fun g q => (own_lt Vr.out q).1)
    replace Vr:=Lib.hid o
    clear o hg ht
    refine hK.out _ _ (.inr ⟨(P3.below h P3.lt),(X3.below h X3.lt)⟩) ?_
    clear hK KK
    try simp only [Act.put,actS]
    refine tk (i:=7) rfl (by kernel_rfl) (by rfl) (fun _ _ _ h => h) ⟨(P3.below h P3.lt),(X3.below h X3.lt)⟩ (by intro wS hSw;go_simp;try with_reducible rfl) ?_
    simp only [Act.put,actS]
    refine wpAnyT_ready (rs:=[8]) (by kernel_rfl) (by simp) ?_
    refine (AllT.cons rfl (fun KK hK => ?_) AllT.nil)
    have hsW0:=h.size
    have P4:=Whole.below P3 h (Whole.lt P3)
    have X4:=Whole.below X3 h (Whole.lt X3)
    have Q4:=Whole.below Q3 h (Whole.lt Q3)
    have g4:=below_then g3 h
    clear P3 X3 Q3 g3
    have sc:=Whole.cell P4 1
    have sf:=Whole.frozen P4 1
    simp only [List.getElem?_toArray,List.getElem?_cons_succ,List.getElem?_cons_zero] at sc
    go_simp
    replace Vr:=Lib.hid (own_block (W':=w7.setCell ⟨w.heap.size,1,none⟩ (.slice a2 (tn + 1) z2)) Vr.out (fun g q => Below.heap_setCell _ _ _ _ (by have:=(own_lt Vr.out q).1;show g ≠ w.heap.size;omega)))
    have hsW : w3.heap.size <= (w7.setCell ⟨w.heap.size,1,none⟩ (.slice a2 (tn + 1) z2)).heap.size:=by rw [show (w7.setCell ⟨w.heap.size,1,none⟩ (.slice a2 (tn + 1) z2)).heap.size = w7.heap.size by simp];exact hsW0
    clear sc sf h hsW0
    have P5 : Whole (w7.setCell ⟨w.heap.size,1,none⟩ (.slice a2 (tn + 1) z2)) w.heap.size 53 #[.slice (some ⟨ob,oo,none⟩) on oc,(.slice a2 (tn + 1) z2),.int .i64 M,.bool false]:=Whole.set P4 1 (.slice a2 (tn + 1) z2)
    have X5:=Whole.far (p:=⟨w.heap.size,1,none⟩) X4 (by show (w.heap.size + 1) ≠ w.heap.size;omega) (.slice a2 (tn + 1) z2)
    have Q5:=Whole.far (p:=⟨w.heap.size,1,none⟩) Q4 (by show (w.heap.size + 2) ≠ w.heap.size;omega) (.slice a2 (tn + 1) z2)
    have g5:=Below.setCell (p:=⟨w.heap.size,1,none⟩) g4 (by show _ <= w.heap.size;omega) (.slice a2 (tn + 1) z2)
    clear P4 X4 Q4 g4
    generalize w7.setCell ⟨w.heap.size,1,none⟩ (.slice a2 (tn + 1) z2) = w8 at *
    refine hK.out _ _ (.inl (by decide)) ?_
    clear hK KK
    try simp only [Act.put,actS]
    refine wpAnyT_done (by kernel_rfl) ?_ _
    go_wp2_with fail
    go_meet
    obtain ⟨T',e1,e2,e3,e4⟩:=HT9.out _ _ _ _ Vr.out
    exact ⟨T',w3.heap.size,by omega,hsW,Lib.hid ⟨e4,e2,e3⟩,e1 ▸ P5,X5,Q5,g5⟩
  ·go_simp
   have q:=(Below.refl w3.heap.size w3).alloc (Nat.le_refl _) (.cells #[.int .i64 k,.string key,.int .i64 V.h.k,.bool V.h.b,.bool V.h.n,.string V.h.d,.int .i64 V.h.e,.int .i64 V.h.tk,.int .i64 V.h.td,.int .i64 V.h.tn,.int .i64 V.h.tz,.string V.h.x,.slice V.h.ba V.h.bn V.h.bc,.slice V.h.la V.h.ln V.h.lc,.slice V.h.fa V.h.fn V.h.fc] 57)
   have A:=Whole.new w3 57 #[.int .i64 k,.string key,.int .i64 V.h.k,.bool V.h.b,.bool V.h.n,.string V.h.d,.int .i64 V.h.e,.int .i64 V.h.tk,.int .i64 V.h.td,.int .i64 V.h.tn,.int .i64 V.h.tz,.string V.h.x,.slice V.h.ba V.h.bn V.h.bc,.slice V.h.la V.h.ln V.h.lc,.slice V.h.fa V.h.fn V.h.fc]
   generalize w3.alloc (.cells #[.int .i64 k,.string key,.int .i64 V.h.k,.bool V.h.b,.bool V.h.n,.string V.h.d,.int .i64 V.h.e,.int .i64 V.h.tk,.int .i64 V.h.td,.int .i64 V.h.tn,.int .i64 V.h.tz,.string V.h.x,.slice V.h.ba V.h.bn V.h.bc,.slice V.h.la V.h.ln V.h.lc,.slice V.h.fa V.h.fn V.h.fc] 57) = w4 at q A ⊢
   have Xe:=A
   replace h:=below_then h q
   clear q A
   refine hK.out _ _ (.inr ⟨(P3.below h P3.lt),(X3.below h X3.lt)⟩) ?_
   clear hK KK
   try simp only [Act.put,actS]
   refine wpAnyT_ready (rs:=[0]) (by kernel_rfl) (by simp) ?_
   refine (AllT.cons rfl (fun KK hK => ?_) AllT.nil)
   go_simp
   have q:=(Below.refl w4.heap.size w4).alloc (Nat.le_refl _) (.cells #[] 57)
   have A:=Whole.new w4 57 #[]
   generalize w4.alloc (.cells #[] 57) = w5 at q A ⊢
   have Vr:=Lib.hid (own_empty (C:=15) A h.size)
   have hne : w4.heap.size ≠ w3.heap.size:=by have:=Xe.lt;omega
   replace Xe:=Xe.below q Xe.lt
   replace h:=below_then h q
   clear q A
   refine hK.out _ _ (.inr ⟨(P3.below h P3.lt),(X3.below h X3.lt)⟩) ?_
   clear hK KK
   try simp only [Act.put,actS]
   refine wpAnyT_ready (rs:=[3]) (by kernel_rfl) (by simp) ?_
   refine (AllT.cons rfl (fun KK hK => ?_) AllT.nil)
   refine step_append_any _ (by rfl) _ _ _ (by rfl) _ 57 i0 _ 15 192 Tryd.underlying34 hi0 hz0 hz1 hz2 rfl (by decide) (.slice (some ⟨w4.heap.size,0,none⟩) 0 0) 0 [] (by rfl) Vr.out ta tn tc news (by rfl) s0.out (s1.out _ (below_then g3 h)) s2.out tn (by omega) s3.out s4.out h.size ?_
   intro a1 z1 w6 o hg ht
   replace Xe:=Xe.kept hg (fun e => hne (Option.some.inj (show some _ = some _ from e)).symm)
   replace h:=h.grown hg h.size (fun g q => (own_lt Vr.out q).1)
   replace Vr:=Lib.hid o
   clear o hg ht
   refine hK.out _ _ (.inr ⟨(P3.below h P3.lt),(X3.below h X3.lt)⟩) ?_
   clear hK KK
   try simp only [Act.put,actS]
   refine wpAnyT_ready (rs:=[6]) (by kernel_rfl) (by simp) ?_
   refine (AllT.cons rfl (fun KK hK => ?_) AllT.nil)
   refine step_append_any _ (by rfl) _ _ _ (by rfl) _ 57 i0 _ 15 192 Tryd.underlying34 hi0 hz0 hz1 hz2 rfl (by decide) (.slice a1 tn z1) tn _ (by rfl) Vr.out (some ⟨w3.heap.size,0,none⟩) 1 1 (#[.int .i64 k,.string key,.int .i64 V.h.k,.bool V.h.b,.bool V.h.n,.string V.h.d,.int .i64 V.h.e,.int .i64 V.h.tk,.int .i64 V.h.td,.int .i64 V.h.tn,.int .i64 V.h.tz,.string V.h.x,.slice V.h.ba V.h.bn V.h.bc,.slice V.h.la V.h.ln V.h.lc,.slice V.h.fa V.h.fn V.h.fc] : Array Value).toList (by rfl) (by rfl) (fun _ => ⟨_,rfl,World.news_of_block Xe⟩) t2.out (tn + 1) rfl t3.out t4.out h.size ?_
   intro a2 z2 w7 o hg ht
   clear Xe
   replace h:=h.grown hg h.size (fun g q => (own_lt Vr.out q).1)
   replace Vr:=Lib.hid o
   clear o hg ht
   refine hK.out _ _ (.inr ⟨(P3.below h P3.lt),(X3.below h X3.lt)⟩) ?_
   clear hK KK
   try simp only [Act.put,actS]
   refine tk (i:=7) rfl (by kernel_rfl) (by rfl) (fun _ _ _ h => h) ⟨(P3.below h P3.lt),(X3.below h X3.lt)⟩ (by intro wS hSw;go_simp;try with_reducible rfl) ?_
   simp only [Act.put,actS]
   refine wpAnyT_ready (rs:=[8]) (by kernel_rfl) (by simp) ?_
   refine (AllT.cons rfl (fun KK hK => ?_) AllT.nil)
   have hsW0:=h.size
   have P4:=Whole.below P3 h (Whole.lt P3)
   have X4:=Whole.below X3 h (Whole.lt X3)
   have Q4:=Whole.below Q3 h (Whole.lt Q3)
   have g4:=below_then g3 h
   clear P3 X3 Q3 g3
   have sc:=Whole.cell P4 1
   have sf:=Whole.frozen P4 1
   simp only [List.getElem?_toArray,List.getElem?_cons_succ,List.getElem?_cons_zero] at sc
   go_simp
   replace Vr:=Lib.hid (own_block (W':=w7.setCell ⟨w.heap.size,1,none⟩ (.slice a2 (tn + 1) z2)) Vr.out (fun g q => Below.heap_setCell _ _ _ _ (by have:=(own_lt Vr.out q).1;show g ≠ w.heap.size;omega)))
   have hsW : w3.heap.size <= (w7.setCell ⟨w.heap.size,1,none⟩ (.slice a2 (tn + 1) z2)).heap.size:=by rw [show (w7.setCell ⟨w.heap.size,1,none⟩ (.slice a2 (tn + 1) z2)).heap.size = w7.heap.size by simp];exact hsW0
   clear sc sf h hsW0
   have P5 : Whole (w7.setCell ⟨w.heap.size,1,none⟩ (.slice a2 (tn + 1) z2)) w.heap.size 53 #[.slice (some ⟨ob,oo,none⟩) on oc,(.slice a2 (tn + 1) z2),.int .i64 M,.bool false]:=Whole.set P4 1 (.slice a2 (tn + 1) z2)
   have X5:=Whole.far (p:=⟨w.heap.size,1,none⟩) X4 (by show (w.heap.size + 1) ≠ w.heap.size;omega) (.slice a2 (tn + 1) z2)
   have Q5:=Whole.far (p:=⟨w.heap.size,1,none⟩) Q4 (by show (w.heap.size + 2) ≠ w.heap.size;omega) (.slice a2 (tn + 1) z2)
   have g5:=Below.setCell (p:=⟨w.heap.size,1,none⟩) g4 (by show _ <= w.heap.size;omega) (.slice a2 (tn + 1) z2)
   clear P4 X4 Q4 g4
   generalize w7.setCell ⟨w.heap.size,1,none⟩ (.slice a2 (tn + 1) z2) = w8 at *
   refine hK.out _ _ (.inl (by decide)) ?_
   clear hK KK
   try simp only [Act.put,actS]
   refine wpAnyT_done (by kernel_rfl) ?_ _
   go_wp2_with fail
   go_meet
   obtain ⟨T',e1,e2,e3,e4⟩:=HT9.out _ _ _ _ Vr.out
   exact ⟨T',w3.heap.size,by omega,hsW,Lib.hid ⟨e4,e2,e3⟩,e1 ▸ P5,X5,Q5,g5⟩
 case rest =>
 clear g2 P2 X2 Q2 s0 s1 s2 s3 s4 t2 t3 t4 HT9 hi0 hz0 hz1 hz2
 obtain ⟨T',BT,hBT,hBT2,HT',P9,X9,Q9,g9⟩:=hcut
 generalize wc = w9 at *
 have hq9:=Whole.lt Q9
 have k9:=Kept.refl (fun b => b < w.heap.size + 3) w9
 obtain ⟨c0,c1,c2,c3⟩:=P9.o4s
 go_wp2_with fail
 refine (HTop.out T' w9 (HOin.out _ g9) (HTin.out _ _ _ g9 HT'.out.1 HT'.out.2.1 HT'.out.2.2)).mono ?_;rintro _ w10 ⟨rfl,hb10⟩
 clear c0 c1 c2 c3
 have P10:=Whole.below P9 hb10 (Whole.lt P9)
 have X10:=Whole.below X9 hb10 (Whole.lt X9)
 have Q10:=Whole.below Q9 hb10 (Whole.lt Q9)
 have g10:=below_then g9 hb10
 have k10:=Kept.trans k9 (Kept.of (O:=(fun b => b < w.heap.size + 3)) hb10) (fun _ h => .inl h)
 clear P9 X9 Q9 g9 k9
 clear hb10 HTop
 have hq10:=Whole.lt Q10
 have hk10:=k10.size
 have q11:=(Below.refl w10.heap.size w10).alloc (Nat.le_refl _) (.cells #[.bool false,.slice none 0 0,.int .i64 0,.bool false] 90)
 have N11:=Whole.new w10 90 #[.bool false,.slice none 0 0,.int .i64 0,.bool false]
 have P11:=Whole.below P10 q11 (Whole.lt P10)
 have X11:=Whole.below X10 q11 (Whole.lt X10)
 have Q11:=Whole.below Q10 q11 (Whole.lt Q10)
 have g11:=below_then g10 q11
 have k11:=Kept.trans k10 (Kept.of (O:=(fun b => b < w.heap.size + 3)) q11) (fun _ h => .inl h)
 clear P10 X10 Q10 g10 k10
 clear q11
 have hone : Hid ((#[.bool ymp,.slice ka kn kc,.int .i64 C,.bool ydue] : Array Value).all (·.oneCell') = true):=Lib.hid (by simp [Value.oneCell'])
 have Nb:=N11
 have P12:=Whole.farRow (B':=w10.heap.size) P11 (by omega) #[.bool ymp,.slice ka kn kc,.int .i64 C,.bool ydue]
 have X12:=Whole.farRow (B':=w10.heap.size) X11 (by omega) #[.bool ymp,.slice ka kn kc,.int .i64 C,.bool ydue]
 have Q12:=Whole.farRow (B':=w10.heap.size) Q11 (by omega) #[.bool ymp,.slice ka kn kc,.int .i64 C,.bool ydue]
 have N12:=Whole.setRow N11 #[.bool ymp,.slice ka kn kc,.int .i64 C,.bool ydue]
 have g12:=below_setRow (g:=w10.heap.size) g11 (by omega) #[.bool ymp,.slice ka kn kc,.int .i64 C,.bool ydue]
 have k12:=Kept.trans k11 (kept_setRow (fun b => b = w10.heap.size) (w10.alloc (.cells #[.bool false,.slice none 0 0,.int .i64 0,.bool false] 90)) (w10.heap.size) #[.bool ymp,.slice ka kn kc,.int .i64 C,.bool ydue] rfl) (fun b h => by subst h;omega)
 clear P11 X11 Q11 N11 g11 k11
 have x0:=(Whole.e15 (g:=V.h) X12).1
 go_upto_region 12 with (refine wpList_store_row rfl 90 _ _ rfl w10.heap.size #[.bool ymp,.slice ka kn kc,.int .i64 C,.bool ydue] rfl rfl 90 _ Nb opn_row rfl hone.out ?_)
 clear x0 Nb
 generalize (w10.alloc (.cells #[.bool false,.slice none 0 0,.int .i64 0,.bool false] 90)).setRow (w10.heap.size) #[.bool ymp,.slice ka kn kc,.int .i64 C,.bool ydue] = w12 at *
 clear hone
 have hn12:=Whole.lt N12
 by_cases k6 : k = 6
 ·have d6 : (k == 6) = true:=beq_iff_eq.2 k6
  have HKo:=Lib.hid (HK.out k6)
  have hk2:=Lib.hid (HKN.out k6)
  clear HK HE HS HB HKN HK3 HBg k6 HT18 HT26 HSetS
  go_upto_region 13 with (fail)
  go_cut [] (fun wx => ∃ (K' : Sts) (B : Nat),w10.heap.size < B /\ Hid (K'.Row wx B /\ K'.n = kn + 1 /\ K'.K = fun j => if j < kn then K j else key) /\ Whole wx w.heap.size 53 #[.slice (some ⟨ob,oo,none⟩) on oc,.slice T'.a T'.n T'.c,.int .i64 M,.bool false] /\ Whole wx (w.heap.size + 1) 57 #[.int .i64 k,.string key,.int .i64 V.h.k,.bool V.h.b,.bool V.h.n,.string V.h.d,.int .i64 V.h.e,.int .i64 V.h.tk,.int .i64 V.h.td,.int .i64 V.h.tn,.int .i64 V.h.tz,.string V.h.x,.slice V.h.ba V.h.bn V.h.bc,.slice V.h.la V.h.ln V.h.lc,.slice V.h.fa V.h.fn V.h.fc] /\ Whole wx (w.heap.size + 2) 53 #[.slice none 0 0,.slice none 0 0,.int .i64 0,.bool false] /\ Whole wx w10.heap.size 90 #[.bool ymp,.slice K'.a K'.n K'.c,.int .i64 C,.bool ydue] /\ Below w.heap.size w wx /\ Kept (fun b => b < w.heap.size + 3) w9 wx)
  case first =>
   refine wp_region_T (fun Wz => Whole Wz (w.heap.size + 1) 57 #[.int .i64 k,.string key,.int .i64 V.h.k,.bool V.h.b,.bool V.h.n,.string V.h.d,.int .i64 V.h.e,.int .i64 V.h.tk,.int .i64 V.h.td,.int .i64 V.h.tn,.int .i64 V.h.tz,.string V.h.x,.slice V.h.ba V.h.bn V.h.bc,.slice V.h.la V.h.ln V.h.lc,.slice V.h.fa V.h.fn V.h.fc] /\ Whole Wz w10.heap.size 90 #[.bool ymp,.slice ka kn kc,.int .i64 C,.bool ydue]) [9] (by kernel_rfl) ?_
   have qd : Below w12.heap.size w12 w12.drew:=(Below.refl _ w12).drew
   generalize w12.drew = w13 at *
   have P13:=Whole.below P12 qd (Whole.lt P12)
   have X13:=Whole.below X12 qd (Whole.lt X12)
   have Q13:=Whole.below Q12 qd (Whole.lt Q12)
   have N13:=Whole.below N12 qd (Whole.lt N12)
   have g13:=below_then g12 qd
   have k13:=Kept.trans k12 (Kept.of (O:=(fun b => b < w.heap.size + 3)) qd) (fun _ h => .inl h)
   clear P12 X12 Q12 N12 g12 k12
   clear qd
   have hlN:=Whole.lt N13
   have h:=Below.refl w13.heap.size w13
   refine tk (i:=1) rfl (by kernel_rfl) (by rfl) (fun _ _ _ h => h) ⟨(X13.below h X13.lt),(N13.below h N13.lt)⟩ (by intro wS hSw;go_simp;try with_reducible rfl) ?_
   simp only [Act.put,actS]
   refine tk (i:=2) rfl (by kernel_rfl) (by rfl) (fun _ _ _ h => h) ⟨(X13.below h X13.lt),(N13.below h N13.lt)⟩ (by intro wS hSw;obtain ⟨Xz,Nz⟩:=hSw;obtain ⟨-,n1,-,-⟩:=Nz.o4;go_simp;try with_reducible rfl) ?_
   simp only [Act.put,actS]
   refine tk (i:=4) rfl (by kernel_rfl) (by rfl) (fun _ _ _ h => h) ⟨(X13.below h X13.lt),(N13.below h N13.lt)⟩ (by intro wS hSw;go_simp;try with_reducible rfl) ?_
   simp only [Act.put,actS]
   refine tk (i:=5) rfl (by kernel_rfl) (by rfl) (fun _ _ _ h => h) ⟨(X13.below h X13.lt),(N13.below h N13.lt)⟩ (by intro wS hSw;obtain ⟨Xz,Nz⟩:=hSw;have x1:=(Whole.e15 (g:=V.h) Xz).2.1;go_simp;try with_reducible rfl) ?_
   simp only [Act.put,actS]
   refine wpAnyT_ready (rs:=[0,6]) (by kernel_rfl) (by simp) ?_
   refine (AllT.cons rfl (fun KK hK => ?_) (AllT.cons rfl (fun KK hK => ?_) AllT.nil))
   ·go_simp
    have q:=(Below.refl w13.heap.size w13).alloc (Nat.le_refl _) (.cells #[] 9)
    have A:=Whole.new w13 9 #[]
    generalize w13.alloc (.cells #[] 9) = w14 at q A ⊢
    have Vr:=Lib.hid (own_empty (C:=1) A h.size)
    replace h:=below_then h q
    clear q A
    refine hK.out _ _ (.inr ⟨(X13.below h X13.lt),(N13.below h N13.lt)⟩) ?_
    clear hK KK
    try simp only [Act.put,actS]
    refine wpAnyT_ready (rs:=[3,6]) (by kernel_rfl) (by simp) ?_
    refine (AllT.cons rfl (fun KK hK => ?_) (AllT.cons rfl (fun KK hK => ?_) AllT.nil))
    ·refine step_append_any _ (by rfl) _ _ _ (by rfl) _ 9 l0 _ 1 16 Tryd.underlying88 hl0 hx0 hx1 hx2 rfl (by decide) (.slice (some ⟨w13.heap.size,0,none⟩) 0 0) 0 [] (by rfl) Vr.out ka kn kc newk (by rfl) ks0.out (ks1.out _ (below_then g13 h)) ks2.out kn (by omega) ks3.out ks4.out h.size ?_
     intro a1 z1 w15 o hg ht
     replace h:=h.grown hg h.size (fun g q => (own_lt Vr.out q).1)
     replace Vr:=Lib.hid o
     clear o hg ht
     refine hK.out _ _ (.inr ⟨(X13.below h X13.lt),(N13.below h N13.lt)⟩) ?_
     clear hK KK
     try simp only [Act.put,actS]
     refine wpAnyT_ready (rs:=[6]) (by kernel_rfl) (by simp) ?_
     refine (AllT.cons rfl (fun KK hK => ?_) AllT.nil)
     go_simp
     have q:=(Below.refl w15.heap.size w15).alloc (Nat.le_refl _) (.cells #[.string key] 9)
     have A:=Whole.new w15 9 #[.string key]
     generalize w15.alloc (.cells #[.string key] 9) = w16 at q A ⊢
     replace Vr:=Lib.hid (own_below Vr.out q)
     have Xe:=A
     replace h:=below_then h q
     clear q A
     refine hK.out _ _ (.inr ⟨(X13.below h X13.lt),(N13.below h N13.lt)⟩) ?_
     clear hK KK
     try simp only [Act.put,actS]
     refine wpAnyT_ready (rs:=[7]) (by kernel_rfl) (by simp) ?_
     refine (AllT.cons rfl (fun KK hK => ?_) AllT.nil)
     refine step_append_any _ (by rfl) _ _ _ (by rfl) _ 9 l0 _ 1 16 Tryd.underlying88 hl0 hx0 hx1 hx2 rfl (by decide) (.slice a1 kn z1) kn _ (by rfl) Vr.out (some ⟨w15.heap.size,0,none⟩) 1 1 (#[.string key] : Array Value).toList (by rfl) (by rfl) (fun _ => ⟨_,rfl,World.news_of_block Xe⟩) kt2.out (kn + 1) rfl kt3.out kt4.out h.size ?_
     intro a2 z2 w17 o hg ht
     clear Xe
     replace h:=h.grown hg h.size (fun g q => (own_lt Vr.out q).1)
     replace Vr:=Lib.hid o
     clear o hg ht
     refine hK.out _ _ (.inr ⟨(X13.below h X13.lt),(N13.below h N13.lt)⟩) ?_
     clear hK KK
     try simp only [Act.put,actS]
     refine tk (i:=8) rfl (by kernel_rfl) (by rfl) (fun _ _ _ h => h) ⟨(X13.below h X13.lt),(N13.below h N13.lt)⟩ (by intro wS hSw;go_simp;try with_reducible rfl) ?_
     simp only [Act.put,actS]
     refine wpAnyT_ready (rs:=[9]) (by kernel_rfl) (by simp) ?_
     refine (AllT.cons rfl (fun KK hK => ?_) AllT.nil)
     have P14:=Whole.below P13 h (Whole.lt P13)
     have X14:=Whole.below X13 h (Whole.lt X13)
     have Q14:=Whole.below Q13 h (Whole.lt Q13)
     have N14:=Whole.below N13 h (Whole.lt N13)
     have g14:=below_then g13 h
     have k14:=Kept.trans k13 (Kept.of (O:=(fun b => b < w.heap.size + 3)) h) (fun _ h => .inl h)
     clear P13 X13 Q13 N13 g13 k13
     have sc:=Whole.cell N14 1
     have sf:=Whole.frozen N14 1
     simp only [List.getElem?_toArray,List.getElem?_cons_succ,List.getElem?_cons_zero] at sc
     go_simp
     replace Vr:=Lib.hid (own_block (W':=w17.setCell ⟨w10.heap.size,1,none⟩ (.slice a2 (kn + 1) z2)) Vr.out (fun g q => Below.heap_setCell _ _ _ _ (by have:=(own_lt Vr.out q).1;show g ≠ w10.heap.size;omega)))
     clear sc sf h
     have P15:=Whole.far (p:=⟨w10.heap.size,1,none⟩) P14 (by show w.heap.size ≠ w10.heap.size;omega) (.slice a2 (kn + 1) z2)
     have X15:=Whole.far (p:=⟨w10.heap.size,1,none⟩) X14 (by show (w.heap.size + 1) ≠ w10.heap.size;omega) (.slice a2 (kn + 1) z2)
     have Q15:=Whole.far (p:=⟨w10.heap.size,1,none⟩) Q14 (by show (w.heap.size + 2) ≠ w10.heap.size;omega) (.slice a2 (kn + 1) z2)
     have N15 : Whole (w17.setCell ⟨w10.heap.size,1,none⟩ (.slice a2 (kn + 1) z2)) w10.heap.size 90 #[.bool ymp,(.slice a2 (kn + 1) z2),.int .i64 C,.bool ydue]:=Whole.set N14 1 (.slice a2 (kn + 1) z2)
     have g15:=Below.setCell (p:=⟨w10.heap.size,1,none⟩) g14 (by show _ <= w10.heap.size;omega) (.slice a2 (kn + 1) z2)
     have k15:=Kept.trans k14 (kept_set (fun b => b = w10.heap.size) w17 w10.heap.size 1 (.slice a2 (kn + 1) z2) rfl) (fun b h => by subst h;omega)
     clear P14 X14 Q14 N14 g14 k14
     generalize w17.setCell ⟨w10.heap.size,1,none⟩ (.slice a2 (kn + 1) z2) = w18 at *
     refine hK.out _ _ (.inl (by decide)) ?_
     clear hK KK
     try simp only [Act.put,actS]
     refine wpAnyT_done (by kernel_rfl) ?_ _
     go_wp2_with fail
     go_meet
     obtain ⟨K',e1,e2,e3,e4⟩:=HT13.out _ _ _ _ hk2.out Vr.out
     exact ⟨K',w13.heap.size,hlN,Lib.hid ⟨e4,e2,e3⟩,P15,X15,Q15,e1 ▸ N15,g15,k15⟩
    ·go_simp
     have q:=(Below.refl w14.heap.size w14).alloc (Nat.le_refl _) (.cells #[.string key] 9)
     have A:=Whole.new w14 9 #[.string key]
     generalize w14.alloc (.cells #[.string key] 9) = w15 at q A ⊢
     have hne : w13.heap.size ≠ w14.heap.size:=by have:=(own_lt Vr.out (g:=w13.heap.size) rfl).2;omega
     replace Vr:=Lib.hid (own_below Vr.out q)
     have Xe:=A
     replace h:=below_then h q
     clear q A
     refine hK.out _ _ (.inr ⟨(X13.below h X13.lt),(N13.below h N13.lt)⟩) ?_
     clear hK KK
     try simp only [Act.put,actS]
     refine wpAnyT_ready (rs:=[3]) (by kernel_rfl) (by simp) ?_
     refine (AllT.cons rfl (fun KK hK => ?_) AllT.nil)
     refine step_append_any _ (by rfl) _ _ _ (by rfl) _ 9 l0 _ 1 16 Tryd.underlying88 hl0 hx0 hx1 hx2 rfl (by decide) (.slice (some ⟨w13.heap.size,0,none⟩) 0 0) 0 [] (by rfl) Vr.out ka kn kc newk (by rfl) ks0.out (ks1.out _ (below_then g13 h)) ks2.out kn (by omega) ks3.out ks4.out h.size ?_
     intro a1 z1 w16 o hg ht
     replace Xe:=Xe.kept hg (fun e => hne (Option.some.inj (show some _ = some _ from e)).symm)
     replace h:=h.grown hg h.size (fun g q => (own_lt Vr.out q).1)
     replace Vr:=Lib.hid o
     clear o hg ht
     refine hK.out _ _ (.inr ⟨(X13.below h X13.lt),(N13.below h N13.lt)⟩) ?_
     clear hK KK
     try simp only [Act.put,actS]
     refine wpAnyT_ready (rs:=[7]) (by kernel_rfl) (by simp) ?_
     refine (AllT.cons rfl (fun KK hK => ?_) AllT.nil)
     refine step_append_any _ (by rfl) _ _ _ (by rfl) _ 9 l0 _ 1 16 Tryd.underlying88 hl0 hx0 hx1 hx2 rfl (by decide) (.slice a1 kn z1) kn _ (by rfl) Vr.out (some ⟨w14.heap.size,0,none⟩) 1 1 (#[.string key] : Array Value).toList (by rfl) (by rfl) (fun _ => ⟨_,rfl,World.news_of_block Xe⟩) kt2.out (kn + 1) rfl kt3.out kt4.out h.size ?_
     intro a2 z2 w17 o hg ht
     clear Xe
     replace h:=h.grown hg h.size (fun g q => (own_lt Vr.out q).1)
     replace Vr:=Lib.hid o
     clear o hg ht
     refine hK.out _ _ (.inr ⟨(X13.below h X13.lt),(N13.below h N13.lt)⟩) ?_
     clear hK KK
     try simp only [Act.put,actS]
     refine tk (i:=8) rfl (by kernel_rfl) (by rfl) (fun _ _ _ h => h) ⟨(X13.below h X13.lt),(N13.below h N13.lt)⟩ (by intro wS hSw;go_simp;try with_reducible rfl) ?_
     simp only [Act.put,actS]
     refine wpAnyT_ready (rs:=[9]) (by kernel_rfl) (by simp) ?_
     refine (AllT.cons rfl (fun KK hK => ?_) AllT.nil)
     have P14:=Whole.below P13 h (Whole.lt P13)
     have X14:=Whole.below X13 h (Whole.lt X13)
     have Q14:=Whole.below Q13 h (Whole.lt Q13)
     have N14:=Whole.below N13 h (Whole.lt N13)
     have g14:=below_then g13 h
     have k14:=Kept.trans k13 (Kept.of (O:=(fun b => b < w.heap.size + 3)) h) (fun _ h => .inl h)
     clear P13 X13 Q13 N13 g13 k13
     have sc:=Whole.cell N14 1
     have sf:=Whole.frozen N14 1
     simp only [List.getElem?_toArray,List.getElem?_cons_succ,List.getElem?_cons_zero] at sc
     go_simp
     replace Vr:=Lib.hid (own_block (W':=w17.setCell ⟨w10.heap.size,1,none⟩ (.slice a2 (kn + 1) z2)) Vr.out (fun g q => Below.heap_setCell _ _ _ _ (by have:=(own_lt Vr.out q).1;show g ≠ w10.heap.size;omega)))
     clear sc sf h
     have P15:=Whole.far (p:=⟨w10.heap.size,1,none⟩) P14 (by show w.heap.size ≠ w10.heap.size;omega) (.slice a2 (kn + 1) z2)
     have X15:=Whole.far (p:=⟨w10.heap.size,1,none⟩) X14 (by show (w.heap.size + 1) ≠ w10.heap.size;omega) (.slice a2 (kn + 1) z2)
     have Q15:=Whole.far (p:=⟨w10.heap.size,1,none⟩) Q14 (by show (w.heap.size + 2) ≠ w10.heap.size;omega) (.slice a2 (kn + 1) z2)
     have N15 : Whole (w17.setCell ⟨w10.heap.size,1,none⟩ (.slice a2 (kn + 1) z2)) w10.heap.size 90 #[.bool ymp,(.slice a2 (kn + 1) z2),.int .i64 C,.bool ydue]:=Whole.set N14 1 (.slice a2 (kn + 1) z2)
     have g15:=Below.setCell (p:=⟨w10.heap.size,1,none⟩) g14 (by show _ <= w10.heap.size;omega) (.slice a2 (kn + 1) z2)
     have k15:=Kept.trans k14 (kept_set (fun b => b = w10.heap.size) w17 w10.heap.size 1 (.slice a2 (kn + 1) z2) rfl) (fun b h => by subst h;omega)
     clear P14 X14 Q14 N14 g14 k14
     generalize w17.setCell ⟨w10.heap.size,1,none⟩ (.slice a2 (kn + 1) z2) = w18 at *
     refine hK.out _ _ (.inl (by decide)) ?_
     clear hK KK
     try simp only [Act.put,actS]
     refine wpAnyT_done (by kernel_rfl) ?_ _
     go_wp2_with fail
     go_meet
     obtain ⟨K',e1,e2,e3,e4⟩:=HT13.out _ _ _ _ hk2.out Vr.out
     exact ⟨K',w13.heap.size,hlN,Lib.hid ⟨e4,e2,e3⟩,P15,X15,Q15,e1 ▸ N15,g15,k15⟩
   ·go_simp
    have q:=(Below.refl w13.heap.size w13).alloc (Nat.le_refl _) (.cells #[.string key] 9)
    have A:=Whole.new w13 9 #[.string key]
    generalize w13.alloc (.cells #[.string key] 9) = w14 at q A ⊢
    have Xe:=A
    replace h:=below_then h q
    clear q A
    refine hK.out _ _ (.inr ⟨(X13.below h X13.lt),(N13.below h N13.lt)⟩) ?_
    clear hK KK
    try simp only [Act.put,actS]
    refine wpAnyT_ready (rs:=[0]) (by kernel_rfl) (by simp) ?_
    refine (AllT.cons rfl (fun KK hK => ?_) AllT.nil)
    go_simp
    have q:=(Below.refl w14.heap.size w14).alloc (Nat.le_refl _) (.cells #[] 9)
    have A:=Whole.new w14 9 #[]
    generalize w14.alloc (.cells #[] 9) = w15 at q A ⊢
    have Vr:=Lib.hid (own_empty (C:=1) A h.size)
    have hne : w14.heap.size ≠ w13.heap.size:=by have:=Xe.lt;omega
    replace Xe:=Xe.below q Xe.lt
    replace h:=below_then h q
    clear q A
    refine hK.out _ _ (.inr ⟨(X13.below h X13.lt),(N13.below h N13.lt)⟩) ?_
    clear hK KK
    try simp only [Act.put,actS]
    refine wpAnyT_ready (rs:=[3]) (by kernel_rfl) (by simp) ?_
    refine (AllT.cons rfl (fun KK hK => ?_) AllT.nil)
    refine step_append_any _ (by rfl) _ _ _ (by rfl) _ 9 l0 _ 1 16 Tryd.underlying88 hl0 hx0 hx1 hx2 rfl (by decide) (.slice (some ⟨w14.heap.size,0,none⟩) 0 0) 0 [] (by rfl) Vr.out ka kn kc newk (by rfl) ks0.out (ks1.out _ (below_then g13 h)) ks2.out kn (by omega) ks3.out ks4.out h.size ?_
    intro a1 z1 w16 o hg ht
    replace Xe:=Xe.kept hg (fun e => hne (Option.some.inj (show some _ = some _ from e)).symm)
    replace h:=h.grown hg h.size (fun g q => (own_lt Vr.out q).1)
    replace Vr:=Lib.hid o
    clear o hg ht
    refine hK.out _ _ (.inr ⟨(X13.below h X13.lt),(N13.below h N13.lt)⟩) ?_
    clear hK KK
    try simp only [Act.put,actS]
    refine wpAnyT_ready (rs:=[7]) (by kernel_rfl) (by simp) ?_
    refine (AllT.cons rfl (fun KK hK => ?_) AllT.nil)
    refine step_append_any _ (by rfl) _ _ _ (by rfl) _ 9 l0 _ 1 16 Tryd.underlying88 hl0 hx0 hx1 hx2 rfl (by decide) (.slice a1 kn z1) kn _ (by rfl) Vr.out (some ⟨w13.heap.size,0,none⟩) 1 1 (#[.string key] : Array Value).toList (by rfl) (by rfl) (fun _ => ⟨_,rfl,World.news_of_block Xe⟩) kt2.out (kn + 1) rfl kt3.out kt4.out h.size ?_
    intro a2 z2 w17 o hg ht
    clear Xe
    replace h:=h.grown hg h.size (fun g q => (own_lt Vr.out q).1)
    replace Vr:=Lib.hid o
    clear o hg ht
    refine hK.out _ _ (.inr ⟨(X13.below h X13.lt),(N13.below h N13.lt)⟩) ?_
    clear hK KK
    try simp only [Act.put,actS]
    refine tk (i:=8) rfl (by kernel_rfl) (by rfl) (fun _ _ _ h => h) ⟨(X13.below h X13.lt),(N13.below h N13.lt)⟩ (by intro wS hSw;go_simp;try with_reducible rfl) ?_
    simp only [Act.put,actS]
    refine wpAnyT_ready (rs:=[9]) (by kernel_rfl) (by simp) ?_
    refine (AllT.cons rfl (fun KK hK => ?_) AllT.nil)
    have P14:=Whole.below P13 h (Whole.lt P13)
    have X14:=Whole.below X13 h (Whole.lt X13)
    have Q14:=Whole.below Q13 h (Whole.lt Q13)
    have N14:=Whole.below N13 h (Whole.lt N13)
    have g14:=below_then g13 h
    have k14:=Kept.trans k13 (Kept.of (O:=(fun b => b < w.heap.size + 3)) h) (fun _ h => .inl h)
    clear P13 X13 Q13 N13 g13 k13
    have sc:=Whole.cell N14 1
    have sf:=Whole.frozen N14 1
    simp only [List.getElem?_toArray,List.getElem?_cons_succ,List.getElem?_cons_zero] at sc
    go_simp
    replace Vr:=Lib.hid (own_block (W':=w17.setCell ⟨w10.heap.size,1,none⟩ (.slice a2 (kn + 1) z2)) Vr.out (fun g q => Below.heap_setCell _ _ _ _ (by have:=(own_lt Vr.out q).1;show g ≠ w10.heap.size;omega)))
    clear sc sf h
    have P15:=Whole.far (p:=⟨w10.heap.size,1,none⟩) P14 (by show w.heap.size ≠ w10.heap.size;omega) (.slice a2 (kn + 1) z2)
    have X15:=Whole.far (p:=⟨w10.heap.size,1,none⟩) X14 (by show (w.heap.size + 1) ≠ w10.heap.size;omega) (.slice a2 (kn + 1) z2)
    have Q15:=Whole.far (p:=⟨w10.heap.size,1,none⟩) Q14 (by show (w.heap.size + 2) ≠ w10.heap.size;omega) (.slice a2 (kn + 1) z2)
    have N15 : Whole (w17.setCell ⟨w10.heap.size,1,none⟩ (.slice a2 (kn + 1) z2)) w10.heap.size 90 #[.bool ymp,(.slice a2 (kn + 1) z2),.int .i64 C,.bool ydue]:=Whole.set N14 1 (.slice a2 (kn + 1) z2)
    have g15:=Below.setCell (p:=⟨w10.heap.size,1,none⟩) g14 (by show _ <= w10.heap.size;omega) (.slice a2 (kn + 1) z2)
    have k15:=Kept.trans k14 (kept_set (fun b => b = w10.heap.size) w17 w10.heap.size 1 (.slice a2 (kn + 1) z2) rfl) (fun b h => by subst h;omega)
    clear P14 X14 Q14 N14 g14 k14
    generalize w17.setCell ⟨w10.heap.size,1,none⟩ (.slice a2 (kn + 1) z2) = w18 at *
    refine hK.out _ _ (.inl (by decide)) ?_
    clear hK KK
    try simp only [Act.put,actS]
    refine wpAnyT_done (by kernel_rfl) ?_ _
    go_wp2_with fail
    go_meet
    obtain ⟨K',e1,e2,e3,e4⟩:=HT13.out _ _ _ _ hk2.out Vr.out
    exact ⟨K',w13.heap.size,hlN,Lib.hid ⟨e4,e2,e3⟩,P15,X15,Q15,e1 ▸ N15,g15,k15⟩
  case rest =>
  clear P12 X12 Q12 N12 g12 k12 ks0 ks1 ks2 ks3 ks4 kt2 kt3 kt4 HT13
  obtain ⟨K',BK,hBK,HK',P20,X20,Q20,N20,g20,k20⟩:=hcut
  generalize wc = w20 at *
  have m20:=Kept.refl (fun b => b <= w10.heap.size) w20
  have hq20:=Whole.lt N20
  have sf:=Whole.frozen N20 3
  obtain ⟨n0,n1,n2,n3⟩:=N20.o4
  go_upto_region 15 with (fail)
  clear n0 n1 n2 n3
  clear sf
  have P21:=Whole.far (p:=⟨w10.heap.size,3,none⟩) P20 (by show w.heap.size ≠ w10.heap.size;omega) (.bool true)
  have X21:=Whole.far (p:=⟨w10.heap.size,3,none⟩) X20 (by show (w.heap.size + 1) ≠ w10.heap.size;omega) (.bool true)
  have Q21:=Whole.far (p:=⟨w10.heap.size,3,none⟩) Q20 (by show (w.heap.size + 2) ≠ w10.heap.size;omega) (.bool true)
  have N21 : Whole (w20.setCell ⟨w10.heap.size,3,none⟩ (.bool true)) w10.heap.size 90 #[.bool ymp,.slice K'.a K'.n K'.c,.int .i64 C,.bool true]:=Whole.set N20 3 (.bool true)
  have g21:=Below.setCell (p:=⟨w10.heap.size,3,none⟩) g20 (by show _ <= w10.heap.size;omega) (.bool true)
  have k21:=Kept.trans k20 (kept_set (fun b => b = w10.heap.size) w20 w10.heap.size 3 (.bool true) rfl) (fun b h => by subst h;omega)
  have m21:=Kept.trans m20 (kept_set (fun b => b = w10.heap.size) w20 w10.heap.size 3 (.bool true) rfl) (fun b h => by subst h;omega)
  clear P20 X20 Q20 N20 g20 k20 m20
  generalize w20.setCell ⟨w10.heap.size,3,none⟩ (.bool true) = w21 at *
  obtain ⟨c0,c1,c2,c3⟩:=P21.o4s
  obtain ⟨n0,n1,n2,n3⟩:=N21.o4
  go_wp2_with fail
  refine (HSetK.out T' K' _ (HOin.out _ g21) (HTin.out _ _ _ g21 (HT'.out.1.kept k21 (fun b hb => by omega)) HT'.out.2.1 HT'.out.2.2)).mono ?_;rintro _ w22 ⟨p,rfl,p1,p2,p3,p4,hb22⟩
  clear c0 c1 c2 c3 n0 n1 n2 n3
  have hs21:=m21.size
  have hl21:=Whole.lt N21
  have P22:=Whole.below P21 hb22 (Whole.lt P21)
  have X22:=Whole.below X21 hb22 (Whole.lt X21)
  have Q22:=Whole.below Q21 hb22 (Whole.lt Q21)
  have N22:=Whole.below N21 hb22 (Whole.lt N21)
  have g22:=below_then g21 hb22
  have k22:=Kept.trans k21 (Kept.of (O:=(fun b => b < w.heap.size + 3)) hb22) (fun _ h => .inl h)
  have m22:=Kept.trans m21 (Kept.of (O:=(fun b => b <= w10.heap.size)) hb22) (fun _ h => .inl h)
  clear P21 X21 Q21 N21 g21 k21 m21
  clear hb22 HSetK
  have HP:=Lib.hid (And.intro p1 (And.intro p2 (And.intro p3 p4)))
  clear p1 p2 p3 p4
  have ho2 : Hid ((#[.slice p.a p.n p.c,.slice T'.a T'.n T'.c,.int .i64 M,.bool false] : Array Value).all (·.oneCell') = true):=Lib.hid (by simp [Value.oneCell'])
  have Qb:=Q22
  have P23:=Whole.farRow (B':=(w.heap.size + 2)) P22 (by omega) #[.slice p.a p.n p.c,.slice T'.a T'.n T'.c,.int .i64 M,.bool false]
  have X23:=Whole.farRow (B':=(w.heap.size + 2)) X22 (by omega) #[.slice p.a p.n p.c,.slice T'.a T'.n T'.c,.int .i64 M,.bool false]
  have Q23:=Whole.setRow Q22 #[.slice p.a p.n p.c,.slice T'.a T'.n T'.c,.int .i64 M,.bool false]
  have N23:=Whole.farRow (B':=(w.heap.size + 2)) N22 (by omega) #[.slice p.a p.n p.c,.slice T'.a T'.n T'.c,.int .i64 M,.bool false]
  have g23:=below_setRow (g:=(w.heap.size + 2)) g22 (by omega) #[.slice p.a p.n p.c,.slice T'.a T'.n T'.c,.int .i64 M,.bool false]
  have k23:=Kept.trans k22 (kept_setRow (fun b => b = (w.heap.size + 2)) w22 ((w.heap.size + 2)) #[.slice p.a p.n p.c,.slice T'.a T'.n T'.c,.int .i64 M,.bool false] rfl) (fun b h => by subst h;omega)
  have m23:=Kept.trans m22 (kept_setRow (fun b => b = (w.heap.size + 2)) w22 ((w.heap.size + 2)) #[.slice p.a p.n p.c,.slice T'.a T'.n T'.c,.int .i64 M,.bool false] rfl) (fun b h => by subst h;omega)
  clear P22 X22 Q22 N22 g22 k22 m22
  have HF:=Lib.hid (HKo.out T' K' p M _ _ _ rfl (by omega) (HT'.out.1.kept k23 (fun b hb => by omega)) HT'.out.2.1 HT'.out.2.2 (by omega) (HK'.out.1.kept m23 (fun b hb => by omega)) HK'.out.2.1 HK'.out.2.2 ((HP.out.2.2.2.kept (S:=fun b => b = w.heap.size + 2) (kept_setRow _ _ _ _ rfl) (fun b hb => by omega)).low (by omega)) HP.out.1 HP.out.2.1 HP.out.2.2.1 g23)
  clear HKo
  go_wp2_with (refine wpList_store_row rfl 53 _ _ rfl (w.heap.size + 2) #[.slice p.a p.n p.c,.slice T'.a T'.n T'.c,.int .i64 M,.bool false] rfl rfl 53 _ Qb st_row rfl ho2.out ?_)
  exact bodyPost_ret (v:=.tuple #[.agg #[.slice p.a p.n p.c,.slice T'.a T'.n T'.c,.int .i64 M,.bool false],.int .i64 0]) (ret_rst2 (p:=4) (q:=5) rfl rfl Q23) rfl HF.out
 by_cases k3 : k = 3
 ·have d6 : (k == 6) = false:=beq_eq_false_iff_ne.2 k6
  have d3 : (k == 3) = true:=beq_iff_eq.2 k3
  have HEo:=Lib.hid (HE.out (.inl k3))
  clear HK HE HS HB HKN HK3 HBg k6 k3 HT13 HT26 HSetS HSetK
  go_upto_region 18 with (fail)
  have q13:=(Below.refl w12.heap.size w12).alloc (Nat.le_refl _) (.cells #[] 90)
  have E13:=Whole.new w12 90 #[]
  have O0:=Lib.hid (own_empty (C:=4) E13 (Nat.le_refl _))
  have P13:=Whole.below P12 q13 (Whole.lt P12)
  have X13:=Whole.below X12 q13 (Whole.lt X12)
  have Q13:=Whole.below Q12 q13 (Whole.lt Q12)
  have N13:=Whole.below N12 q13 (Whole.lt N12)
  have g13:=below_then g12 q13
  have k13:=Kept.trans k12 (Kept.of (O:=(fun b => b < w.heap.size + 3)) q13) (fun _ h => .inl h)
  clear P12 X12 Q12 N12 g12 k12
  have hs13:=Lib.hid q13.size
  clear q13 E13
  obtain ⟨c0,c1,c2,c3⟩:=P13.o4s
  go_wp2_with (first | (at_builtin;refine wpList_append_any _ rfl _ _ 51 rfl w12.heap.size 90 j0 _ 4 48 Tryd.underlying51 hj0 hy0 hy1 hy2 rfl (by decide) _ _ _ rfl O0.out (some ⟨ob,oo,none⟩) m oc newo rfl es0.out (es1.out _ g13) es2.out es3.out es4.out hs13.out ?_))
  intro v1 w14 ho hgr hat
  obtain ⟨a1,z1,rfl⟩:=own_slv ho
  have V14:=Lib.hid ho
  clear c0 c1 c2 c3
  have P14:=Whole.kept P13 hgr (fun e => by have:=(own_lt O0.out e.symm).1;omega)
  have X14:=Whole.kept X13 hgr (fun e => by have:=(own_lt O0.out e.symm).1;omega)
  have Q14:=Whole.kept Q13 hgr (fun e => by have:=(own_lt O0.out e.symm).1;omega)
  have N14:=Whole.kept N13 hgr (fun e => by have:=(own_lt O0.out e.symm).1;omega)
  have g14:=Below.grown g13 hgr g13.size (fun g hg => by have:=(own_lt O0.out hg).1;omega)
  have k14:=Kept.trans k13 (kept_grown (X:=fun b => (Value.slice (some ⟨w12.heap.size,0,none⟩) 0 0).ownBlock = some b) hgr (fun _ h => h)) (fun b h => by have:=(own_lt O0.out h).1;omega)
  clear P13 X13 Q13 N13 g13 k13
  clear ho hgr hat O0 hs13 es0 es1 es2 es3 es4
  have sc:=Whole.cell P14 0
  have sf:=Whole.frozen P14 0
  simp only [List.getElem?_toArray,List.getElem?_cons_succ,List.getElem?_cons_zero] at sc
  go_upto_region 19 with (fail)
  have V15:=Lib.hid (own_block (W':=w14.setCell ⟨w.heap.size,0,none⟩ (.slice a1 m z1)) V14.out (fun g hg => Below.heap_setCell _ _ _ _ (by have:=(own_lt V14.out hg).1;show g ≠ w.heap.size;omega)))
  clear sc sf V14
  have P15 : Whole (w14.setCell ⟨w.heap.size,0,none⟩ (.slice a1 m z1)) w.heap.size 53 #[.slice a1 m z1,.slice T'.a T'.n T'.c,.int .i64 M,.bool false]:=Whole.set P14 0 (.slice a1 m z1)
  have X15:=Whole.far (p:=⟨w.heap.size,0,none⟩) X14 (by show (w.heap.size + 1) ≠ w.heap.size;omega) (.slice a1 m z1)
  have Q15:=Whole.far (p:=⟨w.heap.size,0,none⟩) Q14 (by show (w.heap.size + 2) ≠ w.heap.size;omega) (.slice a1 m z1)
  have N15:=Whole.far (p:=⟨w.heap.size,0,none⟩) N14 (by show w10.heap.size ≠ w.heap.size;omega) (.slice a1 m z1)
  have g15:=Below.setCell (p:=⟨w.heap.size,0,none⟩) g14 (by show _ <= w.heap.size;omega) (.slice a1 m z1)
  have k15:=Kept.trans k14 (kept_set (fun b => b = w.heap.size) w14 w.heap.size 0 (.slice a1 m z1) rfl) (fun b h => by subst h;omega)
  clear P14 X14 Q14 N14 g14 k14
  generalize w14.setCell ⟨w.heap.size,0,none⟩ (.slice a1 m z1) = w15 at *
  have HP18:=Lib.hid (HT18.out _ _ _ _ V15.out)
  clear V15 HT18
  have m15:=Kept.refl (fun b => b < w12.heap.size) w15
  obtain ⟨c0,c1,c2,c3⟩:=P15.o4s
  have ho2 : Hid ((#[.slice a1 m z1,.slice T'.a T'.n T'.c,.int .i64 M,.bool false] : Array Value).all (·.oneCell') = true):=Lib.hid (by simp [Value.oneCell'])
  have Qb:=Q15
  have P16:=Whole.farRow (B':=(w.heap.size + 2)) P15 (by omega) #[.slice a1 m z1,.slice T'.a T'.n T'.c,.int .i64 M,.bool false]
  have X16:=Whole.farRow (B':=(w.heap.size + 2)) X15 (by omega) #[.slice a1 m z1,.slice T'.a T'.n T'.c,.int .i64 M,.bool false]
  have Q16:=Whole.setRow Q15 #[.slice a1 m z1,.slice T'.a T'.n T'.c,.int .i64 M,.bool false]
  have N16:=Whole.farRow (B':=(w.heap.size + 2)) N15 (by omega) #[.slice a1 m z1,.slice T'.a T'.n T'.c,.int .i64 M,.bool false]
  have g16:=below_setRow (g:=(w.heap.size + 2)) g15 (by omega) #[.slice a1 m z1,.slice T'.a T'.n T'.c,.int .i64 M,.bool false]
  have k16:=Kept.trans k15 (kept_setRow (fun b => b = (w.heap.size + 2)) w15 ((w.heap.size + 2)) #[.slice a1 m z1,.slice T'.a T'.n T'.c,.int .i64 M,.bool false] rfl) (fun b h => by subst h;omega)
  have m16:=Kept.trans m15 (kept_setRow (fun b => b = (w.heap.size + 2)) w15 ((w.heap.size + 2)) #[.slice a1 m z1,.slice T'.a T'.n T'.c,.int .i64 M,.bool false] rfl) (fun b h => by subst h;omega)
  clear P15 X15 Q15 N15 g15 k15 m15
  have HF : Hid (RAddOut _ _ w (.returned (.tuple #[.agg #[.slice a1 m z1,.slice T'.a T'.n T'.c,.int .i64 M,.bool false],.int .i64 0])) (w15.setRow ((w.heap.size + 2)) #[.slice a1 m z1,.slice T'.a T'.n T'.c,.int .i64 M,.bool false])):=Lib.hid (by
   obtain ⟨p,e1,e2,e3,e4⟩:=HP18.out
   have q:=HEo.out T' p M _ _ rfl (by omega) (HT'.out.1.kept k16 (fun b hb => by omega)) HT'.out.2.1 HT'.out.2.2 (Ops.Row.low (B:=w12.heap.size) (e4.kept m16 (fun b hb => hb)) (by omega)) (e2.trans HM1.out.symm) e3 g16
   rw [<- e1] at q
   exact q)
  clear HEo
  go_wp2_with (refine wpList_store_row rfl 53 _ _ rfl (w.heap.size + 2) #[.slice a1 m z1,.slice T'.a T'.n T'.c,.int .i64 M,.bool false] rfl rfl 53 _ Qb st_row rfl ho2.out ?_)
  exact bodyPost_ret (v:=.tuple #[.agg #[.slice a1 m z1,.slice T'.a T'.n T'.c,.int .i64 M,.bool false],.int .i64 0]) (ret_rst2 (p:=4) (q:=5) rfl rfl Q16) rfl HF.out
 by_cases k5 : k = 5
 ·have d6 : (k == 6) = false:=beq_eq_false_iff_ne.2 k6
  have d3 : (k == 3) = false:=beq_eq_false_iff_ne.2 k3
  have d5 : (k == 5) = true:=beq_iff_eq.2 k5
  have HEo:=Lib.hid (HE.out (.inr k5))
  clear HK HE HS HB HKN HK3 HBg k6 k3 k5 HT13 HT26 HSetS HSetK
  go_upto_region 18 with (fail)
  have q13:=(Below.refl w12.heap.size w12).alloc (Nat.le_refl _) (.cells #[] 90)
  have E13:=Whole.new w12 90 #[]
  have O0:=Lib.hid (own_empty (C:=4) E13 (Nat.le_refl _))
  have P13:=Whole.below P12 q13 (Whole.lt P12)
  have X13:=Whole.below X12 q13 (Whole.lt X12)
  have Q13:=Whole.below Q12 q13 (Whole.lt Q12)
  have N13:=Whole.below N12 q13 (Whole.lt N12)
  have g13:=below_then g12 q13
  have k13:=Kept.trans k12 (Kept.of (O:=(fun b => b < w.heap.size + 3)) q13) (fun _ h => .inl h)
  clear P12 X12 Q12 N12 g12 k12
  have hs13:=Lib.hid q13.size
  clear q13 E13
  obtain ⟨c0,c1,c2,c3⟩:=P13.o4s
  go_wp2_with (first | (at_builtin;refine wpList_append_any _ rfl _ _ 51 rfl w12.heap.size 90 j0 _ 4 48 Tryd.underlying51 hj0 hy0 hy1 hy2 rfl (by decide) _ _ _ rfl O0.out (some ⟨ob,oo,none⟩) m oc newo rfl es0.out (es1.out _ g13) es2.out es3.out es4.out hs13.out ?_))
  intro v1 w14 ho hgr hat
  obtain ⟨a1,z1,rfl⟩:=own_slv ho
  have V14:=Lib.hid ho
  clear c0 c1 c2 c3
  have P14:=Whole.kept P13 hgr (fun e => by have:=(own_lt O0.out e.symm).1;omega)
  have X14:=Whole.kept X13 hgr (fun e => by have:=(own_lt O0.out e.symm).1;omega)
  have Q14:=Whole.kept Q13 hgr (fun e => by have:=(own_lt O0.out e.symm).1;omega)
  have N14:=Whole.kept N13 hgr (fun e => by have:=(own_lt O0.out e.symm).1;omega)
  have g14:=Below.grown g13 hgr g13.size (fun g hg => by have:=(own_lt O0.out hg).1;omega)
  have k14:=Kept.trans k13 (kept_grown (X:=fun b => (Value.slice (some ⟨w12.heap.size,0,none⟩) 0 0).ownBlock = some b) hgr (fun _ h => h)) (fun b h => by have:=(own_lt O0.out h).1;omega)
  clear P13 X13 Q13 N13 g13 k13
  clear ho hgr hat O0 hs13 es0 es1 es2 es3 es4
  have sc:=Whole.cell P14 0
  have sf:=Whole.frozen P14 0
  simp only [List.getElem?_toArray,List.getElem?_cons_succ,List.getElem?_cons_zero] at sc
  go_upto_region 19 with (fail)
  have V15:=Lib.hid (own_block (W':=w14.setCell ⟨w.heap.size,0,none⟩ (.slice a1 m z1)) V14.out (fun g hg => Below.heap_setCell _ _ _ _ (by have:=(own_lt V14.out hg).1;show g ≠ w.heap.size;omega)))
  clear sc sf V14
  have P15 : Whole (w14.setCell ⟨w.heap.size,0,none⟩ (.slice a1 m z1)) w.heap.size 53 #[.slice a1 m z1,.slice T'.a T'.n T'.c,.int .i64 M,.bool false]:=Whole.set P14 0 (.slice a1 m z1)
  have X15:=Whole.far (p:=⟨w.heap.size,0,none⟩) X14 (by show (w.heap.size + 1) ≠ w.heap.size;omega) (.slice a1 m z1)
  have Q15:=Whole.far (p:=⟨w.heap.size,0,none⟩) Q14 (by show (w.heap.size + 2) ≠ w.heap.size;omega) (.slice a1 m z1)
  have N15:=Whole.far (p:=⟨w.heap.size,0,none⟩) N14 (by show w10.heap.size ≠ w.heap.size;omega) (.slice a1 m z1)
  have g15:=Below.setCell (p:=⟨w.heap.size,0,none⟩) g14 (by show _ <= w.heap.size;omega) (.slice a1 m z1)
  have k15:=Kept.trans k14 (kept_set (fun b => b = w.heap.size) w14 w.heap.size 0 (.slice a1 m z1) rfl) (fun b h => by subst h;omega)
  clear P14 X14 Q14 N14 g14 k14
  generalize w14.setCell ⟨w.heap.size,0,none⟩ (.slice a1 m z1) = w15 at *
  have HP18:=Lib.hid (HT18.out _ _ _ _ V15.out)
  clear V15 HT18
  have m15:=Kept.refl (fun b => b < w12.heap.size) w15
  obtain ⟨c0,c1,c2,c3⟩:=P15.o4s
  have ho2 : Hid ((#[.slice a1 m z1,.slice T'.a T'.n T'.c,.int .i64 M,.bool false] : Array Value).all (·.oneCell') = true):=Lib.hid (by simp [Value.oneCell'])
  have Qb:=Q15
  have P16:=Whole.farRow (B':=(w.heap.size + 2)) P15 (by omega) #[.slice a1 m z1,.slice T'.a T'.n T'.c,.int .i64 M,.bool false]
  have X16:=Whole.farRow (B':=(w.heap.size + 2)) X15 (by omega) #[.slice a1 m z1,.slice T'.a T'.n T'.c,.int .i64 M,.bool false]
  have Q16:=Whole.setRow Q15 #[.slice a1 m z1,.slice T'.a T'.n T'.c,.int .i64 M,.bool false]
  have N16:=Whole.farRow (B':=(w.heap.size + 2)) N15 (by omega) #[.slice a1 m z1,.slice T'.a T'.n T'.c,.int .i64 M,.bool false]
  have g16:=below_setRow (g:=(w.heap.size + 2)) g15 (by omega) #[.slice a1 m z1,.slice T'.a T'.n T'.c,.int .i64 M,.bool false]
  have k16:=Kept.trans k15 (kept_setRow (fun b => b = (w.heap.size + 2)) w15 ((w.heap.size + 2)) #[.slice a1 m z1,.slice T'.a T'.n T'.c,.int .i64 M,.bool false] rfl) (fun b h => by subst h;omega)
  have m16:=Kept.trans m15 (kept_setRow (fun b => b = (w.heap.size + 2)) w15 ((w.heap.size + 2)) #[.slice a1 m z1,.slice T'.a T'.n T'.c,.int .i64 M,.bool false] rfl) (fun b h => by subst h;omega)
  clear P15 X15 Q15 N15 g15 k15 m15
  have HF : Hid (RAddOut _ _ w (.returned (.tuple #[.agg #[.slice a1 m z1,.slice T'.a T'.n T'.c,.int .i64 M,.bool false],.int .i64 0])) (w15.setRow ((w.heap.size + 2)) #[.slice a1 m z1,.slice T'.a T'.n T'.c,.int .i64 M,.bool false])):=Lib.hid (by
   obtain ⟨p,e1,e2,e3,e4⟩:=HP18.out
   have q:=HEo.out T' p M _ _ rfl (by omega) (HT'.out.1.kept k16 (fun b hb => by omega)) HT'.out.2.1 HT'.out.2.2 (Ops.Row.low (B:=w12.heap.size) (e4.kept m16 (fun b hb => hb)) (by omega)) (e2.trans HM1.out.symm) e3 g16
   rw [<- e1] at q
   exact q)
  clear HEo
  go_wp2_with (refine wpList_store_row rfl 53 _ _ rfl (w.heap.size + 2) #[.slice a1 m z1,.slice T'.a T'.n T'.c,.int .i64 M,.bool false] rfl rfl 53 _ Qb st_row rfl ho2.out ?_)
  exact bodyPost_ret (v:=.tuple #[.agg #[.slice a1 m z1,.slice T'.a T'.n T'.c,.int .i64 M,.bool false],.int .i64 0]) (ret_rst2 (p:=4) (q:=5) rfl rfl Q16) rfl HF.out
 have d6 : (k == 6) = false:=beq_eq_false_iff_ne.2 k6
 have d3 : (k == 3) = false:=beq_eq_false_iff_ne.2 k3
 have d5 : (k == 5) = false:=beq_eq_false_iff_ne.2 k5
 have hk124 : k = 1 ∨ k = 2 ∨ k = 4:=by have:=HK3.out;omega
 have hb48:=(HBg.out hk124).1
 clear HBg HK3 k6 k3 k5 HK HE HKN HT13 HT18 HSetK
 have sf:=Whole.frozen P12 2
 obtain ⟨c0,c1,c2,c3⟩:=P12.o4s
 go_upto_region 21 with (fail)
 clear c0 c1 c2 c3
 clear sf
 have P13 : Whole (w12.setCell ⟨w.heap.size,2,none⟩ (.int .i64 (M + 1))) w.heap.size 53 #[.slice (some ⟨ob,oo,none⟩) on oc,.slice T'.a T'.n T'.c,.int .i64 (M + 1),.bool false]:=Whole.set P12 2 (.int .i64 (M + 1))
 have X13:=Whole.far (p:=⟨w.heap.size,2,none⟩) X12 (by show (w.heap.size + 1) ≠ w.heap.size;omega) (.int .i64 (M + 1))
 have Q13:=Whole.far (p:=⟨w.heap.size,2,none⟩) Q12 (by show (w.heap.size + 2) ≠ w.heap.size;omega) (.int .i64 (M + 1))
 have N13:=Whole.far (p:=⟨w.heap.size,2,none⟩) N12 (by show w10.heap.size ≠ w.heap.size;omega) (.int .i64 (M + 1))
 have g13:=Below.setCell (p:=⟨w.heap.size,2,none⟩) g12 (by show _ <= w.heap.size;omega) (.int .i64 (M + 1))
 have k13:=Kept.trans k12 (kept_set (fun b => b = w.heap.size) w12 w.heap.size 2 (.int .i64 (M + 1)) rfl) (fun b h => by subst h;omega)
 clear P12 X12 Q12 N12 g12 k12
 generalize w12.setCell ⟨w.heap.size,2,none⟩ (.int .i64 (M + 1)) = w13 at *
 have sf:=Whole.frozen N13 2
 obtain ⟨n0,n1,n2,n3⟩:=N13.o4
 go_upto_region 23 with (fail)
 clear n0 n1 n2 n3
 clear sf
 have P14:=Whole.far (p:=⟨w10.heap.size,2,none⟩) P13 (by show w.heap.size ≠ w10.heap.size;omega) (.int .i64 (C + 1))
 have X14:=Whole.far (p:=⟨w10.heap.size,2,none⟩) X13 (by show (w.heap.size + 1) ≠ w10.heap.size;omega) (.int .i64 (C + 1))
 have Q14:=Whole.far (p:=⟨w10.heap.size,2,none⟩) Q13 (by show (w.heap.size + 2) ≠ w10.heap.size;omega) (.int .i64 (C + 1))
 have N14 : Whole (w13.setCell ⟨w10.heap.size,2,none⟩ (.int .i64 (C + 1))) w10.heap.size 90 #[.bool ymp,.slice ka kn kc,.int .i64 (C + 1),.bool ydue]:=Whole.set N13 2 (.int .i64 (C + 1))
 have g14:=Below.setCell (p:=⟨w10.heap.size,2,none⟩) g13 (by show _ <= w10.heap.size;omega) (.int .i64 (C + 1))
 have k14:=Kept.trans k13 (kept_set (fun b => b = w10.heap.size) w13 w10.heap.size 2 (.int .i64 (C + 1)) rfl) (fun b h => by subst h;omega)
 clear P13 X13 Q13 N13 g13 k13
 generalize w13.setCell ⟨w10.heap.size,2,none⟩ (.int .i64 (C + 1)) = w14 at *
 have sf:=Whole.frozen N14 3
 obtain ⟨n0,n1,n2,n3⟩:=N14.o4
 go_upto_region 24 with (fail)
 clear n0 n1 n2 n3
 clear sf
 have P15:=Whole.far (p:=⟨w10.heap.size,3,none⟩) P14 (by show w.heap.size ≠ w10.heap.size;omega) (.bool false)
 have X15:=Whole.far (p:=⟨w10.heap.size,3,none⟩) X14 (by show (w.heap.size + 1) ≠ w10.heap.size;omega) (.bool false)
 have Q15:=Whole.far (p:=⟨w10.heap.size,3,none⟩) Q14 (by show (w.heap.size + 2) ≠ w10.heap.size;omega) (.bool false)
 have N15 : Whole (w14.setCell ⟨w10.heap.size,3,none⟩ (.bool false)) w10.heap.size 90 #[.bool ymp,.slice ka kn kc,.int .i64 (C + 1),.bool false]:=Whole.set N14 3 (.bool false)
 have g15:=Below.setCell (p:=⟨w10.heap.size,3,none⟩) g14 (by show _ <= w10.heap.size;omega) (.bool false)
 have k15:=Kept.trans k14 (kept_set (fun b => b = w10.heap.size) w14 w10.heap.size 3 (.bool false) rfl) (fun b h => by subst h;omega)
 clear P14 X14 Q14 N14 g14 k14
 generalize w14.setCell ⟨w10.heap.size,3,none⟩ (.bool false) = w15 at *
 obtain ⟨c0,c1,c2,c3⟩:=P15.o4s
 obtain ⟨n0,n1,n2,n3⟩:=N15.o4
 go_wp2_with fail
 refine (HSetS.out T' (C + 1) (M + 1) _ rfl rfl (HOin.out _ g15) (HTin.out _ _ _ g15 (HT'.out.1.kept k15 (fun b hb => by omega)) HT'.out.2.1 HT'.out.2.2)).mono ?_;rintro _ w16 ⟨p,rfl,p1,p2,p3,p4,hb16⟩
 clear c0 c1 c2 c3 n0 n1 n2 n3
 have hs15:=k15.size
 have hl15:=Whole.lt N15
 have hs16:=hb16.size
 have P16:=Whole.below P15 hb16 (Whole.lt P15)
 have X16:=Whole.below X15 hb16 (Whole.lt X15)
 have Q16:=Whole.below Q15 hb16 (Whole.lt Q15)
 have N16:=Whole.below N15 hb16 (Whole.lt N15)
 have g16:=below_then g15 hb16
 have k16:=Kept.trans k15 (Kept.of (O:=(fun b => b < w.heap.size + 3)) hb16) (fun _ h => .inl h)
 clear P15 X15 Q15 N15 g15 k15
 clear hb16 HSetS
 have HP:=Lib.hid (And.intro p1 (And.intro p2 (And.intro p3 p4)))
 clear p1 p2 p3 p4
 have m16:=Kept.refl (fun b => b < w15.heap.size) w16
 have hone3 : Hid ((#[.slice p.a on p.c,.slice T'.a T'.n T'.c,.int .i64 (M + 1),.bool false] : Array Value).all (·.oneCell') = true):=Lib.hid (by simp [Value.oneCell'])
 have Pb:=P16
 have P17:=Whole.setRow P16 #[.slice p.a on p.c,.slice T'.a T'.n T'.c,.int .i64 (M + 1),.bool false]
 have X17:=Whole.farRow (B':=w.heap.size) X16 (by omega) #[.slice p.a on p.c,.slice T'.a T'.n T'.c,.int .i64 (M + 1),.bool false]
 have Q17:=Whole.farRow (B':=w.heap.size) Q16 (by omega) #[.slice p.a on p.c,.slice T'.a T'.n T'.c,.int .i64 (M + 1),.bool false]
 have N17:=Whole.farRow (B':=w.heap.size) N16 (by omega) #[.slice p.a on p.c,.slice T'.a T'.n T'.c,.int .i64 (M + 1),.bool false]
 have g17:=below_setRow (g:=w.heap.size) g16 (by omega) #[.slice p.a on p.c,.slice T'.a T'.n T'.c,.int .i64 (M + 1),.bool false]
 have k17:=Kept.trans k16 (kept_setRow (fun b => b = w.heap.size) w16 (w.heap.size) #[.slice p.a on p.c,.slice T'.a T'.n T'.c,.int .i64 (M + 1),.bool false] rfl) (fun b h => by subst h;omega)
 have m17:=Kept.trans m16 (kept_setRow (fun b => b = w.heap.size) w16 (w.heap.size) #[.slice p.a on p.c,.slice T'.a T'.n T'.c,.int .i64 (M + 1),.bool false] rfl) (fun b h => by subst h;omega)
 clear P16 X16 Q16 N16 g16 k16 m16
 go_upto_region 25 with (refine wpList_store_row rfl 53 _ _ rfl w.heap.size #[.slice p.a on p.c,.slice T'.a T'.n T'.c,.int .i64 (M + 1),.bool false] rfl rfl 53 _ Pb st_row rfl hone3.out ?_)
 clear Pb hone3
 generalize w16.setRow (w.heap.size) #[.slice p.a on p.c,.slice T'.a T'.n T'.c,.int .i64 (M + 1),.bool false] = w17 at *
 by_cases k1 : k = 1
 ·have d1 : (k != 1) = false:=by simp [k1]
  have HSo:=Lib.hid (HS.out k1)
  clear HS HB k1 hk124 HT26
  obtain ⟨c0,c1,c2,c3⟩:=P17.o4s
  have x0:=(Whole.e15 (g:=V.h) X17).1
  have ho2 : Hid ((#[.slice p.a on p.c,.slice T'.a T'.n T'.c,.int .i64 (M + 1),.bool false] : Array Value).all (·.oneCell') = true):=Lib.hid (by simp [Value.oneCell'])
  have Qb:=Q17
  have P18:=Whole.farRow (B':=(w.heap.size + 2)) P17 (by omega) #[.slice p.a on p.c,.slice T'.a T'.n T'.c,.int .i64 (M + 1),.bool false]
  have X18:=Whole.farRow (B':=(w.heap.size + 2)) X17 (by omega) #[.slice p.a on p.c,.slice T'.a T'.n T'.c,.int .i64 (M + 1),.bool false]
  have Q18:=Whole.setRow Q17 #[.slice p.a on p.c,.slice T'.a T'.n T'.c,.int .i64 (M + 1),.bool false]
  have N18:=Whole.farRow (B':=(w.heap.size + 2)) N17 (by omega) #[.slice p.a on p.c,.slice T'.a T'.n T'.c,.int .i64 (M + 1),.bool false]
  have g18:=below_setRow (g:=(w.heap.size + 2)) g17 (by omega) #[.slice p.a on p.c,.slice T'.a T'.n T'.c,.int .i64 (M + 1),.bool false]
  have k18:=Kept.trans k17 (kept_setRow (fun b => b = (w.heap.size + 2)) w17 ((w.heap.size + 2)) #[.slice p.a on p.c,.slice T'.a T'.n T'.c,.int .i64 (M + 1),.bool false] rfl) (fun b h => by subst h;omega)
  have m18:=Kept.trans m17 (kept_setRow (fun b => b = (w.heap.size + 2)) w17 ((w.heap.size + 2)) #[.slice p.a on p.c,.slice T'.a T'.n T'.c,.int .i64 (M + 1),.bool false] rfl) (fun b h => by subst h;omega)
  clear P17 X17 Q17 N17 g17 k17 m17
  have HF:=Lib.hid (HP.out.1 ▸ HSo.out T' p (M + 1) _ _ rfl (by omega) (HT'.out.1.kept k18 (fun b hb => by omega)) HT'.out.2.1 HT'.out.2.2 ((HP.out.2.2.2.kept m18 (fun b hb => hb)).low (by omega)) HP.out.1 HP.out.2.1 HP.out.2.2.1 g18)
  clear HSo
  go_wp2_with (refine wpList_store_row rfl 53 _ _ rfl (w.heap.size + 2) #[.slice p.a on p.c,.slice T'.a T'.n T'.c,.int .i64 (M + 1),.bool false] rfl rfl 53 _ Qb st_row rfl ho2.out ?_)
  exact bodyPost_ret (v:=.tuple #[.agg #[.slice p.a on p.c,.slice T'.a T'.n T'.c,.int .i64 (M + 1),.bool false],.int .i64 0]) (ret_rst2 (p:=4) (q:=5) rfl rfl Q18) rfl HF.out
 have d1 : (k != 1) = true:=bne_iff_ne.2 k1
 have HBo:=Lib.hid (HB.out (by omega))
 clear HS HB k1 hk124
 have x0:=(Whole.e15 (g:=V.h) X17).1
 go_upto_region 26 with (fail)
 clear x0
 obtain ⟨newo2,o1,o2,o3,o4⟩:=HT26.out (k == 4) hb48 p _ _ HP.out.2.2.2 HP.out.1
 have os0:=Lib.hid o1
 have os2:=Lib.hid o2
 have os1:=Lib.hid o3
 have HO4:=Lib.hid o4
 clear o1 o2 o3 o4 HT26
 have ot2 : Hid (∀ u ∈ (#[.bool (k == 4),.slice none 0 0,.int .i64 0,.bool false] : Array Value).toList,u.oneCell' = true):=Lib.hid (by simp [Value.oneCell'])
 refine wp_region_T (fun Wz => Whole Wz w.heap.size 53 #[.slice p.a on p.c,.slice T'.a T'.n T'.c,.int .i64 (M + 1),.bool false] /\ Whole Wz (w.heap.size + 1) 57 #[.int .i64 k,.string key,.int .i64 V.h.k,.bool V.h.b,.bool V.h.n,.string V.h.d,.int .i64 V.h.e,.int .i64 V.h.tk,.int .i64 V.h.td,.int .i64 V.h.tn,.int .i64 V.h.tz,.string V.h.x,.slice V.h.ba V.h.bn V.h.bc,.slice V.h.la V.h.ln V.h.lc,.slice V.h.fa V.h.fn V.h.fc]) [11] (by kernel_rfl) ?_
 have qd : Below w17.heap.size w17 w17.drew:=(Below.refl _ w17).drew
 generalize w17.drew = w18 at *
 have P18:=Whole.below P17 qd (Whole.lt P17)
 have X18:=Whole.below X17 qd (Whole.lt X17)
 have Q18:=Whole.below Q17 qd (Whole.lt Q17)
 have N18:=Whole.below N17 qd (Whole.lt N17)
 have g18:=below_then g17 qd
 have k18:=Kept.trans k17 (Kept.of (O:=(fun b => b < w.heap.size + 3)) qd) (fun _ h => .inl h)
 have m18:=Kept.trans m17 (Kept.of (O:=(fun b => b < w15.heap.size)) qd) (fun _ h => .inl h)
 clear P17 X17 Q17 N17 g17 k17 m17
 clear qd
 have hlN:=Whole.lt N18
 have hlQ:=Whole.lt Q18
 have h:=Below.refl w18.heap.size w18
 refine tk (i:=1) rfl (by kernel_rfl) (by rfl) (fun _ _ _ h => h) ⟨(P18.below h P18.lt),(X18.below h X18.lt)⟩ (by intro wS hSw;go_simp;try with_reducible rfl) ?_
 simp only [Act.put,actS]
 refine tk (i:=2) rfl (by kernel_rfl) (by rfl) (fun _ _ _ h => h) ⟨(P18.below h P18.lt),(X18.below h X18.lt)⟩ (by intro wS hSw;obtain ⟨Pz,Xz⟩:=hSw;obtain ⟨c0,-,-,-⟩:=Pz.o4s;go_simp;try with_reducible rfl) ?_
 simp only [Act.put,actS]
 refine tk (i:=4) rfl (by kernel_rfl) (by rfl) (fun _ _ _ h => h) ⟨(P18.below h P18.lt),(X18.below h X18.lt)⟩ (by intro wS hSw;go_simp;try with_reducible rfl) ?_
 simp only [Act.put,actS]
 refine tk (i:=5) rfl (by kernel_rfl) (by rfl) (fun _ _ _ h => h) ⟨(P18.below h P18.lt),(X18.below h X18.lt)⟩ (by intro wS hSw;obtain ⟨Pz,Xz⟩:=hSw;have x0:=(Whole.e15 (g:=V.h) Xz).1;go_simp;try with_reducible rfl) ?_
 simp only [Act.put,actS]
 refine tk (i:=6) rfl (by kernel_rfl) (by rfl) (fun _ _ _ h => h) ⟨(P18.below h P18.lt),(X18.below h X18.lt)⟩ (by intro wS hSw;go_simp;try with_reducible rfl) ?_
 simp only [Act.put,actS]
 refine tk (i:=7) rfl (by kernel_rfl) (by rfl) (fun _ _ _ h => h) ⟨(P18.below h P18.lt),(X18.below h X18.lt)⟩ (by intro wS hSw;go_simp;try with_reducible rfl) ?_
 simp only [Act.put,actS]
 refine wpAnyT_ready (rs:=[0,8]) (by kernel_rfl) (by simp) ?_
 refine (AllT.cons rfl (fun KK hK => ?_) (AllT.cons rfl (fun KK hK => ?_) AllT.nil))
 ·go_simp
  have q:=(Below.refl w18.heap.size w18).alloc (Nat.le_refl _) (.cells #[] 90)
  have A:=Whole.new w18 90 #[]
  generalize w18.alloc (.cells #[] 90) = w19 at q A ⊢
  have Vr:=Lib.hid (own_empty (C:=4) A h.size)
  replace h:=below_then h q
  clear q A
  refine hK.out _ _ (.inr ⟨(P18.below h P18.lt),(X18.below h X18.lt)⟩) ?_
  clear hK KK
  try simp only [Act.put,actS]
  refine wpAnyT_ready (rs:=[3,8]) (by kernel_rfl) (by simp) ?_
  refine (AllT.cons rfl (fun KK hK => ?_) (AllT.cons rfl (fun KK hK => ?_) AllT.nil))
  ·refine step_append_any _ (by rfl) _ _ _ (by rfl) _ 90 j0 _ 4 48 Tryd.underlying51 hj0 hy0 hy1 hy2 rfl (by decide) (.slice (some ⟨w18.heap.size,0,none⟩) 0 0) 0 [] (by rfl) Vr.out p.a on p.c newo2 (by rfl) os0.out (os1.out _ (m18.trans (Kept.of (O:=fun b => b < w15.heap.size) h) (fun _ q => .inl q))) os2.out on (by omega) os3.out os4.out h.size ?_
   intro a1 z1 w20 o hg ht
   replace h:=h.grown hg h.size (fun g q => (own_lt Vr.out q).1)
   replace Vr:=Lib.hid o
   clear o hg ht
   refine hK.out _ _ (.inr ⟨(P18.below h P18.lt),(X18.below h X18.lt)⟩) ?_
   clear hK KK
   try simp only [Act.put,actS]
   refine wpAnyT_ready (rs:=[8]) (by kernel_rfl) (by simp) ?_
   refine (AllT.cons rfl (fun KK hK => ?_) AllT.nil)
   go_simp
   have q:=(Below.refl w20.heap.size w20).alloc (Nat.le_refl _) (.cells #[.bool (k == 4),.slice none 0 0,.int .i64 0,.bool false] 90)
   have A:=Whole.new w20 90 #[.bool (k == 4),.slice none 0 0,.int .i64 0,.bool false]
   generalize w20.alloc (.cells #[.bool (k == 4),.slice none 0 0,.int .i64 0,.bool false] 90) = w21 at q A ⊢
   replace Vr:=Lib.hid (own_below Vr.out q)
   have Xe:=A
   replace h:=below_then h q
   clear q A
   refine hK.out _ _ (.inr ⟨(P18.below h P18.lt),(X18.below h X18.lt)⟩) ?_
   clear hK KK
   try simp only [Act.put,actS]
   refine wpAnyT_ready (rs:=[9]) (by kernel_rfl) (by simp) ?_
   refine (AllT.cons rfl (fun KK hK => ?_) AllT.nil)
   refine step_append_any _ (by rfl) _ _ _ (by rfl) _ 90 j0 _ 4 48 Tryd.underlying51 hj0 hy0 hy1 hy2 rfl (by decide) (.slice a1 on z1) on _ (by rfl) Vr.out (some ⟨w20.heap.size,0,none⟩) 1 1 (#[.bool (k == 4),.slice none 0 0,.int .i64 0,.bool false] : Array Value).toList (by rfl) (by rfl) (fun _ => ⟨_,rfl,World.news_of_block Xe⟩) ot2.out (on + 1) rfl ot3.out ot4.out h.size ?_
   intro a2 z2 w22 o hg ht
   clear Xe
   replace h:=h.grown hg h.size (fun g q => (own_lt Vr.out q).1)
   replace Vr:=Lib.hid o
   clear o hg ht
   refine hK.out _ _ (.inr ⟨(P18.below h P18.lt),(X18.below h X18.lt)⟩) ?_
   clear hK KK
   try simp only [Act.put,actS]
   refine tk (i:=10) rfl (by kernel_rfl) (by rfl) (fun _ _ _ h => h) ⟨(P18.below h P18.lt),(X18.below h X18.lt)⟩ (by intro wS hSw;go_simp;try with_reducible rfl) ?_
   simp only [Act.put,actS]
   refine wpAnyT_ready (rs:=[11]) (by kernel_rfl) (by simp) ?_
   refine (AllT.cons rfl (fun KK hK => ?_) AllT.nil)
   have P19:=Whole.below P18 h (Whole.lt P18)
   have X19:=Whole.below X18 h (Whole.lt X18)
   have Q19:=Whole.below Q18 h (Whole.lt Q18)
   have N19:=Whole.below N18 h (Whole.lt N18)
   have g19:=below_then g18 h
   have k19:=Kept.trans k18 (Kept.of (O:=(fun b => b < w.heap.size + 3)) h) (fun _ h => .inl h)
   have m19:=Kept.trans m18 (Kept.of (O:=(fun b => b < w15.heap.size)) h) (fun _ h => .inl h)
   clear P18 X18 Q18 N18 g18 k18 m18
   have sc:=Whole.cell P19 0
   have sf:=Whole.frozen P19 0
   simp only [List.getElem?_toArray,List.getElem?_cons_succ,List.getElem?_cons_zero] at sc
   go_simp
   replace Vr:=Lib.hid (own_block (W':=w22.setCell ⟨w.heap.size,0,none⟩ (.slice a2 (on + 1) z2)) Vr.out (fun g q => Below.heap_setCell _ _ _ _ (by have:=(own_lt Vr.out q).1;show g ≠ w.heap.size;omega)))
   clear sc sf h
   have P20 : Whole (w22.setCell ⟨w.heap.size,0,none⟩ (.slice a2 (on + 1) z2)) w.heap.size 53 #[(.slice a2 (on + 1) z2),.slice T'.a T'.n T'.c,.int .i64 (M + 1),.bool false]:=Whole.set P19 0 (.slice a2 (on + 1) z2)
   have X20:=Whole.far (p:=⟨w.heap.size,0,none⟩) X19 (by show (w.heap.size + 1) ≠ w.heap.size;omega) (.slice a2 (on + 1) z2)
   have Q20:=Whole.far (p:=⟨w.heap.size,0,none⟩) Q19 (by show (w.heap.size + 2) ≠ w.heap.size;omega) (.slice a2 (on + 1) z2)
   have N20:=Whole.far (p:=⟨w.heap.size,0,none⟩) N19 (by show w10.heap.size ≠ w.heap.size;omega) (.slice a2 (on + 1) z2)
   have g20:=Below.setCell (p:=⟨w.heap.size,0,none⟩) g19 (by show _ <= w.heap.size;omega) (.slice a2 (on + 1) z2)
   have k20:=Kept.trans k19 (kept_set (fun b => b = w.heap.size) w22 w.heap.size 0 (.slice a2 (on + 1) z2) rfl) (fun b h => by subst h;omega)
   have m20:=Kept.trans m19 (kept_set (fun b => b = w.heap.size) w22 w.heap.size 0 (.slice a2 (on + 1) z2) rfl) (fun b h => by subst h;omega)
   clear P19 X19 Q19 N19 g19 k19 m19
   generalize w22.setCell ⟨w.heap.size,0,none⟩ (.slice a2 (on + 1) z2) = w23 at *
   refine hK.out _ _ (.inl (by decide)) ?_
   clear hK KK
   try simp only [Act.put,actS]
   refine wpAnyT_done (by kernel_rfl) ?_ _
   obtain ⟨c0,c1,c2,c3⟩:=P20.o4s
   have HP26:=Lib.hid (HO4.out _ _ _ _ Vr.out)
   have z20:=Kept.refl (fun b => b < w18.heap.size) w23
   have ho2 : Hid ((#[.slice a2 (on + 1) z2,.slice T'.a T'.n T'.c,.int .i64 (M + 1),.bool false] : Array Value).all (·.oneCell') = true):=Lib.hid (by simp [Value.oneCell'])
   have Qb:=Q20
   have P21:=Whole.farRow (B':=(w.heap.size + 2)) P20 (by omega) #[.slice a2 (on + 1) z2,.slice T'.a T'.n T'.c,.int .i64 (M + 1),.bool false]
   have X21:=Whole.farRow (B':=(w.heap.size + 2)) X20 (by omega) #[.slice a2 (on + 1) z2,.slice T'.a T'.n T'.c,.int .i64 (M + 1),.bool false]
   have Q21:=Whole.setRow Q20 #[.slice a2 (on + 1) z2,.slice T'.a T'.n T'.c,.int .i64 (M + 1),.bool false]
   have N21:=Whole.farRow (B':=(w.heap.size + 2)) N20 (by omega) #[.slice a2 (on + 1) z2,.slice T'.a T'.n T'.c,.int .i64 (M + 1),.bool false]
   have g21:=below_setRow (g:=(w.heap.size + 2)) g20 (by omega) #[.slice a2 (on + 1) z2,.slice T'.a T'.n T'.c,.int .i64 (M + 1),.bool false]
   have k21:=Kept.trans k20 (kept_setRow (fun b => b = (w.heap.size + 2)) w23 ((w.heap.size + 2)) #[.slice a2 (on + 1) z2,.slice T'.a T'.n T'.c,.int .i64 (M + 1),.bool false] rfl) (fun b h => by subst h;omega)
   have m21:=Kept.trans m20 (kept_setRow (fun b => b = (w.heap.size + 2)) w23 ((w.heap.size + 2)) #[.slice a2 (on + 1) z2,.slice T'.a T'.n T'.c,.int .i64 (M + 1),.bool false] rfl) (fun b h => by subst h;omega)
   have z21:=Kept.trans z20 (kept_setRow (fun b => b = (w.heap.size + 2)) w23 ((w.heap.size + 2)) #[.slice a2 (on + 1) z2,.slice T'.a T'.n T'.c,.int .i64 (M + 1),.bool false] rfl) (fun b h => by subst h;omega)
   clear P20 X20 Q20 N20 g20 k20 m20 z20
   have HF : Hid (RAddOut _ _ w (.returned (.tuple #[.agg #[.slice a2 (on + 1) z2,.slice T'.a T'.n T'.c,.int .i64 (M + 1),.bool false],.int .i64 0])) (w23.setRow ((w.heap.size + 2)) #[.slice a2 (on + 1) z2,.slice T'.a T'.n T'.c,.int .i64 (M + 1),.bool false])):=Lib.hid (by
    obtain ⟨p2,e1,e2,e3,e4,e5⟩:=HP26.out
    have q:=HBo.out T' p2 (M + 1) _ _ rfl (by omega) (HT'.out.1.kept k21 (fun b hb => by omega)) HT'.out.2.1 HT'.out.2.2 (Ops.Row.low (B:=w18.heap.size) (e5.kept z21 (fun b hb => hb)) (by omega)) e2 (fun i hi => (e3 i (by omega)).trans (HP.out.2.1 i hi)) (fun _ => (e3 (on - 1) (by omega)).trans HP.out.2.2.1) e4 g21
    rw [<- e1] at q
    exact q)
   clear HBo
   go_wp2_with (refine wpList_store_row rfl 53 _ _ rfl (w.heap.size + 2) #[.slice a2 (on + 1) z2,.slice T'.a T'.n T'.c,.int .i64 (M + 1),.bool false] rfl rfl 53 _ Qb st_row rfl ho2.out ?_)
   exact bodyPost_ret (v:=.tuple #[.agg #[.slice a2 (on + 1) z2,.slice T'.a T'.n T'.c,.int .i64 (M + 1),.bool false],.int .i64 0]) (ret_rst2 (p:=4) (q:=5) rfl rfl Q21) rfl HF.out
  ·go_simp
   have q:=(Below.refl w19.heap.size w19).alloc (Nat.le_refl _) (.cells #[.bool (k == 4),.slice none 0 0,.int .i64 0,.bool false] 90)
   have A:=Whole.new w19 90 #[.bool (k == 4),.slice none 0 0,.int .i64 0,.bool false]
   generalize w19.alloc (.cells #[.bool (k == 4),.slice none 0 0,.int .i64 0,.bool false] 90) = w20 at q A ⊢
   have hne : w18.heap.size ≠ w19.heap.size:=by have:=(own_lt Vr.out (g:=w18.heap.size) rfl).2;omega
   replace Vr:=Lib.hid (own_below Vr.out q)
   have Xe:=A
   replace h:=below_then h q
   clear q A
   refine hK.out _ _ (.inr ⟨(P18.below h P18.lt),(X18.below h X18.lt)⟩) ?_
   clear hK KK
   try simp only [Act.put,actS]
   refine wpAnyT_ready (rs:=[3]) (by kernel_rfl) (by simp) ?_
   refine (AllT.cons rfl (fun KK hK => ?_) AllT.nil)
   refine step_append_any _ (by rfl) _ _ _ (by rfl) _ 90 j0 _ 4 48 Tryd.underlying51 hj0 hy0 hy1 hy2 rfl (by decide) (.slice (some ⟨w18.heap.size,0,none⟩) 0 0) 0 [] (by rfl) Vr.out p.a on p.c newo2 (by rfl) os0.out (os1.out _ (m18.trans (Kept.of (O:=fun b => b < w15.heap.size) h) (fun _ q => .inl q))) os2.out on (by omega) os3.out os4.out h.size ?_
   intro a1 z1 w21 o hg ht
   replace Xe:=Xe.kept hg (fun e => hne (Option.some.inj (show some _ = some _ from e)).symm)
   replace h:=h.grown hg h.size (fun g q => (own_lt Vr.out q).1)
   replace Vr:=Lib.hid o
   clear o hg ht
   refine hK.out _ _ (.inr ⟨(P18.below h P18.lt),(X18.below h X18.lt)⟩) ?_
   clear hK KK
   try simp only [Act.put,actS]
   refine wpAnyT_ready (rs:=[9]) (by kernel_rfl) (by simp) ?_
   refine (AllT.cons rfl (fun KK hK => ?_) AllT.nil)
   refine step_append_any _ (by rfl) _ _ _ (by rfl) _ 90 j0 _ 4 48 Tryd.underlying51 hj0 hy0 hy1 hy2 rfl (by decide) (.slice a1 on z1) on _ (by rfl) Vr.out (some ⟨w19.heap.size,0,none⟩) 1 1 (#[.bool (k == 4),.slice none 0 0,.int .i64 0,.bool false] : Array Value).toList (by rfl) (by rfl) (fun _ => ⟨_,rfl,World.news_of_block Xe⟩) ot2.out (on + 1) rfl ot3.out ot4.out h.size ?_
   intro a2 z2 w22 o hg ht
   clear Xe
   replace h:=h.grown hg h.size (fun g q => (own_lt Vr.out q).1)
   replace Vr:=Lib.hid o
   clear o hg ht
   refine hK.out _ _ (.inr ⟨(P18.below h P18.lt),(X18.below h X18.lt)⟩) ?_
   clear hK KK
   try simp only [Act.put,actS]
   refine tk (i:=10) rfl (by kernel_rfl) (by rfl) (fun _ _ _ h => h) ⟨(P18.below h P18.lt),(X18.below h X18.lt)⟩ (by intro wS hSw;go_simp;try with_reducible rfl) ?_
   simp only [Act.put,actS]
   refine wpAnyT_ready (rs:=[11]) (by kernel_rfl) (by simp) ?_
   refine (AllT.cons rfl (fun KK hK => ?_) AllT.nil)
   have P19:=Whole.below P18 h (Whole.lt P18)
   have X19:=Whole.below X18 h (Whole.lt X18)
   have Q19:=Whole.below Q18 h (Whole.lt Q18)
   have N19:=Whole.below N18 h (Whole.lt N18)
   have g19:=below_then g18 h
   have k19:=Kept.trans k18 (Kept.of (O:=(fun b => b < w.heap.size + 3)) h) (fun _ h => .inl h)
   have m19:=Kept.trans m18 (Kept.of (O:=(fun b => b < w15.heap.size)) h) (fun _ h => .inl h)
   clear P18 X18 Q18 N18 g18 k18 m18
   have sc:=Whole.cell P19 0
   have sf:=Whole.frozen P19 0
   simp only [List.getElem?_toArray,List.getElem?_cons_succ,List.getElem?_cons_zero] at sc
   go_simp
   replace Vr:=Lib.hid (own_block (W':=w22.setCell ⟨w.heap.size,0,none⟩ (.slice a2 (on + 1) z2)) Vr.out (fun g q => Below.heap_setCell _ _ _ _ (by have:=(own_lt Vr.out q).1;show g ≠ w.heap.size;omega)))
   clear sc sf h
   have P20 : Whole (w22.setCell ⟨w.heap.size,0,none⟩ (.slice a2 (on + 1) z2)) w.heap.size 53 #[(.slice a2 (on + 1) z2),.slice T'.a T'.n T'.c,.int .i64 (M + 1),.bool false]:=Whole.set P19 0 (.slice a2 (on + 1) z2)
   have X20:=Whole.far (p:=⟨w.heap.size,0,none⟩) X19 (by show (w.heap.size + 1) ≠ w.heap.size;omega) (.slice a2 (on + 1) z2)
   have Q20:=Whole.far (p:=⟨w.heap.size,0,none⟩) Q19 (by show (w.heap.size + 2) ≠ w.heap.size;omega) (.slice a2 (on + 1) z2)
   have N20:=Whole.far (p:=⟨w.heap.size,0,none⟩) N19 (by show w10.heap.size ≠ w.heap.size;omega) (.slice a2 (on + 1) z2)
   have g20:=Below.setCell (p:=⟨w.heap.size,0,none⟩) g19 (by show _ <= w.heap.size;omega) (.slice a2 (on + 1) z2)
   have k20:=Kept.trans k19 (kept_set (fun b => b = w.heap.size) w22 w.heap.size 0 (.slice a2 (on + 1) z2) rfl) (fun b h => by subst h;omega)
   have m20:=Kept.trans m19 (kept_set (fun b => b = w.heap.size) w22 w.heap.size 0 (.slice a2 (on + 1) z2) rfl) (fun b h => by subst h;omega)
   clear P19 X19 Q19 N19 g19 k19 m19
   generalize w22.setCell ⟨w.heap.size,0,none⟩ (.slice a2 (on + 1) z2) = w23 at *
   refine hK.out _ _ (.inl (by decide)) ?_
   clear hK KK
   try simp only [Act.put,actS]
   refine wpAnyT_done (by kernel_rfl) ?_ _
   obtain ⟨c0,c1,c2,c3⟩:=P20.o4s
   have HP26:=Lib.hid (HO4.out _ _ _ _ Vr.out)
   have z20:=Kept.refl (fun b => b < w18.heap.size) w23
   have ho2 : Hid ((#[.slice a2 (on + 1) z2,.slice T'.a T'.n T'.c,.int .i64 (M + 1),.bool false] : Array Value).all (·.oneCell') = true):=Lib.hid (by simp [Value.oneCell'])
   have Qb:=Q20
   have P21:=Whole.farRow (B':=(w.heap.size + 2)) P20 (by omega) #[.slice a2 (on + 1) z2,.slice T'.a T'.n T'.c,.int .i64 (M + 1),.bool false]
   have X21:=Whole.farRow (B':=(w.heap.size + 2)) X20 (by omega) #[.slice a2 (on + 1) z2,.slice T'.a T'.n T'.c,.int .i64 (M + 1),.bool false]
   have Q21:=Whole.setRow Q20 #[.slice a2 (on + 1) z2,.slice T'.a T'.n T'.c,.int .i64 (M + 1),.bool false]
   have N21:=Whole.farRow (B':=(w.heap.size + 2)) N20 (by omega) #[.slice a2 (on + 1) z2,.slice T'.a T'.n T'.c,.int .i64 (M + 1),.bool false]
   have g21:=below_setRow (g:=(w.heap.size + 2)) g20 (by omega) #[.slice a2 (on + 1) z2,.slice T'.a T'.n T'.c,.int .i64 (M + 1),.bool false]
   have k21:=Kept.trans k20 (kept_setRow (fun b => b = (w.heap.size + 2)) w23 ((w.heap.size + 2)) #[.slice a2 (on + 1) z2,.slice T'.a T'.n T'.c,.int .i64 (M + 1),.bool false] rfl) (fun b h => by subst h;omega)
   have m21:=Kept.trans m20 (kept_setRow (fun b => b = (w.heap.size + 2)) w23 ((w.heap.size + 2)) #[.slice a2 (on + 1) z2,.slice T'.a T'.n T'.c,.int .i64 (M + 1),.bool false] rfl) (fun b h => by subst h;omega)
   have z21:=Kept.trans z20 (kept_setRow (fun b => b = (w.heap.size + 2)) w23 ((w.heap.size + 2)) #[.slice a2 (on + 1) z2,.slice T'.a T'.n T'.c,.int .i64 (M + 1),.bool false] rfl) (fun b h => by subst h;omega)
   clear P20 X20 Q20 N20 g20 k20 m20 z20
   have HF : Hid (RAddOut _ _ w (.returned (.tuple #[.agg #[.slice a2 (on + 1) z2,.slice T'.a T'.n T'.c,.int .i64 (M + 1),.bool false],.int .i64 0])) (w23.setRow ((w.heap.size + 2)) #[.slice a2 (on + 1) z2,.slice T'.a T'.n T'.c,.int .i64 (M + 1),.bool false])):=Lib.hid (by
    obtain ⟨p2,e1,e2,e3,e4,e5⟩:=HP26.out
    have q:=HBo.out T' p2 (M + 1) _ _ rfl (by omega) (HT'.out.1.kept k21 (fun b hb => by omega)) HT'.out.2.1 HT'.out.2.2 (Ops.Row.low (B:=w18.heap.size) (e5.kept z21 (fun b hb => hb)) (by omega)) e2 (fun i hi => (e3 i (by omega)).trans (HP.out.2.1 i hi)) (fun _ => (e3 (on - 1) (by omega)).trans HP.out.2.2.1) e4 g21
    rw [<- e1] at q
    exact q)
   clear HBo
   go_wp2_with (refine wpList_store_row rfl 53 _ _ rfl (w.heap.size + 2) #[.slice a2 (on + 1) z2,.slice T'.a T'.n T'.c,.int .i64 (M + 1),.bool false] rfl rfl 53 _ Qb st_row rfl ho2.out ?_)
   exact bodyPost_ret (v:=.tuple #[.agg #[.slice a2 (on + 1) z2,.slice T'.a T'.n T'.c,.int .i64 (M + 1),.bool false],.int .i64 0]) (ret_rst2 (p:=4) (q:=5) rfl rfl Q21) rfl HF.out
 ·go_simp
  have q:=(Below.refl w18.heap.size w18).alloc (Nat.le_refl _) (.cells #[.bool (k == 4),.slice none 0 0,.int .i64 0,.bool false] 90)
  have A:=Whole.new w18 90 #[.bool (k == 4),.slice none 0 0,.int .i64 0,.bool false]
  generalize w18.alloc (.cells #[.bool (k == 4),.slice none 0 0,.int .i64 0,.bool false] 90) = w19 at q A ⊢
  have Xe:=A
  replace h:=below_then h q
  clear q A
  refine hK.out _ _ (.inr ⟨(P18.below h P18.lt),(X18.below h X18.lt)⟩) ?_
  clear hK KK
  try simp only [Act.put,actS]
  refine wpAnyT_ready (rs:=[0]) (by kernel_rfl) (by simp) ?_
  refine (AllT.cons rfl (fun KK hK => ?_) AllT.nil)
  go_simp
  have q:=(Below.refl w19.heap.size w19).alloc (Nat.le_refl _) (.cells #[] 90)
  have A:=Whole.new w19 90 #[]
  generalize w19.alloc (.cells #[] 90) = w20 at q A ⊢
  have Vr:=Lib.hid (own_empty (C:=4) A h.size)
  have hne : w19.heap.size ≠ w18.heap.size:=by have:=Xe.lt;omega
  replace Xe:=Xe.below q Xe.lt
  replace h:=below_then h q
  clear q A
  refine hK.out _ _ (.inr ⟨(P18.below h P18.lt),(X18.below h X18.lt)⟩) ?_
  clear hK KK
  try simp only [Act.put,actS]
  refine wpAnyT_ready (rs:=[3]) (by kernel_rfl) (by simp) ?_
  refine (AllT.cons rfl (fun KK hK => ?_) AllT.nil)
  refine step_append_any _ (by rfl) _ _ _ (by rfl) _ 90 j0 _ 4 48 Tryd.underlying51 hj0 hy0 hy1 hy2 rfl (by decide) (.slice (some ⟨w19.heap.size,0,none⟩) 0 0) 0 [] (by rfl) Vr.out p.a on p.c newo2 (by rfl) os0.out (os1.out _ (m18.trans (Kept.of (O:=fun b => b < w15.heap.size) h) (fun _ q => .inl q))) os2.out on (by omega) os3.out os4.out h.size ?_
  intro a1 z1 w21 o hg ht
  replace Xe:=Xe.kept hg (fun e => hne (Option.some.inj (show some _ = some _ from e)).symm)
  replace h:=h.grown hg h.size (fun g q => (own_lt Vr.out q).1)
  replace Vr:=Lib.hid o
  clear o hg ht
  refine hK.out _ _ (.inr ⟨(P18.below h P18.lt),(X18.below h X18.lt)⟩) ?_
  clear hK KK
  try simp only [Act.put,actS]
  refine wpAnyT_ready (rs:=[9]) (by kernel_rfl) (by simp) ?_
  refine (AllT.cons rfl (fun KK hK => ?_) AllT.nil)
  refine step_append_any _ (by rfl) _ _ _ (by rfl) _ 90 j0 _ 4 48 Tryd.underlying51 hj0 hy0 hy1 hy2 rfl (by decide) (.slice a1 on z1) on _ (by rfl) Vr.out (some ⟨w18.heap.size,0,none⟩) 1 1 (#[.bool (k == 4),.slice none 0 0,.int .i64 0,.bool false] : Array Value).toList (by rfl) (by rfl) (fun _ => ⟨_,rfl,World.news_of_block Xe⟩) ot2.out (on + 1) rfl ot3.out ot4.out h.size ?_
  intro a2 z2 w22 o hg ht
  clear Xe
  replace h:=h.grown hg h.size (fun g q => (own_lt Vr.out q).1)
  replace Vr:=Lib.hid o
  clear o hg ht
  refine hK.out _ _ (.inr ⟨(P18.below h P18.lt),(X18.below h X18.lt)⟩) ?_
  clear hK KK
  try simp only [Act.put,actS]
  refine tk (i:=10) rfl (by kernel_rfl) (by rfl) (fun _ _ _ h => h) ⟨(P18.below h P18.lt),(X18.below h X18.lt)⟩ (by intro wS hSw;go_simp;try with_reducible rfl) ?_
  simp only [Act.put,actS]
  refine wpAnyT_ready (rs:=[11]) (by kernel_rfl) (by simp) ?_
  refine (AllT.cons rfl (fun KK hK => ?_) AllT.nil)
  have P19:=Whole.below P18 h (Whole.lt P18)
  have X19:=Whole.below X18 h (Whole.lt X18)
  have Q19:=Whole.below Q18 h (Whole.lt Q18)
  have N19:=Whole.below N18 h (Whole.lt N18)
  have g19:=below_then g18 h
  have k19:=Kept.trans k18 (Kept.of (O:=(fun b => b < w.heap.size + 3)) h) (fun _ h => .inl h)
  have m19:=Kept.trans m18 (Kept.of (O:=(fun b => b < w15.heap.size)) h) (fun _ h => .inl h)
  clear P18 X18 Q18 N18 g18 k18 m18
  have sc:=Whole.cell P19 0
  have sf:=Whole.frozen P19 0
  simp only [List.getElem?_toArray,List.getElem?_cons_succ,List.getElem?_cons_zero] at sc
  go_simp
  replace Vr:=Lib.hid (own_block (W':=w22.setCell ⟨w.heap.size,0,none⟩ (.slice a2 (on + 1) z2)) Vr.out (fun g q => Below.heap_setCell _ _ _ _ (by have:=(own_lt Vr.out q).1;show g ≠ w.heap.size;omega)))
  clear sc sf h
  have P20 : Whole (w22.setCell ⟨w.heap.size,0,none⟩ (.slice a2 (on + 1) z2)) w.heap.size 53 #[(.slice a2 (on + 1) z2),.slice T'.a T'.n T'.c,.int .i64 (M + 1),.bool false]:=Whole.set P19 0 (.slice a2 (on + 1) z2)
  have X20:=Whole.far (p:=⟨w.heap.size,0,none⟩) X19 (by show (w.heap.size + 1) ≠ w.heap.size;omega) (.slice a2 (on + 1) z2)
  have Q20:=Whole.far (p:=⟨w.heap.size,0,none⟩) Q19 (by show (w.heap.size + 2) ≠ w.heap.size;omega) (.slice a2 (on + 1) z2)
  have N20:=Whole.far (p:=⟨w.heap.size,0,none⟩) N19 (by show w10.heap.size ≠ w.heap.size;omega) (.slice a2 (on + 1) z2)
  have g20:=Below.setCell (p:=⟨w.heap.size,0,none⟩) g19 (by show _ <= w.heap.size;omega) (.slice a2 (on + 1) z2)
  have k20:=Kept.trans k19 (kept_set (fun b => b = w.heap.size) w22 w.heap.size 0 (.slice a2 (on + 1) z2) rfl) (fun b h => by subst h;omega)
  have m20:=Kept.trans m19 (kept_set (fun b => b = w.heap.size) w22 w.heap.size 0 (.slice a2 (on + 1) z2) rfl) (fun b h => by subst h;omega)
  clear P19 X19 Q19 N19 g19 k19 m19
  generalize w22.setCell ⟨w.heap.size,0,none⟩ (.slice a2 (on + 1) z2) = w23 at *
  refine hK.out _ _ (.inl (by decide)) ?_
  clear hK KK
  try simp only [Act.put,actS]
  refine wpAnyT_done (by kernel_rfl) ?_ _
  obtain ⟨c0,c1,c2,c3⟩:=P20.o4s
  have HP26:=Lib.hid (HO4.out _ _ _ _ Vr.out)
  have z20:=Kept.refl (fun b => b < w18.heap.size) w23
  have ho2 : Hid ((#[.slice a2 (on + 1) z2,.slice T'.a T'.n T'.c,.int .i64 (M + 1),.bool false] : Array Value).all (·.oneCell') = true):=Lib.hid (by simp [Value.oneCell'])
  have Qb:=Q20
  have P21:=Whole.farRow (B':=(w.heap.size + 2)) P20 (by omega) #[.slice a2 (on + 1) z2,.slice T'.a T'.n T'.c,.int .i64 (M + 1),.bool false]
  have X21:=Whole.farRow (B':=(w.heap.size + 2)) X20 (by omega) #[.slice a2 (on + 1) z2,.slice T'.a T'.n T'.c,.int .i64 (M + 1),.bool false]
  have Q21:=Whole.setRow Q20 #[.slice a2 (on + 1) z2,.slice T'.a T'.n T'.c,.int .i64 (M + 1),.bool false]
  have N21:=Whole.farRow (B':=(w.heap.size + 2)) N20 (by omega) #[.slice a2 (on + 1) z2,.slice T'.a T'.n T'.c,.int .i64 (M + 1),.bool false]
  have g21:=below_setRow (g:=(w.heap.size + 2)) g20 (by omega) #[.slice a2 (on + 1) z2,.slice T'.a T'.n T'.c,.int .i64 (M + 1),.bool false]
  have k21:=Kept.trans k20 (kept_setRow (fun b => b = (w.heap.size + 2)) w23 ((w.heap.size + 2)) #[.slice a2 (on + 1) z2,.slice T'.a T'.n T'.c,.int .i64 (M + 1),.bool false] rfl) (fun b h => by subst h;omega)
  have m21:=Kept.trans m20 (kept_setRow (fun b => b = (w.heap.size + 2)) w23 ((w.heap.size + 2)) #[.slice a2 (on + 1) z2,.slice T'.a T'.n T'.c,.int .i64 (M + 1),.bool false] rfl) (fun b h => by subst h;omega)
  have z21:=Kept.trans z20 (kept_setRow (fun b => b = (w.heap.size + 2)) w23 ((w.heap.size + 2)) #[.slice a2 (on + 1) z2,.slice T'.a T'.n T'.c,.int .i64 (M + 1),.bool false] rfl) (fun b h => by subst h;omega)
  clear P20 X20 Q20 N20 g20 k20 m20 z20
  have HF : Hid (RAddOut _ _ w (.returned (.tuple #[.agg #[.slice a2 (on + 1) z2,.slice T'.a T'.n T'.c,.int .i64 (M + 1),.bool false],.int .i64 0])) (w23.setRow ((w.heap.size + 2)) #[.slice a2 (on + 1) z2,.slice T'.a T'.n T'.c,.int .i64 (M + 1),.bool false])):=Lib.hid (by
   obtain ⟨p2,e1,e2,e3,e4,e5⟩:=HP26.out
   have q:=HBo.out T' p2 (M + 1) _ _ rfl (by omega) (HT'.out.1.kept k21 (fun b hb => by omega)) HT'.out.2.1 HT'.out.2.2 (Ops.Row.low (B:=w18.heap.size) (e5.kept z21 (fun b hb => hb)) (by omega)) e2 (fun i hi => (e3 i (by omega)).trans (HP.out.2.1 i hi)) (fun _ => (e3 (on - 1) (by omega)).trans HP.out.2.2.1) e4 g21
   rw [<- e1] at q
   exact q)
  clear HBo
  go_wp2_with (refine wpList_store_row rfl 53 _ _ rfl (w.heap.size + 2) #[.slice a2 (on + 1) z2,.slice T'.a T'.n T'.c,.int .i64 (M + 1),.bool false] rfl rfl 53 _ Qb st_row rfl ho2.out ?_)
  exact bodyPost_ret (v:=.tuple #[.agg #[.slice a2 (on + 1) z2,.slice T'.a T'.n T'.c,.int .i64 (M + 1),.bool false],.int .i64 0]) (ret_rst2 (p:=4) (q:=5) rfl rfl Q21) rfl HF.out
end Go.Proofs.YtpcbhneaaibfiaaDoor
