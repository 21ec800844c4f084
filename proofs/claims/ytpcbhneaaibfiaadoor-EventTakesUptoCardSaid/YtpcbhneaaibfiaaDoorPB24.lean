/- Laid together. -/
import Derived.Test.YtpcbhneaaibfiaaDoorPB23
import Derived.Test.YtpcbhneaaibfiaaDoorPB21
import Derived.Test.YtpcbhneaaibfiaaDoorPB08
import Derived.Test.YtpcbhneaaibfiaaDoorPB18
import Derived.Test.YtpcbhneaaibfiaaDoorPB17
import Derived.Test.YtpcbhneaaibfiaaDoorPB07
set_option linter.unusedVariables false
set_option linter.unusedSimpArgs false
set_option maxHeartbeats 16000000
set_option maxRecDepth 100000
namespace Go.Proofs.YtpcbhneaaibfiaaDoor
open Go.RowKit
noncomputable def whereS (s : Bst) (x : Ev) : List Stp:=if x.k = 6 then pathS (addS s x) else if x.k = 3 then (pathS s).dropLast else pathS s
def BelOut (B0 bb : Nat) (A O : Nat -> Prop) (W : World) (s : Bst) (x : Ev) (e : Ending) (W' : World) : Prop :=
 ∃ r : Pth,e = .returned (.tuple #[.slice r.a r.n r.c,.int .i64 (addE s x)]) /\ r.In W' W'.heap.size /\ r.steps = (if addE s x = 0 then whereS s x else []) /\ (0 < r.n -> W.heap.size <= r.b) /\
  ∃ A' O',BInv B0 bb A' O' W' (addS s x) /\ (∀ b,A' b -> A b ∨ W.heap.size <= b) /\ (∀ b,O' b -> O b ∨ W.heap.size <= b) /\ Kept O W W'
theorem Pth.In.turn {W W' : World} {p : Pth} {top : Nat} (h : p.In W top) (hb : 0 < p.n -> W'.heap[p.b]? = W.heap[p.b]?) (hz : top <= W'.heap.size) : p.In W' W'.heap.size :=
 ⟨fun q => ⟨(h.1 q).1,Nat.lt_of_lt_of_le (h.1 q).2 hz⟩,h.2.1,fun i hi => ⟨fun j hj => (World.cell?_of_block (a:=⟨p.b,p.o + i * 3 + j,none⟩) (hb (by omega))).trans ((h.2.2 i hi).1 j hj),(h.2.2 i hi).2⟩⟩
theorem nil_in (W : World) (top c b o : Nat) (a : Option Addr) (S : Nat -> Stp) (hc : c <= maxLen) : (Pth.mk a 0 c b o S).In W top:=⟨fun q => absurd q (Nat.lt_irrefl _),⟨Nat.zero_le _,Nat.zero_le _,hc⟩,fun i hi => absurd hi (Nat.not_lt_zero _)⟩
theorem drop_in {W : World} {top m c b o : Nat} {a : Option Addr} {S : Nat -> Stp} (h : (Pth.mk a (m + 1) c b o S).In W top) : (Pth.mk a m c b o S).In W top :=
 ⟨fun q => h.1 (Nat.succ_pos _),⟨(by have:=h.2.1.1;simp only at this ⊢;omega),(by have:=h.2.1.2.1;simp only at this ⊢;omega),h.2.1.2.2⟩,fun i hi => h.2.2 i (Nat.lt_succ_of_lt hi)⟩
theorem drop_steps {m c b o : Nat} {a : Option Addr} {S : Nat -> Stp} : (Pth.mk a m c b o S).steps = (Pth.mk a (m + 1) c b o S).steps.dropLast:=by
 simp [Pth.steps,List.range_succ]
theorem bel_err {B0 bb : Nat} {A O A1 O1 : Nat -> Prop} {W W1 W' : World} {s : Bst} {x : Ev} {v : Value} {E : Int} (hE : addE s x = E) (he : E ≠ 0) (hb : Below W.heap.size W W1) (h : BOut B0 bb A O W1 (addS s x) v (.returned v) W') (hO : ∀ b,O b -> b < W.heap.size) :
 BelOut B0 bb A O W s x (.returned (.tuple #[.slice none 0 0,.int .i64 E])) W':=by
 obtain ⟨-,A',O',h1,h2,h3,h4⟩:=h
 refine ⟨⟨none,0,0,0,0,fun _ => default⟩,by rw [hE],nil_in _ _ _ _ _ _ _ (Nat.zero_le _),?_,fun q => absurd q (Nat.lt_irrefl _),A',O',h1,fun b q => (h2 b q).imp id (fun z => Nat.le_trans hb.size z),fun b q => (h3 b q).imp id (fun z => Nat.le_trans hb.size z),(Kept.of (O:=O) hb).trans h4 (fun b q => .inl q)⟩
 rw [if_neg (by rw [hE];exact he)]
 rfl
theorem bel_ok {B0 bb : Nat} {A O : Nat -> Prop} {W W1 W' : World} {s : Bst} {x : Ev} {v : Value} {r : Pth} (hE : addE s x = 0) (hb : Below W.heap.size W W1) (h : BOut B0 bb A O W1 (addS s x) v (.returned v) W') (hO : ∀ b,O b -> b < W.heap.size)
 (hr : r.In W1 W1.heap.size) (hrb : 0 < r.n -> W.heap.size <= r.b) (hrs : r.steps = whereS s x) : BelOut B0 bb A O W s x (.returned (.tuple #[.slice r.a r.n r.c,.int .i64 0])) W':=by
 obtain ⟨-,A',O',h1,h2,h3,h4⟩:=h
 refine ⟨r,by rw [hE],hr.turn (fun q => h4.block r.b (hr.1 q).2 (fun z => by have:=hO _ z;have:=hrb q;omega)) h4.size,?_,hrb,A',O',h1,fun b q => (h2 b q).imp id (fun z => Nat.le_trans hb.size z),fun b q => (h3 b q).imp id (fun z => Nat.le_trans hb.size z),(Kept.of (O:=O) hb).trans h4 (fun b q => .inl q)⟩
 rw [if_pos hE]
 exact hrs
theorem bel_key {B0 bb : Nat} {A O : Nat -> Prop} {W W1 W2 W' : World} {s : Bst} {x : Ev} {v : Value} {e : Ending} (hE : addE s x = 0) (hk : x.k = 6) (hb : Below W.heap.size W W1) (h : BOut B0 bb A O W1 (addS s x) v (.returned v) W2) {r : Pth}
 (hr : r.In W' W'.heap.size) (hrs : r.steps = pathS (addS s x)) (hrb : 0 < r.n -> W2.heap.size <= r.b) (hb2 : Below W2.heap.size W2 W') : BelOut B0 bb A O W s x (.returned (.tuple #[.slice r.a r.n r.c,.int .i64 0])) W':=by
 obtain ⟨-,A',O',h1,h2,h3,h4⟩:=h
 have hz:=Nat.le_trans hb.size h4.size
 refine ⟨r,by rw [hE],hr,?_,fun q => Nat.le_trans hz (hrb q),A',O',h1.later hb2,fun b q => (h2 b q).imp id (fun z => Nat.le_trans hb.size z),fun b q => (h3 b q).imp id (fun z => Nat.le_trans hb.size z),((Kept.of (O:=O) hb).trans h4 (fun b q => .inl q)).trans (Kept.of (O:=fun _ => False) hb2) (fun b q => q.elim)⟩
 rw [if_pos hE,hrs]
 unfold whereS
 rw [if_pos hk]
theorem bel_any {B0 bb : Nat} {A O : Nat -> Prop} {W : World} {s : Bst} {x : Ev} (h : BInv B0 bb A O W s) (hinv : s.inv) (hx : x.ok) (hV : x.V.In W B0) (hB0 : B0 <= W.heap.size) :
 Calls Tryd.prog 39 #[.pointer (some ⟨bb,0,none⟩),.agg x.cells] W (BelOut B0 bb A O W s x):=by
 have hb0:=(Below.refl W.heap.size W).alloc (Nat.le_refl _) (.cells x.cells 57)
 have P:=Whole.new W 57 x.cells
 have hO : Hid (∀ b,O b -> b < W.heap.size):=Lib.hid (by
  obtain ⟨ov,us,X,h'⟩:=h
  exact fun b q => (h'.O_lt q).2)
 have HPa:=Lib.hid (path_any (h.later hb0))
 have HAd:=Lib.hid (fun (w1 : World) (hb : Below W.heap.size W w1) => add_any (x:=x) (h.later hb) hinv hx (Vt.In.below (hb.mono hB0) hV) (Nat.le_trans hB0 hb.size))
 have HP2:=Lib.hid (fun (w2 : World) (A' O' : Nat -> Prop) (h' : BInv B0 bb A' O' w2 (addS s x)) => path_any h')
 have hpl : (pathS s).length <= 48:=by
  obtain ⟨ov,us,X,h'⟩:=h
  exact pathS_len h'.ok
 obtain ⟨E,hE⟩ : ∃ E,addE s x = E:=⟨_,rfl⟩
 have HErr:=Lib.hid (fun (w1 w2 : World) (v : Value) (he : E ≠ 0) (hb : Below W.heap.size W w1) (h : BOut B0 bb A O w1 (addS s x) v (.returned v) w2) => bel_err (A1:=A) (O1:=O) hE he hb h hO.out)
 have HOk:=Lib.hid (fun (w1 w2 : World) (v : Value) (r : Pth) (he : E = 0) (hb : Below W.heap.size W w1) (h : BOut B0 bb A O w1 (addS s x) v (.returned v) w2) (hr : r.In w1 w1.heap.size) (hrb : 0 < r.n -> W.heap.size <= r.b) (hrs : r.steps = whereS s x) => bel_ok (hE.trans he) hb h hO.out hr hrb hrs)
 have HKey:=Lib.hid (fun (w1 w2 w3 : World) (v : Value) (r : Pth) (he : E = 0) (hk : x.k = 6) (hb : Below W.heap.size W w1) (h : BOut B0 bb A O w1 (addS s x) v (.returned v) w2) (hr : r.In w3 w3.heap.size) (hrs : r.steps = pathS (addS s x)) (hrb : 0 < r.n -> w2.heap.size <= r.b) (hb2 : Below w2.heap.size w2 w3) => bel_key (e:=.returned (.int .i64 0)) (hE.trans he) hk hb h hr hrs hrb hb2)
 have HBx:=Lib.hid (fun (w1 w2 : World) (v : Value) (h : BOut B0 bb A O w1 (addS s x) v (.returned v) w2) => (show ∃ A' O',BInv B0 bb A' O' w2 (addS s x) from by
  obtain ⟨-,A',O',h1,-⟩:=h
  exact ⟨A',O',h1⟩))
 have HW6 : Hid (x.k ≠ 6 -> x.k ≠ 3 -> whereS s x = pathS s):=Lib.hid fun q1 q2 => by unfold whereS;rw [if_neg q1,if_neg q2]
 have HW3 : Hid (x.k = 3 -> whereS s x = (pathS s).dropLast):=Lib.hid fun q => by unfold whereS;rw [if_neg (by omega),if_pos q]
 rw [hE] at HAd
 obtain ⟨Z,hZ⟩ : ∃ Z,BelOut B0 bb A O W s x = Z:=⟨_,rfl⟩
 rw [hZ] at HErr HOk HKey ⊢
 generalize addS s x = T at *
 generalize whereS s x = U at *
 generalize pathS s = Q at *
 clear h hinv hx hV hB0 hE hZ
 obtain ⟨k,key,V⟩:=x
 dsimp only at HKey HW6 HW3
 simp only [Ev.cells,evc] at hb0 P HPa HAd ⊢
 obtain ⟨c0,c1,c2,c3,c4,c5,c6,c7,c8,c9,c10,c11,c12,c13,c14⟩:=Whole.e15 P
 by_cases e6 : k = 6
 ·subst e6
  go_enter Tryd.func39,Tryd.ntmps39
  go_wp2_with fail
  refine HPa.out.mono ?_;rintro _ w1 ⟨⟨ra,rn,rc,rb,ro,rS⟩,rfl,hr,hrs,hrb,hb1⟩
  have g1:=below_then hb0 hb1
  have P1:=Whole.below P hb1 P.lt
  have hn48 : rn <= 48:=by
   have:=Pth.steps_len ⟨ra,rn,rc,rb,ro,rS⟩
   rw [hrs] at this
   simp only at this
   omega
  have hR:=Lib.hid (And.intro hr (And.intro hrs (fun q => Nat.le_trans hb0.size (hrb q))))
  clear HPa hb0 hb1 P hr hrs hrb c0 c1 c2 c3 c4 c5 c6 c7 c8 c9 c10 c11 c12 c13 c14
  obtain ⟨c0,c1,c2,c3,c4,c5,c6,c7,c8,c9,c10,c11,c12,c13,c14⟩:=Whole.e15 P1
  go_wp2_with fail
  refine (HAd.out w1 g1).mono ?_;rintro _ w2 hB
  obtain ⟨rfl,hB'⟩ : _ /\ True:=⟨hB.1,trivial⟩
  have HB:=Lib.hid hB
  have P2 : Whole w2 W.heap.size 57 _:=(hB.2.choose_spec.choose_spec.2.2.2.block _ P1.lt (fun z => by have:=hO.out _ z;omega)).trans P1
  clear hB hB' HAd P1 c0 c1 c2 c3 c4 c5 c6 c7 c8 c9 c10 c11 c12 c13 c14
  have c0:=Whole.cell P2 0
  simp only [List.getElem?_toArray,List.getElem?_cons_succ,List.getElem?_cons_zero] at c0
  by_cases hE0 : E = 0
  ·have HE0:=Lib.hid hE0
   subst hE0
   clear HErr
   obtain ⟨A',O',hB2⟩:=HBx.out _ _ _ HB.out
   have HC:=Lib.hid (HP2.out w2 A' O' hB2)
   clear hB2 HP2 HBx HOk
   go_wp2_with fail
   refine HC.out.mono ?_;rintro _ w3 ⟨⟨sa,sn,sc,sb,so,sS⟩,rfl,hs,hss,hsb,hb3⟩
   have HE2:=Lib.hid (HKey.out w1 w2 w3 _ ⟨sa,sn,sc,sb,so,sS⟩ (by trivial) (by trivial) g1 HB.out hs hss hsb hb3)
   clear HKey HB g1 P2 c0 hs hss hsb hb3 HC
   go_wp2
   (first | exact HE2.out | (go_ret2;exact HE2.out))
  ·have dE : (E == 0) = false:=beq_eq_false_iff_ne.2 hE0
   have HE2:=Lib.hid (HErr.out w1 w2 _ hE0 g1 HB.out)
   clear HErr HOk HKey HB g1 P2 c0 hE0
   go_wp2
   (first | exact HE2.out | (go_ret2;exact HE2.out))
 by_cases e3 : k = 3
 ·subst e3
  go_enter Tryd.func39,Tryd.ntmps39
  go_wp2_with fail
  refine HPa.out.mono ?_;rintro _ w1 ⟨⟨ra,rn,rc,rb,ro,rS⟩,rfl,hr,hrs,hrb,hb1⟩
  have g1:=below_then hb0 hb1
  have P1:=Whole.below P hb1 P.lt
  have hn48 : rn <= 48:=by
   have:=Pth.steps_len ⟨ra,rn,rc,rb,ro,rS⟩
   rw [hrs] at this
   simp only at this
   omega
  have hR:=Lib.hid (And.intro hr (And.intro hrs (fun q => Nat.le_trans hb0.size (hrb q))))
  clear HPa hb0 hb1 P hr hrs hrb c0 c1 c2 c3 c4 c5 c6 c7 c8 c9 c10 c11 c12 c13 c14
  obtain ⟨c0,c1,c2,c3,c4,c5,c6,c7,c8,c9,c10,c11,c12,c13,c14⟩:=Whole.e15 P1
  cases rn with
  | zero =>
   go_wp2_with fail
   refine (HAd.out w1 g1).mono ?_;rintro _ w2 hB
   obtain ⟨rfl,hB'⟩ : _ /\ True:=⟨hB.1,trivial⟩
   have HB:=Lib.hid hB
   have P2 : Whole w2 W.heap.size 57 _:=(hB.2.choose_spec.choose_spec.2.2.2.block _ P1.lt (fun z => by have:=hO.out _ z;omega)).trans P1
   clear hB hB' HAd P1 c0 c1 c2 c3 c4 c5 c6 c7 c8 c9 c10 c11 c12 c13 c14
   have c0:=Whole.cell P2 0
   simp only [List.getElem?_toArray,List.getElem?_cons_succ,List.getElem?_cons_zero] at c0
   by_cases hE0 : E = 0
   ·have HE0:=Lib.hid hE0
    subst hE0
    clear HErr
    have HE2:=Lib.hid (HOk.out w1 w2 _ ⟨ra,0,rc,rb,ro,rS⟩ (by trivial) g1 HB.out hR.out.1 hR.out.2.2 (by rw [HW3.out (by trivial),<- hR.out.2.1];rfl))
    clear HOk HKey HB g1 P2 HBx HP2
    go_wp2
    (first | exact HE2.out | (go_ret2;exact HE2.out))
   ·have dE : (E == 0) = false:=beq_eq_false_iff_ne.2 hE0
    have HE2:=Lib.hid (HErr.out w1 w2 _ hE0 g1 HB.out)
    clear HErr HOk HKey HB g1 P2 c0 hE0
    go_wp2
    (first | exact HE2.out | (go_ret2;exact HE2.out))
  | succ m =>
   have i3 : ((m : Nat) : Int) <= 47:=by omega
   have i4 : (0 : Int) <= ((m : Nat) : Int):=by omega
   have hwi : IntKind.i64.wrap ((m : Nat) : Int) = m:=by rw [IntKind.wrap_i64];omega
   have hlt : (0 : Int) < (m : Int) + 1:=by omega
   have hic : m <= rc:=by have:=hR.out.1.2.1.2.1;simp only at this;omega
   go_wp2_with fail
   refine (HAd.out w1 g1).mono ?_;rintro _ w2 hB
   obtain ⟨rfl,hB'⟩ : _ /\ True:=⟨hB.1,trivial⟩
   have HB:=Lib.hid hB
   have P2 : Whole w2 W.heap.size 57 _:=(hB.2.choose_spec.choose_spec.2.2.2.block _ P1.lt (fun z => by have:=hO.out _ z;omega)).trans P1
   clear hB hB' HAd P1 c0 c1 c2 c3 c4 c5 c6 c7 c8 c9 c10 c11 c12 c13 c14
   have c0:=Whole.cell P2 0
   simp only [List.getElem?_toArray,List.getElem?_cons_succ,List.getElem?_cons_zero] at c0
   by_cases hE0 : E = 0
   ·have HE0:=Lib.hid hE0
    subst hE0
    clear HErr
    have HE2:=Lib.hid (HOk.out w1 w2 _ ⟨ra,m,rc,rb,ro,rS⟩ (by trivial) g1 HB.out (drop_in hR.out.1) (fun q => hR.out.2.2 (Nat.succ_pos _)) (by rw [HW3.out (by trivial),<- hR.out.2.1];exact drop_steps))
    clear HOk HKey HB g1 P2 HBx HP2
    go_wp2
    (first | exact HE2.out | (go_ret2;exact HE2.out))
   ·have dE : (E == 0) = false:=beq_eq_false_iff_ne.2 hE0
    have HE2:=Lib.hid (HErr.out w1 w2 _ hE0 g1 HB.out)
    clear HErr HOk HKey HB g1 P2 c0 hE0
    go_wp2
    (first | exact HE2.out | (go_ret2;exact HE2.out))
 have d6 : (k == 6) = false:=beq_eq_false_iff_ne.2 e6
 have d3 : (k == 3) = false:=beq_eq_false_iff_ne.2 e3
 have HUQ:=Lib.hid (HW6.out e6 e3)
 clear e6 e3
 go_enter Tryd.func39,Tryd.ntmps39
 go_wp2_with fail
 refine HPa.out.mono ?_;rintro _ w1 ⟨⟨ra,rn,rc,rb,ro,rS⟩,rfl,hr,hrs,hrb,hb1⟩
 have g1:=below_then hb0 hb1
 have P1:=Whole.below P hb1 P.lt
 have hn48 : rn <= 48:=by
  have:=Pth.steps_len ⟨ra,rn,rc,rb,ro,rS⟩
  rw [hrs] at this
  simp only at this
  omega
 have hR:=Lib.hid (And.intro hr (And.intro hrs (fun q => Nat.le_trans hb0.size (hrb q))))
 clear HPa hb0 hb1 P hr hrs hrb c0 c1 c2 c3 c4 c5 c6 c7 c8 c9 c10 c11 c12 c13 c14
 obtain ⟨c0,c1,c2,c3,c4,c5,c6,c7,c8,c9,c10,c11,c12,c13,c14⟩:=Whole.e15 P1
 go_wp2_with fail
 refine (HAd.out w1 g1).mono ?_;rintro _ w2 hB
 obtain ⟨rfl,hB'⟩ : _ /\ True:=⟨hB.1,trivial⟩
 have HB:=Lib.hid hB
 have P2 : Whole w2 W.heap.size 57 _:=(hB.2.choose_spec.choose_spec.2.2.2.block _ P1.lt (fun z => by have:=hO.out _ z;omega)).trans P1
 clear hB hB' HAd P1 c0 c1 c2 c3 c4 c5 c6 c7 c8 c9 c10 c11 c12 c13 c14
 have c0:=Whole.cell P2 0
 simp only [List.getElem?_toArray,List.getElem?_cons_succ,List.getElem?_cons_zero] at c0
 by_cases hE0 : E = 0
 ·have HE0:=Lib.hid hE0
  subst hE0
  clear HErr
  have HE2:=Lib.hid (HOk.out w1 w2 _ ⟨ra,rn,rc,rb,ro,rS⟩ (by trivial) g1 HB.out hR.out.1 hR.out.2.2 (by rw [HUQ.out];exact hR.out.2.1))
  clear HOk HKey HB g1 P2 HBx HP2
  go_wp2
  (first | exact HE2.out | (go_ret2;exact HE2.out))
 ·have dE : (E == 0) = false:=beq_eq_false_iff_ne.2 hE0
  have HE2:=Lib.hid (HErr.out w1 w2 _ hE0 g1 HB.out)
  clear HErr HOk HKey HB g1 P2 c0 hE0
  go_wp2
  (first | exact HE2.out | (go_ret2;exact HE2.out))
def NewOut (B0 : Nat) (W : World) (e : Ending) (W' : World) : Prop:=∃ (bb : Nat) (O : Nat -> Prop),e = .returned (.pointer (some ⟨bb,0,none⟩)) /\ BInv B0 bb (fun b => W.heap.size <= b) O W' Bst.zero /\ (∀ b,O b -> W.heap.size <= b) /\ Below W.heap.size W W'
theorem new_any {B0 : Nat} {W : World} (hB : B0 <= W.heap.size) : Calls Tryd.prog 21 #[] W (NewOut B0 W):=by
 have hb0:=(Below.refl W.heap.size W).alloc (Nat.le_refl _) (.cells (bcells (.slice none 0 0) false Vh.zero 0 false) 86)
 have P:=Whole.new W 86 (bcells (.slice none 0 0) false Vh.zero 0 false)
 have HE : Hid (BInv B0 W.heap.size (fun b => W.heap.size <= b) (Own W.heap.size (.slice none 0 0) (fun _ => .slice none 0 0) 0) (W.alloc (.cells (bcells (.slice none 0 0) false Vh.zero 0 false) 86)) Bst.zero):=Lib.hid ⟨.slice none 0 0,fun _ => .slice none 0 0,Vt.z,{
  hO:=fun b => Iff.rfl
  hA:=fun b hb => by
   rcases hb with rfl | q | ⟨i,hi,q⟩
   ·exact Nat.le_refl _
   ·cases q
   ·exact absurd hi (Nat.not_lt_zero _)
  box:=P
  hB0:=hB
  row:=⟨[],World.ownsRow_nil _ _ _ _,fun i hi => absurd hi (Nat.not_lt_zero _)⟩
  rows:=fun i hi => absurd hi (Nat.not_lt_zero _)
  sep1:=fun q => by cases q
  sep2:=fun i hi => absurd hi (Nat.not_lt_zero _)
  sep3:=fun i j hi => absurd hi (Nat.not_lt_zero _)
  inn:=Vt.z_in _ _
  off:=⟨fun q => absurd q (Nat.lt_irrefl _),fun q => absurd q (Nat.lt_irrefl _),fun i hi => absurd hi (Nat.not_lt_zero _),fun q => absurd q (Nat.lt_irrefl _),fun i hi => absurd hi (Nat.not_lt_zero _)⟩
  yes:=fun q => by cases q
  no:=fun _ => rfl
  ok:=⟨Nat.zero_le _,Nat.zero_le _,fun i hi => absurd hi (Nat.not_lt_zero _),fun q => by cases q⟩ }⟩
 simp only [bcells,Vh.zero] at hb0 HE
 clear P
 go_enter Tryd.func21,Tryd.ntmps21
 go_wp2
 go_ret
 refine ⟨W.heap.size,_,rfl,HE.out,fun b hb => ?_,hb0⟩
 rcases hb with rfl | q | ⟨i,hi,q⟩
 ·exact Nat.le_refl _
 ·cases q
 ·exact absurd hi (Nat.not_lt_zero _)
theorem depth_any {B0 bb : Nat} {A O : Nat -> Prop} {W : World} {s : Bst} (h : BInv B0 bb A O W s) : Calls Tryd.prog 26 #[.pointer (some ⟨bb,0,none⟩)] W fun e W' => e = .returned (.int .i64 s.d) /\ Below W.heap.size W W':=by
 obtain ⟨ov,us,X,h⟩:=h
 have p0:=h.box.cell 0
 obtain ⟨a,c,hov⟩:=h.row.slice
 rw [hov] at p0
 simp only [bcells,List.getElem?_toArray,List.getElem?_cons_succ,List.getElem?_cons_zero] at p0
 generalize s.d = d at *
 clear h hov
 go_enter Tryd.func26,Tryd.ntmps26
 go_wp2
 go_ret
 exact ⟨rfl,Below.refl _ _⟩
def Bst.res (s : Bst) : Vt:=if s.dn = true then s.out else Vt.z
def DoneOut (s : Bst) (W : World) (e : Ending) (W' : World) : Prop:=∃ X : Vt,e = .returned (.tuple #[.agg #[.int .i64 X.h.k,.bool X.h.b,.bool X.h.n,.string X.h.d,.int .i64 X.h.e,.int .i64 X.h.tk,.int .i64 X.h.td,.int .i64 X.h.tn,.int .i64 X.h.tz,.string X.h.x,.slice X.h.ba X.h.bn X.h.bc,.slice X.h.la X.h.ln X.h.lc,.slice X.h.fa X.h.fn X.h.fc],.bool s.dn]) /\ X.In W' W'.heap.size /\ X.Off (W.heap.size <= ·) /\ X.Same s.res /\ Below W.heap.size W W'
theorem off_zero (S : Nat -> Prop) : Vt.z.Off S:=⟨fun q => absurd q (Nat.lt_irrefl _),fun q => absurd q (Nat.lt_irrefl _),fun i hi => absurd hi (Nat.not_lt_zero _),fun q => absurd q (Nat.lt_irrefl _),fun i hi => absurd hi (Nat.not_lt_zero _)⟩
theorem done_any {B0 bb : Nat} {A O : Nat -> Prop} {W : World} {s : Bst} (h : BInv B0 bb A O W s) : Calls Tryd.prog 24 #[.pointer (some ⟨bb,0,none⟩)] W (DoneOut s W):=by
 obtain ⟨ov,us,X,h⟩:=h
 have hb0:=(Below.refl W.heap.size W).alloc (Nat.le_refl _) (.cells Vh.zero.cells 30)
 have h0:=h.later hb0
 have Q:=Whole.new W 30 Vh.zero.cells
 have hone0:=Lib.hid (vh_all Vh.zero)
 have PB:=h0.box
 cases hd : s.dn with
 | false =>
  have hres : s.res = Vt.z:=by unfold Bst.res;rw [if_neg (by rw [hd];decide)]
  have p1:=PB.cell 1
  rw [hd] at p1
  unfold DoneOut
  rw [hres,hd]
  simp only [bcells,List.getElem?_toArray,List.getElem?_cons_succ,List.getElem?_cons_zero] at p1
  simp only [Vh.cells,Vh.zero] at hb0 Q p1
  clear h h0 PB hres hd
  go_enter Tryd.func24,Tryd.ntmps24
  go_wp2_with (refine wpList_store_row rfl 30 _ _ rfl W.heap.size Vh.zero.cells rfl rfl 30 _ Q vh_row rfl hone0.out ?_)
  have Q2:=Whole.setRow Q Vh.zero.cells
  exact bodyPost_ret (v:=.tuple #[.agg Vh.zero.cells,.bool false]) (ret_val2 (p:=2) (q:=3) rfl rfl Q2) rfl ⟨Vt.z,rfl,Vt.z_in _ _,off_zero _,Vt.z_same,below_setRow hb0 (by omega) _⟩
 | true =>
  have hres : s.res = s.out:=by unfold Bst.res;rw [if_pos hd]
  have hXs:=h.yes hd
  have hXu : X.upto 65536:=Vt.upto_le (Vt.upto_sameE hXs (h.ok.out hd)) (by decide)
  have HC:=Lib.hid (copy_any (T:=X) (w:=W.alloc (.cells Vh.zero.cells 30)) h0.inn (Nat.le_refl _) hXu)
  unfold DoneOut
  rw [hres,hd]
  rw [hd] at PB
  have Hs:=Lib.hid hXs
  have p1:=PB.cell 1
  have p2:=PB.cell 2
  have p3:=PB.cell 3
  have p4:=PB.cell 4
  have p5:=PB.cell 5
  have p6:=PB.cell 6
  have p7:=PB.cell 7
  have p8:=PB.cell 8
  have p9:=PB.cell 9
  have p10:=PB.cell 10
  have p11:=PB.cell 11
  have p12:=PB.cell 12
  have p13:=PB.cell 13
  have p14:=PB.cell 14
  simp only [bcells,List.getElem?_toArray,List.getElem?_cons_succ,List.getElem?_cons_zero] at p1 p2 p3 p4 p5 p6 p7 p8 p9 p10 p11 p12 p13 p14
  simp only [Vh.cells,Vh.zero] at hb0 Q p1 p2 p3 p4 p5 p6 p7 p8 p9 p10 p11 p12 p13 p14 HC
  clear h h0 PB hres hd hXs hXu
  go_enter Tryd.func24,Tryd.ntmps24
  go_wp2_with fail
  refine HC.out.mono ?_;rintro _ w1 ⟨Z,rfl,hZ,hZo,hZs,hb1⟩
  have Q1:=Q.below hb1 Q.lt
  have g1:=below_then hb0 hb1
  have hone:=Lib.hid (vh_all Z.h)
  have HZs:=Lib.hid (hZs.trans Hs.out)
  clear HC Q hb0 hZs p1 p2 p3 p4 p5 p6 p7 p8 p9 p10 p11 p12 p13 p14
  go_wp2_with (refine wpList_store_row rfl 30 _ _ rfl W.heap.size Z.h.cells rfl rfl 30 _ Q1 vh_row rfl hone.out ?_)
  have Q2:=Q1.setRow Z.h.cells
  have hsz:=Q1.lt
  simp at hZo
  exact bodyPost_ret (v:=.tuple #[.agg Z.h.cells,.bool true]) (ret_val2 (p:=2) (q:=3) rfl rfl Q2) rfl ⟨Z,rfl,hZ.stays hZo (fun b hb => setRow_other _ _ _ _ (by omega)) (by rw [size_setRow];omega),hZo.mono fun b hb => by omega,HZs.out,below_setRow g1 (by omega) _⟩
theorem keysE_each {K : Nat -> ByteArray} : ∀ {n : Nat},keysE K n = 0 -> ∀ i,i < n -> keyE K i = 0:=by
 intro n h i hi
 have h0 : keysE K i = 0:=Classical.byContradiction fun q => q (by rw [<- keysE_stays q n (by omega)];exact h)
 have h1 : keysE K (i + 1) = 0:=Classical.byContradiction fun q => q (by rw [<- keysE_stays q n (by omega)];exact h)
 have e : keysE K (i + 1) = keyE K i:=by
  show (if keysE K i ≠ 0 then keysE K i else keyE K i) = _
  rw [if_neg (by simp [h0])]
 rw [<- e];exact h1
theorem keyE_what {K : Nat -> ByteArray} {i : Nat} (h : keyE K i = 0) : utfB (K i) = true /\ (K i).size <= 1024 /\ ∀ k,k < i -> K k ≠ K i:=by
 unfold keyE at h
 split at h
 ·omega
 rename_i h1
 split at h
 ·omega
 rename_i h2
 split at h
 ·omega
 rename_i h3
 exact ⟨by simpa using h1,by omega,fun k hk e => h3 ⟨k,hk,e⟩⟩
theorem oneE_keysE {T : Vt} (h : oneE T = 0) : keysE T.K T.h.fn = 0:=by
 unfold oneE at h
 split at h
 ·omega
 split at h
 ·omega
 split at h
 ·omega
 split at h
 ·omega
 exact h
structure Bst.eqv (s t : Bst) : Prop where
 d : s.d = t.d
 fr : ∀ i,i < s.d -> s.fr i = t.fr i
 dn : s.dn = t.dn
 out : s.out = t.out
 nd : s.nd = t.nd
 bad : s.bad = t.bad
theorem Bst.eqv.rfl' (s : Bst) : s.eqv s:=⟨rfl,fun _ _ => rfl,rfl,rfl,rfl,rfl⟩
theorem Bst.eqv.symm {s t : Bst} (h : s.eqv t) : t.eqv s:=⟨h.d.symm,fun i hi => (h.fr i (by rw [h.d];exact hi)).symm,h.dn.symm,h.out.symm,h.nd.symm,h.bad.symm⟩
theorem Bst.eqv.trans {s t u : Bst} (h : s.eqv t) (g : t.eqv u) : s.eqv u:=⟨h.d.trans g.d,fun i hi => (h.fr i hi).trans (g.fr i (by rw [<- h.d];exact hi)),h.dn.trans g.dn,h.out.trans g.out,h.nd.trans g.nd,h.bad.trans g.bad⟩
theorem addE_eqv {s t : Bst} {x : Ev} (h : s.eqv t) : addE s x = addE t x:=by
 have hf : followE s x = followE t x:=by
  unfold followE
  rw [h.dn,h.d]
  by_cases q : t.d = 0
  ·rw [if_pos q,if_pos q]
  ·rw [h.fr (t.d - 1) (by rw [h.d];omega)]
 unfold addE
 rw [hf,h.bad,h.d,h.nd]
theorem putS_eqv {s t : Bst} {V : Vt} (h : s.eqv t) : (putS s V).eqv (putS t V):=by
 obtain ⟨d,fr,dn,out,nd,bad⟩:=s
 obtain ⟨d',fr',dn',out',nd',bad'⟩:=t
 obtain ⟨h1,h2,h3,h4,h5,h6⟩:=h
 dsimp only at h1 h2 h3 h4 h5 h6
 subst h1 h3 h4 h5 h6
 unfold putS
 dsimp only
 by_cases q : d = 0
 ·rw [if_pos q,if_pos q]
  exact ⟨rfl,h2,rfl,rfl,rfl,rfl⟩
 ·have e:=h2 (d - 1) (by omega)
  rw [if_neg q,if_neg q]
  cases hm : (fr' (d - 1)).mp with
  | true =>
   rw [if_pos (by rw [e];exact hm),if_pos (by rfl)]
   refine ⟨rfl,fun i hi => ?_,rfl,rfl,rfl,rfl⟩
   by_cases z : i = d - 1
   ·subst z;simp only [upd_same,e]
   ·simp only [upd_other z];exact h2 i hi
  | false =>
   rw [if_neg (by rw [e,hm];decide),if_neg (by decide)]
   refine ⟨rfl,fun i hi => ?_,rfl,rfl,rfl,rfl⟩
   by_cases z : i = d - 1
   ·subst z;simp only [upd_same,e]
   ·simp only [upd_other z];exact h2 i hi
theorem eqv_nd {s t : Bst} (h : s.eqv t) : Bst.eqv { s with nd:=s.nd + 1 } { t with nd:=t.nd + 1 }:=⟨h.d,h.fr,h.dn,h.out,by show s.nd + 1 = t.nd + 1;rw [h.nd],h.bad⟩
theorem pushS_eqv {s t : Bst} {mp : Bool} (h : s.eqv t) : (pushS s mp).eqv (pushS t mp):=by
 obtain ⟨d,fr,dn,out,nd,bad⟩:=s
 obtain ⟨d',fr',dn',out',nd',bad'⟩:=t
 obtain ⟨h1,h2,h3,h4,h5,h6⟩:=h
 dsimp only at h1 h2 h3 h4 h5 h6
 subst h1 h3 h4 h5 h6
 unfold pushS
 dsimp only
 refine ⟨rfl,fun i hi => ?_,rfl,rfl,rfl,rfl⟩
 have hi' : i < d + 1:=hi
 by_cases z : i = d
 ·subst z;simp only [upd_same]
 ·simp only [upd_other z];exact h2 i (by omega)
theorem keyS_eqv {s t : Bst} {key : ByteArray} (h : s.eqv t) (hd : 0 < s.d) : (keyS s key).eqv (keyS t key):=by
 obtain ⟨d,fr,dn,out,nd,bad⟩:=s
 obtain ⟨d',fr',dn',out',nd',bad'⟩:=t
 obtain ⟨h1,h2,h3,h4,h5,h6⟩:=h
 dsimp only at h1 h2 h3 h4 h5 h6 hd
 subst h1 h3 h4 h5 h6
 unfold keyS
 dsimp only
 rw [h2 (d - 1) (by omega)]
 refine ⟨rfl,fun i hi => ?_,rfl,rfl,rfl,rfl⟩
 by_cases z : i = d - 1
 ·subst z;simp only [upd_same]
 ·simp only [upd_other z];exact h2 i hi
theorem popS_eqv {s t : Bst} (h : s.eqv t) (hd : 0 < s.d) : (popS s).eqv (popS t):=by
 obtain ⟨d,fr,dn,out,nd,bad⟩:=s
 obtain ⟨d',fr',dn',out',nd',bad'⟩:=t
 obtain ⟨h1,h2,h3,h4,h5,h6⟩:=h
 dsimp only at h1 h2 h3 h4 h5 h6 hd
 subst h1 h3 h4 h5 h6
 unfold popS
 dsimp only
 rw [h2 (d - 1) (by omega)]
 exact putS_eqv ⟨rfl,fun i hi => (by have hi' : i < d - 1:=hi;exact h2 i (by omega)),rfl,rfl,rfl,rfl⟩
theorem stepS_eqv {s t : Bst} {x : Ev} (h : s.eqv t) (ha : addE s x = 0) : (stepS s x).eqv (stepS t x):=by
 obtain ⟨a1,a2,a3,a4⟩:=addE_ok ha
 obtain ⟨b1,-⟩:=shapeE_ok a2
 obtain ⟨c1,c2,c3⟩:=followE_ok a3
 unfold stepS
 split
 ·exact putS_eqv (eqv_nd h)
 split
 ·rename_i e
  exact keyS_eqv h (Nat.pos_of_ne_zero fun q => (c2 q).1 e)
 split
 ·exact pushS_eqv (eqv_nd h)
 split
 ·exact pushS_eqv (eqv_nd h)
 ·exact popS_eqv h (Nat.pos_of_ne_zero fun q => by have:=c2 q;omega)
theorem addS_eqv {s t : Bst} {x : Ev} (h : s.eqv t) : (addS s x).eqv (addS t x):=by
 unfold addS
 rw [<- h.bad,<- addE_eqv h]
 split
 ·exact h
 split
 ·rename_i q;exact stepS_eqv h q
 ·exact ⟨h.d,h.fr,h.dn,h.out,h.nd,rfl⟩
noncomputable def run1 (r : Bst × Int) (x : Ev) : Bst × Int:=if r.2 ≠ 0 then r else (addS r.1 x,addE r.1 x)
noncomputable def runL (r : Bst × Int) (l : List Ev) : Bst × Int:=l.foldl run1 r
theorem runL_nil (r : Bst × Int) : runL r [] = r:=rfl
theorem runL_cons (r : Bst × Int) (x : Ev) (l : List Ev) : runL r (x :: l) = runL (run1 r x) l:=rfl
theorem runL_append (r : Bst × Int) (a b : List Ev) : runL r (a ++ b) = runL (runL r a) b:=List.foldl_append
theorem runL_stop {r : Bst × Int} (h : r.2 ≠ 0) : ∀ l,runL r l = r:=by
 intro l
 induction l with
 | nil => rfl
 | cons x l ih =>
  rw [runL_cons]
  have e : run1 r x = r:=if_pos h
  rw [e];exact ih
theorem runL_go {s : Bst} {x : Ev} {l : List Ev} (h : addE s x = 0) : runL (s,0) (x :: l) = runL (stepS s x,0) l:=by
 have e : run1 (s,0) x = (stepS s x,0):=by
  unfold run1
  rw [if_neg (by simp),h,addS_ok h]
 rw [runL_cons,e]
theorem runL_take {r : Bst × Int} {l : List Ev} {j : Nat} (hj : j < l.length) : runL r (l.take (j + 1)) = run1 (runL r (l.take j)) l[j]:=by
 rw [<- List.take_append_getElem hj,runL_append]
 rfl
theorem runL_bad {r : Bst × Int} {l : List Ev} {j : Nat} (h : (runL r (l.take j)).2 ≠ 0) : runL r l = runL r (l.take j):=by
 conv => lhs;rw [<- List.take_append_drop j l,runL_append]
 exact runL_stop h _
theorem runL_eqv {l : List Ev} : ∀ {s t : Bst} {e : Int},s.eqv t -> (runL (s,e) l).1.eqv (runL (t,e) l).1 /\ (runL (s,e) l).2 = (runL (t,e) l).2:=by
 induction l with
 | nil => intro s t e h;exact ⟨h,rfl⟩
 | cons x l ih =>
  intro s t e h
  rw [runL_cons,runL_cons]
  by_cases q : e = 0
  ·subst q
   have e1 : run1 (s,0) x = (addS s x,addE s x):=if_neg (by simp)
   have e2 : run1 (t,0) x = (addS t x,addE t x):=if_neg (by simp)
   rw [e1,e2,<- addE_eqv h]
   exact ih (addS_eqv h)
  ·have e1 : run1 (s,e) x = (s,e):=if_pos q
   have e2 : run1 (t,e) x = (t,e):=if_pos q
   rw [e1,e2]
   exact ih h
structure Bst.rdy (s : Bst) : Prop where
 bad : s.bad = false
 dn : s.dn = false
 top : 0 < s.d -> (s.fr (s.d - 1)).mp = true -> (s.fr (s.d - 1)).kd = true
theorem fol_beg {s : Bst} {x : Ev} (h : s.rdy) (hx : x.k = 1 ∨ x.k = 2 ∨ x.k = 4) : followE s x = 0:=by
 unfold followE
 rw [if_neg (by rw [h.dn];decide)]
 split
 ·rw [if_neg (by omega)]
 ·rw [if_neg (by omega),if_neg (by omega),if_neg (by omega),if_neg (by
   rintro ⟨q1,q2⟩
   have:=h.top (by omega) q1
   rw [q2] at this;cases this)]
theorem shape_mark {x : Ev} {k : Int} (hk : k = 2 ∨ k = 3 ∨ k = 4 ∨ k = 5) (h : x.Same (evM k)) : shapeE x = 0:=by
 have h1 : x.k = k:=h.k
 have h2 : x.key = ⟨#[]⟩:=h.key
 have h3 : x.V.h.plain = true:=(plain_same h.V.left).2 h.V
 have e0 : utfB (⟨#[]⟩ : ByteArray) = true:=utfB_nil rfl
 unfold shapeE
 rw [if_neg (by
  rintro (q | q | ⟨q1,q2⟩ | ⟨q1,q2⟩)
  ·simp at q;omega
  ·simp at q;omega
  ·rw [h2] at q2;rw [Lib.toList_data] at q2;simp at q2
  ·rw [h3] at q2;cases q2),if_neg (by simp;omega),h2,if_neg (by rw [e0];decide),if_neg (show ¬ 1024 < (⟨#[]⟩ : ByteArray).size from Nat.not_lt_zero _)]
theorem shape_key {x : Ev} {key : ByteArray} (h : x.Same (evK key)) (hu : utfB key = true) (hs : key.size <= 1024) : shapeE x = 0:=by
 have h1 : x.k = 6:=h.k
 have h2 : x.key = key:=h.key
 have h3 : x.V.h.plain = true:=(plain_same h.V.left).2 h.V
 unfold shapeE
 rw [if_neg (by
  rintro (q | q | ⟨q1,q2⟩ | ⟨q1,q2⟩)
  ·simp at q;omega
  ·simp at q;omega
  ·rw [h1] at q1;cases q1
  ·rw [h3] at q2;cases q2),if_neg (by simp;omega),h2,if_neg (by rw [hu];decide),if_neg (by omega)]
theorem shape_sca {x : Ev} {T : Vt} (h : x.Same (evS T)) (hs : T.sca) : shapeE x = 0:=by
 have h1 : x.k = 1:=h.k
 have h2 : x.key = ⟨#[]⟩:=h.key
 have h3 : x.V.Same T:=h.V
 have hk : x.V.h.k = T.h.k:=h3.flat.k
 have hT:=h3.right
 have hlook : (x.V.look 1 0).2 = 0:=by
  have hkn : T.kn = 0:=by
   unfold Vt.kn
   split
   ·exact hs.fn
   ·exact hs.ln
  rw [look_same h3,Vt.look_eq hT,if_neg (by omega),if_neg (by omega),if_neg (by simp [hs.one]),hkn]
  rfl
 unfold shapeE
 rw [if_neg (by
  rintro (q | q | ⟨q1,q2⟩ | ⟨q1,q2⟩)
  ·simp at q;omega
  ·simp at q;omega
  ·rw [h2] at q2;rw [Lib.toList_data] at q2;simp at q2
  ·rw [h1] at q1;cases q1),if_pos (by rw [h1];rfl),if_neg (by have:=hs.lt;have:=hs.ge;omega)]
 exact hlook
theorem putS_d (s : Bst) (V : Vt) : (putS s V).d = s.d /\ (putS s V).nd = s.nd /\ (putS s V).bad = s.bad:=by
 unfold putS
 split
 ·exact ⟨rfl,rfl,rfl⟩
 split
 ·exact ⟨rfl,rfl,rfl⟩
 ·exact ⟨rfl,rfl,rfl⟩
def part (s : Bst) (m : Nat) (f : Fr) : Bst:={ s with d:=s.d + 1,nd:=m,fr:=upd s.fr s.d f }
theorem part_top (s : Bst) (m : Nat) (f : Fr) : (part s m f).fr ((part s m f).d - 1) = f:=by
 show upd s.fr s.d f (s.d + 1 - 1) = f
 rw [Nat.add_sub_cancel,upd_same]
theorem putS_part {s : Bst} {m : Nat} {f : Fr} {V : Vt} : putS (part s m f) V = part s m (if f.mp = true then ⟨true,f.n + 1,upd f.K f.n f.key,upd f.M f.n V,⟨#[]⟩,false⟩ else ⟨false,f.n + 1,upd f.K f.n ⟨#[]⟩,upd f.M f.n V,f.key,f.kd⟩):=by
 have e : ∀ g : Fr,upd (upd s.fr s.d f) s.d g = upd s.fr s.d g:=fun g => by
  funext i
  by_cases z : i = s.d
  ·subst z;rw [upd_same,upd_same]
  ·rw [upd_other z,upd_other z,upd_other z]
 unfold putS
 rw [if_neg (by show ¬ s.d + 1 = 0;omega),part_top]
 cases hm : f.mp with
 | true =>
  simp only [if_true]
  unfold part
  simp only [Nat.add_sub_cancel,e]
 | false =>
  simp only [Bool.false_eq_true,if_false]
  unfold part
  simp only [Nat.add_sub_cancel,e]
def Runs (T : Vt) : Prop:=∀ (s : Bst) (l : List Ev) (e : Nat),s.rdy -> T.whole -> T.good -> T.upto e -> s.d + e <= 48 -> s.nd + T.size <= 65536 -> SameL l (evs T) ->
 ∃ T' : Vt,T'.Same T /\ (runL (s,0) l).2 = 0 /\ (runL (s,0) l).1.eqv (putS { s with nd:=s.nd + T.size } T')
theorem add_beg {s : Bst} {x : Ev} (h : s.rdy) (hx : x.k = 1 ∨ x.k = 2 ∨ x.k = 4) (hs : shapeE x = 0) (hd : s.d < 48) (hn : s.nd < 65536) : addE s x = 0:=by
 unfold addE
 rw [if_neg (by rw [h.bad];decide),if_neg (by simp [hs]),if_neg (by simp [fol_beg h hx]),if_neg (by omega),if_neg (by omega)]
theorem run_sca {T : Vt} {s : Bst} {l : List Ev} (hs : s.rdy) (hT : T.sca) (hw : T.whole) (hd : s.d < 48) (hn : s.nd < 65536) (hl : SameL l (evs T)) :
 ∃ T' : Vt,T'.Same T /\ (runL (s,0) l).2 = 0 /\ (runL (s,0) l).1.eqv (putS { s with nd:=s.nd + 1 } T'):=by
 have hne : T ≠ .nil:=by rintro rfl;exact hw
 rw [evs_sca hne hT.lt] at hl
 match l,hl with
 | [x],.cons h .nil =>
  have hk : x.k = 1:=h.k
  have ha:=add_beg (x:=x) hs (.inl hk) (shape_sca h hT) hd hn
  refine ⟨x.V,h.V,?_⟩
  rw [runL_go ha,runL_nil]
  refine ⟨rfl,?_⟩
  unfold stepS
  rw [if_pos hk]
  exact Bst.eqv.rfl' _
theorem good_sca {T : Vt} (hw : T.whole) (hg : T.good) (h6 : T.h.k ≠ 6) (h7 : T.h.k ≠ 7) : T.sca /\ T.size = 1:=by
 cases T with
 | nil => exact hw.elim
 | mk h Y L K F =>
  have ow:=Vh.own_parts (oneE_own hg.1)
  have ln : (Vt.mk h Y L K F).h.ln = 0:=ow.2.2.2.2.2.2.2.1 h6
  have fn : (Vt.mk h Y L K F).h.fn = 0:=ow.2.2.2.2.2.2.2.2 h7
  refine ⟨⟨?_,ow.1,hg,hg.1,ln,fn⟩,?_⟩
  ·have:=ow.2.1
   simp only [Vt.h] at this h6 h7 ⊢
   omega
  ·rw [Vt.size_eq (by intro e;cases e)]
   have : (Vt.mk h Y L K F).kn = 0:=by
    unfold Vt.kn
    rw [if_neg h7]
    exact ln
   rw [this]
   rfl
theorem part_rdy {s : Bst} {m : Nat} {f : Fr} (hs : s.rdy) (hf : f.mp = true -> f.kd = true) : (part s m f).rdy:=⟨hs.bad,hs.dn,fun _ => by rw [part_top];exact hf⟩
end Go.Proofs.YtpcbhneaaibfiaaDoor
