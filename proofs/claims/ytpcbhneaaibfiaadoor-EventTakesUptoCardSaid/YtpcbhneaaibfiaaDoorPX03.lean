/- Laid together. -/
import Derived.Test.YtpcbhneaaibfiaaDoorPB28
import Derived.Test.YtpcbhneaaibfiaaDoorPX02
import Derived.Below
import Derived.ChangeSame
import Derived.ProofKit
set_option linter.unusedVariables false
set_option linter.unusedSimpArgs false
set_option maxHeartbeats 16000000
set_option maxRecDepth 100000
namespace Go.Proofs.YtpcbhneaaibfiaaDoor
open Go.RowKit
theorem walk_EventTakes (W : World) (p : Evs) (hp : p.In W W.heap.size) (q : Pth) (hq : q.In W W.heap.size) : Calls Tryd.prog 9 #[.slice p.a p.n p.c,.slice q.a q.n q.c] W fun e W' => e = .returned (.bool true) /\ Below W.heap.size W W':=by
 have hn1:=hp.2.1.1
 have hnj : ((p.n : Nat) : Int) <= 1048576:=by omega
 have hni : (0 : Int) <= ((p.n : Nat) : Int):=by omega
 have HFew:=Lib.hid (few_any hp (Nat.le_refl _))
 have HLiv:=Lib.hid (fun (w1 : World) => lives_any w1)
 have HT1:=Lib.hid (fun (hl : p.n <= 1000000) (w1 : World) (hb : Below W.heap.size W w1) => take_any (p:=p) (q:=q) (Evs.In.below hp hb) (Pth.In.below hq hb) hb.size hl)
 have HT2:=Lib.hid (fun (hl : p.n <= 1000000) (w1 : World) (hb : Below W.heap.size W w1) => rtake_any (p:=p) (q:=q) (Evs.In.below hp hb) (Pth.In.below hq hb) hb.size hl)
 have HSa:=Lib.hid (fun (a b : Evs) (w1 : World) (ha : a.In w1 w1.heap.size) (hb : b.In w1 w1.heap.size) => rsame_any ha hb (Nat.le_refl _))
 unfold TkOut at HT1 HT2
 clear hp hq
 go_enter Tryd.func9,Tryd.ntmps9
 go_wp2_with fail
 refine HFew.out.mono ?_;rintro _ w1 ⟨c,rfl,hc,g1⟩
 clear HFew
 cases c
 ·clear HT1 HT2 HSa hc
  go_wp2_with fail
  refine (HLiv.out w1).mono ?_;rintro _ w2 ⟨rfl,hb2⟩
  have g2:=below_then g1 hb2
  clear g1 hb2 HLiv
  go_wp2
  (first | exact ⟨rfl,g2⟩ | (go_ret;exact ⟨rfl,g2⟩))
 have h200:=hc rfl
 clear hc
 by_cases h60 : (60 : Int) < ((p.n : Nat) : Int)
 ·clear HT1 HT2 HSa
  go_wp2_with fail
  refine (HLiv.out w1).mono ?_;rintro _ w2 ⟨rfl,hb2⟩
  have g2:=below_then g1 hb2
  clear g1 hb2 HLiv
  go_wp2
  (first | exact ⟨rfl,g2⟩ | (go_ret;exact ⟨rfl,g2⟩))
 have HLe : Hid (p.n <= 1000000):=Lib.hid (by omega)
 go_wp2_with fail
 refine (HT1.out HLe.out w1 g1).mono ?_;rintro _ w2 ⟨a,E,rfl,ha,hia,hb2⟩
 have g2:=below_then g1 hb2
 have HA:=Lib.hid ha
 have HIA:=Lib.hid hia
 clear HT1 g1 hb2 ha hia
 go_wp2_with fail
 refine (HT2.out HLe.out w2 g2).mono ?_;rintro _ w3 ⟨b,E',rfl,hb,hib,hb3⟩
 have g3:=below_then g2 hb3
 obtain ⟨rfl,hs⟩:=HIA.out.one hib
 have HE3:=Lib.hid (HSa.out a b w3 ((HA.out.below hb3).up hb3.size) hb)
 rw [sameL_iff.2 hs] at HE3
 have dE : (E == E) = true:=beq_self_eq_true _
 clear HT2 g2 hb3 hb hib hs HA HIA HSa
 go_wp2_with fail
 refine HE3.out.mono ?_;rintro _ w4 ⟨rfl,hb4⟩
 have g4:=below_then g3 hb4
 clear HE3 g3 hb4
 go_wp2_with fail
 refine (HLiv.out w4).mono ?_;rintro _ w5 ⟨rfl,hb5⟩
 have g5:=below_then g4 hb5
 clear g4 hb5 HLiv
 go_wp2
 (first | exact ⟨rfl,g5⟩ | (go_ret;exact ⟨rfl,g5⟩))
end Go.Proofs.YtpcbhneaaibfiaaDoor
namespace Go.Proofs.YtpcbhneaaibfiaaDoor
open Go.RowKit Go.WideShapes Go.ChangeShapes
section
variable {H : Type} {enc : TypeId × Value -> H} {P : Program}
theorem post_of_below {f : Func} {s : ChangeSpec} {apart fresh handsOn again : Bool} {W W' : World} {args : Array Value} {v : Value} {ds gs : List (DataW H)} {before pa pv : List MemPlace}
 (hW : DataW.Whole enc P f.params.toList s.vars apart W args.toList ds gs before)
 (hres : ∀ (b : Nat) (sp : Nat -> Bool) (hd : Bool),DataW.TrodAll enc P W' b sp hd f.resultTypes.toList (v.resultList f.resultTypes.size) (s.fn H (ds ++ gs)).results [])
 (hargs : ∀ sp : Nat -> Bool,(∀ p ∈ before,sp p.block = true) -> DataW.TrodAll enc P W' 0 sp true f.params.toList args.toList (s.fn H (ds ++ gs)).args pa)
 (hvars : ∀ sp : Nat -> Bool,(∀ p ∈ before,sp p.block = true) -> DataW.TrodVars enc P W' sp s.vars (s.fn H (ds ++ gs)).vars pv)
 (hps : before = pa ++ pv) (hb : Below W.heap.size W W')
 (hok : ∀ (j : Nat) (t : TypeId) (r : Value),f.resultTypes[j]? = some t -> (v.resultList f.resultTypes.size)[j]? = some r -> Value.okWide P W' .any 0 t r) :
 s.post enc P f apart fresh handsOn again W args v W':=by
 have hlt : ∀ p ∈ before,p.block < W.heap.size:=fun p hp => hW.lt p hp
 have hold : ∀ p ∈ before,(fun b => decide (b < W.heap.size)) p.block = true:=fun p hp => by simpa using hlt p hp
 refine ⟨ds,gs,before,[],pa,pv,hW,hres _ _ _,hargs _ hold,hvars _ hold,World.keptBut_mono (fun p hp => ⟨hp,?_⟩) (hb.frame (· ∈ before)),fun _ => ?_⟩
 ·rw [hps,List.mem_append] at hp
  exact Or.inr hp
 ·obtain ⟨_,_,_,_,_,hz,hn⟩:=hW
  refine ⟨hok,_,_,([] ++ pa) ++ pv,⟨[] ++ pa,pv,trodAll_append (hargs _ (fun _ _ => rfl)) (hres _ _ _),hvars _ (fun _ _ => rfl),rfl,?_,?_⟩,?_⟩
  ·intro b off hp
   have hin : MemPlace.cell b off ∈ before:=by rw [hps];simpa using hp
   rw [hb.frozen (hlt _ hin)]
   exact hz b off hin
  ·intro ha
   have:=hn ha
   rw [hps] at this
   simpa using this
  ·intro p hp _
   rw [hps]
   simpa using hp
end
end Go.Proofs.YtpcbhneaaibfiaaDoor
