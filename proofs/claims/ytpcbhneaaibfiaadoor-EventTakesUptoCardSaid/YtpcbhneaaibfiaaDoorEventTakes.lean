/- EventTakes: true whatever the input of bulk at most 1048576;the input reads as it did. -/
import Derived.Test.YtpcbhneaaibfiaaDoorRows
import Derived.Test.YtpcbhneaaibfiaaDoorPX03
import Derived.Test.YtpcbhneaaibfiaaDoorPB01
import Derived.Test.YtpcbhneaaibfiaaDoorPB04
import Derived.WalkKit
import Derived.ProofKit
import Derived.OpenShut
import Derived.ShutString
import Derived.JoinedCond
import Derived.Test.YtpcbhneaaibfiaaDoorCards
import Derived.Test.YtpcbhneaaibfiaaDoorTie
import Derived.Lay
import Derived.LaidOnce
import Derived.MakeChecks
import Derived.SevenTiedAt
import Derived.Deep.DeepHandedRow
import Derived.WideKeyArgs
set_option linter.unusedVariables false
set_option linter.unusedSimpArgs false
set_option maxHeartbeats 16000000
set_option maxRecDepth 100000
namespace Go.Proofs.YtpcbhneaaibfiaaDoor.eventTakes
open Go.ChangeShapes Go.WideShapes Go.ChangeAt Go.RowKit
open Go.ChangeMaps (open_string shut_string)
theorem own : ownKnob Tryd.prog.godebug = none:=by kernel_rfl
theorem contract (H : Type) (enc : TypeId × Value -> H) (W : World) (base : Nat) (args : Array Value) (ds gs : List (DataW H)) (before : List MemPlace)
 (hval : ∀ (j : Nat) t v,Tryd.f9.params[j]? = some t -> args[j]? = some v -> Value.okWide Tryd.prog W .any base t v)
 (hW : DataW.Whole enc Tryd.prog Tryd.f9.params.toList Rows.eventTakesSpec.vars false W args.toList ds gs before) (hk : Rows.uptoSmall H (ds ++ gs) = true) :
 Calls Tryd.prog 9 args W fun e W' => ∃ v,e = .returned v /\ Rows.eventTakesSpec.post enc Tryd.prog Tryd.f9 false true false false W args v W':=by
 have hW':=hW
 have hbk:=of_decide_eq_true hk
 obtain ⟨p,q,hA0,hV,rfl,hfz,hnd⟩:=hW
 have hA : DataW.TrodAll enc Tryd.prog W 0 (fun _ => true) true Tryd.f9.params.toList args.toList ds p:=hA0
 rw [Tryd.params9] at hA hval
 obtain ⟨v0,vs0,d0,ds0,p0,q0,hargs,rfl,rfl,h0,r0⟩:=trodAll_cons hA
 obtain ⟨v1,vs1,d1,ds1,p1,q1,rfl,rfl,rfl,h1,r1⟩:=trodAll_cons r0
 obtain ⟨rfl,rfl,rfl⟩:=trodAll_nil r1
 obtain rfl : args = #[v0,v1]:=by cases args;simp_all
 obtain ⟨rfl,rfl⟩:=trodVars_none hV
 clear hA0 hk
 simp only [List.append_nil] at hW'
 simp only [List.append_nil,List.nil_append,List.cons_append,Rows.uptoBulkAll] at hbk
 obtain ⟨P0,rfl,hP0⟩:=open_events (hval 0 34 v0 rfl rfl) h0 (by omega)
 obtain ⟨P1,rfl,hP1⟩:=open_path (hval 1 42 v1 rfl rfl) h1 (by omega)
 refine (walk_EventTakes W P0 hP0 P1 hP1).mono fun e W' ⟨he,hb⟩ => ?_
 subst he
 have hlt : ∀ x ∈ (p0 ++ p1),x.block < W.heap.size:=fun x hx => hW'.lt x (by simpa using hx)
 exact ⟨_,rfl,post_of_below (pa:=(p0 ++ p1)) (pv:=[]) hW' (fun _ _ _ => (trodAll_cons_mk (shut_bool Tryd.underlying4 _) trodAll_mk0))
  (fun sp hsp => by
   have k:=(trodAll_cons_mk (Go.WideElems.Trod_stays (by kernel_rfl) (by kernel_rfl) (by decide +kernel) h0 (fun x hx => hb.same (hlt x (by first | exact absurd hx (by simp) | simp [hx]))) (fun x hx => hsp x (by first | exact absurd hx (by simp) | simp [hx]))) (trodAll_cons_mk (Go.WideElems.Trod_stays (by kernel_rfl) (by kernel_rfl) (by decide +kernel) h1 (fun x hx => hb.same (hlt x (by first | exact absurd hx (by simp) | simp [hx]))) (fun x hx => hsp x (by first | exact absurd hx (by simp) | simp [hx]))) (trodAll_mk0 (enc:=enc))))
   exact (by simpa using k : DataW.TrodAll enc Tryd.prog W' 0 sp true [34,42] _ [_,_] (p0 ++ p1)))
  (fun _ _ => rfl) (by simp) hb (ok_one (by kernel_rfl) rfl (okWide_bool_mk Tryd.underlying4 _))⟩
theorem reads (os : Os) {H : Type} (enc : TypeId × Value -> H) : ∃ places,DataW.whole enc Tryd.prog ((World.laidAll Tryd.prog os Rows.eventTakesUptoRow.laid).forCall (fun _ _ => 0) ⟨#[],#[.slice none 0 0,.slice none 0 0],[]⟩).memory Tryd.f9.params.toList Rows.eventTakesSpec.vars false #[.slice none 0 0,.slice none 0 0].toList 8 = some ([.nil,.nil],[],places) :=
 ⟨[],by kernel_rfl⟩
theorem lifted (os : Os) (started : os.Started) (H : Type) (enc : TypeId × Value -> H) (F : Stop.Interp) :
 ReturnsInHanded {} Tryd.checked os 9 .any ((Rows.OpenSpec.upto Rows.eventTakesSpec).preRow enc Tryd.prog Tryd.f9 Rows.eventTakesUptoRow.domain false Rows.eventTakesUptoRow.laid) (((Rows.OpenSpec.upto Rows.eventTakesSpec).at F).post enc Tryd.prog Tryd.f9 false true false false):=by
 obtain ⟨places,hx⟩:=reads os enc
 have hok : Input.okWideB Tryd.prog ((World.laidAll Tryd.prog os Rows.eventTakesUptoRow.laid).forCall (fun _ _ => 0) ⟨#[],#[.slice none 0 0,.slice none 0 0],[]⟩) 9 ⟨#[],#[.slice none 0 0,.slice none 0 0],[]⟩ = true:=by kernel_rfl
 refine returnsInHanded_of_row (C:=Tryd.checked) (s:=Rows.OpenSpec.upto Rows.eventTakesSpec) own started (by kernel_rfl) Tryd.func9
  ⟨World.laidAll Tryd.prog os Rows.eventTakesUptoRow.laid,fun _ _ => 0,⟨#[],#[.slice none 0 0,.slice none 0 0],[]⟩,World.laidAll_os _ _ _,World.shaped_of_ZipB (by kernel_rfl) (by kernel_rfl),(Input.okWide_of_okWideB (base:=0) hok).1,(Input.okWide_of_okWideB hok).2,
   OpenSpec.preRow_of_cond 8 hx (by kernel_rfl) (fun k hk => by cases hk;kernel_rfl) (by kernel_rfl) (by rw [MakeChecks.laidMetH_plain _ _ _ (by kernel_rfl)];exact laidMet_laidAll _ (by kernel_rfl) (by kernel_rfl)),
   by simp only [Assume.holds];exact ⟨by simp,by simp,fun _ => Modest.zero,by simp,by simp⟩⟩ ?_
 intro W base args ds gs before hval hW _ hcond _ hL _ _
 exact contract H enc W base args ds gs before hval hW (hcond _ rfl)
theorem over : Rows.eventTakesUptoRow.holds Tryd.pinned (Rows.OpenSpec.upto Rows.eventTakesSpec) :=
 OpenClaim.holds_of_cond 9 Tryd.f9 rfl rfl rfl rfl rfl rfl rfl ⟨rfl,rfl,rfl,rfl,rfl⟩ rfl rfl rfl rfl rfl (by kernel_rfl) Tryd.func9 (by kernel_rfl)
  (of_decide_eq_true (by kernel_rfl)) (by unfold Func.isWrapper;first | (rw [if_pos (by decide +kernel)];kernel_rfl) | (rw [if_neg (by decide +kernel)];exact ⟨rfl,rfl⟩))
  (fun os started H enc _ F => by rw [OpenClaim.pre_eq_preRow];exact lifted os started H enc F)
theorem proved : Rows.EventTakesUptoCardSaid :=
 Claim7.holds_tied_plain_at .later [] Rows.eventTakesUptoCard.laidKinds true Rows.eventTakesUptoCard.stood.harness false over (fun _ h => by cases h) (by kernel_rfl) (fun _ h => by cases h) eventTakesUpto_row_tie rfl ⟨rfl,rfl⟩ (by kernel_rfl) rfl
  (fun f fn hf hfn => by
   obtain rfl : f = 9:=Option.some.inj ((show Tryd.prog.funcNamed "datakit/datakitlaw14.EventTakes" = some 9 by kernel_rfl).symm.trans hf) |>.symm
   obtain rfl : fn = Tryd.f9:=(Option.some.inj (Tryd.func9.symm.trans hfn)).symm
   exact ⟨by kernel_rfl,fun j t ht => by
    rw [Tryd.params9] at ht
    have hm : t ∈ [34,42]:=by have:=Array.mem_of_getElem? ht;simp at this ⊢;rcases this with h | h <;> simp [h]
    have hall : ([34,42].all fun u => !Tryd.prog.wantsStandIn u) = true:=by kernel_rfl
    exact (show Tryd.prog.wantsStandIn t = false by simpa using List.all_eq_true.1 hall t hm)⟩)
  (by kernel_rfl)
#print axioms proved
end Go.Proofs.YtpcbhneaaibfiaaDoor.eventTakes
