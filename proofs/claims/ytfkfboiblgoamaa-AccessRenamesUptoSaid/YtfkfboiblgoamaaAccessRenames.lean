import Derived.Test.YtfkfboiblgoamaaRows
import Derived.Test.YtfkfboiblgoamaaQN33
import Derived.Test.YtfkfboiblgoamaaQN01
import Derived.Test.YtfkfboiblgoamaaQN04
import Derived.WalkKit
import Derived.ProofKit
import Derived.OpenShut
import Derived.ShutString
import Derived.JoinedCond
import Derived.WideKeyArgs
/- AccessRenames: true whatever the input of bulk at most 1048576; the input reads as it did. -/
namespace Go.Proofs.Ytfkfboiblgoamaa.accessRenames
open Go.ChangeShapes Go.WideShapes Go.ChangeAt Go.RowKit
open Go.ChangeMaps (open_string shut_string)
set_option linter.unusedVariables false
set_option linter.unusedSimpArgs false
theorem own : ownKnob Try.prog.godebug = none := by kernel_rfl
set_option maxRecDepth 100000 in
theorem contract (H : Type) (enc : TypeId × Value → H) (W : World) (base : Nat) (args : Array Value) (ds gs : List (DataW H)) (before : List MemPlace)
    (hval : ∀ (j : Nat) t v, Try.f6.params[j]? = some t → args[j]? = some v → Value.okWide Try.prog W .any base t v)
    (hW : DataW.Whole enc Try.prog Try.f6.params.toList Rows.accessRenamesSpec.vars false W args.toList ds gs before) (hk : Rows.uptoSmall H (ds ++ gs) = true) :
    Calls Try.prog 6 args W fun e W' => ∃ v, e = .returned v ∧ Rows.accessRenamesSpec.post enc Try.prog Try.f6 false true false false W args v W' := by
  have hW' := hW
  have hbk := of_decide_eq_true hk
  obtain ⟨p, q, hA0, hV, rfl, hfz, hnd⟩ := hW
  have hA : DataW.TrodAll enc Try.prog W 0 (fun _ => true) true Try.f6.params.toList args.toList ds p := hA0
  rw [Try.params6] at hA hval
  obtain ⟨v0, vs0, d0, ds0, p0, q0, hargs, rfl, rfl, h0, r0⟩ := trodAll_cons hA
  obtain ⟨v1, vs1, d1, ds1, p1, q1, rfl, rfl, rfl, h1, r1⟩ := trodAll_cons r0
  obtain ⟨v2, vs2, d2, ds2, p2, q2, rfl, rfl, rfl, h2, r2⟩ := trodAll_cons r1
  obtain ⟨rfl, rfl, rfl⟩ := trodAll_nil r2
  obtain rfl : args = #[v0, v1, v2] := by cases args; simp_all
  obtain ⟨rfl, rfl⟩ := trodVars_none hV
  clear hA0 hk
  simp only [List.append_nil] at hW'
  simp only [List.append_nil, List.nil_append, List.cons_append, Rows.uptoBulkAll] at hbk
  obtain ⟨T0, rfl, hT0⟩ := open_val (hval 0 30 v0 rfl rfl) h0 (by omega)
  obtain ⟨P1, rfl, hP1⟩ := open_path (hval 1 37 v1 rfl rfl) h1 (by omega)
  obtain ⟨a2, rfl, rfl, rfl, w2⟩ := open_string Try.underlying9 (hval 2 9 v2 rfl rfl) h2
  have z2 : a2.size ≤ 1048576 := by have e2 : a2.data.toList.length = a2.size := by simp
                                    simp only [Rows.uptoBulk] at hbk; omega
  refine (walk_AccessRenames W T0 hT0 P1 hP1 a2 z2).mono fun e W' ⟨he, hb⟩ => ?_
  subst he
  have hlt : ∀ x ∈ (p0 ++ (p1 ++ ([] : List MemPlace))), x.block < W.heap.size := fun x hx => hW'.lt x (by simpa using hx)
  exact ⟨_, rfl, post_of_below (pa := (p0 ++ (p1 ++ ([] : List MemPlace)))) (pv := []) hW' (fun _ _ _ => (trodAll_cons_mk (shut_bool Try.underlying4 _) trodAll_mk0))
    (fun sp hsp => by
      have k := (trodAll_cons_mk (Go.WideElems.Trod_stays (by kernel_rfl) (by kernel_rfl) (by decide +kernel) h0 (fun x hx => hb.same (hlt x (by first | exact absurd hx (by simp) | simp [hx]))) (fun x hx => hsp x (by first | exact absurd hx (by simp) | simp [hx]))) (trodAll_cons_mk (Go.WideElems.Trod_stays (by kernel_rfl) (by kernel_rfl) (by decide +kernel) h1 (fun x hx => hb.same (hlt x (by first | exact absurd hx (by simp) | simp [hx]))) (fun x hx => hsp x (by first | exact absurd hx (by simp) | simp [hx]))) (trodAll_cons_mk (Go.WideElems.Trod_stays (by kernel_rfl) (by kernel_rfl) (by decide +kernel) h2 (fun x hx => hb.same (hlt x (by first | exact absurd hx (by simp) | simp [hx]))) (fun x hx => hsp x (by first | exact absurd hx (by simp) | simp [hx]))) (trodAll_mk0 (enc := enc)))))
      exact (by simpa using k : DataW.TrodAll enc Try.prog W' 0 sp true [30, 37, 9] _ [_, _, _] (p0 ++ (p1 ++ ([] : List MemPlace)))))
    (fun _ _ => rfl) (by simp) hb (ok_one (by kernel_rfl) rfl (okWide_bool_mk Try.underlying4 _))⟩
set_option maxRecDepth 100000 in
theorem lifted (os : Os) (started : os.Started) (H : Type) (enc : TypeId × Value → H) (F : Stop.Interp) :
    ReturnsInHanded {} Try.checked os 6 .any ((Rows.OpenSpec.upto Rows.accessRenamesSpec).pre6 enc Try.prog Try.f6 Rows.accessRenamesUptoRow.domain false) (((Rows.OpenSpec.upto Rows.accessRenamesSpec).at F).post enc Try.prog Try.f6 false true false false) := by
  refine returnsInHanded_of_cond (C := Try.checked) (s := Rows.OpenSpec.upto Rows.accessRenamesSpec) (k := Rows.uptoSmall) rfl own started (by kernel_rfl) Try.func6
    (OpenSpec.witness (enc := enc) (C := Try.checked) (s := Rows.OpenSpec.upto Rows.accessRenamesSpec) (k := Rows.uptoSmall) rfl false ⟨#[], #[.agg #[.int .i64 0, .bool false, .bool false, .string ByteArray.empty, .int .i64 0, .int .i64 0, .int .i64 0, .int .i64 0, .int .i64 0, .string ByteArray.empty, .slice none 0 0, .slice none 0 0, .slice none 0 0], .slice none 0 0, .string ByteArray.empty], []⟩ 8 (by kernel_rfl) (by kernel_rfl) (by kernel_rfl)
      (x := ([.agg [.lit (.int .i64 0), .lit (.bool false), .agg [.lit (.bool false), .lit (.string []), .lit (.int .i64 0)], .agg [.lit (.int .i64 0), .lit (.int .i64 0), .lit (.int .i64 0), .lit (.int .i64 0)], .lit (.string []), .nil, .nil, .nil], .nil, .lit (.string [])], [], [])) (by kernel_rfl) rfl (by kernel_rfl)) ?_
  intro W base args ds gs before hval hW _ hk _
  exact contract H enc W base args ds gs before hval hW hk
theorem over : Rows.accessRenamesUptoRow.holds Try.pinned (Rows.OpenSpec.upto Rows.accessRenamesSpec) :=
  OpenClaim.holds_of_cond 6 Try.f6 rfl rfl rfl rfl rfl rfl rfl ⟨rfl, rfl, rfl, rfl, rfl⟩ rfl rfl rfl rfl rfl (by kernel_rfl) Try.func6 (by kernel_rfl)
    (of_decide_eq_true (by kernel_rfl)) (by unfold Func.isWrapper; first | (rw [if_pos (by decide +kernel)]; kernel_rfl) | (rw [if_neg (by decide +kernel)]; exact ⟨rfl, rfl⟩))
    (fun os started H enc _ F => lifted os started H enc F)
theorem proved : Rows.AccessRenamesUptoSaid :=
  over
#print axioms proved
end Go.Proofs.Ytfkfboiblgoamaa.accessRenames
