/- Laid together for a claim: EvLawW. -/
import Derived.Test.YtpcbhneaaibfiaaDoorQB27
import Derived.Test.YtpcbhneaaibfiaaDoorQR10
set_option linter.unusedVariables false
set_option linter.unusedSimpArgs false
namespace Go.Proofs.YtpcbhneaaibfiaaDoor
open Go.RowKit
theorem w64_wf {a : Int} (h : (Lit.int .i64 a).wf = true) : w64 a := by
  have e1 : IntKind.i64.min = -9223372036854775808 := rfl
  have e2 : IntKind.i64.max = 9223372036854775807 := rfl
  simp only [Lit.wf, e1, e2, Bool.and_eq_true, decide_eq_true_eq] at h
  exact h
set_option maxHeartbeats 8000000 in
set_option maxRecDepth 100000 in
theorem walk_EventWhere (W : World) (p : Evs) (hp : p.In W W.heap.size) (i : Int) (hwf : (Lit.int .i64 i).wf = true) : Calls Tryd.prog 5 #[.slice p.a p.n p.c, .int .i64 i] W fun e W' => e = .returned (.bool true) ∧ Below W.heap.size W W' := by
  have hi := w64_wf hwf
  clear hwf
  have HFew := Lib.hid (few_any hp (Nat.le_refl _))
  have HLiv := Lib.hid (fun (w1 : World) => lives_any w1)
  have HW1 := Lib.hid (fun (w1 : World) (hb : Below W.heap.size W w1) => where_any (i := i) (Evs.In.below hp hb) hb.size hi)
  have HW2 := Lib.hid (fun (w1 : World) (hb : Below W.heap.size W w1) => rwhere_any (i := i) (Evs.In.below hp hb) hb.size hi)
  have HEq := Lib.hid (fun (q r : Pth) (w1 : World) (hq : q.In w1 w1.heap.size) (hr : r.In w1 w1.heap.size) => equal_any hq hr (Nat.le_refl _))
  unfold WhOut at HW1 HW2
  have hi1 := hi.1
  have hi2 := hi.2
  generalize (whE p i).1 = E at *
  generalize (whE p i).2 = U at *
  clear hp hi
  go_enter Tryd.func5, Tryd.ntmps5
  go_wp2_with fail
  refine HFew.out.mono ?_; rintro _ w1 ⟨c, rfl, -, g1⟩
  clear HFew
  cases c
  · clear HW1 HW2 HEq
    go_wp2_with fail
    refine (HLiv.out w1).mono ?_; rintro _ w2 ⟨rfl, hb2⟩
    have g2 := below_then g1 hb2
    clear g1 hb2 HLiv
    go_wp2
    (first | exact ⟨rfl, g2⟩ | (go_ret; exact ⟨rfl, g2⟩))
  go_wp2_with fail
  refine (HW1.out w1 g1).mono ?_; rintro _ w2 ⟨q, rfl, hq, hqs, -, hb2⟩
  have g2 := below_then g1 hb2
  have HQ := Lib.hid hq
  have HQs := Lib.hid hqs
  clear HW1 g1 hb2 hq hqs
  go_wp2_with fail
  refine (HW2.out w2 g2).mono ?_; rintro _ w3 ⟨r, rfl, hr, hrs, -, hb3⟩
  have g3 := below_then g2 hb3
  have HE3 := Lib.hid (HEq.out q r w3 ((HQ.out.below hb3).up hb3.size) hr)
  rw [HQs.out, hrs, eqS_yes rfl] at HE3
  have dE : (E == E) = true := beq_self_eq_true _
  clear HW2 g2 hb3 hr hrs HQ HQs HEq
  go_wp2_with fail
  refine HE3.out.mono ?_; rintro _ w4 ⟨rfl, hb4⟩
  have g4 := below_then g3 hb4
  clear HE3 g3 hb4
  go_wp2_with fail
  refine (HLiv.out w4).mono ?_; rintro _ w5 ⟨rfl, hb5⟩
  have g5 := below_then g4 hb5
  clear g4 hb5 HLiv
  go_wp2
  (first | exact ⟨rfl, g5⟩ | (go_ret; exact ⟨rfl, g5⟩))
end Go.Proofs.YtpcbhneaaibfiaaDoor
