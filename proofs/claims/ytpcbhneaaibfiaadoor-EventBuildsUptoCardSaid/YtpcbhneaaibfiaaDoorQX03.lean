/- Laid together for a claim: EvRCln, EvRChk, EvRDon, EvRBld. -/
import Derived.Test.YtpcbhneaaibfiaaDoorQX01
import Derived.Test.YtpcbhneaaibfiaaDoorQB25
import Derived.Test.YtpcbhneaaibfiaaDoorQR04
import Derived.Test.YtpcbhneaaibfiaaDoorQR09
import Derived.Test.YtpcbhneaaibfiaaDoorQX02
set_option linter.unusedVariables false
set_option linter.unusedSimpArgs false
namespace Go.Proofs.YtpcbhneaaibfiaaDoor
open Go.RowKit
theorem trace_runs {W : World} {top : Nat} {p : Evs} (hp : p.In W top) : ∀ j, j ≤ p.n → (runN p j).2 = 0 → SameL (trace (runN p j).1) (p.list.take j) := by
  intro j
  induction j with
  | zero => intro _ _; exact .nil
  | succ j ih =>
    intro hj h0
    have hz : (runN p j).2 = 0 := Classical.byContradiction fun q => q (by rw [← runN_bad q (Nat.le_succ j)]; exact h0)
    have hs := runN_succ hj hz
    rw [hs] at h0 ⊢
    obtain ⟨q1, q2, q3⟩ := hp.2.2 j hj
    have hst := step_inv (runN_inv hp j (by omega)) q2 q3.whole h0
    show SameL (trace (addS (runN p j).1 (p.S j))) _
    rw [addS_ok h0]
    have hg : p.list[j]'(by rw [Evs.list_len]; exact hj) = p.S j := Evs.list_get hj
    rw [← List.take_append_getElem (by rw [Evs.list_len]; exact hj), hg]
    refine hst.2.1.trans ((ih (by omega) hz).append (.cons ⟨rfl, rfl, Vt.Same.rfl' q3.whole⟩ .nil))
def Bst.cln (s : Bst) : Prop := (∀ i, i < s.d → ∀ m, m < (s.fr i).n → ((s.fr i).M m).cln) ∧ (s.dn = true → s.out.cln)
theorem sca_cln {T : Vt} (hT : T.whole) (h6 : T.h.k < 6) : T.cln := by
  cases T with
  | nil => exact hT.elim
  | mk h Y L K F =>
    have h6' : h.k < 6 := h6
    unfold Vt.cln
    rw [if_neg (by omega), if_neg (by omega)]
    trivial
theorem frV_cln {f : Fr} (hn : f.n ≤ 1048576) (hk : ∀ m, m < f.n → (f.K m).size ≤ 1048576) (hm : ∀ m, m < f.n → (f.M m).cln) : (frV f).cln := by
  unfold frV
  split
  · unfold Vt.cln
    rw [if_neg (by show ¬ (7 : Int) = 6; decide), if_pos (by rfl)]
    exact ⟨hn, fun a c b N M h => ⟨(fun e => by cases e), ⟨rfl, rfl, rfl, rfl, rfl, rfl, rfl, rfl, rfl, rfl, rfl, rfl, rfl⟩, fun _ _ => rfl, fun i hi => absurd hi (Nat.not_lt_zero _), h⟩, fun i hi => ⟨hk i hi, hm i hi⟩⟩
  · unfold Vt.cln
    rw [if_pos (by rfl)]
    exact ⟨hn, fun a c b M h => ⟨(fun e => by cases e), ⟨rfl, rfl, rfl, rfl, rfl, rfl, rfl, rfl, rfl, rfl, rfl, rfl, rfl⟩, fun _ _ => rfl, h, fun i hi => absurd hi (Nat.not_lt_zero _)⟩, hm⟩
theorem put_cln {s : Bst} {V : Vt} (h : s.cln) (hV : V.cln) : (putS s V).cln := by
  by_cases h0 : s.d = 0
  · unfold putS
    rw [if_pos h0]
    exact ⟨h.1, fun _ => hV⟩
  · rw [putS_fr (by omega)]
    refine ⟨fun i hi m hm => ?_, h.2⟩
    have hi' : i < s.d := hi
    by_cases q : i = s.d - 1
    · subst q
      simp only [upd_same] at hm ⊢
      have key : ∀ (M : Nat → Vt), M = upd (s.fr (s.d - 1)).M (s.fr (s.d - 1)).n V → m < (s.fr (s.d - 1)).n + 1 → (M m).cln := fun M e hm => by
        rw [e]
        by_cases z : m = (s.fr (s.d - 1)).n
        · rw [z, upd_same]; exact hV
        · rw [upd_other z]; exact h.1 _ hi' m (by omega)
      unfold putF at hm ⊢
      split at hm
      · rename_i c
        rw [if_pos c]
        exact key _ rfl hm
      · rename_i c
        rw [if_neg c]
        exact key _ rfl hm
    · simp only [upd_other q] at hm ⊢
      exact h.1 i hi' m hm
theorem add_cln {s : Bst} {x : Ev} (hx : x.V.whole) (hi : s.inv) (h : s.cln) : (addS s x).cln := by
  by_cases h0 : addE s x = 0
  · obtain ⟨hb, hs, hf, hbeg⟩ := addE_ok h0
    rw [addS_ok h0]
    obtain ⟨fdn, f0, f1⟩ := followE_ok hf
    unfold stepS
    split
    · rename_i k
      exact put_cln (s := { s with nd := s.nd + 1 }) ⟨h.1, h.2⟩ (sca_cln hx ((shapeE_ok hs).2.2.2.1 k).2.1)
    split
    · rename_i k6
      refine ⟨fun i hi' m hm => ?_, h.2⟩
      have hi2 : i < s.d := hi'
      have hfr : ((keyS s x.key).fr i).M = (s.fr i).M ∧ ((keyS s x.key).fr i).n = (s.fr i).n := by
        show (upd s.fr (s.d - 1) (keyF (s.fr (s.d - 1)) x.key) i).M = _ ∧ (upd s.fr (s.d - 1) (keyF (s.fr (s.d - 1)) x.key) i).n = _
        by_cases q : i = s.d - 1
        · subst q; rw [upd_same]; exact ⟨rfl, rfl⟩
        · rw [upd_other q]; exact ⟨rfl, rfl⟩
      rw [hfr.2] at hm
      rw [hfr.1]
      exact h.1 i hi2 m hm
    have push : ∀ mp, (pushS { s with nd := s.nd + 1 } mp).cln := fun mp => by
      refine ⟨fun i hi' m hm => ?_, fun q => h.2 q⟩
      have hi2 : i < s.d + 1 := hi'
      have hfr : (pushS { s with nd := s.nd + 1 } mp).fr i = upd s.fr s.d (fr0 mp) i := rfl
      rw [hfr] at hm ⊢
      by_cases q : i = s.d
      · subst q; rw [upd_same] at hm; exact absurd hm (Nat.not_lt_zero _)
      · rw [upd_other q] at hm ⊢; exact h.1 i (by omega) m hm
    split
    · exact push false
    split
    · exact push true
    · rename_i k1 k6 k2 k4
      have hd0 : 0 < s.d := by
        rcases Nat.eq_zero_or_pos s.d with q | q
        · have hk := (shapeE_ok hs).1
          have := f0 q
          omega
        · exact q
      have hok := hi.ok.fr (s.d - 1) (by omega)
      have hnd := hi.ok.nd
      exact put_cln (s := { s with d := s.d - 1 }) ⟨fun i hi' m hm => h.1 i (by have : i < s.d - 1 := hi'; omega) m hm, h.2⟩ (frV_cln (by omega) (fun m hm => (hok.2.2 m hm).1) (fun m hm => h.1 _ (by omega) m hm))
  · unfold addS
    split
    · exact h
    · exact h
theorem runN_cln {W : World} {top : Nat} {p : Evs} (hp : p.In W top) : ∀ j, j ≤ p.n → (runN p j).1.cln := by
  intro j
  induction j with
  | zero => intro _; exact ⟨fun i hi => absurd hi (Nat.not_lt_zero _), fun q => by cases q⟩
  | succ j ih =>
    intro hj
    by_cases q : (runN p j).2 = 0
    · rw [runN_succ hj q]
      exact add_cln (hp.2.2 j hj).2.2.whole (runN_inv hp j (by omega)) (ih (by omega))
    · rw [runN_bad q (Nat.le_succ j)]
      exact ih (by omega)
theorem st_all (r : Rst) : r.cells.all (·.oneCell') = true := by simp [Rst.cells, Value.oneCell']
set_option maxHeartbeats 8000000 in
set_option maxRecDepth 100000 in
theorem rcheckof {p : Evs} {w : World} (HA : Calls Tryd.prog 40 #[.slice p.a p.n p.c] w (AllOut p w)) : Calls Tryd.prog 31 #[.slice p.a p.n p.c] w fun e w' => e = .returned (.int .i64 (valE p)) ∧ Below w.heap.size w w' := by
  have HAll := Lib.hid HA
  have HV := Lib.hid (fun (r : Rst) (h : (runN p p.n).2 = 0 → r.is (runN p p.n).1 p.list) => valE_all h)
  clear HA
  unfold AllOut at HAll
  obtain ⟨E, hEE⟩ : ∃ E, (runN p p.n).2 = E := ⟨_, rfl⟩
  obtain ⟨R, hR⟩ : ∃ R, valE p = R := ⟨_, rfl⟩
  rw [hEE] at HAll HV
  rw [hR] at HV ⊢
  clear hEE hR
  go_enter Tryd.func31, Tryd.ntmps31
  go_wp2_with fail
  refine HAll.out.mono ?_; rintro _ w1 ⟨r, rfl, hr, his, hb1⟩
  have hv := HV.out r his
  clear HAll HV his
  have N := Whole.new w1 53 #[.slice none 0 0, .slice none 0 0, .int .i64 0, .bool false]
  have g2 := hb1.alloc hb1.size (.cells #[.slice none 0 0, .slice none 0 0, .int .i64 0, .bool false] 53)
  have hone := Lib.hid (st_all r)
  have N5 := N.setRow r.cells
  have g5 := below_setRow (g := w1.heap.size) g2 (by have := hb1.size; omega) r.cells
  have HCo := Lib.hid (complete_any (r := r) (top := w1.heap.size) (w := (w1.alloc (.cells #[.slice none 0 0, .slice none 0 0, .int .i64 0, .bool false] 53)).setRow w1.heap.size r.cells) (hr.below (below_setRow (g := w1.heap.size) ((Below.refl w1.heap.size w1).alloc (Nat.le_refl _) _) (Nat.le_refl _) _)))
  generalize r.whole = wh at *
  clear hr hb1 g2
  obtain ⟨c0, c1, c2, c3⟩ : _ ∧ _ ∧ _ ∧ _ := ⟨N5.cell 0, N5.cell 1, N5.cell 2, N5.cell 3⟩
  simp only [Rst.cells, List.getElem?_toArray, List.getElem?_cons_succ, List.getElem?_cons_zero] at c0 c1 c2 c3 HCo g5 ⊢
  go_upto_region 2 with (refine wpList_store_row rfl 53 _ _ rfl w1.heap.size (Rst.cells r) rfl rfl 53 _ N st_row rfl hone.out ?_)
  simp only [Rst.cells]
  by_cases e0 : E = 0
  · subst e0
    go_wp2_with fail
    refine HCo.out.mono ?_; rintro _ w6 ⟨rfl, hb6⟩
    have g6 := below_then g5 hb6
    clear HCo
    cases wh
    · obtain rfl : R = 4 := by rw [hv]; rfl
      clear hv
      go_wp2
      go_ret
      exact ⟨rfl, g6⟩
    · obtain rfl : R = 0 := by rw [hv]; rfl
      clear hv
      go_wp2
      go_ret
      exact ⟨rfl, g6⟩
  · obtain rfl : R = E := by rw [hv, if_neg (fun q => e0 q.1)]
    have d0 : (R == 0) = false := beq_eq_false_iff_ne.2 e0
    clear hv HCo
    go_wp2
    go_ret
    exact ⟨rfl, g5⟩
theorem rcheck_any {p : Evs} {top : Nat} {w : World} (hp : p.In w top) (ht : top ≤ w.heap.size) : Calls Tryd.prog 31 #[.slice p.a p.n p.c] w fun e w' => e = .returned (.int .i64 (valE p)) ∧ Below w.heap.size w w' := rcheckof (rall_any hp ht)
def RDnOut (s : Bst) (w : World) (e : Ending) (w' : World) : Prop := ∃ X : Vt, e = .returned (.tuple #[.agg #[.int .i64 X.h.k, .bool X.h.b, .bool X.h.n, .string X.h.d, .int .i64 X.h.e, .int .i64 X.h.tk, .int .i64 X.h.td, .int .i64 X.h.tn, .int .i64 X.h.tz, .string X.h.x, .slice X.h.ba X.h.bn X.h.bc, .slice X.h.la X.h.ln X.h.lc, .slice X.h.fa X.h.fn X.h.fc], .bool s.dn]) ∧ X.In w' w'.heap.size ∧ X.Same s.res ∧ Below w.heap.size w w'
def RValOut (p : Evs) (w : World) (e : Ending) (w' : World) : Prop := ∃ X : Vt, e = .returned (.tuple #[.agg #[.int .i64 X.h.k, .bool X.h.b, .bool X.h.n, .string X.h.d, .int .i64 X.h.e, .int .i64 X.h.tk, .int .i64 X.h.td, .int .i64 X.h.tn, .int .i64 X.h.tz, .string X.h.x, .slice X.h.ba X.h.bn X.h.bc, .slice X.h.la X.h.ln X.h.lc, .slice X.h.fa X.h.fn X.h.fc], .int .i64 (valE p)]) ∧ X.In w' w'.heap.size ∧ X.Same (valT p) ∧ Below w.heap.size w w'
theorem parse_of {p : Evs} {T : Vt} {top : Nat} {w : World} (hp : p.In w top) (ht : top ≤ w.heap.size) (hc : T.cln) (hs : SameL p.list (evs T)) : Calls Tryd.prog 51 #[.slice p.a p.n p.c] w (ParV T top w) :=
  rparse_any T p top w hp ht hc (by rw [← hs.length, Evs.list_len]; exact Nat.le_refl _) (fun i hi => by
    have hl : i < p.list.length := by rw [hs.length]; exact hi
    have h1 : p.list[i]? = some (p.S i) := by rw [List.getElem?_eq_getElem hl, Evs.list_get (by rw [Evs.list_len] at hl; exact hl)]
    have h2 : (evs T)[i]? = some (nth (evs T) i) := by rw [List.getElem?_eq_getElem hi]; congr 1; exact (nth_get (List.getElem?_eq_getElem hi)).symm
    exact hs.get h1 h2)
set_option maxHeartbeats 8000000 in
set_option maxRecDepth 100000 in
theorem rdone_any {r : Rst} {s : Bst} {l : List Ev} {top : Nat} {w : World} (hr : r.In w top) (ht : top ≤ w.heap.size) (his : r.is s l) (hc : s.cln) (hs : s.dn = true → SameL l (evs s.out)) : Calls Tryd.prog 25 #[.agg r.cells] w (RDnOut s w) := by
  have HCo := Lib.hid (fun (w1 : World) (hb : Below w.heap.size w w1) => complete_any (r := r) (top := top) (w := w1) (hr.below (hb.mono ht)))
  rw [his.whole] at HCo
  have HPa := Lib.hid (fun (w1 : World) (hb : Below w.heap.size w w1) (hd : s.dn = true) => parse_of (p := r.T) (T := s.out) (top := top) (w := w1) (hr.2.below (hb.mono ht)) (Nat.le_trans ht hb.size) (hc.2 hd) (his.T.symm ▸ hs hd))
  unfold ParV at HPa
  have HNo := Lib.hid (fun (w' : World) (hd : s.dn = false) (hb : Below w.heap.size w w') => (show RDnOut s w (.returned (.tuple #[.agg #[.int .i64 0, .bool false, .bool false, .string ⟨#[]⟩, .int .i64 0, .int .i64 0, .int .i64 0, .int .i64 0, .int .i64 0, .string ⟨#[]⟩, .slice none 0 0, .slice none 0 0, .slice none 0 0], .bool false])) w' from ⟨Vt.z, by rw [hd]; rfl, Vt.z_in _ _, by unfold Bst.res; rw [if_neg (by rw [hd]; decide)]; exact Vt.z_same, hb⟩))
  have HYes := Lib.hid (fun (w' : World) (X : Vt) (hd : s.dn = true) (hX : X.In w' w'.heap.size) (hXs : X.Same s.out) (hb : Below w.heap.size w w') => (show RDnOut s w (.returned (.tuple #[.agg #[.int .i64 X.h.k, .bool X.h.b, .bool X.h.n, .string X.h.d, .int .i64 X.h.e, .int .i64 X.h.tk, .int .i64 X.h.td, .int .i64 X.h.tn, .int .i64 X.h.tz, .string X.h.x, .slice X.h.ba X.h.bn X.h.bc, .slice X.h.la X.h.ln X.h.lc, .slice X.h.fa X.h.fn X.h.fc], .bool true])) w' from ⟨X, by rw [hd], hX, by unfold Bst.res; rw [if_pos hd]; exact hXs, hb⟩))
  have P0 := (Whole.new w 53 r.cells).alloc (.cells #[.int .i64 0, .bool false, .bool false, .string ⟨#[]⟩, .int .i64 0, .int .i64 0, .int .i64 0, .int .i64 0, .int .i64 0, .string ⟨#[]⟩, .slice none 0 0, .slice none 0 0, .slice none 0 0] 30)
  have Q0 := Whole.new (w.alloc (.cells r.cells 53)) 30 #[.int .i64 0, .bool false, .bool false, .string ⟨#[]⟩, .int .i64 0, .int .i64 0, .int .i64 0, .int .i64 0, .int .i64 0, .string ⟨#[]⟩, .slice none 0 0, .slice none 0 0, .slice none 0 0]
  rw [World.size_alloc] at Q0
  have g0 := ((Below.refl w.heap.size w).alloc (Nat.le_refl _) (.cells r.cells 53)).alloc (by simp) (.cells #[.int .i64 0, .bool false, .bool false, .string ⟨#[]⟩, .int .i64 0, .int .i64 0, .int .i64 0, .int .i64 0, .int .i64 0, .string ⟨#[]⟩, .slice none 0 0, .slice none 0 0, .slice none 0 0] 30)
  have htt := ht
  clear hr his hc hs ht
  generalize (evs s.out).length = ll at *
  obtain ⟨dn, hdn⟩ : ∃ d, s.dn = d := ⟨_, rfl⟩
  rw [hdn] at HCo HPa HNo HYes
  clear hdn
  simp only [Rst.cells] at HCo P0 Q0 g0 ⊢
  obtain ⟨c0, c1, c2, c3⟩ := Whole.o4s P0
  have hz := Lib.hid (vh_all Vh.zero)
  go_enter Tryd.func25, Tryd.ntmps25
  go_wp2_with fail
  refine (HCo.out _ g0).mono ?_; rintro _ w1 ⟨rfl, hb1⟩
  clear HCo c0 c1 c2 c3
  have P1 := Whole.below P0 hb1 (Whole.lt P0)
  have Q1 := Whole.below Q0 hb1 (Whole.lt Q0)
  have g1 := below_then g0 hb1
  clear P0 Q0 g0
  clear hb1
  obtain ⟨c0, c1, c2, c3⟩ := Whole.o4s P1
  cases dn
  · clear HPa HYes
    have Qb := Q1
    have P2 := Whole.farRow (B' := (w.heap.size + 1)) P1 (by omega) #[.int .i64 0, .bool false, .bool false, .string ⟨#[]⟩, .int .i64 0, .int .i64 0, .int .i64 0, .int .i64 0, .int .i64 0, .string ⟨#[]⟩, .slice none 0 0, .slice none 0 0, .slice none 0 0]
    have Q2 := Whole.setRow Q1 #[.int .i64 0, .bool false, .bool false, .string ⟨#[]⟩, .int .i64 0, .int .i64 0, .int .i64 0, .int .i64 0, .int .i64 0, .string ⟨#[]⟩, .slice none 0 0, .slice none 0 0, .slice none 0 0]
    have g2 := below_setRow (g := (w.heap.size + 1)) g1 (by omega) #[.int .i64 0, .bool false, .bool false, .string ⟨#[]⟩, .int .i64 0, .int .i64 0, .int .i64 0, .int .i64 0, .int .i64 0, .string ⟨#[]⟩, .slice none 0 0, .slice none 0 0, .slice none 0 0]
    clear P1 Q1 g1
    have HF := Lib.hid (HNo.out _ (by trivial) g2)
    clear HNo
    go_wp2_with (refine wpList_store_row rfl 30 _ _ rfl (w.heap.size + 1) Vh.zero.cells rfl rfl 30 _ Qb vh_row rfl hz.out ?_)
    exact bodyPost_ret (v := .tuple #[.agg Vh.zero.cells, .bool false]) (ret_val2 (p := 2) (q := 3) rfl rfl Q2) rfl HF.out
  · clear HNo
    go_wp2_with fail
    refine (HPa.out _ g1 (by trivial)).mono ?_; rintro _ w2 ⟨X, rfl, hX, hXo, hXs, hb2⟩
    have hq1 := Whole.lt Q1
    clear HPa c0 c1 c2 c3
    have P2 := Whole.below P1 hb2 (Whole.lt P1)
    have Q2 := Whole.below Q1 hb2 (Whole.lt Q1)
    have g2 := below_then g1 hb2
    clear P1 Q1 g1
    have q3 := (Below.refl w2.heap.size w2).alloc (Nat.le_refl _) (.cells #[.int .i64 X.h.k, .bool X.h.b, .bool X.h.n, .string X.h.d, .int .i64 X.h.e, .int .i64 X.h.tk, .int .i64 X.h.td, .int .i64 X.h.tn, .int .i64 X.h.tz, .string X.h.x, .slice X.h.ba X.h.bn X.h.bc, .slice X.h.la X.h.ln X.h.lc, .slice X.h.fa X.h.fn X.h.fc] 30)
    have X3 := Whole.new w2 30 #[.int .i64 X.h.k, .bool X.h.b, .bool X.h.n, .string X.h.d, .int .i64 X.h.e, .int .i64 X.h.tk, .int .i64 X.h.td, .int .i64 X.h.tn, .int .i64 X.h.tz, .string X.h.x, .slice X.h.ba X.h.bn X.h.bc, .slice X.h.la X.h.ln X.h.lc, .slice X.h.fa X.h.fn X.h.fc]
    have hs2 := hb2.size
    have P3 := Whole.below P2 q3 (Whole.lt P2)
    have Q3 := Whole.below Q2 q3 (Whole.lt Q2)
    have g3 := below_then g2 q3
    clear P2 Q2 g2
    have hX3 := hX.later q3
    clear hb2 q3 hX
    obtain ⟨x0, x1, x2, x3, x4, x5, x6, x7, x8, x9, x10, x11, x12⟩ := Whole.c13 (h := X.h) X3
    have Qb := Q3
    have hone := Lib.hid (vh_all X.h)
    have P4 := Whole.farRow (B' := (w.heap.size + 1)) P3 (by omega) #[.int .i64 X.h.k, .bool X.h.b, .bool X.h.n, .string X.h.d, .int .i64 X.h.e, .int .i64 X.h.tk, .int .i64 X.h.td, .int .i64 X.h.tn, .int .i64 X.h.tz, .string X.h.x, .slice X.h.ba X.h.bn X.h.bc, .slice X.h.la X.h.ln X.h.lc, .slice X.h.fa X.h.fn X.h.fc]
    have Q4 := Whole.setRow Q3 #[.int .i64 X.h.k, .bool X.h.b, .bool X.h.n, .string X.h.d, .int .i64 X.h.e, .int .i64 X.h.tk, .int .i64 X.h.td, .int .i64 X.h.tn, .int .i64 X.h.tz, .string X.h.x, .slice X.h.ba X.h.bn X.h.bc, .slice X.h.la X.h.ln X.h.lc, .slice X.h.fa X.h.fn X.h.fc]
    have g4 := below_setRow (g := (w.heap.size + 1)) g3 (by omega) #[.int .i64 X.h.k, .bool X.h.b, .bool X.h.n, .string X.h.d, .int .i64 X.h.e, .int .i64 X.h.tk, .int .i64 X.h.td, .int .i64 X.h.tn, .int .i64 X.h.tz, .string X.h.x, .slice X.h.ba X.h.bn X.h.bc, .slice X.h.la X.h.ln X.h.lc, .slice X.h.fa X.h.fn X.h.fc]
    clear P3 Q3 g3
    have HF := Lib.hid (HYes.out _ X (by trivial) (hX3.stays hXo (fun b hb => setRow_other _ _ _ _ (by omega)) (by rw [size_setRow]; exact Nat.le_refl _)) hXs g4)
    clear HYes hX3 hXo hXs
    go_wp2_with (refine wpList_store_row rfl 30 _ _ rfl (w.heap.size + 1) X.h.cells rfl rfl 30 _ Qb vh_row rfl hone.out ?_)
    exact bodyPost_ret (v := .tuple #[.agg X.h.cells, .bool true]) (ret_val2 (p := 2) (q := 3) rfl rfl Q4) rfl HF.out
theorem valT_cln {W : World} {top : Nat} {p : Evs} (hp : p.In W top) (h : valE p = 0) : (valT p).cln ∧ SameL p.list (evs (valT p)) := by
  have h0 : (runN p p.n).2 = 0 := Classical.byContradiction fun q => by
    have := valE_bad (Nat.le_refl _) q
    rw [h] at this
    exact q this.symm
  have hd : (runN p p.n).1.dn = true := by
    have := valE_end h0
    rw [h] at this
    cases q : (runN p p.n).1.dn with
    | true => rfl
    | false => rw [q, if_neg (by decide)] at this; exact absurd this (by decide)
  have ht := trace_runs hp p.n (Nat.le_refl _) h0
  have hv : valT p = (runN p p.n).1.out := by unfold valT; rw [if_pos h]
  rw [hv]
  unfold trace at ht
  rw [if_pos hd, List.take_of_length_le (by rw [Evs.list_len]; exact Nat.le_refl _)] at ht
  exact ⟨(runN_cln hp p.n (Nat.le_refl _)).2 hd, ht.symm⟩
set_option maxHeartbeats 8000000 in
set_option maxRecDepth 100000 in
theorem rvalue_any {p : Evs} {top : Nat} {w : World} (hp : p.In w top) (ht : top ≤ w.heap.size) : Calls Tryd.prog 29 #[.slice p.a p.n p.c] w (RValOut p w) := by
  have HCh := Lib.hid (rcheck_any (p := p) (top := top) (w := w.alloc (.cells #[.int .i64 0, .bool false, .bool false, .string ⟨#[]⟩, .int .i64 0, .int .i64 0, .int .i64 0, .int .i64 0, .int .i64 0, .string ⟨#[]⟩, .slice none 0 0, .slice none 0 0, .slice none 0 0] 30)) (Evs.In.below hp (((Below.refl w.heap.size w).alloc (Nat.le_refl _) _).mono ht)) (Nat.le_trans ht (by simp)))
  have HPa := Lib.hid (fun (w1 : World) (hb : Below w.heap.size w w1) (h0 : valE p = 0) => parse_of (p := p) (T := valT p) (top := top) (w := w1) (Evs.In.below hp (hb.mono ht)) (Nat.le_trans ht hb.size) (valT_cln hp h0).1 (valT_cln hp h0).2)
  unfold ParV at HPa
  have HNo := Lib.hid (fun (w' : World) (h0 : valE p ≠ 0) (hb : Below w.heap.size w w') => (show RValOut p w (.returned (.tuple #[.agg #[.int .i64 0, .bool false, .bool false, .string ⟨#[]⟩, .int .i64 0, .int .i64 0, .int .i64 0, .int .i64 0, .int .i64 0, .string ⟨#[]⟩, .slice none 0 0, .slice none 0 0, .slice none 0 0], .int .i64 (valE p)])) w' from ⟨Vt.z, rfl, Vt.z_in _ _, by unfold valT; rw [if_neg h0]; exact Vt.z_same, hb⟩))
  have HYes := Lib.hid (fun (w' : World) (X : Vt) (h0 : valE p = 0) (hX : X.In w' w'.heap.size) (hXs : X.Same (valT p)) (hb : Below w.heap.size w w') => (show RValOut p w (.returned (.tuple #[.agg #[.int .i64 X.h.k, .bool X.h.b, .bool X.h.n, .string X.h.d, .int .i64 X.h.e, .int .i64 X.h.tk, .int .i64 X.h.td, .int .i64 X.h.tn, .int .i64 X.h.tz, .string X.h.x, .slice X.h.ba X.h.bn X.h.bc, .slice X.h.la X.h.ln X.h.lc, .slice X.h.fa X.h.fn X.h.fc], .int .i64 0])) w' from ⟨X, by rw [h0], hX, hXs, hb⟩))
  have Q0 := Whole.new w 30 #[.int .i64 0, .bool false, .bool false, .string ⟨#[]⟩, .int .i64 0, .int .i64 0, .int .i64 0, .int .i64 0, .int .i64 0, .string ⟨#[]⟩, .slice none 0 0, .slice none 0 0, .slice none 0 0]
  have g0 := (Below.refl w.heap.size w).alloc (Nat.le_refl _) (.cells #[.int .i64 0, .bool false, .bool false, .string ⟨#[]⟩, .int .i64 0, .int .i64 0, .int .i64 0, .int .i64 0, .int .i64 0, .string ⟨#[]⟩, .slice none 0 0, .slice none 0 0, .slice none 0 0] 30)
  have htt := ht
  clear hp ht
  generalize (evs (valT p)).length = ll at *
  generalize valT p = T at *
  obtain ⟨E, hE⟩ : ∃ E, valE p = E := ⟨_, rfl⟩
  rw [hE] at HCh HPa HNo HYes
  clear hE
  have hz := Lib.hid (vh_all Vh.zero)
  go_enter Tryd.func29, Tryd.ntmps29
  go_wp2_with fail
  refine HCh.out.mono ?_; rintro _ w1 ⟨rfl, hb1⟩
  clear HCh
  have Q1 := Whole.below Q0 hb1 (Whole.lt Q0)
  have g1 := below_then g0 hb1
  clear Q0 g0
  clear hb1
  by_cases h0 : E = 0
  · subst h0
    clear HNo
    go_wp2_with fail
    refine (HPa.out _ g1 (by trivial)).mono ?_; rintro _ w2 ⟨X, rfl, hX, hXo, hXs, hb2⟩
    have hq1 := Whole.lt Q1
    clear HPa
    have Q2 := Whole.below Q1 hb2 (Whole.lt Q1)
    have g2 := below_then g1 hb2
    clear Q1 g1
    have q3 := (Below.refl w2.heap.size w2).alloc (Nat.le_refl _) (.cells #[.int .i64 X.h.k, .bool X.h.b, .bool X.h.n, .string X.h.d, .int .i64 X.h.e, .int .i64 X.h.tk, .int .i64 X.h.td, .int .i64 X.h.tn, .int .i64 X.h.tz, .string X.h.x, .slice X.h.ba X.h.bn X.h.bc, .slice X.h.la X.h.ln X.h.lc, .slice X.h.fa X.h.fn X.h.fc] 30)
    have X3 := Whole.new w2 30 #[.int .i64 X.h.k, .bool X.h.b, .bool X.h.n, .string X.h.d, .int .i64 X.h.e, .int .i64 X.h.tk, .int .i64 X.h.td, .int .i64 X.h.tn, .int .i64 X.h.tz, .string X.h.x, .slice X.h.ba X.h.bn X.h.bc, .slice X.h.la X.h.ln X.h.lc, .slice X.h.fa X.h.fn X.h.fc]
    have hs2 := hb2.size
    have Q3 := Whole.below Q2 q3 (Whole.lt Q2)
    have g3 := below_then g2 q3
    clear Q2 g2
    have hX3 := hX.later q3
    clear hb2 q3 hX
    obtain ⟨x0, x1, x2, x3, x4, x5, x6, x7, x8, x9, x10, x11, x12⟩ := Whole.c13 (h := X.h) X3
    have Qb := Q3
    have hone := Lib.hid (vh_all X.h)
    have Q4 := Whole.setRow Q3 #[.int .i64 X.h.k, .bool X.h.b, .bool X.h.n, .string X.h.d, .int .i64 X.h.e, .int .i64 X.h.tk, .int .i64 X.h.td, .int .i64 X.h.tn, .int .i64 X.h.tz, .string X.h.x, .slice X.h.ba X.h.bn X.h.bc, .slice X.h.la X.h.ln X.h.lc, .slice X.h.fa X.h.fn X.h.fc]
    have g4 := below_setRow (g := w.heap.size) g3 (by omega) #[.int .i64 X.h.k, .bool X.h.b, .bool X.h.n, .string X.h.d, .int .i64 X.h.e, .int .i64 X.h.tk, .int .i64 X.h.td, .int .i64 X.h.tn, .int .i64 X.h.tz, .string X.h.x, .slice X.h.ba X.h.bn X.h.bc, .slice X.h.la X.h.ln X.h.lc, .slice X.h.fa X.h.fn X.h.fc]
    clear Q3 g3
    have HF := Lib.hid (HYes.out _ X (by trivial) (hX3.stays hXo (fun b hb => setRow_other _ _ _ _ (by omega)) (by rw [size_setRow]; exact Nat.le_refl _)) hXs g4)
    clear HYes hX3 hXo hXs
    go_wp2_with (refine wpList_store_row rfl 30 _ _ rfl w.heap.size X.h.cells rfl rfl 30 _ Qb vh_row rfl hone.out ?_)
    exact bodyPost_ret (v := .tuple #[.agg X.h.cells, .int .i64 0]) (ret_val2 (p := 2) (q := 3) rfl rfl Q4) rfl HF.out
  · have dE : (E != 0) = true := bne_iff_ne.2 h0
    clear HPa HYes
    have Qb := Q1
    have Q2 := Whole.setRow Q1 #[.int .i64 0, .bool false, .bool false, .string ⟨#[]⟩, .int .i64 0, .int .i64 0, .int .i64 0, .int .i64 0, .int .i64 0, .string ⟨#[]⟩, .slice none 0 0, .slice none 0 0, .slice none 0 0]
    have g2 := below_setRow (g := w.heap.size) g1 (by omega) #[.int .i64 0, .bool false, .bool false, .string ⟨#[]⟩, .int .i64 0, .int .i64 0, .int .i64 0, .int .i64 0, .int .i64 0, .string ⟨#[]⟩, .slice none 0 0, .slice none 0 0, .slice none 0 0]
    clear Q1 g1
    have HF := Lib.hid (HNo.out _ h0 g2)
    clear HNo h0
    go_wp2_with (refine wpList_store_row rfl 30 _ _ rfl w.heap.size Vh.zero.cells rfl rfl 30 _ Qb vh_row rfl hz.out ?_)
    exact bodyPost_ret (v := .tuple #[.agg Vh.zero.cells, .int .i64 E]) (ret_val2 (p := 2) (q := 3) rfl rfl Q2) rfl HF.out
structure BI (s : Bst) (l : List Ev) : Prop where
  inv : s.inv
  cln : s.cln
  tr : SameL (trace s) l
theorem BI.zero : BI Bst.zero [] := ⟨inv_zero, ⟨fun i hi => absurd hi (Nat.not_lt_zero _), fun q => by cases q⟩, .nil⟩
theorem BI.dn {s : Bst} {l : List Ev} (h : BI s l) (hd : s.dn = true) : SameL l (evs s.out) := by
  have := h.tr
  unfold trace at this
  rw [if_pos hd] at this
  exact this.symm
theorem BI.step {s : Bst} {l : List Ev} {x : Ev} (h : BI s l) (hx : x.ok) (hV : x.V.whole) : BI (addS s x) (if addE s x = 0 then l ++ [x] else l) := by
  refine ⟨add_inv h.inv hx hV, add_cln hV h.inv h.cln, ?_⟩
  by_cases h0 : addE s x = 0
  · rw [if_pos h0, addS_ok h0]
    exact (step_inv h.inv hx hV h0).2.1.trans (h.tr.append (.cons ⟨rfl, rfl, Vt.Same.rfl' hV⟩ .nil))
  · rw [if_neg h0]
    unfold addS
    split
    · exact h.tr
    · exact h.tr
theorem Live.shrink {B0 bb : Nat} {A : Nat → Prop} {W : World} {s : Bst} (h : Live B0 bb A W s) : Live B0 bb (fun b => A b ∧ b < W.heap.size) W s := by
  obtain ⟨h1, O, ov, us, X, h⟩ := h
  refine ⟨h1, O, ov, us, X, { h with
    hA := fun b hb => ⟨h.hA b hb, (h.O_lt hb).2⟩
    rows := fun i hi => Fr.row_weak (h.rows i hi) (fun b hlt _ hb => ⟨⟨hb.1, hlt⟩, hb.2⟩)
    off := (h.off.and h.inn.off).mono (fun b hb => ⟨⟨hb.1.1, hb.2⟩, hb.1.2⟩) }⟩
end Go.Proofs.YtpcbhneaaibfiaaDoor
