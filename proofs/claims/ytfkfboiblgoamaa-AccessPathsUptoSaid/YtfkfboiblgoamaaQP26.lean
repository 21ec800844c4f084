/- Laid together for one claim: VtEqual, VtLawP, Base. -/
import Derived.Test.YtfkfboiblgoamaaQP22
import Derived.BigQuiet
import Derived.Deep.RegionHeld3
import Derived.BigRegion
import Derived.Test.YtfkfboiblgoamaaQP25
import Derived.Test.YtfkfboiblgoamaaQP17
import Derived.Below
import Derived.ChangeSame
import Derived.ProofKit
/- Paths compared: datakitref08.Equal, datakitref09.SamePaths. -/
namespace Go.Proofs.Ytfkfboiblgoamaa
open Go.RowKit
set_option linter.unusedSimpArgs false
set_option linter.unusedVariables false

theorem stp_neq (a b : Bool) (s t : ByteArray) (e f : Int) (W : World) : (binOp .neq 59 (.agg #[.bool a, .string s, .int .i64 e]) (.agg #[.bool b, .string t, .int .i64 f])).run Try.prog W = .ok (.bool (!decide ((a, s, e) = (b, t, f)))) W := by
  have h : s ≠ t → ¬ s.toList = t.toList := fun q e => q (by
    rw [Lib.toList_data, Lib.toList_data] at e
    exact ByteArray.ext (Array.toList_inj.1 e))
  by_cases h1 : a = b <;> by_cases h2 : s = t <;> by_cases h3 : e = f <;> simp [go_sem, h1, h2, h3] <;> exact h h2
theorem stp_same (s : Stp) (W : World) : (binOp .neq 59 (.agg s.cells) (.agg s.cells)).run Try.prog W = .ok (.bool false) W := by
  have := stp_neq s.ix s.ix s.key s.key s.n s.n W
  rw [decide_eq_true rfl] at this
  exact this
theorem stp_diff {s t : Stp} (h : s ≠ t) (W : World) : (binOp .neq 59 (.agg s.cells) (.agg t.cells)).run Try.prog W = .ok (.bool true) W := by
  have := stp_neq s.ix t.ix s.key t.key s.n t.n W
  rw [decide_eq_false (fun e => h (by cases s; cases t; simp only [Prod.mk.injEq] at e; obtain ⟨rfl, rfl, rfl⟩ := e; rfl))] at this
  exact this
noncomputable def eqS (a b : List Stp) : Bool := @decide (a = b) (Classical.propDecidable _)
theorem eqS_yes {a b : List Stp} (h : a = b) : eqS a b = true := @decide_eq_true _ (Classical.propDecidable _) h
theorem eqS_no {a b : List Stp} (h : a ≠ b) : eqS a b = false := @decide_eq_false _ (Classical.propDecidable _) h
theorem eqS_iff {a b : List Stp} : eqS a b = true ↔ a = b := ⟨@of_decide_eq_true _ (Classical.propDecidable _), eqS_yes⟩
theorem steps_eq {p q : Pth} (hn : p.n = q.n) (h : ∀ i, i < p.n → p.S i = q.S i) : p.steps = q.steps := by
  refine List.ext_getElem (by rw [p.steps_len, q.steps_len, hn]) fun i h1 h2 => ?_
  rw [p.steps_len] at h1
  simp [Pth.steps, h i h1]
theorem steps_ne {p q : Pth} {i : Nat} (hi : i < p.n) (hj : i < q.n) (h : p.S i ≠ q.S i) : p.steps ≠ q.steps := fun e => by
  apply h
  rw [Pth.steps_get hi, Pth.steps_get hj, e]
set_option maxHeartbeats 2000000 in
set_option maxRecDepth 100000 in
theorem equal_any {p q : Pth} {top : Nat} {w : World} (hp : p.In w top) (hq : q.In w top) (ht : top ≤ w.heap.size) :
    Calls Try.prog 11 #[.slice p.a p.n p.c, .slice q.a q.n q.c] w fun e w' => e = .returned (.bool (eqS p.steps q.steps)) ∧ Below w.heap.size w w' := by
  have hpn := hp.2.1.1
  have hqn := hq.2.1.1
  have i0 : (0 : Int) ≤ p.n := by omega
  have i1 : (p.n : Int) ≤ 1048576 := by omega
  have i2 : (q.n : Int) ≤ 1048576 := by omega
  have i3 : (0 : Int) ≤ q.n := by omega
  by_cases hn : p.n = q.n
  · obtain ⟨R, hR⟩ : ∃ R, eqS p.steps q.steps = R := ⟨_, rfl⟩
    have HP := Lib.hid (fun (w1 : World) (hb : Below w.heap.size w w1) => Pth.In.below hp (hb.mono ht))
    have HQ := Lib.hid (fun (w1 : World) (hb : Below w.heap.size w w1) => Pth.In.below hq (hb.mono ht))
    have Hyes : Hid ((∀ i, i < p.n → p.S i = q.S i) → R = true) := Lib.hid fun h => by rw [← hR]; exact eqS_yes (steps_eq hn h)
    have Hno : Hid (∀ i, i < p.n → p.S i ≠ q.S i → R = false) := Lib.hid fun i hi h => by rw [← hR]; exact eqS_no (steps_ne hi (by omega) h)
    rw [hR]
    clear hR hp hq
    obtain ⟨a, n, c, b, o, S⟩ := p
    obtain ⟨a', n', c', b', o', S'⟩ := q
    dsimp only at hn hpn hqn HP HQ Hyes Hno i0 i1 i2 i3 ⊢
    subst hn
    go_enter Try.func11, Try.ntmps11
    go_wp2_with fail
    go_loopw [5] (fun i wr => ∃ k : Nat, k ≤ n ∧ i = .int .i64 k ∧ Hid (∀ j, j < k → S j = S' j) ∧ Below w.heap.size w wr) (fun i _ => n - (intOf i).toNat)
    case atStart => exact ⟨0, by omega, rfl, Lib.hid (fun j hj => absurd hj (Nat.not_lt_zero _)), Below.refl _ _⟩
    case round =>
      obtain ⟨k, hk, rfl, hall, hbr⟩ := hrel
      have hki : (0 : Int) ≤ k := by omega
      by_cases hkn : k < n
      · have hki2 : (k : Int) < n := by omega
        have h1 := HP.out wr hbr
        have h2 := HQ.out wr hbr
        obtain ⟨e1, -⟩ := h1.1 (show 0 < n by omega)
        obtain ⟨e2, -⟩ := h2.1 (show 0 < n by omega)
        dsimp only at e1 e2
        subst e1 e2
        obtain ⟨l0, l1, l2⟩ := (h1.2.2 k hkn).1.s3
        obtain ⟨m0, m1, m2⟩ := (h2.2.2 k hkn).1.s3
        dsimp only at l0 l1 l2 m0 m1 m2
        clear h1 h2
        by_cases heq : S k = S' k
        · have hbo := fun W => stp_same (S' k) W
          rw [heq] at l0 l1 l2
          have Heq := Lib.hid heq
          simp only [Stp.cells] at hbo
          clear heq
          go_wp2_with fail
          go_quiet (fail)
          go_wp2
          go_roundw
          case rel => exact ⟨k + 1, by omega, by go_num, Lib.hid (fun j hj => by by_cases e : j = k; { rw [e]; exact Heq.out }; { exact hall.out j (by omega) }), below_drewN' hbr _⟩
          case measure => simp [intOf]; omega
        · have hbo := fun W => stp_diff heq W
          have hf := Hno.out k hkn heq
          subst hf
          simp only [Stp.cells] at hbo
          clear heq
          go_wp2_with fail
          go_quiet (fail)
          go_wp2
          go_ret
          exact ⟨rfl, below_drewN' hbr _⟩
      · obtain rfl : k = n := by omega
        have hf := Hyes.out hall.out
        subst hf
        go_wp2
        go_ret
        exact ⟨rfl, hbr⟩
  · have hf : eqS p.steps q.steps = false := eqS_no fun e => hn (by rw [← p.steps_len, e, q.steps_len])
    have t1 : ((p.n : Int) != (q.n : Int)) = true := bne_iff_ne.2 (by omega)
    have t2 : (p.n != q.n) = true := bne_iff_ne.2 hn
    rw [hf]
    clear hn hp hq hf
    go_enter Try.func11, Try.ntmps11
    go_wp2
    go_ret
    exact ⟨rfl, Below.refl _ _⟩
set_option maxHeartbeats 2000000 in
set_option maxRecDepth 100000 in
/-- Two lists of the same paths are the same. -/
theorem samePaths_yes {B B' : Nat} {S S' : Nat → Prop} {w : World} {v v' : Value} {ps : List (List Stp)} (h : PRow B S w v ps) (h' : PRow B' S' w v' ps) (hl : ps.length ≤ 65536) :
    Calls Try.prog 14 #[v, v'] w fun e w' => e = .returned (.bool true) ∧ Below w.heap.size w w' := by
  obtain ⟨a, c, b, f, rfl, hcc, ha, hf⟩ := h.get
  obtain ⟨a', c', b', f', rfl, hcc', ha', hf'⟩ := h'.get
  have HA := Lib.hid ha
  have HA' := Lib.hid ha'
  have HF := Lib.hid (fun (i : Nat) (hi : i < ps.length) => (hf i hi).1)
  have HF' := Lib.hid (fun (i : Nat) (hi : i < ps.length) => (hf' i hi).1)
  have HE := Lib.hid (fun (i : Nat) (hi : i < ps.length) (w1 : World) (hb : Below w.heap.size w w1) => (by
    have := equal_any (p := f i) (q := f' i) (w := w1) (top := w.heap.size) ((hf i hi).2.1.below hb) ((hf' i hi).2.1.below hb) hb.size
    rw [(hf i hi).2.2.1, (hf' i hi).2.2.1, eqS_yes rfl] at this
    exact this : Calls Try.prog 11 #[.slice (f i).a (f i).n (f i).c, .slice (f' i).a (f' i).n (f' i).c] w1 fun e w' => e = .returned (.bool true) ∧ Below w1.heap.size w1 w'))
  obtain ⟨n, hn⟩ : ∃ n, ps.length = n := ⟨_, rfl⟩
  rw [hn] at HA HA' HF HF' HE hl hcc hcc' ⊢
  have i0 : (0 : Int) ≤ n := by omega
  have i1 : (n : Int) ≤ 65536 := by omega
  clear h h' hf hf' ha ha'
  go_enter Try.func14, Try.ntmps14
  go_wp2_with fail
  go_loopw [5] (fun i wr => ∃ k : Nat, k ≤ n ∧ i = .int .i64 k ∧ Below w.heap.size w wr) (fun i _ => n - (intOf i).toNat)
  case atStart => exact ⟨0, by omega, rfl, Below.refl _ _⟩
  case round =>
    obtain ⟨k, hk, rfl, hbr⟩ := hrel
    have hki : (0 : Int) ≤ k := by omega
    by_cases hkn : k < n
    · have hki2 : (k : Int) < n := by omega
      obtain ⟨e1, -, hb1⟩ := HA.out (by omega)
      obtain ⟨e2, -, hb2⟩ := HA'.out (by omega)
      subst e1 e2
      have c1 := (hbr.cell (p := ⟨b, k, none⟩) hb1).trans (HF.out k (by omega))
      have c2 := (hbr.cell (p := ⟨b', k, none⟩) hb2).trans (HF'.out k (by omega))
      have HEk := Lib.hid (fun (w1 : World) (hb : Below w.heap.size w w1) => HE.out k (by omega) w1 hb)
      go_wp2_with fail
      refine wp_region_held_drew (S := fun W => Below w.heap.size w W) (by kernel_rfl) hbr.drew (fun hS => ?_)
      refine wpAnyH_take (i := 0) (v := ?v0x1) rfl (by kernel_rfl) (by kernel_rfl) (by kernel_rfl) (fun _ _ _ h => h) (Or.inl ⟨by rfl, ?hy0x1⟩) hS ?rest0x1
      case hy0x1 => (intro wS hSw; go_simp; (try with_reducible rfl))
      case rest0x1 =>
      simp only [Act.put, List.getElem_toArray, List.getElem_cons_zero, List.getElem_cons_succ, List.setIfInBounds_toArray, List.set_cons_zero, List.set_cons_succ]
      refine wpAnyH_take (i := 1) (v := ?v1x2) rfl (by kernel_rfl) (by kernel_rfl) (by kernel_rfl) (fun _ _ _ h => h) (Or.inl ⟨by rfl, ?hy1x2⟩) hS ?rest1x2
      case hy1x2 => (intro wS hSw; go_simp; (try with_reducible rfl))
      case rest1x2 =>
      simp only [Act.put, List.getElem_toArray, List.getElem_cons_zero, List.getElem_cons_succ, List.setIfInBounds_toArray, List.set_cons_zero, List.set_cons_succ]
      refine wpAnyH_take (i := 2) (v := ?v2x3) rfl (by kernel_rfl) (by kernel_rfl) (by kernel_rfl) (fun _ _ _ h => h) (Or.inl ⟨by rfl, ?hy2x3⟩) hS ?rest2x3
      case hy2x3 => (intro wS hSw; go_simp; (try with_reducible rfl))
      case rest2x3 =>
      simp only [Act.put, List.getElem_toArray, List.getElem_cons_zero, List.getElem_cons_succ, List.setIfInBounds_toArray, List.set_cons_zero, List.set_cons_succ]
      refine wpAnyH_take (i := 3) (v := ?v3x4) rfl (by kernel_rfl) (by kernel_rfl) (by kernel_rfl) (fun _ _ _ h => h) (Or.inl ⟨by rfl, ?hy3x4⟩) hS ?rest3x4
      case hy3x4 => (intro wS hSw; have c1 := (World.cell?_of_block (a := ⟨b, k, none⟩) (hSw.block b hb1)).trans (HF.out k (by omega)); have c2 := (World.cell?_of_block (a := ⟨b', k, none⟩) (hSw.block b' hb2)).trans (HF'.out k (by omega)); go_simp; (try with_reducible rfl))
      case rest3x4 =>
      simp only [Act.put, List.getElem_toArray, List.getElem_cons_zero, List.getElem_cons_succ, List.setIfInBounds_toArray, List.set_cons_zero, List.set_cons_succ]
      refine wpAnyH_take (i := 4) (v := ?v4x5) rfl (by kernel_rfl) (by kernel_rfl) (by kernel_rfl) (fun _ _ _ h => h) (Or.inl ⟨by rfl, ?hy4x5⟩) hS ?rest4x5
      case hy4x5 => (intro wS hSw; go_simp; (try with_reducible rfl))
      case rest4x5 =>
      simp only [Act.put, List.getElem_toArray, List.getElem_cons_zero, List.getElem_cons_succ, List.setIfInBounds_toArray, List.set_cons_zero, List.set_cons_succ]
      refine wpAnyH_take (i := 5) (v := ?v5x6) rfl (by kernel_rfl) (by kernel_rfl) (by kernel_rfl) (fun _ _ _ h => h) (Or.inl ⟨by rfl, ?hy5x6⟩) hS ?rest5x6
      case hy5x6 => (intro wS hSw; go_simp; (try with_reducible rfl))
      case rest5x6 =>
      simp only [Act.put, List.getElem_toArray, List.getElem_cons_zero, List.getElem_cons_succ, List.setIfInBounds_toArray, List.set_cons_zero, List.set_cons_succ]
      refine wpAnyH_take (i := 6) (v := ?v6x7) rfl (by kernel_rfl) (by kernel_rfl) (by kernel_rfl) (fun _ _ _ h => h) (Or.inl ⟨by rfl, ?hy6x7⟩) hS ?rest6x7
      case hy6x7 => (intro wS hSw; go_simp; (try with_reducible rfl))
      case rest6x7 =>
      simp only [Act.put, List.getElem_toArray, List.getElem_cons_zero, List.getElem_cons_succ, List.setIfInBounds_toArray, List.set_cons_zero, List.set_cons_succ]
      refine wpAnyH_take (i := 7) (v := ?v7x8) rfl (by kernel_rfl) (by kernel_rfl) (by kernel_rfl) (fun _ _ _ h => h) (Or.inl ⟨by rfl, ?hy7x8⟩) hS ?rest7x8
      case hy7x8 => (intro wS hSw; have c1 := (World.cell?_of_block (a := ⟨b, k, none⟩) (hSw.block b hb1)).trans (HF.out k (by omega)); have c2 := (World.cell?_of_block (a := ⟨b', k, none⟩) (hSw.block b' hb2)).trans (HF'.out k (by omega)); go_simp; (try with_reducible rfl))
      case rest7x8 =>
      simp only [Act.put, List.getElem_toArray, List.getElem_cons_zero, List.getElem_cons_succ, List.setIfInBounds_toArray, List.set_cons_zero, List.set_cons_succ]
      refine wpAnyH_ready (rs := [8]) (by kernel_rfl) (by simp) ?_
      refine AllReadyH.cons rfl (fun KK hK => ?_) AllReadyH.nil
      go_simp
      go_at_call 11
      refine (HEk.out _ hbr.drew).mono ?_
      rintro _ w5 ⟨rfl, h5⟩
      have g5 := below_then hbr.drew h5
      refine hK.out _ _ g5 (fun hS5 => ?_)
      clear hK KK
      try simp only [Act.put, List.getElem_toArray, List.getElem_cons_zero, List.getElem_cons_succ, List.setIfInBounds_toArray, List.set_cons_zero, List.set_cons_succ]
      refine wpAnyH_take (i := 9) (v := ?v9x9) rfl (by kernel_rfl) (by kernel_rfl) (by kernel_rfl) (fun _ _ _ h => h) (Or.inl ⟨by rfl, ?hy9x9⟩) hS5 ?rest9x9
      case hy9x9 => (intro wS hSw; go_simp; (try with_reducible rfl))
      case rest9x9 =>
      simp only [Act.put, List.getElem_toArray, List.getElem_cons_zero, List.getElem_cons_succ, List.setIfInBounds_toArray, List.set_cons_zero, List.set_cons_succ]
      refine wpAnyH_done (by kernel_rfl) ?_ _
      clear hS hS5 c1 c2
      go_wp2
      go_roundw
      case rel => exact ⟨k + 1, by omega, by go_num, g5⟩
      case measure => simp [intOf]; omega
    · obtain rfl : k = n := by omega
      go_wp2
      go_ret
      exact ⟨rfl, hbr⟩
end Go.Proofs.Ytfkfboiblgoamaa
/- The law of Paths and Leaves, walked. -/
namespace Go.Proofs.Ytfkfboiblgoamaa
open Go.RowKit
set_option linter.unusedSimpArgs false
set_option linter.unusedVariables false

set_option maxHeartbeats 4000000 in
set_option maxRecDepth 100000 in
theorem walk_AccessPaths (W : World) (T : Vt) (hT : T.In W W.heap.size) :
    Calls Try.prog 4 #[.agg T.h.cells] W fun e W' => e = .returned (.bool true) ∧ Below W.heap.size W W' := by
  have hb0 := (Below.refl W.heap.size W).alloc (Nat.le_refl _) (.cells T.h.cells 30)
  have P := Whole.new W 30 T.h.cells
  have HV := Lib.hid (fun (w1 : World) (hb : Below W.heap.size W w1) => lvalid_any (Vt.In.below hb hT) hb.size)
  obtain ⟨B, hB⟩ : ∃ B, vldB T = B := ⟨_, rfl⟩
  rw [hB] at HV
  cases B
  · clear hT hB
    simp only [Vh.cells] at hb0 HV P ⊢
    go_enter Try.func4, Try.ntmps4
    go_wp2_with fail
    refine (HV.out _ hb0).mono ?_; rintro _ w1 ⟨rfl, hb1⟩
    go_wp2
    go_ret
    exact ⟨rfl, below_then hb0 hb1⟩
  obtain ⟨hg, hu, hsz⟩ := valid_parts hT.whole hB
  have hsz : T.size ≤ 65536 := by omega
  have hwl := (walk_bounds hT hg hu hsz).1
  have HAP := Lib.hid (fun (w1 : World) (hb : Below W.heap.size W w1) => apaths_any ((Vt.In.below hb hT).up hb.size) hg hu hsz)
  have HRP := Lib.hid (fun (w1 : World) (hb : Below W.heap.size W w1) => paths_ref ((Vt.In.below hb hT).up hb.size) hu (by omega))
  have HAL := Lib.hid (fun (w1 : World) (hb : Below W.heap.size W w1) => aleaves_any ((Vt.In.below hb hT).up hb.size) hg hu hsz)
  have HRL := Lib.hid (fun (w1 : World) (hb : Below W.heap.size W w1) => leaves_ref ((Vt.In.below hb hT).up hb.size) hg hu hsz)
  have Hl1 : Hid (((T.walk []).map Prod.fst).length ≤ 65536) := Lib.hid (by rw [List.length_map]; omega)
  have Hl2 : Hid ((((T.walk []).filter leafB).map Prod.fst).length ≤ 65536) := Lib.hid (by rw [List.length_map]; exact Nat.le_trans (List.length_filter_le _ _) (by omega))
  obtain ⟨ps, hps⟩ : ∃ ps, (T.walk []).map Prod.fst = ps := ⟨_, rfl⟩
  obtain ⟨qs, hqs⟩ : ∃ qs, ((T.walk []).filter leafB).map Prod.fst = qs := ⟨_, rfl⟩
  simp only [hps] at HAP HRP Hl1
  simp only [hqs] at HAL HRL Hl2
  clear hT hg hu hsz hB hps hqs hwl
  simp only [Vh.cells] at hb0 HV P HAP HRP HAL HRL ⊢
  go_enter Try.func4, Try.ntmps4
  go_wp2_with fail
  refine (HV.out _ hb0).mono ?_; rintro _ w1 ⟨rfl, hb1⟩
  have g1 := below_then hb0 hb1
  have P1 := P.below hb1 P.lt
  clear P hb0 hb1 HV
  go_wp2_with fail
  refine wp_region_held_drew (S := fun V => Whole V W.heap.size 30 #[.int .i64 T.h.k, .bool T.h.b, .bool T.h.n, .string T.h.d, .int .i64 T.h.e, .int .i64 T.h.tk, .int .i64 T.h.td, .int .i64 T.h.tn, .int .i64 T.h.tz, .string T.h.x, .slice T.h.ba T.h.bn T.h.bc, .slice T.h.la T.h.ln T.h.lc, .slice T.h.fa T.h.fn T.h.fc]) (by kernel_rfl) P1.drew (fun hS => ?_)
  refine wpAnyH_take (i := 0) (v := ?v0x1) rfl (by kernel_rfl) (by kernel_rfl) (by kernel_rfl) (fun _ _ _ h => h) (Or.inl ⟨by rfl, ?hy0x1⟩) hS ?rest0x1
  case hy0x1 => (intro wS hSw; obtain ⟨c0, c1, c2, c3, c4, c5, c6, c7, c8, c9, c10, c11, c12⟩ := Whole.c13 (h := T.h) hSw; go_simp; (try with_reducible rfl))
  case rest0x1 =>
  simp only [Act.put, List.getElem_toArray, List.getElem_cons_zero, List.getElem_cons_succ, List.setIfInBounds_toArray, List.set_cons_zero, List.set_cons_succ]
  refine wpAnyH_take (i := 2) (v := ?v2x2) rfl (by kernel_rfl) (by kernel_rfl) (by kernel_rfl) (fun _ _ _ h => h) (Or.inl ⟨by rfl, ?hy2x2⟩) hS ?rest2x2
  case hy2x2 => (intro wS hSw; obtain ⟨c0, c1, c2, c3, c4, c5, c6, c7, c8, c9, c10, c11, c12⟩ := Whole.c13 (h := T.h) hSw; go_simp; (try with_reducible rfl))
  case rest2x2 =>
  simp only [Act.put, List.getElem_toArray, List.getElem_cons_zero, List.getElem_cons_succ, List.setIfInBounds_toArray, List.set_cons_zero, List.set_cons_succ]
  have g2 := g1.drew
  have P2 : Whole w1.drew W.heap.size 30 #[.int .i64 T.h.k, .bool T.h.b, .bool T.h.n, .string T.h.d, .int .i64 T.h.e, .int .i64 T.h.tk, .int .i64 T.h.td, .int .i64 T.h.tn, .int .i64 T.h.tz, .string T.h.x, .slice T.h.ba T.h.bn T.h.bc, .slice T.h.la T.h.ln T.h.lc, .slice T.h.fa T.h.fn T.h.fc] := P1
  clear P1 g1
  generalize w1.drew = w2 at *
  refine wpAnyH_ready (rs := [1]) (by kernel_rfl) (by simp) ?_
  refine AllReadyH.cons rfl (fun KK hK => ?_) AllReadyH.nil
  go_simp
  go_at_call 15
  refine (HAP.out _ g2).mono ?_
  rintro _ w3 ⟨v1, rfl, r1, hq⟩
  have g3 := below_then g2 hq
  have P3 := Whole.below P2 hq (Whole.lt P2)
  have Hr1 := Lib.hid r1
  clear hq r1
  refine hK.out _ _ P3 (fun hS3 => ?_)
  clear hK KK
  try simp only [Act.put, List.getElem_toArray, List.getElem_cons_zero, List.getElem_cons_succ, List.setIfInBounds_toArray, List.set_cons_zero, List.set_cons_succ]
  refine wpAnyH_ready (rs := [3]) (by kernel_rfl) (by simp) ?_
  refine AllReadyH.cons rfl (fun KK hK => ?_) AllReadyH.nil
  go_simp
  go_at_call 9
  refine (HRP.out _ g3).mono ?_
  rintro _ w4 ⟨v2, rfl, r2, hq⟩
  have g4 := below_then g3 hq
  have P4 := Whole.below P3 hq (Whole.lt P3)
  have H1b := Lib.hid (Hr1.out.below hq)
  have Hr2 := Lib.hid r2
  clear hq r2
  refine hK.out _ _ P4 (fun hS4 => ?_)
  clear hK KK
  try simp only [Act.put, List.getElem_toArray, List.getElem_cons_zero, List.getElem_cons_succ, List.setIfInBounds_toArray, List.set_cons_zero, List.set_cons_succ]
  have HS1 := Lib.hid (samePaths_yes H1b.out Hr2.out Hl1.out)
  refine wpAnyH_ready (rs := [4]) (by kernel_rfl) (by simp) ?_
  refine AllReadyH.cons rfl (fun KK hK => ?_) AllReadyH.nil
  go_simp
  go_at_call 14
  refine HS1.out.mono ?_
  rintro _ w5 ⟨rfl, hq⟩
  have g5 := below_then g4 hq
  have P5 := Whole.below P4 hq (Whole.lt P4)
  clear hq HS1 Hr1 H1b Hr2
  refine hK.out _ _ P5 (fun hS5 => ?_)
  clear hK KK
  try simp only [Act.put, List.getElem_toArray, List.getElem_cons_zero, List.getElem_cons_succ, List.setIfInBounds_toArray, List.set_cons_zero, List.set_cons_succ]
  refine wpAnyH_take (i := 5) (v := ?v5x3) rfl (by kernel_rfl) (by kernel_rfl) (by kernel_rfl) (fun _ _ _ h => h) (Or.inl ⟨by rfl, ?hy5x3⟩) hS5 ?rest5x3
  case hy5x3 => (intro wS hSw; go_simp; (try with_reducible rfl))
  case rest5x3 =>
  simp only [Act.put, List.getElem_toArray, List.getElem_cons_zero, List.getElem_cons_succ, List.setIfInBounds_toArray, List.set_cons_zero, List.set_cons_succ]
  refine wpAnyH_take (i := 6) (v := ?v6x4) rfl (by kernel_rfl) (by kernel_rfl) (by kernel_rfl) (fun _ _ _ h => h) (Or.inl ⟨by rfl, ?hy6x4⟩) hS5 ?rest6x4
  case hy6x4 => (intro wS hSw; obtain ⟨c0, c1, c2, c3, c4, c5, c6, c7, c8, c9, c10, c11, c12⟩ := Whole.c13 (h := T.h) hSw; go_simp; (try with_reducible rfl))
  case rest6x4 =>
  simp only [Act.put, List.getElem_toArray, List.getElem_cons_zero, List.getElem_cons_succ, List.setIfInBounds_toArray, List.set_cons_zero, List.set_cons_succ]
  refine wpAnyH_take (i := 8) (v := ?v8x5) rfl (by kernel_rfl) (by kernel_rfl) (by kernel_rfl) (fun _ _ _ h => h) (Or.inl ⟨by rfl, ?hy8x5⟩) hS5 ?rest8x5
  case hy8x5 => (intro wS hSw; obtain ⟨c0, c1, c2, c3, c4, c5, c6, c7, c8, c9, c10, c11, c12⟩ := Whole.c13 (h := T.h) hSw; go_simp; (try with_reducible rfl))
  case rest8x5 =>
  simp only [Act.put, List.getElem_toArray, List.getElem_cons_zero, List.getElem_cons_succ, List.setIfInBounds_toArray, List.set_cons_zero, List.set_cons_succ]
  refine wpAnyH_ready (rs := [7]) (by kernel_rfl) (by simp) ?_
  refine AllReadyH.cons rfl (fun KK hK => ?_) AllReadyH.nil
  go_simp
  go_at_call 16
  refine (HAL.out _ g5).mono ?_
  rintro _ w6 ⟨v3, rfl, r3, hq⟩
  have g6 := below_then g5 hq
  have P6 := Whole.below P5 hq (Whole.lt P5)
  have Hr3 := Lib.hid r3
  clear hq r3
  refine hK.out _ _ P6 (fun hS6 => ?_)
  clear hK KK
  try simp only [Act.put, List.getElem_toArray, List.getElem_cons_zero, List.getElem_cons_succ, List.setIfInBounds_toArray, List.set_cons_zero, List.set_cons_succ]
  refine wpAnyH_ready (rs := [9]) (by kernel_rfl) (by simp) ?_
  refine AllReadyH.cons rfl (fun KK hK => ?_) AllReadyH.nil
  go_simp
  go_at_call 17
  refine (HRL.out _ g6).mono ?_
  rintro _ w7 ⟨v4, rfl, r4, hq⟩
  have g7 := below_then g6 hq
  have P7 := Whole.below P6 hq (Whole.lt P6)
  have H3b := Lib.hid (Hr3.out.below hq)
  have Hr4 := Lib.hid r4
  clear hq r4
  refine hK.out _ _ P7 (fun hS7 => ?_)
  clear hK KK
  try simp only [Act.put, List.getElem_toArray, List.getElem_cons_zero, List.getElem_cons_succ, List.setIfInBounds_toArray, List.set_cons_zero, List.set_cons_succ]
  have HS2 := Lib.hid (samePaths_yes H3b.out Hr4.out Hl2.out)
  refine wpAnyH_ready (rs := [10]) (by kernel_rfl) (by simp) ?_
  refine AllReadyH.cons rfl (fun KK hK => ?_) AllReadyH.nil
  go_simp
  go_at_call 14
  refine HS2.out.mono ?_
  rintro _ w8 ⟨rfl, hq⟩
  have g8 := below_then g7 hq
  have P8 := Whole.below P7 hq (Whole.lt P7)
  clear hq HS2 Hr3 H3b Hr4
  refine hK.out _ _ P8 (fun hS8 => ?_)
  clear hK KK
  try simp only [Act.put, List.getElem_toArray, List.getElem_cons_zero, List.getElem_cons_succ, List.setIfInBounds_toArray, List.set_cons_zero, List.set_cons_succ]
  refine wpAnyH_take (i := 11) (v := ?v11x6) rfl (by kernel_rfl) (by kernel_rfl) (by kernel_rfl) (fun _ _ _ h => h) (Or.inl ⟨by rfl, ?hy11x6⟩) hS8 ?rest11x6
  case hy11x6 => (intro wS hSw; go_simp; (try with_reducible rfl))
  case rest11x6 =>
  simp only [Act.put, List.getElem_toArray, List.getElem_cons_zero, List.getElem_cons_succ, List.setIfInBounds_toArray, List.set_cons_zero, List.set_cons_succ]
  refine wpAnyH_take (i := 12) (v := ?v12x7) rfl (by kernel_rfl) (by kernel_rfl) (by kernel_rfl) (fun _ _ _ h => h) (Or.inl ⟨by rfl, ?hy12x7⟩) hS8 ?rest12x7
  case hy12x7 => (intro wS hSw; go_simp; (try with_reducible rfl))
  case rest12x7 =>
  simp only [Act.put, List.getElem_toArray, List.getElem_cons_zero, List.getElem_cons_succ, List.setIfInBounds_toArray, List.set_cons_zero, List.set_cons_succ]
  refine wpAnyH_done (by kernel_rfl) ?_ _
  go_wp2
  go_ret
  exact ⟨rfl, g8⟩
end Go.Proofs.Ytfkfboiblgoamaa
/- Small lemmas that every law's last step uses: the row's post out of a world below which nothing has turned. -/
namespace Go.Proofs.Ytfkfboiblgoamaa
open Go.RowKit Go.WideShapes Go.ChangeShapes
section
variable {H : Type} {enc : TypeId × Value → H} {P : Program}
theorem post_of_below {f : Func} {s : ChangeSpec} {apart fresh handsOn again : Bool} {W W' : World} {args : Array Value} {v : Value} {ds gs : List (DataW H)} {before pa pv : List MemPlace}
    (hW : DataW.Whole enc P f.params.toList s.vars apart W args.toList ds gs before)
    (hres : ∀ (b : Nat) (sp : Nat → Bool) (hd : Bool), DataW.TrodAll enc P W' b sp hd f.resultTypes.toList (v.resultList f.resultTypes.size) (s.fn H (ds ++ gs)).results [])
    (hargs : ∀ sp : Nat → Bool, (∀ p ∈ before, sp p.block = true) → DataW.TrodAll enc P W' 0 sp true f.params.toList args.toList (s.fn H (ds ++ gs)).args pa)
    (hvars : ∀ sp : Nat → Bool, (∀ p ∈ before, sp p.block = true) → DataW.TrodVars enc P W' sp s.vars (s.fn H (ds ++ gs)).vars pv)
    (hps : before = pa ++ pv) (hb : Below W.heap.size W W')
    (hok : ∀ (j : Nat) (t : TypeId) (r : Value), f.resultTypes[j]? = some t → (v.resultList f.resultTypes.size)[j]? = some r → Value.okWide P W' .any 0 t r) :
    s.post enc P f apart fresh handsOn again W args v W' := by
  have hlt : ∀ p ∈ before, p.block < W.heap.size := fun p hp => hW.lt p hp
  have hold : ∀ p ∈ before, (fun b => decide (b < W.heap.size)) p.block = true := fun p hp => by simpa using hlt p hp
  refine ⟨ds, gs, before, [], pa, pv, hW, hres _ _ _, hargs _ hold, hvars _ hold, World.keptBut_mono (fun p hp => ⟨hp, ?_⟩) (hb.frame (· ∈ before)), fun _ => ?_⟩
  · rw [hps, List.mem_append] at hp
    exact Or.inr hp
  · obtain ⟨_, _, _, _, _, hz, hn⟩ := hW
    refine ⟨hok, _, _, ([] ++ pa) ++ pv, ⟨[] ++ pa, pv, trodAll_append (hargs _ (fun _ _ => rfl)) (hres _ _ _), hvars _ (fun _ _ => rfl), rfl, ?_, ?_⟩, ?_⟩
    · intro b off hp
      have hin : MemPlace.cell b off ∈ before := by rw [hps]; simpa using hp
      rw [hb.frozen (hlt _ hin)]
      exact hz b off hin
    · intro ha
      have := hn ha
      rw [hps] at this
      simpa using this
    · intro p hp _
      rw [hps]
      simpa using hp
end
end Go.Proofs.Ytfkfboiblgoamaa
