/- Laid together for one claim: VtEqual, VtRowIn. -/
import Derived.Test.YtfkfboiblgoamaaQW22
import Derived.BigQuiet
import Derived.Deep.RegionHeld3
import Derived.BigRegion
import Derived.OwnWalkIn
import Derived.Laws.Tables
import Derived.Test.YtfkfboiblgoamaaProg
/- Paths compared: datakitref08.Equal, datakitref09.SamePaths. -/
namespace Go.Proofs.Ytfkfboiblgoamaa
open Go.RowKit
set_option linter.unusedSimpArgs false
set_option linter.unusedVariables false

theorem stp_neq (a b : Bool) (s t : ByteArray) (e f : Int) (W : World) : (binOp .neq 59 (.agg #[.bool a, .string s, .int .i64 e]) (.agg #[.bool b, .string t, .int .i64 f])).run Try.prog W = .ok (.bool (!decide ((a, s, e) = (b, t, f)))) W := by
  have h : s ≠ t → ¬ s.toList = t.toList := fun q e => q (by
    rw [Lib.toList_data, Lib.toList_data] at e
    exact ByteArray.ext (Array.toList_inj.1 e))
  by_cases h1 : a = b <;> by_cases h2 : s = t <;> by_cases h3 : e = f <;> simp [go_sem, h1, h2, h3] <;> exact h h2
theorem stp_same (s : Stp) (W : World) : (binOp .neq 59 (.agg s.cells) (.agg s.cells)).run Try.prog W = .ok (.bool false) W := by
  have := stp_neq s.ix s.ix s.key s.key s.n s.n W
  rw [decide_eq_true rfl] at this
  exact this
theorem stp_diff {s t : Stp} (h : s ≠ t) (W : World) : (binOp .neq 59 (.agg s.cells) (.agg t.cells)).run Try.prog W = .ok (.bool true) W := by
  have := stp_neq s.ix t.ix s.key t.key s.n t.n W
  rw [decide_eq_false (fun e => h (by cases s; cases t; simp only [Prod.mk.injEq] at e; obtain ⟨rfl, rfl, rfl⟩ := e; rfl))] at this
  exact this
noncomputable def eqS (a b : List Stp) : Bool := @decide (a = b) (Classical.propDecidable _)
theorem eqS_yes {a b : List Stp} (h : a = b) : eqS a b = true := @decide_eq_true _ (Classical.propDecidable _) h
theorem eqS_no {a b : List Stp} (h : a ≠ b) : eqS a b = false := @decide_eq_false _ (Classical.propDecidable _) h
theorem eqS_iff {a b : List Stp} : eqS a b = true ↔ a = b := ⟨@of_decide_eq_true _ (Classical.propDecidable _), eqS_yes⟩
theorem steps_eq {p q : Pth} (hn : p.n = q.n) (h : ∀ i, i < p.n → p.S i = q.S i) : p.steps = q.steps := by
  refine List.ext_getElem (by rw [p.steps_len, q.steps_len, hn]) fun i h1 h2 => ?_
  rw [p.steps_len] at h1
  simp [Pth.steps, h i h1]
theorem steps_ne {p q : Pth} {i : Nat} (hi : i < p.n) (hj : i < q.n) (h : p.S i ≠ q.S i) : p.steps ≠ q.steps := fun e => by
  apply h
  rw [Pth.steps_get hi, Pth.steps_get hj, e]
set_option maxHeartbeats 2000000 in
set_option maxRecDepth 100000 in
theorem equal_any {p q : Pth} {top : Nat} {w : World} (hp : p.In w top) (hq : q.In w top) (ht : top ≤ w.heap.size) :
    Calls Try.prog 11 #[.slice p.a p.n p.c, .slice q.a q.n q.c] w fun e w' => e = .returned (.bool (eqS p.steps q.steps)) ∧ Below w.heap.size w w' := by
  have hpn := hp.2.1.1
  have hqn := hq.2.1.1
  have i0 : (0 : Int) ≤ p.n := by omega
  have i1 : (p.n : Int) ≤ 1048576 := by omega
  have i2 : (q.n : Int) ≤ 1048576 := by omega
  have i3 : (0 : Int) ≤ q.n := by omega
  by_cases hn : p.n = q.n
  · obtain ⟨R, hR⟩ : ∃ R, eqS p.steps q.steps = R := ⟨_, rfl⟩
    have HP := Lib.hid (fun (w1 : World) (hb : Below w.heap.size w w1) => Pth.In.below hp (hb.mono ht))
    have HQ := Lib.hid (fun (w1 : World) (hb : Below w.heap.size w w1) => Pth.In.below hq (hb.mono ht))
    have Hyes : Hid ((∀ i, i < p.n → p.S i = q.S i) → R = true) := Lib.hid fun h => by rw [← hR]; exact eqS_yes (steps_eq hn h)
    have Hno : Hid (∀ i, i < p.n → p.S i ≠ q.S i → R = false) := Lib.hid fun i hi h => by rw [← hR]; exact eqS_no (steps_ne hi (by omega) h)
    rw [hR]
    clear hR hp hq
    obtain ⟨a, n, c, b, o, S⟩ := p
    obtain ⟨a', n', c', b', o', S'⟩ := q
    dsimp only at hn hpn hqn HP HQ Hyes Hno i0 i1 i2 i3 ⊢
    subst hn
    go_enter Try.func11, Try.ntmps11
    go_wp2_with fail
    go_loopw [5] (fun i wr => ∃ k : Nat, k ≤ n ∧ i = .int .i64 k ∧ Hid (∀ j, j < k → S j = S' j) ∧ Below w.heap.size w wr) (fun i _ => n - (intOf i).toNat)
    case atStart => exact ⟨0, by omega, rfl, Lib.hid (fun j hj => absurd hj (Nat.not_lt_zero _)), Below.refl _ _⟩
    case round =>
      obtain ⟨k, hk, rfl, hall, hbr⟩ := hrel
      have hki : (0 : Int) ≤ k := by omega
      by_cases hkn : k < n
      · have hki2 : (k : Int) < n := by omega
        have h1 := HP.out wr hbr
        have h2 := HQ.out wr hbr
        obtain ⟨e1, -⟩ := h1.1 (show 0 < n by omega)
        obtain ⟨e2, -⟩ := h2.1 (show 0 < n by omega)
        dsimp only at e1 e2
        subst e1 e2
        obtain ⟨l0, l1, l2⟩ := (h1.2.2 k hkn).1.s3
        obtain ⟨m0, m1, m2⟩ := (h2.2.2 k hkn).1.s3
        dsimp only at l0 l1 l2 m0 m1 m2
        clear h1 h2
        by_cases heq : S k = S' k
        · have hbo := fun W => stp_same (S' k) W
          rw [heq] at l0 l1 l2
          have Heq := Lib.hid heq
          simp only [Stp.cells] at hbo
          clear heq
          go_wp2_with fail
          go_quiet (fail)
          go_wp2
          go_roundw
          case rel => exact ⟨k + 1, by omega, by go_num, Lib.hid (fun j hj => by by_cases e : j = k; { rw [e]; exact Heq.out }; { exact hall.out j (by omega) }), below_drewN' hbr _⟩
          case measure => simp [intOf]; omega
        · have hbo := fun W => stp_diff heq W
          have hf := Hno.out k hkn heq
          subst hf
          simp only [Stp.cells] at hbo
          clear heq
          go_wp2_with fail
          go_quiet (fail)
          go_wp2
          go_ret
          exact ⟨rfl, below_drewN' hbr _⟩
      · obtain rfl : k = n := by omega
        have hf := Hyes.out hall.out
        subst hf
        go_wp2
        go_ret
        exact ⟨rfl, hbr⟩
  · have hf : eqS p.steps q.steps = false := eqS_no fun e => hn (by rw [← p.steps_len, e, q.steps_len])
    have t1 : ((p.n : Int) != (q.n : Int)) = true := bne_iff_ne.2 (by omega)
    have t2 : (p.n != q.n) = true := bne_iff_ne.2 hn
    rw [hf]
    clear hn hp hq hf
    go_enter Try.func11, Try.ntmps11
    go_wp2
    go_ret
    exact ⟨rfl, Below.refl _ _⟩
set_option maxHeartbeats 2000000 in
set_option maxRecDepth 100000 in
/-- Two lists of the same paths are the same. -/
theorem samePaths_yes {B B' : Nat} {S S' : Nat → Prop} {w : World} {v v' : Value} {ps : List (List Stp)} (h : PRow B S w v ps) (h' : PRow B' S' w v' ps) (hl : ps.length ≤ 65536) :
    Calls Try.prog 14 #[v, v'] w fun e w' => e = .returned (.bool true) ∧ Below w.heap.size w w' := by
  obtain ⟨a, c, b, f, rfl, hcc, ha, hf⟩ := h.get
  obtain ⟨a', c', b', f', rfl, hcc', ha', hf'⟩ := h'.get
  have HA := Lib.hid ha
  have HA' := Lib.hid ha'
  have HF := Lib.hid (fun (i : Nat) (hi : i < ps.length) => (hf i hi).1)
  have HF' := Lib.hid (fun (i : Nat) (hi : i < ps.length) => (hf' i hi).1)
  have HE := Lib.hid (fun (i : Nat) (hi : i < ps.length) (w1 : World) (hb : Below w.heap.size w w1) => (by
    have := equal_any (p := f i) (q := f' i) (w := w1) (top := w.heap.size) ((hf i hi).2.1.below hb) ((hf' i hi).2.1.below hb) hb.size
    rw [(hf i hi).2.2.1, (hf' i hi).2.2.1, eqS_yes rfl] at this
    exact this : Calls Try.prog 11 #[.slice (f i).a (f i).n (f i).c, .slice (f' i).a (f' i).n (f' i).c] w1 fun e w' => e = .returned (.bool true) ∧ Below w1.heap.size w1 w'))
  obtain ⟨n, hn⟩ : ∃ n, ps.length = n := ⟨_, rfl⟩
  rw [hn] at HA HA' HF HF' HE hl hcc hcc' ⊢
  have i0 : (0 : Int) ≤ n := by omega
  have i1 : (n : Int) ≤ 65536 := by omega
  clear h h' hf hf' ha ha'
  go_enter Try.func14, Try.ntmps14
  go_wp2_with fail
  go_loopw [5] (fun i wr => ∃ k : Nat, k ≤ n ∧ i = .int .i64 k ∧ Below w.heap.size w wr) (fun i _ => n - (intOf i).toNat)
  case atStart => exact ⟨0, by omega, rfl, Below.refl _ _⟩
  case round =>
    obtain ⟨k, hk, rfl, hbr⟩ := hrel
    have hki : (0 : Int) ≤ k := by omega
    by_cases hkn : k < n
    · have hki2 : (k : Int) < n := by omega
      obtain ⟨e1, -, hb1⟩ := HA.out (by omega)
      obtain ⟨e2, -, hb2⟩ := HA'.out (by omega)
      subst e1 e2
      have c1 := (hbr.cell (p := ⟨b, k, none⟩) hb1).trans (HF.out k (by omega))
      have c2 := (hbr.cell (p := ⟨b', k, none⟩) hb2).trans (HF'.out k (by omega))
      have HEk := Lib.hid (fun (w1 : World) (hb : Below w.heap.size w w1) => HE.out k (by omega) w1 hb)
      go_wp2_with fail
      refine wp_region_held_drew (S := fun W => Below w.heap.size w W) (by kernel_rfl) hbr.drew (fun hS => ?_)
      refine wpAnyH_take (i := 0) (v := ?v0x1) rfl (by kernel_rfl) (by kernel_rfl) (by kernel_rfl) (fun _ _ _ h => h) (Or.inl ⟨by rfl, ?hy0x1⟩) hS ?rest0x1
      case hy0x1 => (intro wS hSw; go_simp; (try with_reducible rfl))
      case rest0x1 =>
      simp only [Act.put, List.getElem_toArray, List.getElem_cons_zero, List.getElem_cons_succ, List.setIfInBounds_toArray, List.set_cons_zero, List.set_cons_succ]
      refine wpAnyH_take (i := 1) (v := ?v1x2) rfl (by kernel_rfl) (by kernel_rfl) (by kernel_rfl) (fun _ _ _ h => h) (Or.inl ⟨by rfl, ?hy1x2⟩) hS ?rest1x2
      case hy1x2 => (intro wS hSw; go_simp; (try with_reducible rfl))
      case rest1x2 =>
      simp only [Act.put, List.getElem_toArray, List.getElem_cons_zero, List.getElem_cons_succ, List.setIfInBounds_toArray, List.set_cons_zero, List.set_cons_succ]
      refine wpAnyH_take (i := 2) (v := ?v2x3) rfl (by kernel_rfl) (by kernel_rfl) (by kernel_rfl) (fun _ _ _ h => h) (Or.inl ⟨by rfl, ?hy2x3⟩) hS ?rest2x3
      case hy2x3 => (intro wS hSw; go_simp; (try with_reducible rfl))
      case rest2x3 =>
      simp only [Act.put, List.getElem_toArray, List.getElem_cons_zero, List.getElem_cons_succ, List.setIfInBounds_toArray, List.set_cons_zero, List.set_cons_succ]
      refine wpAnyH_take (i := 3) (v := ?v3x4) rfl (by kernel_rfl) (by kernel_rfl) (by kernel_rfl) (fun _ _ _ h => h) (Or.inl ⟨by rfl, ?hy3x4⟩) hS ?rest3x4
      case hy3x4 => (intro wS hSw; have c1 := (World.cell?_of_block (a := ⟨b, k, none⟩) (hSw.block b hb1)).trans (HF.out k (by omega)); have c2 := (World.cell?_of_block (a := ⟨b', k, none⟩) (hSw.block b' hb2)).trans (HF'.out k (by omega)); go_simp; (try with_reducible rfl))
      case rest3x4 =>
      simp only [Act.put, List.getElem_toArray, List.getElem_cons_zero, List.getElem_cons_succ, List.setIfInBounds_toArray, List.set_cons_zero, List.set_cons_succ]
      refine wpAnyH_take (i := 4) (v := ?v4x5) rfl (by kernel_rfl) (by kernel_rfl) (by kernel_rfl) (fun _ _ _ h => h) (Or.inl ⟨by rfl, ?hy4x5⟩) hS ?rest4x5
      case hy4x5 => (intro wS hSw; go_simp; (try with_reducible rfl))
      case rest4x5 =>
      simp only [Act.put, List.getElem_toArray, List.getElem_cons_zero, List.getElem_cons_succ, List.setIfInBounds_toArray, List.set_cons_zero, List.set_cons_succ]
      refine wpAnyH_take (i := 5) (v := ?v5x6) rfl (by kernel_rfl) (by kernel_rfl) (by kernel_rfl) (fun _ _ _ h => h) (Or.inl ⟨by rfl, ?hy5x6⟩) hS ?rest5x6
      case hy5x6 => (intro wS hSw; go_simp; (try with_reducible rfl))
      case rest5x6 =>
      simp only [Act.put, List.getElem_toArray, List.getElem_cons_zero, List.getElem_cons_succ, List.setIfInBounds_toArray, List.set_cons_zero, List.set_cons_succ]
      refine wpAnyH_take (i := 6) (v := ?v6x7) rfl (by kernel_rfl) (by kernel_rfl) (by kernel_rfl) (fun _ _ _ h => h) (Or.inl ⟨by rfl, ?hy6x7⟩) hS ?rest6x7
      case hy6x7 => (intro wS hSw; go_simp; (try with_reducible rfl))
      case rest6x7 =>
      simp only [Act.put, List.getElem_toArray, List.getElem_cons_zero, List.getElem_cons_succ, List.setIfInBounds_toArray, List.set_cons_zero, List.set_cons_succ]
      refine wpAnyH_take (i := 7) (v := ?v7x8) rfl (by kernel_rfl) (by kernel_rfl) (by kernel_rfl) (fun _ _ _ h => h) (Or.inl ⟨by rfl, ?hy7x8⟩) hS ?rest7x8
      case hy7x8 => (intro wS hSw; have c1 := (World.cell?_of_block (a := ⟨b, k, none⟩) (hSw.block b hb1)).trans (HF.out k (by omega)); have c2 := (World.cell?_of_block (a := ⟨b', k, none⟩) (hSw.block b' hb2)).trans (HF'.out k (by omega)); go_simp; (try with_reducible rfl))
      case rest7x8 =>
      simp only [Act.put, List.getElem_toArray, List.getElem_cons_zero, List.getElem_cons_succ, List.setIfInBounds_toArray, List.set_cons_zero, List.set_cons_succ]
      refine wpAnyH_ready (rs := [8]) (by kernel_rfl) (by simp) ?_
      refine AllReadyH.cons rfl (fun KK hK => ?_) AllReadyH.nil
      go_simp
      go_at_call 11
      refine (HEk.out _ hbr.drew).mono ?_
      rintro _ w5 ⟨rfl, h5⟩
      have g5 := below_then hbr.drew h5
      refine hK.out _ _ g5 (fun hS5 => ?_)
      clear hK KK
      try simp only [Act.put, List.getElem_toArray, List.getElem_cons_zero, List.getElem_cons_succ, List.setIfInBounds_toArray, List.set_cons_zero, List.set_cons_succ]
      refine wpAnyH_take (i := 9) (v := ?v9x9) rfl (by kernel_rfl) (by kernel_rfl) (by kernel_rfl) (fun _ _ _ h => h) (Or.inl ⟨by rfl, ?hy9x9⟩) hS5 ?rest9x9
      case hy9x9 => (intro wS hSw; go_simp; (try with_reducible rfl))
      case rest9x9 =>
      simp only [Act.put, List.getElem_toArray, List.getElem_cons_zero, List.getElem_cons_succ, List.setIfInBounds_toArray, List.set_cons_zero, List.set_cons_succ]
      refine wpAnyH_done (by kernel_rfl) ?_ _
      clear hS hS5 c1 c2
      go_wp2
      go_roundw
      case rel => exact ⟨k + 1, by omega, by go_num, g5⟩
      case measure => simp [intOf]; omega
    · obtain rfl : k = n := by omega
      go_wp2
      go_ret
      exact ⟨rfl, hbr⟩
end Go.Proofs.Ytfkfboiblgoamaa
/- A store of a whole struct, within a fence. -/
namespace Go.Proofs.Ytfkfboiblgoamaa
open Go.RowKit
theorem wpListIn_store_row {F : Fence} {n : Nat} {P : Program} {ops : Array Oper} {rest : List Oper} {o : Oper} {a : Act} {w : World} {Q : Exit → Act → World → Prop} (hgd : o.guard = none) (ty : TypeId) (x y : Operand) (ho : o.op = .store ty x y)
    (g : Nat) (cells : Array Value) (hx : a.eval x = .pointer (some ⟨g, 0, none⟩)) (hy : a.eval y = .agg cells)
    (t : TypeId) (old : Array Value) (hg : w.heap[g]? = some (.cells old t (0, 0))) (hi : (P.info? ty).map (·.size) = some cells.size)
    (hold : old.size = cells.size) (h1 : cells.all (·.oneCell') = true)
    (h : wpListIn F n P ops Q rest (a.put o.dst undef) (w.setRow g cells)) : wpListIn F n P ops Q (o :: rest) a w := by
  refine wpListIn_plain hgd fun K hK => ?_
  unfold Oper.wpIn
  refine ⟨?_, ?_⟩
  · simp [Oper.about, ho]
  · rw [Oper.semAt_plain F _ _ (by rw [ho]; intro c hc'; cases hc')]
    simp only [execOp, ho, hx, hy, Instr.storeAt, Instr.sureAddr, Sem.run_bind, Sem.run_pure, Result.andThen_ok, run_storeVar_row w g t ty old cells hg hi hold h1]
    exact hK _ _ h
end Go.Proofs.Ytfkfboiblgoamaa
