/- Laid together for a claim: VtWoF. -/
import Derived.Test.YtfkfboiblgoamaaDoorQB18
import Derived.Deep.Cut
import Derived.Deep.DeepCutAuto
/- Values without a part: datakitref09.Without of a map. -/
namespace Go.Proofs.YtfkfboiblgoamaaDoor
open Go.RowKit
set_option linter.unusedSimpArgs false
set_option linter.unusedVariables false

set_option maxHeartbeats 8000000 in
set_option maxRecDepth 100000 in
theorem withoutF {h : Vh} {Y : Nat → Int} {L : Nat → Vt} {K : Nat → ByteArray} {F : Nat → Vt} {top i : Nat} {w : World} (hT : (Vt.mk h Y L K F).In w top) (ht : top ≤ w.heap.size) (ho : h.own = true) (hk : h.k = 7) (hi : i < h.fn) :
    Calls Tryd.prog 57 #[.agg h.cells, .int .i64 i] w (FnOut ((Vt.mk h Y L K F).dropF i) top w) := by
  have hb0 := ((((Below.refl w.heap.size w).alloc (Nat.le_refl _) (.cells h.cells 30)).alloc (by simp) (.cells Vh.zero.cells 30)).alloc (by simp; omega) (.cells (Vh.fld h.k none 0 0 0).cells 30))
  have P := (((Whole.new w 30 h.cells).alloc (.cells Vh.zero.cells 30)).alloc (.cells (Vh.fld h.k none 0 0 0).cells 30))
  have Q := ((Whole.new (w.alloc (.cells h.cells 30)) 30 Vh.zero.cells).alloc (.cells (Vh.fld h.k none 0 0 0).cells 30))
  rw [World.size_alloc] at Q
  have O := (Whole.new ((w.alloc (.cells h.cells 30)).alloc (.cells Vh.zero.cells 30)) 30 (Vh.fld h.k none 0 0 0).cells)
  rw [World.size_alloc, World.size_alloc] at O
  obtain ⟨i0, hi0, hz0, hz1, hz2⟩ := info_parts Tryd.infoFld
  have hokh := hT.1
  obtain ⟨e1, hlt⟩ := hT.2.2.2.2.2.1 (show 0 < h.fn by omega)
  have HWh := Lib.hid (fun t (ht : t < h.fn) => And.intro (hT.2.2.2.2.2.2 t ht).2.1 (Vt.Same.rfl' (hT.whole.2 t ht)))
  have HLrow := Lib.hid (fun (w1 : World) (hb : Below w.heap.size w w1) => fun j (hj : j < h.fn) => (And.intro (lies_fcs ((hT.below (hb.mono ht)).2.2.2.2.2.2 j hj).1 ((hT.below (hb.mono ht)).2.2.2.2.2.2 j hj).2.2.1) ((hT.below (hb.mono ht)).2.2.2.2.2.2 j hj).2.2.2 : LiesAt w1 h.fb (h.fo + j * 14) (fcs (K j, F j)) ∧ (F j).In w1 top))
  have hz : h.ln = 0 := (Vh.own_parts ho).2.2.2.2.2.2.2.1 (by omega)
  have HOwn := Lib.hid ho
  have Hk := Lib.hid hk
  have hln := hokh.fn
  have hk1 := hokh.k.1
  have hk2 := hokh.k.2
  have i3 : (h.fn : Int) ≤ 1048576 := by omega
  have i4 : (0 : Int) ≤ h.fn := by omega
  have i1 : (0 : Int) ≤ i := by omega
  have i2 : (i : Int) < h.fn := by omega
  clear hokh hT ho hk
  obtain ⟨k, b', n', dd, e, tk, td, tn, tz, x, ba, bn, bc, la, ln, lc, fa, fn, fc, bb, bo, lb, lo, fb, fo⟩ := h
  dsimp only at e1 hlt hln hk1 hk2 hz i3 i4 HLrow HWh Hk P O hb0 Q i2 hi
  subst e1 hz
  obtain ⟨M, hM⟩ : ∃ M : Nat → ByteArray × Vt, M = fun j => if j < i then (K j, F j) else (K (j + 1), F (j + 1)) := ⟨_, rfl⟩
  have HM := Lib.hid hM
  clear hM
  have hPl := P.lt
  simp only [Vh.cells, Vh.zero, Vh.fld] at hb0 Q O ⊢
  go_enter Tryd.func57, Tryd.ntmps57
  go_wp2_with fail
  go_loopw [6] (fun s wr => s = .int .i64 0 ∧ Whole wr w.heap.size 30 (Vh.cells ⟨k, b', n', dd, e, tk, td, tn, tz, x, ba, bn, bc, la, 0, lc, some ⟨fb, fo, none⟩, fn, fc, bb, bo, lb, lo, fb, fo⟩) ∧ Whole wr (w.heap.size + 1) 30 Vh.zero.cells ∧ Whole wr (w.heap.size + 2) 30 #[.int .i64 k, .bool false, .bool false, .string ⟨#[]⟩, .int .i64 0, .int .i64 0, .int .i64 0, .int .i64 0, .int .i64 0, .string ⟨#[]⟩, .slice none 0 0, .slice none 0 0, .slice none 0 0] ∧ Below w.heap.size w wr) (fun _ _ => 0)
  case atStart => exact ⟨rfl, P, Q, O, hb0⟩
  case round =>
    rename World => wa
    clear P Q O hb0
    obtain ⟨rfl, P, Q, O, hb0⟩ := hrel
    have c11' := Whole.cell P 11
    simp only [Vh.cells, List.getElem?_toArray, List.getElem?_cons_succ, List.getElem?_cons_zero] at c11'
    go_wp2_with fail
    clear c11'
    go_loopw [7] (fun s wr => ∃ (j : Nat) (u : Value), j ≤ fn ∧ s = .int .i64 j ∧ RowG fcs Prod.snd 14 61 (w.heap.size + 3) (· < top) (fun t X => X = M t) wr u (if j ≤ i then j else j - 1) ∧ Whole wr w.heap.size 30 (Vh.cells ⟨k, b', n', dd, e, tk, td, tn, tz, x, ba, bn, bc, la, 0, lc, some ⟨fb, fo, none⟩, fn, fc, bb, bo, lb, lo, fb, fo⟩) ∧ Whole wr (w.heap.size + 1) 30 Vh.zero.cells ∧ Whole wr (w.heap.size + 2) 30 #[.int .i64 k, .bool false, .bool false, .string ⟨#[]⟩, .int .i64 0, .int .i64 0, .int .i64 0, .int .i64 0, .int .i64 0, .string ⟨#[]⟩, .slice none 0 0, .slice none 0 0, u] ∧ Below w.heap.size w wr) (fun s _ => fn - (intOf s).toNat)
    case atStart => exact ⟨0, .slice none 0 0, by omega, rfl, by rw [if_pos (Nat.zero_le _)]; exact RowG.nil, P, Q, O, hb0⟩
    case round =>
      clear P Q O hb0
      obtain ⟨j, u, hj, rfl, hrow, P, Q, O, hbr⟩ := hrel
      have hji : (0 : Int) ≤ j := by omega
      have hOl := Whole.lt O
      by_cases hjn : j < fn
      · have hji2 : (j : Int) < fn := by omega
        obtain ⟨hl, hin⟩ := HLrow.out wr hbr j hjn
        have cP := Whole.cell P 12
        simp only [Vh.cells, List.getElem?_toArray, List.getElem?_cons_succ, List.getElem?_cons_zero] at cP
        by_cases hjeq : j = i
        · subst hjeq
          have hrow2 : RowG fcs Prod.snd 14 61 (w.heap.size + 3) (· < top) (fun t X => X = M t) wr u (if j + 1 ≤ j then j + 1 else j + 1 - 1) := by
            rw [if_pos (Nat.le_refl _)] at hrow
            rw [if_neg (by omega)]
            exact hrow
          clear hl hin hrow
          go_wp2_with fail
          go_roundw
          case rel => exact ⟨j + 1, u, by omega, by go_num, hrow2, P, Q, O, hbr⟩
          case measure => simp [intOf]; omega
        · have hne : (j == i) = false := beq_eq_false_iff_ne.2 hjeq
          have hne2 : ((j : Int) == (i : Int)) = false := beq_eq_false_iff_ne.2 (by omega)
          have hne3 : ((j : Int) != (i : Int)) = true := bne_iff_ne.2 (by omega)
          have hne4 : (j != i) = true := bne_iff_ne.2 hjeq
          obtain ⟨l0, l1, l2, l3, l4, l5, l6, l7, l8, l9, l10, l11, l12, l13⟩ := lies_c14 hl
          have oO := Whole.cell O 12
          have fO := Whole.frozen O 12
          simp only [List.getElem?_toArray, List.getElem?_cons_succ, List.getElem?_cons_zero] at oO
          obtain ⟨m, hm, hmj, hMj, hm1⟩ : ∃ m, m = (if j ≤ i then j else j - 1) ∧ m ≤ j ∧ (K j, F j) = M m ∧ (if j + 1 ≤ i then j + 1 else j + 1 - 1) = m + 1 := by
            rw [HM.out]
            by_cases h1 : j < i
            · exact ⟨j, by rw [if_pos (by omega)], Nat.le_refl _, by dsimp only; rw [if_pos h1], by rw [if_pos (by omega)]⟩
            · exact ⟨j - 1, by rw [if_neg (by omega)], by omega, by dsimp only; rw [if_neg (by omega), show j - 1 + 1 = j by omega], by rw [if_neg (by omega)]; omega⟩
          rw [← hm] at hrow
          have Hm1 := Lib.hid hm1
          have HMj := Lib.hid hMj
          clear hm hm1 hMj
          go_wp2_with fail
          clear hln hne hne2 hne3 hne4
          refine wp_region_held_drew (S := fun _ => True) (by kernel_rfl) trivial (fun _ => ?_)
          refine wpAnyH_take (i := 0) (v := ?v0) rfl (by kernel_rfl) (by kernel_rfl) (by kernel_rfl) (fun _ _ _ h => h) (Or.inl ⟨by rfl, ?hy0⟩) trivial ?rest0
          case hy0 => ((intro w hSw); go_simp; (try with_reducible rfl))
          case rest0 =>
          simp only [Act.put, List.getElem_toArray, List.getElem_cons_zero, List.getElem_cons_succ, List.setIfInBounds_toArray, List.set_cons_zero, List.set_cons_succ]
          refine wpAnyH_take (i := 2) (v := ?v2) rfl (by kernel_rfl) (by kernel_rfl) (by kernel_rfl) (fun _ _ _ h => h) (Or.inl ⟨by rfl, ?hy2⟩) trivial ?rest2
          case hy2 => ((intro w hSw); go_simp; (try with_reducible rfl))
          case rest2 =>
          simp only [Act.put, List.getElem_toArray, List.getElem_cons_zero, List.getElem_cons_succ, List.setIfInBounds_toArray, List.set_cons_zero, List.set_cons_succ]
          refine wpAnyH_take (i := 4) (v := ?v4) rfl (by kernel_rfl) (by kernel_rfl) (by kernel_rfl) (fun _ _ _ h => h) (Or.inl ⟨by rfl, ?hy4⟩) trivial ?rest4
          case hy4 => ((intro w hSw); go_simp; (try with_reducible rfl))
          case rest4 =>
          simp only [Act.put, List.getElem_toArray, List.getElem_cons_zero, List.getElem_cons_succ, List.setIfInBounds_toArray, List.set_cons_zero, List.set_cons_succ]
          apply cutAt
          · intro E
            refine wpAnyH_ready (rs := [1, 3]) (by kernel_rfl) (by simp) ?_
            refine (AllReadyH.cons rfl (fun KK hK => ?_) (AllReadyH.cons rfl (fun KK hK => ?_) AllReadyH.nil))
            · go_simp
              refine hK.out _ _ trivial (fun _ => ?_)
              clear hK KK
              try simp only [Act.put, List.getElem_toArray, List.getElem_cons_zero, List.getElem_cons_succ, List.setIfInBounds_toArray, List.set_cons_zero, List.set_cons_succ]
              refine wpAnyH_ready (rs := [3]) (by kernel_rfl) (by simp) ?_
              refine (AllReadyH.cons rfl (fun KK hK => ?_) AllReadyH.nil)
              go_simp
              refine hK.out _ _ trivial (fun _ => ?_)
              clear hK KK
              try simp only [Act.put, List.getElem_toArray, List.getElem_cons_zero, List.getElem_cons_succ, List.setIfInBounds_toArray, List.set_cons_zero, List.set_cons_succ]
              refine wpAnyH_take (i := 5) (v := ?v5) rfl (by kernel_rfl) (by kernel_rfl) (by kernel_rfl) (fun _ _ _ h => h) (Or.inl ⟨by rfl, ?hy5⟩) trivial ?rest5
              case hy5 => ((intro w hSw); go_simp; (try with_reducible rfl))
              case rest5 =>
              simp only [Act.put, List.getElem_toArray, List.getElem_cons_zero, List.getElem_cons_succ, List.setIfInBounds_toArray, List.set_cons_zero, List.set_cons_succ]
              refine wpAnyH_ready (rs := [6]) (by kernel_rfl) (by simp) ?_
              refine (AllReadyH.cons rfl (fun KK hK => ?_) AllReadyH.nil)
              go_simp
              refine hK.out _ _ trivial (fun _ => ?_)
              clear hK KK
              try simp only [Act.put, List.getElem_toArray, List.getElem_cons_zero, List.getElem_cons_succ, List.setIfInBounds_toArray, List.set_cons_zero, List.set_cons_succ]
              refine wpAnyH_ready (rs := [7]) (by kernel_rfl) (by simp) ?_
              refine (AllReadyH.cons rfl (fun KK hK => ?_) AllReadyH.nil)
              go_simp
              refine hK.out _ _ trivial (fun _ => ?_)
              clear hK KK
              try simp only [Act.put, List.getElem_toArray, List.getElem_cons_zero, List.getElem_cons_succ, List.setIfInBounds_toArray, List.set_cons_zero, List.set_cons_succ]
              exact E
            · go_simp
              refine hK.out _ _ trivial (fun _ => ?_)
              clear hK KK
              try simp only [Act.put, List.getElem_toArray, List.getElem_cons_zero, List.getElem_cons_succ, List.setIfInBounds_toArray, List.set_cons_zero, List.set_cons_succ]
              refine wpAnyH_take (i := 5) (v := ?v5) rfl (by kernel_rfl) (by kernel_rfl) (by kernel_rfl) (fun _ _ _ h => h) (Or.inl ⟨by rfl, ?hy5⟩) trivial ?rest5
              case hy5 => ((intro w hSw); go_simp; (try with_reducible rfl))
              case rest5 =>
              simp only [Act.put, List.getElem_toArray, List.getElem_cons_zero, List.getElem_cons_succ, List.setIfInBounds_toArray, List.set_cons_zero, List.set_cons_succ]
              refine wpAnyH_ready (rs := [1, 6]) (by kernel_rfl) (by simp) ?_
              refine (AllReadyH.cons rfl (fun KK hK => ?_) (AllReadyH.cons rfl (fun KK hK => ?_) AllReadyH.nil))
              · go_simp
                refine hK.out _ _ trivial (fun _ => ?_)
                clear hK KK
                try simp only [Act.put, List.getElem_toArray, List.getElem_cons_zero, List.getElem_cons_succ, List.setIfInBounds_toArray, List.set_cons_zero, List.set_cons_succ]
                refine wpAnyH_ready (rs := [6]) (by kernel_rfl) (by simp) ?_
                refine (AllReadyH.cons rfl (fun KK hK => ?_) AllReadyH.nil)
                go_simp
                refine hK.out _ _ trivial (fun _ => ?_)
                clear hK KK
                try simp only [Act.put, List.getElem_toArray, List.getElem_cons_zero, List.getElem_cons_succ, List.setIfInBounds_toArray, List.set_cons_zero, List.set_cons_succ]
                refine wpAnyH_ready (rs := [7]) (by kernel_rfl) (by simp) ?_
                refine (AllReadyH.cons rfl (fun KK hK => ?_) AllReadyH.nil)
                go_simp
                refine hK.out _ _ trivial (fun _ => ?_)
                clear hK KK
                try simp only [Act.put, List.getElem_toArray, List.getElem_cons_zero, List.getElem_cons_succ, List.setIfInBounds_toArray, List.set_cons_zero, List.set_cons_succ]
                exact E
              · go_simp
                refine hK.out _ _ trivial (fun _ => ?_)
                clear hK KK
                try simp only [Act.put, List.getElem_toArray, List.getElem_cons_zero, List.getElem_cons_succ, List.setIfInBounds_toArray, List.set_cons_zero, List.set_cons_succ]
                refine wpAnyH_ready (rs := [1, 7]) (by kernel_rfl) (by simp) ?_
                refine (AllReadyH.cons rfl (fun KK hK => ?_) (AllReadyH.cons rfl (fun KK hK => ?_) AllReadyH.nil))
                · go_simp
                  refine hK.out _ _ trivial (fun _ => ?_)
                  clear hK KK
                  try simp only [Act.put, List.getElem_toArray, List.getElem_cons_zero, List.getElem_cons_succ, List.setIfInBounds_toArray, List.set_cons_zero, List.set_cons_succ]
                  refine wpAnyH_ready (rs := [7]) (by kernel_rfl) (by simp) ?_
                  refine (AllReadyH.cons rfl (fun KK hK => ?_) AllReadyH.nil)
                  go_simp
                  refine hK.out _ _ trivial (fun _ => ?_)
                  clear hK KK
                  try simp only [Act.put, List.getElem_toArray, List.getElem_cons_zero, List.getElem_cons_succ, List.setIfInBounds_toArray, List.set_cons_zero, List.set_cons_succ]
                  exact E
                · go_simp
                  refine hK.out _ _ trivial (fun _ => ?_)
                  clear hK KK
                  try simp only [Act.put, List.getElem_toArray, List.getElem_cons_zero, List.getElem_cons_succ, List.setIfInBounds_toArray, List.set_cons_zero, List.set_cons_succ]
                  refine wpAnyH_ready (rs := [1]) (by kernel_rfl) (by simp) ?_
                  refine (AllReadyH.cons rfl (fun KK hK => ?_) AllReadyH.nil)
                  go_simp
                  refine hK.out _ _ trivial (fun _ => ?_)
                  clear hK KK
                  try simp only [Act.put, List.getElem_toArray, List.getElem_cons_zero, List.getElem_cons_succ, List.setIfInBounds_toArray, List.set_cons_zero, List.set_cons_succ]
                  exact E
          · obtain ⟨f, hown, hf⟩ := (hrow.alloc (.cells (fcs (K j, F j)) 61)).drew
            have Hf := Lib.hid hf
            have HIn := Lib.hid hin
            have s1 := Lib.hid (cells_new wr 61 (fcs (K j, F j)))
            have s2 := Lib.hid (fcs_one (K j, F j))
            have s3 : Hid (m + 1 ≤ maxLen) := Lib.hid (by unfold maxLen; omega)
            have s4 : Hid ((m + 1) * 184 ≤ 140737488355328) := Lib.hid (by omega)
            have hwsz := hbr.size
            refine wpAnyH_ready (rs := [8]) (by kernel_rfl) (by simp) ?_
            refine AllReadyH.cons rfl (fun KK hK => ?_) AllReadyH.nil
            refine step_append_lies _ (by rfl) _ _ _ (by rfl) (w.heap.size + 3) 61 i0 _ 14 184 Tryd.underlying28 hi0 hz0 hz1 hz2 rfl (by decide) u m _ (by rfl) hown ⟨wr.heap.size, 0, none⟩ 1 1 (fcs (K j, F j)).toList (by rfl) (by rfl) ?s1 s2.out (by omega) s3.out s4.out ?s5 (wr.heap.size + 1) (by simp) ?_
            case s1 => exact fun p v hv => s1.out p v hv
            case s5 => exact Nat.le_trans (show (w.heap.size + 3) ≤ wr.heap.size + 1 by omega) (Nat.le_of_eq (World.size_alloc _ _).symm)
            intro gg cap w3 hown3 hgrow hat hlt3
            have HOw := fun g (hg : u.ownBlock = some g) => hown.lt g hg
            have A := (Below.refl wr.heap.size wr).alloc (Nat.le_refl _) (.cells (fcs (K j, F j)) 61)
            have hrow3 : RowG fcs Prod.snd 14 61 (w.heap.size + 3) (· < top) (fun t X => X = M t) w3 (.slice (some ⟨gg, 0, none⟩) (m + 1) cap) (m + 1) :=
              RowG.push (x := (K j, F j)) hown Hf.out (((HIn.out.below (A.mono (by omega))).below (Below.refl _ _).drew).up (by show top ≤ (wr.alloc _).heap.size; rw [World.size_alloc]; omega)) (HIn.out.off)
                (fun g hg => HIn.out.off.mono fun b hb => by have := (HOw g hg).1; omega) HMj.out hown3 hgrow
                (by rcases hat with h | h
                    · exact .inl h.symm
                    · exact .inr (by show some gg = some (wr.alloc _).heap.size; rw [World.size_alloc, h]))
            have far : ∀ B, B < (w.heap.size + 3) → some B ≠ u.ownBlock := fun B hB e => by have := (HOw B e.symm).1; omega
            have P3 := Whole.kept (P.alloc (.cells (fcs (K j, F j)) 61)).drew hgrow (far _ (by omega))
            have Q3 := Whole.kept (Q.alloc (.cells (fcs (K j, F j)) 61)).drew hgrow (far _ (by omega))
            have O3 := Whole.kept (O.alloc (.cells (fcs (K j, F j)) 61)).drew hgrow (far _ (by omega))
            have hb3 := (hbr.alloc hbr.size (.cells (fcs (K j, F j)) 61)).drew.grown hgrow (by show w.heap.size ≤ (wr.alloc _).heap.size; rw [World.size_alloc]; omega) (fun g hg => by have := (HOw g hg).1; omega)
            clear hown Hf hown3 hgrow hat hrow hl P Q O hbr cP oO fO s1 s2 s3 s4 l0 l1 l2 l3 l4 l5 l6 l7 l8 l9 l10 l11 l12 l13 A HOw far
            have fO := Whole.frozen O3 12
            refine hK.out _ _ trivial (fun _ => ?_)
            clear hK KK
            try simp only [Act.put, List.getElem_toArray, List.getElem_cons_zero, List.getElem_cons_succ, List.setIfInBounds_toArray, List.set_cons_zero, List.set_cons_succ]
            refine wpAnyH_take (i := 9) (v := ?v9) rfl (by kernel_rfl) (by kernel_rfl) (by kernel_rfl) (fun _ _ _ h => h) (Or.inl ⟨by rfl, ?hy9⟩) trivial ?rest9
            case hy9 => ((intro w hSw); go_simp; (try with_reducible rfl))
            case rest9 =>
            simp only [Act.put, List.getElem_toArray, List.getElem_cons_zero, List.getElem_cons_succ, List.setIfInBounds_toArray, List.set_cons_zero, List.set_cons_succ]
            refine wpAnyH_ready (rs := [10]) (by kernel_rfl) (by simp) ?_
            refine AllReadyH.cons rfl (fun KK hK => ?_) AllReadyH.nil
            have oO := Whole.cell O3 12
            simp only [List.getElem?_toArray, List.getElem?_cons_succ, List.getElem?_cons_zero] at oO
            go_simp
            refine hK.out _ _ trivial (fun _ => ?_)
            clear hK KK oO fO
            refine wpAnyH_done (by kernel_rfl) ?_ _
            have O4 := Whole.set O3 12 (.slice (some ⟨gg, 0, none⟩) (m + 1) cap)
            have P4 := Whole.far (p := ⟨w.heap.size + 1 + 1, 12, none⟩) P3 (by show w.heap.size ≠ w.heap.size + 1 + 1; omega) (.slice (some ⟨gg, 0, none⟩) (m + 1) cap)
            have Q4 := Whole.far (p := ⟨w.heap.size + 1 + 1, 12, none⟩) Q3 (by show w.heap.size + 1 ≠ w.heap.size + 1 + 1; omega) (.slice (some ⟨gg, 0, none⟩) (m + 1) cap)
            have hb4 := hb3.setCell (p := ⟨w.heap.size + 1 + 1, 12, none⟩) (by show w.heap.size ≤ w.heap.size + 1 + 1; omega) (.slice (some ⟨gg, 0, none⟩) (m + 1) cap)
            have hrow4 := hrow3.turn (grown_set w3 (w.heap.size + 1 + 1) 12 (.slice (some ⟨gg, 0, none⟩) (m + 1) cap)) (by omega) (fun b hb => by have hb' : b < top := hb; omega)
            clear P3 Q3 O3 hb3 hrow3
            go_wp2_with fail
            go_roundw
            case rel => exact ⟨j + 1, _, by omega, by go_num, by rw [Hm1.out]; exact hrow4, P4, Q4, O4, hb4⟩
            case measure => simp [intOf]; omega
      · obtain rfl : j = fn := by omega
        rw [if_neg (by omega)] at hrow
        obtain ⟨-, a', c', b1, rfl, -, -, -⟩ := RowG.done fcs_size hrow
        have HE : Hid (∀ W', Below w.heap.size w W' → RowG fcs Prod.snd 14 61 (w.heap.size + 3) (· < top) (fun t X => X = M t) W' (.slice a' (j - 1) c') (j - 1) → FnOut ((Vt.mk ⟨k, b', n', dd, e, tk, td, tn, tz, x, ba, bn, bc, la, 0, lc, some ⟨fb, fo, none⟩, j, fc, bb, bo, lb, lo, fb, fo⟩ Y L K F).dropF i) top w (.returned (.agg #[.int .i64 7, .bool false, .bool false, .string ⟨#[]⟩, .int .i64 0, .int .i64 0, .int .i64 0, .int .i64 0, .int .i64 0, .string ⟨#[]⟩, .slice none 0 0, .slice none 0 0, .slice a' (j - 1) c'])) W') := Lib.hid fun W' hb hr =>
          fld_out (K := fun t => (M t).1) (M := fun t => (M t).2) hr (by omega) (by omega) hb (fun t x ht hq => by rw [hq, HM.out]; dsimp only; split <;> exact ⟨rfl, HWh.out _ (by omega)⟩)
            (fun a c b K' M' hM' => fld_same HOwn.out Hk.out (fun t ht => by have := hM' t ht; rw [HM.out] at this; dsimp only at this; by_cases q : t < i <;> simp only [q, if_true, if_false] at this ⊢ <;> exact this))
        have Hr := Lib.hid hrow
        obtain rfl : k = 7 := Hk.out
        clear hrow
        obtain ⟨c0, c1, c2, c3, c4, c5, c6, c7, c8, c9, c10, c11, c12⟩ := Whole.c13 (h := (Vh.fld 7 a' (j - 1) c' 0)) O
        have c12' := Whole.cell P 12
        have c11' := Whole.cell P 11
        simp only [Vh.fld, Vh.cells, List.getElem?_toArray, List.getElem?_cons_succ, List.getElem?_cons_zero] at c0 c1 c2 c3 c4 c5 c6 c7 c8 c9 c10 c11 c12 c12' c11'
        have hone := Lib.hid (vh_all (Vh.fld 7 a' (j - 1) c' 0))
        go_wp2_with (refine wpList_store_row rfl 30 _ _ rfl (w.heap.size + 1) (Vh.fld 7 a' (j - 1) c' 0).cells rfl rfl 30 _ Q vh_row rfl hone.out ?_)
        exact bodyPost_ret (v := .agg (Vh.fld 7 a' (j - 1) c' 0).cells) (ret_val (p := 4) rfl rfl (Q.setRow _)) rfl (HE.out _ (below_setRow hbr (Nat.le_succ _) _) (Hr.out.turn (grown_row _ _ _) (by omega) (fun b hb => by have hb' : b < top := hb; omega)))
end Go.Proofs.YtfkfboiblgoamaaDoor
