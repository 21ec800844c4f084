/- Laid together for a claim: VtWi. -/
import Derived.Test.YtfkfboiblgoamaaDoorQB23
import Derived.Deep.Cut
import Derived.Deep.DeepCutAuto
/- Values with one more element: datakitref09.Within. -/
namespace Go.Proofs.YtfkfboiblgoamaaDoor
open Go.RowKit
set_option linter.unusedSimpArgs false
set_option linter.unusedVariables false

set_option maxHeartbeats 8000000 in
set_option maxRecDepth 100000 in
theorem withinL {h : Vh} {Y : Nat → Int} {L : Nat → Vt} {K : Nat → ByteArray} {F : Nat → Vt} {X : Vt} {top i : Nat} {w : World} (hT : (Vt.mk h Y L K F).In w top) (hX : X.In w w.heap.size) {SS : Nat → Prop} (hXo : X.Off SS) (hSt : ∀ b, b < top → SS b) (hSl : ∀ b, SS b → b < w.heap.size) (ht : top ≤ w.heap.size) (ho : h.own = true) (hk : h.k = 6) (hi : i ≤ h.ln) (hl1 : h.ln < 1048576) :
    Calls Tryd.prog 58 #[.agg h.cells, .int .i64 i, .agg X.h.cells] w (FnS ((Vt.mk h Y L K F).insL i X) SS w) := by
  have HX := Lib.hid (fun (w1 : World) (hb : Below w.heap.size w w1) => (hX.below hb).up hb.size)
  have HXo := Lib.hid hXo
  have HSt := Lib.hid hSt
  have HSl := Lib.hid hSl
  clear hXo hSt hSl
  have HXs := Lib.hid (Vt.Same.rfl' hX.whole)
  clear hX
  have hb0 := (((((Below.refl w.heap.size w).alloc (Nat.le_refl _) (.cells h.cells 30)).alloc (by simp) (.cells X.h.cells 30)).alloc (by simp; omega) (.cells Vh.zero.cells 30)).alloc (by simp; omega) (.cells (Vh.lst 6 none 0 0 0).cells 30))
  have P := ((((Whole.new w 30 h.cells).alloc (.cells X.h.cells 30)).alloc (.cells Vh.zero.cells 30)).alloc (.cells (Vh.lst 6 none 0 0 0).cells 30))
  have XB := (((Whole.new (w.alloc (.cells h.cells 30)) 30 X.h.cells).alloc (.cells Vh.zero.cells 30)).alloc (.cells (Vh.lst 6 none 0 0 0).cells 30))
  rw [World.size_alloc] at XB
  have Q := ((Whole.new ((w.alloc (.cells h.cells 30)).alloc (.cells X.h.cells 30)) 30 Vh.zero.cells).alloc (.cells (Vh.lst 6 none 0 0 0).cells 30))
  rw [World.size_alloc, World.size_alloc] at Q
  have O := (Whole.new (((w.alloc (.cells h.cells 30)).alloc (.cells X.h.cells 30)).alloc (.cells Vh.zero.cells 30)) 30 (Vh.lst 6 none 0 0 0).cells)
  rw [World.size_alloc, World.size_alloc, World.size_alloc] at O
  obtain ⟨i0, hi0, hz0, hz1, hz2⟩ := info_parts Tryd.infoVal
  have hokh := hT.1
  have HAd := Lib.hid (hT.2.2.2.1)
  have HWh := Lib.hid (fun t (ht : t < h.ln) => Vt.Same.rfl' (hT.whole.1 t ht))
  have HLrow := Lib.hid (fun (w1 : World) (hb : Below w.heap.size w w1) => fun j (hj : j < h.ln) => ((hT.below (hb.mono ht)).2.2.2.2.1 j hj))
  have hz : h.fn = 0 := (Vh.own_parts ho).2.2.2.2.2.2.2.2 (by omega)
  have HOwn := Lib.hid ho
  have Hk := Lib.hid hk
  have hln := hokh.ln
  have hk1 := hokh.k.1
  have hk2 := hokh.k.2
  have i3 : (h.ln : Int) ≤ 1048576 := by omega
  have i4 : (0 : Int) ≤ h.ln := by omega
  have i1 : (0 : Int) ≤ i := by omega
  have i2 : (i : Int) ≤ h.ln := by omega
  clear hokh hT ho hk
  obtain ⟨k, b', n', dd, e, tk, td, tn, tz, x, ba, bn, bc, la, ln, lc, fa, fn, fc, bb, bo, lb, lo, fb, fo⟩ := h
  dsimp only at HAd hln hk1 hk2 hz i3 i4 HLrow HWh Hk P O hb0 Q XB i2 hi hl1
  subst hz
  obtain ⟨M, hM⟩ : ∃ M : Nat → Vt, M = fun j => if j < i then L j else if j = i then X else L (j - 1) := ⟨_, rfl⟩
  have HM := Lib.hid hM
  clear hM
  have hPl := P.lt
  simp only [Vh.cells, Vh.zero, Vh.lst] at hb0 Q O XB ⊢
  go_enter Tryd.func58, Tryd.ntmps58
  go_wp2_with fail
  go_loopw [8] (fun s wr => ∃ (j : Nat) (u : Value) (c : Nat), j ≤ ln + 1 ∧ s = .int .i64 j ∧ Hid ((j ≤ i → c = j) ∧ (i < j → j ≤ ln → c = j + 1) ∧ (j = ln + 1 → c = ln + 1)) ∧ RowG (fun x : Vt => x.h.cells) id 13 30 (w.heap.size + 4) SS (fun t X => X = M t) wr u c ∧ Whole wr w.heap.size 30 (Vh.cells ⟨k, b', n', dd, e, tk, td, tn, tz, x, ba, bn, bc, la, ln, lc, fa, 0, fc, bb, bo, lb, lo, fb, fo⟩) ∧ Whole wr (w.heap.size + 1) 30 #[.int .i64 X.h.k, .bool X.h.b, .bool X.h.n, .string X.h.d, .int .i64 X.h.e, .int .i64 X.h.tk, .int .i64 X.h.td, .int .i64 X.h.tn, .int .i64 X.h.tz, .string X.h.x, .slice X.h.ba X.h.bn X.h.bc, .slice X.h.la X.h.ln X.h.lc, .slice X.h.fa X.h.fn X.h.fc] ∧ Whole wr (w.heap.size + 2) 30 Vh.zero.cells ∧ Whole wr (w.heap.size + 3) 30 #[.int .i64 6, .bool false, .bool false, .string ⟨#[]⟩, .int .i64 0, .int .i64 0, .int .i64 0, .int .i64 0, .int .i64 0, .string ⟨#[]⟩, .slice none 0 0, u, .slice none 0 0] ∧ Below w.heap.size w wr) (fun s _ => ln + 1 - (intOf s).toNat)
  case atStart => exact ⟨0, .slice none 0 0, 0, by omega, rfl, Lib.hid ⟨fun _ => rfl, fun q => absurd q (Nat.not_lt_zero _), fun q => by omega⟩, RowG.nil, P, XB, Q, O, hb0⟩
  case round =>
    clear P Q O XB hb0
    obtain ⟨j, u, c, hj, rfl, HCn, hrow, P, XB, Q, O, hbr⟩ := hrel
    have hji : (0 : Int) ≤ j := by omega
    have hOl := Whole.lt O
    have cP := Whole.cell P 11
    simp only [Vh.cells, List.getElem?_toArray, List.getElem?_cons_succ, List.getElem?_cons_zero] at cP
    by_cases hjl : j ≤ ln
    · have hjl2 : (j : Int) ≤ ln := by omega
      by_cases hjeq : j = i
      · subst hjeq
        obtain rfl : c = j := HCn.out.1 (Nat.le_refl _)
        have hrow5 := hrow
        have hb5 := hbr
        have P5 := P
        have XB5 := XB
        have Q5 := Q
        have O5 := O
        clear hrow hbr P XB Q O
        have hw5 := Whole.lt O5
        have HZin : Hid (X.In wr wr.heap.size) := Lib.hid (HX.out wr hb5)
        have HZo := HXo
        have HMj : Hid (X = M c) := Lib.hid (by rw [HM.out]; dsimp only; rw [if_neg (Nat.lt_irrefl _), if_pos rfl])
        have hb5s := hb5.size
        obtain ⟨x0, x1, x2, x3, x4, x5, x6, x7, x8, x9, x10, x11, x12⟩ := Whole.c13 (h := X.h) XB5
        have oO := Whole.cell O5 11
        have fO := Whole.frozen O5 11
        simp only [List.getElem?_toArray, List.getElem?_cons_succ, List.getElem?_cons_zero] at oO
        obtain ⟨f, hown, hf⟩ := (hrow5.alloc (.cells #[.int .i64 X.h.k, .bool X.h.b, .bool X.h.n, .string X.h.d, .int .i64 X.h.e, .int .i64 X.h.tk, .int .i64 X.h.td, .int .i64 X.h.tn, .int .i64 X.h.tz, .string X.h.x, .slice X.h.ba X.h.bn X.h.bc, .slice X.h.la X.h.ln X.h.lc, .slice X.h.fa X.h.fn X.h.fc] 30))
        have Hf := Lib.hid hf
        have s1 := Lib.hid (cells_new wr 30 (X).h.cells)
        have s2 := Lib.hid (vh_one (X).h)
        have s3 : Hid (c + 1 ≤ maxLen) := Lib.hid (by unfold maxLen; omega)
        have s4 : Hid ((c + 1) * 168 ≤ 140737488355328) := Lib.hid (by omega)
        have s5 : Hid ((w.heap.size + 4) ≤ (wr.alloc (.cells #[.int .i64 X.h.k, .bool X.h.b, .bool X.h.n, .string X.h.d, .int .i64 X.h.e, .int .i64 X.h.tk, .int .i64 X.h.td, .int .i64 X.h.tn, .int .i64 X.h.tz, .string X.h.x, .slice X.h.ba X.h.bn X.h.bc, .slice X.h.la X.h.ln X.h.lc, .slice X.h.fa X.h.fn X.h.fc] 30)).heap.size) := Lib.hid (by rw [World.size_alloc]; omega)
        go_wp2_with (first | (at_builtin; refine wpList_append_told _ rfl _ _ 27 rfl (w.heap.size + 4) 30 i0 _ 13 168 Tryd.underlying27 hi0 hz0 hz1 hz2 rfl (by decide) _ _ _ rfl hown ⟨wr.heap.size, 0, none⟩ 1 1 (X).h.cells.toList rfl rfl s1.out s2.out s3.out s4.out s5.out Nat.one_pos ?_))
        clear s1 s2 s3 s4 s5
        intro v' w3 hown3 hgrow hat
        obtain ⟨gg, cap, rfl, -, -⟩ := own_form hown3 (Nat.succ_pos _)
        have HOw := fun g (hg : u.ownBlock = some g) => hown.lt g hg
        have hrow3 : RowG (fun x : Vt => x.h.cells) id 13 30 (w.heap.size + 4) SS (fun t X => X = M t) w3 (.slice (some ⟨gg, 0, none⟩) (c + 1) cap) (c + 1) :=
          RowG.push (x := X) hown Hf.out (HZin.out.later ((Below.refl _ _).alloc (Nat.le_refl _) _)) HZo.out (fun g hg => HZo.out.mono fun b hb => by have hb' := HSl.out b hb; have := (HOw g hg).1; omega) HMj.out hown3 hgrow (by simp only [World.size_alloc]; exact hat)
        have far : ∀ B, B < (w.heap.size + 4) → some B ≠ u.ownBlock := fun B hB e => by have := (HOw B e.symm).1; omega
        have P3 := Whole.kept (Whole.alloc P5 (.cells #[.int .i64 X.h.k, .bool X.h.b, .bool X.h.n, .string X.h.d, .int .i64 X.h.e, .int .i64 X.h.tk, .int .i64 X.h.td, .int .i64 X.h.tn, .int .i64 X.h.tz, .string X.h.x, .slice X.h.ba X.h.bn X.h.bc, .slice X.h.la X.h.ln X.h.lc, .slice X.h.fa X.h.fn X.h.fc] 30)) hgrow (far _ (by omega))
        have XB3 := Whole.kept (Whole.alloc XB5 (.cells #[.int .i64 X.h.k, .bool X.h.b, .bool X.h.n, .string X.h.d, .int .i64 X.h.e, .int .i64 X.h.tk, .int .i64 X.h.td, .int .i64 X.h.tn, .int .i64 X.h.tz, .string X.h.x, .slice X.h.ba X.h.bn X.h.bc, .slice X.h.la X.h.ln X.h.lc, .slice X.h.fa X.h.fn X.h.fc] 30)) hgrow (far _ (by omega))
        have Q3 := Whole.kept (Whole.alloc Q5 (.cells #[.int .i64 X.h.k, .bool X.h.b, .bool X.h.n, .string X.h.d, .int .i64 X.h.e, .int .i64 X.h.tk, .int .i64 X.h.td, .int .i64 X.h.tn, .int .i64 X.h.tz, .string X.h.x, .slice X.h.ba X.h.bn X.h.bc, .slice X.h.la X.h.ln X.h.lc, .slice X.h.fa X.h.fn X.h.fc] 30)) hgrow (far _ (by omega))
        have O3 := Whole.kept (Whole.alloc O5 (.cells #[.int .i64 X.h.k, .bool X.h.b, .bool X.h.n, .string X.h.d, .int .i64 X.h.e, .int .i64 X.h.tk, .int .i64 X.h.td, .int .i64 X.h.tn, .int .i64 X.h.tz, .string X.h.x, .slice X.h.ba X.h.bn X.h.bc, .slice X.h.la X.h.ln X.h.lc, .slice X.h.fa X.h.fn X.h.fc] 30)) hgrow (far _ (by omega))
        have hb3 := (hb5.alloc hb5.size (.cells #[.int .i64 X.h.k, .bool X.h.b, .bool X.h.n, .string X.h.d, .int .i64 X.h.e, .int .i64 X.h.tk, .int .i64 X.h.td, .int .i64 X.h.tn, .int .i64 X.h.tz, .string X.h.x, .slice X.h.ba X.h.bn X.h.bc, .slice X.h.la X.h.ln X.h.lc, .slice X.h.fa X.h.fn X.h.fc] 30)).grown hgrow (by rw [World.size_alloc]; omega) (fun g hg => by have := (HOw g hg).1; omega)
        clear hown Hf hown3 hgrow hat hrow5 hb5 P5 XB5 Q5 O5 oO fO HOw far HZin HZo x0 x1 x2 x3 x4 x5 x6 x7 x8 x9 x10 x11 x12 hw5 hb5s cP
        have oO := Whole.cell O3 11
        have fO := Whole.frozen O3 11
        simp only [List.getElem?_toArray, List.getElem?_cons_succ, List.getElem?_cons_zero] at oO
        have O4 := Whole.set O3 11 (.slice (some ⟨gg, 0, none⟩) (c + 1) cap)
        have P4 := Whole.far (p := ⟨w.heap.size + 1 + 1 + 1, 11, none⟩) P3 (by show w.heap.size ≠ w.heap.size + 1 + 1 + 1; omega) (.slice (some ⟨gg, 0, none⟩) (c + 1) cap)
        have XB4 := Whole.far (p := ⟨w.heap.size + 1 + 1 + 1, 11, none⟩) XB3 (by show w.heap.size + 1 ≠ w.heap.size + 1 + 1 + 1; omega) (.slice (some ⟨gg, 0, none⟩) (c + 1) cap)
        have Q4 := Whole.far (p := ⟨w.heap.size + 1 + 1 + 1, 11, none⟩) Q3 (by show w.heap.size + 1 + 1 ≠ w.heap.size + 1 + 1 + 1; omega) (.slice (some ⟨gg, 0, none⟩) (c + 1) cap)
        have hb4 := hb3.setCell (p := ⟨w.heap.size + 1 + 1 + 1, 11, none⟩) (by show w.heap.size ≤ w.heap.size + 1 + 1 + 1; omega) (.slice (some ⟨gg, 0, none⟩) (c + 1) cap)
        have hrow4 := hrow3.turn (grown_set w3 (w.heap.size + 1 + 1 + 1) 11 (.slice (some ⟨gg, 0, none⟩) (c + 1) cap)) (by omega) (fun b hb => by have hb' := HSl.out b hb; omega)
        clear P3 XB3 Q3 O3 hb3 hrow3
        have cP := Whole.cell P4 11
        simp only [Vh.cells, List.getElem?_toArray, List.getElem?_cons_succ, List.getElem?_cons_zero] at cP
        by_cases hjn : c < ln
        · have hji2 : (c : Int) < ln := by omega
          go_wp2_with fail
          clear oO fO cP
          generalize w3.setCell ⟨w.heap.size + 1 + 1 + 1, 11, none⟩ (.slice (some ⟨gg, 0, none⟩) (c + 1) cap) = wr at *
          generalize (Value.slice (some ⟨gg, 0, none⟩) (c + 1) cap) = u at *
          obtain ⟨m, hm⟩ : ∃ m, m = c + 1 := ⟨_, rfl⟩
          rw [← hm] at hrow4
          have hrow := hrow4
          have hbr := hb4
          have P : Whole wr w.heap.size 30 (Vh.cells ⟨k, b', n', dd, e, tk, td, tn, tz, x, ba, bn, bc, la, ln, lc, fa, 0, fc, bb, bo, lb, lo, fb, fo⟩) := P4
          have XB : Whole wr (w.heap.size + 1) 30 #[.int .i64 X.h.k, .bool X.h.b, .bool X.h.n, .string X.h.d, .int .i64 X.h.e, .int .i64 X.h.tk, .int .i64 X.h.td, .int .i64 X.h.tn, .int .i64 X.h.tz, .string X.h.x, .slice X.h.ba X.h.bn X.h.bc, .slice X.h.la X.h.ln X.h.lc, .slice X.h.fa X.h.fn X.h.fc] := XB4
          have Q : Whole wr (w.heap.size + 2) 30 Vh.zero.cells := Q4
          have O : Whole wr (w.heap.size + 3) 30 #[.int .i64 6, .bool false, .bool false, .string ⟨#[]⟩, .int .i64 0, .int .i64 0, .int .i64 0, .int .i64 0, .int .i64 0, .string ⟨#[]⟩, .slice none 0 0, u, .slice none 0 0] := O4
          clear hrow4 hb4 P4 XB4 Q4 O4
          obtain ⟨e1, hlt⟩ := HAd.out (by omega)
          subst e1
          obtain ⟨hl, hin⟩ := HLrow.out wr hbr c hjn
          have hmj : m ≤ ln := by omega
          have HMj : Hid (L c = M m) := Lib.hid (by rw [HM.out, hm]; dsimp only; rw [if_neg (by omega), if_neg (by omega), Nat.add_sub_cancel])
          have Hm := Lib.hid hm
          clear hm
          have hOl := Whole.lt O
          have cP := Whole.cell P 11
          obtain ⟨l0, l1, l2, l3, l4, l5, l6, l7, l8, l9, l10, l11, l12⟩ := hl.c13
          have oO := Whole.cell O 11
          have fO := Whole.frozen O 11
          simp only [Vh.cells, List.getElem?_toArray, List.getElem?_cons_succ, List.getElem?_cons_zero] at oO cP
          refine wp_region_held_drew (S := fun _ => True) (by kernel_rfl) trivial (fun _ => ?_)
          refine wpAnyH_take (i := 0) (v := ?v0) rfl (by kernel_rfl) (by kernel_rfl) (by kernel_rfl) (fun _ _ _ h => h) (Or.inl ⟨by rfl, ?hy0⟩) trivial ?rest0
          case hy0 => ((intro w hSw); go_simp; (try with_reducible rfl))
          case rest0 =>
          simp only [Act.put, List.getElem_toArray, List.getElem_cons_zero, List.getElem_cons_succ, List.setIfInBounds_toArray, List.set_cons_zero, List.set_cons_succ]
          refine wpAnyH_take (i := 2) (v := ?v2) rfl (by kernel_rfl) (by kernel_rfl) (by kernel_rfl) (fun _ _ _ h => h) (Or.inl ⟨by rfl, ?hy2⟩) trivial ?rest2
          case hy2 => ((intro w hSw); go_simp; (try with_reducible rfl))
          case rest2 =>
          simp only [Act.put, List.getElem_toArray, List.getElem_cons_zero, List.getElem_cons_succ, List.setIfInBounds_toArray, List.set_cons_zero, List.set_cons_succ]
          refine wpAnyH_take (i := 4) (v := ?v4) rfl (by kernel_rfl) (by kernel_rfl) (by kernel_rfl) (fun _ _ _ h => h) (Or.inl ⟨by rfl, ?hy4⟩) trivial ?rest4
          case hy4 => ((intro w hSw); go_simp; (try with_reducible rfl))
          case rest4 =>
          simp only [Act.put, List.getElem_toArray, List.getElem_cons_zero, List.getElem_cons_succ, List.setIfInBounds_toArray, List.set_cons_zero, List.set_cons_succ]
          apply cutAt
          · intro E
            refine wpAnyH_ready (rs := [1, 3]) (by kernel_rfl) (by simp) ?_
            refine (AllReadyH.cons rfl (fun KK hK => ?_) (AllReadyH.cons rfl (fun KK hK => ?_) AllReadyH.nil))
            · go_simp
              refine hK.out _ _ trivial (fun _ => ?_)
              clear hK KK
              try simp only [Act.put, List.getElem_toArray, List.getElem_cons_zero, List.getElem_cons_succ, List.setIfInBounds_toArray, List.set_cons_zero, List.set_cons_succ]
              refine wpAnyH_ready (rs := [3]) (by kernel_rfl) (by simp) ?_
              refine (AllReadyH.cons rfl (fun KK hK => ?_) AllReadyH.nil)
              go_simp
              refine hK.out _ _ trivial (fun _ => ?_)
              clear hK KK
              try simp only [Act.put, List.getElem_toArray, List.getElem_cons_zero, List.getElem_cons_succ, List.setIfInBounds_toArray, List.set_cons_zero, List.set_cons_succ]
              refine wpAnyH_take (i := 5) (v := ?v5) rfl (by kernel_rfl) (by kernel_rfl) (by kernel_rfl) (fun _ _ _ h => h) (Or.inl ⟨by rfl, ?hy5⟩) trivial ?rest5
              case hy5 => ((intro w hSw); go_simp; (try with_reducible rfl))
              case rest5 =>
              simp only [Act.put, List.getElem_toArray, List.getElem_cons_zero, List.getElem_cons_succ, List.setIfInBounds_toArray, List.set_cons_zero, List.set_cons_succ]
              refine wpAnyH_ready (rs := [6]) (by kernel_rfl) (by simp) ?_
              refine (AllReadyH.cons rfl (fun KK hK => ?_) AllReadyH.nil)
              go_simp
              refine hK.out _ _ trivial (fun _ => ?_)
              clear hK KK
              try simp only [Act.put, List.getElem_toArray, List.getElem_cons_zero, List.getElem_cons_succ, List.setIfInBounds_toArray, List.set_cons_zero, List.set_cons_succ]
              refine wpAnyH_ready (rs := [7]) (by kernel_rfl) (by simp) ?_
              refine (AllReadyH.cons rfl (fun KK hK => ?_) AllReadyH.nil)
              go_simp
              refine hK.out _ _ trivial (fun _ => ?_)
              clear hK KK
              try simp only [Act.put, List.getElem_toArray, List.getElem_cons_zero, List.getElem_cons_succ, List.setIfInBounds_toArray, List.set_cons_zero, List.set_cons_succ]
              exact E
            · go_simp
              refine hK.out _ _ trivial (fun _ => ?_)
              clear hK KK
              try simp only [Act.put, List.getElem_toArray, List.getElem_cons_zero, List.getElem_cons_succ, List.setIfInBounds_toArray, List.set_cons_zero, List.set_cons_succ]
              refine wpAnyH_take (i := 5) (v := ?v5) rfl (by kernel_rfl) (by kernel_rfl) (by kernel_rfl) (fun _ _ _ h => h) (Or.inl ⟨by rfl, ?hy5⟩) trivial ?rest5
              case hy5 => ((intro w hSw); go_simp; (try with_reducible rfl))
              case rest5 =>
              simp only [Act.put, List.getElem_toArray, List.getElem_cons_zero, List.getElem_cons_succ, List.setIfInBounds_toArray, List.set_cons_zero, List.set_cons_succ]
              refine wpAnyH_ready (rs := [1, 6]) (by kernel_rfl) (by simp) ?_
              refine (AllReadyH.cons rfl (fun KK hK => ?_) (AllReadyH.cons rfl (fun KK hK => ?_) AllReadyH.nil))
              · go_simp
                refine hK.out _ _ trivial (fun _ => ?_)
                clear hK KK
                try simp only [Act.put, List.getElem_toArray, List.getElem_cons_zero, List.getElem_cons_succ, List.setIfInBounds_toArray, List.set_cons_zero, List.set_cons_succ]
                refine wpAnyH_ready (rs := [6]) (by kernel_rfl) (by simp) ?_
                refine (AllReadyH.cons rfl (fun KK hK => ?_) AllReadyH.nil)
                go_simp
                refine hK.out _ _ trivial (fun _ => ?_)
                clear hK KK
                try simp only [Act.put, List.getElem_toArray, List.getElem_cons_zero, List.getElem_cons_succ, List.setIfInBounds_toArray, List.set_cons_zero, List.set_cons_succ]
                refine wpAnyH_ready (rs := [7]) (by kernel_rfl) (by simp) ?_
                refine (AllReadyH.cons rfl (fun KK hK => ?_) AllReadyH.nil)
                go_simp
                refine hK.out _ _ trivial (fun _ => ?_)
                clear hK KK
                try simp only [Act.put, List.getElem_toArray, List.getElem_cons_zero, List.getElem_cons_succ, List.setIfInBounds_toArray, List.set_cons_zero, List.set_cons_succ]
                exact E
              · go_simp
                refine hK.out _ _ trivial (fun _ => ?_)
                clear hK KK
                try simp only [Act.put, List.getElem_toArray, List.getElem_cons_zero, List.getElem_cons_succ, List.setIfInBounds_toArray, List.set_cons_zero, List.set_cons_succ]
                refine wpAnyH_ready (rs := [1, 7]) (by kernel_rfl) (by simp) ?_
                refine (AllReadyH.cons rfl (fun KK hK => ?_) (AllReadyH.cons rfl (fun KK hK => ?_) AllReadyH.nil))
                · go_simp
                  refine hK.out _ _ trivial (fun _ => ?_)
                  clear hK KK
                  try simp only [Act.put, List.getElem_toArray, List.getElem_cons_zero, List.getElem_cons_succ, List.setIfInBounds_toArray, List.set_cons_zero, List.set_cons_succ]
                  refine wpAnyH_ready (rs := [7]) (by kernel_rfl) (by simp) ?_
                  refine (AllReadyH.cons rfl (fun KK hK => ?_) AllReadyH.nil)
                  go_simp
                  refine hK.out _ _ trivial (fun _ => ?_)
                  clear hK KK
                  try simp only [Act.put, List.getElem_toArray, List.getElem_cons_zero, List.getElem_cons_succ, List.setIfInBounds_toArray, List.set_cons_zero, List.set_cons_succ]
                  exact E
                · go_simp
                  refine hK.out _ _ trivial (fun _ => ?_)
                  clear hK KK
                  try simp only [Act.put, List.getElem_toArray, List.getElem_cons_zero, List.getElem_cons_succ, List.setIfInBounds_toArray, List.set_cons_zero, List.set_cons_succ]
                  refine wpAnyH_ready (rs := [1]) (by kernel_rfl) (by simp) ?_
                  refine (AllReadyH.cons rfl (fun KK hK => ?_) AllReadyH.nil)
                  go_simp
                  refine hK.out _ _ trivial (fun _ => ?_)
                  clear hK KK
                  try simp only [Act.put, List.getElem_toArray, List.getElem_cons_zero, List.getElem_cons_succ, List.setIfInBounds_toArray, List.set_cons_zero, List.set_cons_succ]
                  exact E
          · obtain ⟨f, hown, hf⟩ := (hrow.alloc (.cells ((L c)).h.cells 30)).drew
            have Hf := Lib.hid hf
            have HIn := Lib.hid hin
            have s1 := Lib.hid (cells_new wr 30 ((L c)).h.cells)
            have s2 := Lib.hid (vh_one ((L c)).h)
            have s3 : Hid (m + 1 ≤ maxLen) := Lib.hid (by unfold maxLen; omega)
            have s4 : Hid ((m + 1) * 168 ≤ 140737488355328) := Lib.hid (by omega)
            have hwsz := hbr.size
            refine wpAnyH_ready (rs := [8]) (by kernel_rfl) (by simp) ?_
            refine AllReadyH.cons rfl (fun KK hK => ?_) AllReadyH.nil
            refine step_append_lies _ (by rfl) _ _ _ (by rfl) (w.heap.size + 4) 30 i0 _ 13 168 Tryd.underlying27 hi0 hz0 hz1 hz2 rfl (by decide) u m _ (by rfl) hown ⟨wr.heap.size, 0, none⟩ 1 1 ((L c)).h.cells.toList (by rfl) (by rfl) ?s1 s2.out (by omega) s3.out s4.out ?s5 (wr.heap.size + 1) (by simp) ?_
            case s1 => exact fun p v hv => s1.out p v hv
            case s5 => exact Nat.le_trans (show (w.heap.size + 4) ≤ wr.heap.size + 1 by omega) (Nat.le_of_eq (World.size_alloc _ _).symm)
            intro gg cap w3 hown3 hgrow hat hlt3
            have HOw := fun g (hg : u.ownBlock = some g) => hown.lt g hg
            have A := (Below.refl wr.heap.size wr).alloc (Nat.le_refl _) (.cells ((L c)).h.cells 30)
            have hrow3 : RowG (fun x : Vt => x.h.cells) id 13 30 (w.heap.size + 4) SS (fun t X => X = M t) w3 (.slice (some ⟨gg, 0, none⟩) (m + 1) cap) (m + 1) :=
              RowG.push (x := (L c)) hown Hf.out (((HIn.out.below (A.mono (by omega))).below (Below.refl _ _).drew).up (by show top ≤ (wr.alloc _).heap.size; rw [World.size_alloc]; omega)) (HIn.out.off.mono HSt.out)
                (fun g hg => HIn.out.off.mono fun b hb => by have := (HOw g hg).1; omega) HMj.out hown3 hgrow
                (by rcases hat with h | h
                    · exact .inl h.symm
                    · exact .inr (by show some gg = some (wr.alloc _).heap.size; rw [World.size_alloc, h]))
            have far : ∀ B, B < (w.heap.size + 4) → some B ≠ u.ownBlock := fun B hB e => by have := (HOw B e.symm).1; omega
            have P3 := Whole.kept (P.alloc (.cells ((L c)).h.cells 30)).drew hgrow (far _ (by omega))
            have XB3 := Whole.kept (XB.alloc (.cells ((L c)).h.cells 30)).drew hgrow (far _ (by omega))
            have Q3 := Whole.kept (Q.alloc (.cells ((L c)).h.cells 30)).drew hgrow (far _ (by omega))
            have O3 := Whole.kept (O.alloc (.cells ((L c)).h.cells 30)).drew hgrow (far _ (by omega))
            have hb3 := (hbr.alloc hbr.size (.cells ((L c)).h.cells 30)).drew.grown hgrow (by show w.heap.size ≤ (wr.alloc _).heap.size; rw [World.size_alloc]; omega) (fun g hg => by have := (HOw g hg).1; omega)
            clear hown Hf hown3 hgrow hat hrow hl P XB Q O hbr cP oO fO s1 s2 s3 s4 l0 l1 l2 l3 l4 l5 l6 l7 l8 l9 l10 l11 l12 A HOw far
            have fO := Whole.frozen O3 11
            refine hK.out _ _ trivial (fun _ => ?_)
            clear hK KK
            try simp only [Act.put, List.getElem_toArray, List.getElem_cons_zero, List.getElem_cons_succ, List.setIfInBounds_toArray, List.set_cons_zero, List.set_cons_succ]
            refine wpAnyH_take (i := 9) (v := ?v9) rfl (by kernel_rfl) (by kernel_rfl) (by kernel_rfl) (fun _ _ _ h => h) (Or.inl ⟨by rfl, ?hy9⟩) trivial ?rest9
            case hy9 => ((intro w hSw); go_simp; (try with_reducible rfl))
            case rest9 =>
            simp only [Act.put, List.getElem_toArray, List.getElem_cons_zero, List.getElem_cons_succ, List.setIfInBounds_toArray, List.set_cons_zero, List.set_cons_succ]
            refine wpAnyH_ready (rs := [10]) (by kernel_rfl) (by simp) ?_
            refine AllReadyH.cons rfl (fun KK hK => ?_) AllReadyH.nil
            have oO := Whole.cell O3 11
            simp only [List.getElem?_toArray, List.getElem?_cons_succ, List.getElem?_cons_zero] at oO
            go_simp
            refine hK.out _ _ trivial (fun _ => ?_)
            clear hK KK oO fO
            refine wpAnyH_done (by kernel_rfl) ?_ _
            have O4 := Whole.set O3 11 (.slice (some ⟨gg, 0, none⟩) (m + 1) cap)
            have P4 := Whole.far (p := ⟨w.heap.size + 1 + 1 + 1, 11, none⟩) P3 (by show w.heap.size ≠ w.heap.size + 1 + 1 + 1; omega) (.slice (some ⟨gg, 0, none⟩) (m + 1) cap)
            have XB4 := Whole.far (p := ⟨w.heap.size + 1 + 1 + 1, 11, none⟩) XB3 (by show w.heap.size + 1 ≠ w.heap.size + 1 + 1 + 1; omega) (.slice (some ⟨gg, 0, none⟩) (m + 1) cap)
            have Q4 := Whole.far (p := ⟨w.heap.size + 1 + 1 + 1, 11, none⟩) Q3 (by show w.heap.size + 1 + 1 ≠ w.heap.size + 1 + 1 + 1; omega) (.slice (some ⟨gg, 0, none⟩) (m + 1) cap)
            have hb4 := hb3.setCell (p := ⟨w.heap.size + 1 + 1 + 1, 11, none⟩) (by show w.heap.size ≤ w.heap.size + 1 + 1 + 1; omega) (.slice (some ⟨gg, 0, none⟩) (m + 1) cap)
            have hrow4 := hrow3.turn (grown_set w3 (w.heap.size + 1 + 1 + 1) 11 (.slice (some ⟨gg, 0, none⟩) (m + 1) cap)) (by omega) (fun b hb => by have hb' := HSl.out b hb; omega)
            clear P3 XB3 Q3 O3 hb3 hrow3
            go_wp2_with fail
            go_roundw
            case rel => exact ⟨c + 1, _, m + 1, by omega, by go_num, Lib.hid ⟨fun q => by omega, fun _ _ => by rw [Hm.out], fun q => by have := Hm.out; omega⟩, hrow4, P4, XB4, Q4, O4, hb4⟩
            case measure => simp [intOf]; omega
        · obtain rfl : c = ln := by omega
          have hge : ¬ ((c : Int) < (c : Int)) := Int.lt_irrefl _
          go_wp2_with fail
          clear oO fO cP
          go_roundw
          case rel => exact ⟨c + 1, _, c + 1, by omega, by go_num, Lib.hid ⟨fun q => by omega, fun _ q => by omega, fun _ => rfl⟩, hrow4, P4, XB4, Q4, O4, hb4⟩
          case measure => simp [intOf] <;> omega
      · have hne : (j == i) = false := beq_eq_false_iff_ne.2 hjeq
        have hne2 : ((j : Int) == (i : Int)) = false := beq_eq_false_iff_ne.2 (by omega)
        by_cases hjn : j < ln
        · have hji2 : (j : Int) < ln := by omega
          obtain ⟨e1, hlt⟩ := HAd.out (by omega)
          subst e1
          obtain ⟨hl, hin⟩ := HLrow.out wr hbr j hjn
          obtain ⟨m, hm, hmj, hMj, hm1⟩ : ∃ m, m = c ∧ m ≤ ln ∧ L j = M m ∧ ((j + 1 ≤ i → m + 1 = j + 1) ∧ (i < j + 1 → j + 1 ≤ ln → m + 1 = j + 1 + 1) ∧ (j + 1 = ln + 1 → m + 1 = ln + 1)) := by
            rw [HM.out]
            obtain ⟨q1, q2, q3⟩ := HCn.out
            by_cases h1 : j < i
            · have := q1 (by omega)
              exact ⟨c, rfl, by omega, by dsimp only; rw [if_pos (by omega), this], by omega, by omega, by omega⟩
            · have := q2 (by omega) hjl
              exact ⟨c, rfl, by omega, by dsimp only; rw [if_neg (by omega), if_neg (by omega), this, Nat.add_sub_cancel], by omega, by omega, by omega⟩
          subst hm
          have Hm1 := Lib.hid hm1
          have HMj := Lib.hid hMj
          clear hm1 hMj
          go_wp2_with fail
          clear hne hne2 cP
          have hOl := Whole.lt O
          have cP := Whole.cell P 11
          obtain ⟨l0, l1, l2, l3, l4, l5, l6, l7, l8, l9, l10, l11, l12⟩ := hl.c13
          have oO := Whole.cell O 11
          have fO := Whole.frozen O 11
          simp only [Vh.cells, List.getElem?_toArray, List.getElem?_cons_succ, List.getElem?_cons_zero] at oO cP
          refine wp_region_held_drew (S := fun _ => True) (by kernel_rfl) trivial (fun _ => ?_)
          refine wpAnyH_take (i := 0) (v := ?v0b) rfl (by kernel_rfl) (by kernel_rfl) (by kernel_rfl) (fun _ _ _ h => h) (Or.inl ⟨by rfl, ?hy0b⟩) trivial ?rest0b
          case hy0b => ((intro w hSw); go_simp; (try with_reducible rfl))
          case rest0b =>
          simp only [Act.put, List.getElem_toArray, List.getElem_cons_zero, List.getElem_cons_succ, List.setIfInBounds_toArray, List.set_cons_zero, List.set_cons_succ]
          refine wpAnyH_take (i := 2) (v := ?v2b) rfl (by kernel_rfl) (by kernel_rfl) (by kernel_rfl) (fun _ _ _ h => h) (Or.inl ⟨by rfl, ?hy2b⟩) trivial ?rest2b
          case hy2b => ((intro w hSw); go_simp; (try with_reducible rfl))
          case rest2b =>
          simp only [Act.put, List.getElem_toArray, List.getElem_cons_zero, List.getElem_cons_succ, List.setIfInBounds_toArray, List.set_cons_zero, List.set_cons_succ]
          refine wpAnyH_take (i := 4) (v := ?v4b) rfl (by kernel_rfl) (by kernel_rfl) (by kernel_rfl) (fun _ _ _ h => h) (Or.inl ⟨by rfl, ?hy4b⟩) trivial ?rest4b
          case hy4b => ((intro w hSw); go_simp; (try with_reducible rfl))
          case rest4b =>
          simp only [Act.put, List.getElem_toArray, List.getElem_cons_zero, List.getElem_cons_succ, List.setIfInBounds_toArray, List.set_cons_zero, List.set_cons_succ]
          apply cutAt
          · intro E
            refine wpAnyH_ready (rs := [1, 3]) (by kernel_rfl) (by simp) ?_
            refine (AllReadyH.cons rfl (fun KK hK => ?_) (AllReadyH.cons rfl (fun KK hK => ?_) AllReadyH.nil))
            · go_simp
              refine hK.out _ _ trivial (fun _ => ?_)
              clear hK KK
              try simp only [Act.put, List.getElem_toArray, List.getElem_cons_zero, List.getElem_cons_succ, List.setIfInBounds_toArray, List.set_cons_zero, List.set_cons_succ]
              refine wpAnyH_ready (rs := [3]) (by kernel_rfl) (by simp) ?_
              refine (AllReadyH.cons rfl (fun KK hK => ?_) AllReadyH.nil)
              go_simp
              refine hK.out _ _ trivial (fun _ => ?_)
              clear hK KK
              try simp only [Act.put, List.getElem_toArray, List.getElem_cons_zero, List.getElem_cons_succ, List.setIfInBounds_toArray, List.set_cons_zero, List.set_cons_succ]
              refine wpAnyH_take (i := 5) (v := ?v5b) rfl (by kernel_rfl) (by kernel_rfl) (by kernel_rfl) (fun _ _ _ h => h) (Or.inl ⟨by rfl, ?hy5b⟩) trivial ?rest5b
              case hy5b => ((intro w hSw); go_simp; (try with_reducible rfl))
              case rest5b =>
              simp only [Act.put, List.getElem_toArray, List.getElem_cons_zero, List.getElem_cons_succ, List.setIfInBounds_toArray, List.set_cons_zero, List.set_cons_succ]
              refine wpAnyH_ready (rs := [6]) (by kernel_rfl) (by simp) ?_
              refine (AllReadyH.cons rfl (fun KK hK => ?_) AllReadyH.nil)
              go_simp
              refine hK.out _ _ trivial (fun _ => ?_)
              clear hK KK
              try simp only [Act.put, List.getElem_toArray, List.getElem_cons_zero, List.getElem_cons_succ, List.setIfInBounds_toArray, List.set_cons_zero, List.set_cons_succ]
              refine wpAnyH_ready (rs := [7]) (by kernel_rfl) (by simp) ?_
              refine (AllReadyH.cons rfl (fun KK hK => ?_) AllReadyH.nil)
              go_simp
              refine hK.out _ _ trivial (fun _ => ?_)
              clear hK KK
              try simp only [Act.put, List.getElem_toArray, List.getElem_cons_zero, List.getElem_cons_succ, List.setIfInBounds_toArray, List.set_cons_zero, List.set_cons_succ]
              exact E
            · go_simp
              refine hK.out _ _ trivial (fun _ => ?_)
              clear hK KK
              try simp only [Act.put, List.getElem_toArray, List.getElem_cons_zero, List.getElem_cons_succ, List.setIfInBounds_toArray, List.set_cons_zero, List.set_cons_succ]
              refine wpAnyH_take (i := 5) (v := ?v5b) rfl (by kernel_rfl) (by kernel_rfl) (by kernel_rfl) (fun _ _ _ h => h) (Or.inl ⟨by rfl, ?hy5b⟩) trivial ?rest5b
              case hy5b => ((intro w hSw); go_simp; (try with_reducible rfl))
              case rest5b =>
              simp only [Act.put, List.getElem_toArray, List.getElem_cons_zero, List.getElem_cons_succ, List.setIfInBounds_toArray, List.set_cons_zero, List.set_cons_succ]
              refine wpAnyH_ready (rs := [1, 6]) (by kernel_rfl) (by simp) ?_
              refine (AllReadyH.cons rfl (fun KK hK => ?_) (AllReadyH.cons rfl (fun KK hK => ?_) AllReadyH.nil))
              · go_simp
                refine hK.out _ _ trivial (fun _ => ?_)
                clear hK KK
                try simp only [Act.put, List.getElem_toArray, List.getElem_cons_zero, List.getElem_cons_succ, List.setIfInBounds_toArray, List.set_cons_zero, List.set_cons_succ]
                refine wpAnyH_ready (rs := [6]) (by kernel_rfl) (by simp) ?_
                refine (AllReadyH.cons rfl (fun KK hK => ?_) AllReadyH.nil)
                go_simp
                refine hK.out _ _ trivial (fun _ => ?_)
                clear hK KK
                try simp only [Act.put, List.getElem_toArray, List.getElem_cons_zero, List.getElem_cons_succ, List.setIfInBounds_toArray, List.set_cons_zero, List.set_cons_succ]
                refine wpAnyH_ready (rs := [7]) (by kernel_rfl) (by simp) ?_
                refine (AllReadyH.cons rfl (fun KK hK => ?_) AllReadyH.nil)
                go_simp
                refine hK.out _ _ trivial (fun _ => ?_)
                clear hK KK
                try simp only [Act.put, List.getElem_toArray, List.getElem_cons_zero, List.getElem_cons_succ, List.setIfInBounds_toArray, List.set_cons_zero, List.set_cons_succ]
                exact E
              · go_simp
                refine hK.out _ _ trivial (fun _ => ?_)
                clear hK KK
                try simp only [Act.put, List.getElem_toArray, List.getElem_cons_zero, List.getElem_cons_succ, List.setIfInBounds_toArray, List.set_cons_zero, List.set_cons_succ]
                refine wpAnyH_ready (rs := [1, 7]) (by kernel_rfl) (by simp) ?_
                refine (AllReadyH.cons rfl (fun KK hK => ?_) (AllReadyH.cons rfl (fun KK hK => ?_) AllReadyH.nil))
                · go_simp
                  refine hK.out _ _ trivial (fun _ => ?_)
                  clear hK KK
                  try simp only [Act.put, List.getElem_toArray, List.getElem_cons_zero, List.getElem_cons_succ, List.setIfInBounds_toArray, List.set_cons_zero, List.set_cons_succ]
                  refine wpAnyH_ready (rs := [7]) (by kernel_rfl) (by simp) ?_
                  refine (AllReadyH.cons rfl (fun KK hK => ?_) AllReadyH.nil)
                  go_simp
                  refine hK.out _ _ trivial (fun _ => ?_)
                  clear hK KK
                  try simp only [Act.put, List.getElem_toArray, List.getElem_cons_zero, List.getElem_cons_succ, List.setIfInBounds_toArray, List.set_cons_zero, List.set_cons_succ]
                  exact E
                · go_simp
                  refine hK.out _ _ trivial (fun _ => ?_)
                  clear hK KK
                  try simp only [Act.put, List.getElem_toArray, List.getElem_cons_zero, List.getElem_cons_succ, List.setIfInBounds_toArray, List.set_cons_zero, List.set_cons_succ]
                  refine wpAnyH_ready (rs := [1]) (by kernel_rfl) (by simp) ?_
                  refine (AllReadyH.cons rfl (fun KK hK => ?_) AllReadyH.nil)
                  go_simp
                  refine hK.out _ _ trivial (fun _ => ?_)
                  clear hK KK
                  try simp only [Act.put, List.getElem_toArray, List.getElem_cons_zero, List.getElem_cons_succ, List.setIfInBounds_toArray, List.set_cons_zero, List.set_cons_succ]
                  exact E
          · obtain ⟨f, hown, hf⟩ := (hrow.alloc (.cells ((L j)).h.cells 30)).drew
            have Hf := Lib.hid hf
            have HIn := Lib.hid hin
            have s1 := Lib.hid (cells_new wr 30 ((L j)).h.cells)
            have s2 := Lib.hid (vh_one ((L j)).h)
            have s3 : Hid (m + 1 ≤ maxLen) := Lib.hid (by unfold maxLen; omega)
            have s4 : Hid ((m + 1) * 168 ≤ 140737488355328) := Lib.hid (by omega)
            have hwsz := hbr.size
            refine wpAnyH_ready (rs := [8]) (by kernel_rfl) (by simp) ?_
            refine AllReadyH.cons rfl (fun KK hK => ?_) AllReadyH.nil
            refine step_append_lies _ (by rfl) _ _ _ (by rfl) (w.heap.size + 4) 30 i0 _ 13 168 Tryd.underlying27 hi0 hz0 hz1 hz2 rfl (by decide) u m _ (by rfl) hown ⟨wr.heap.size, 0, none⟩ 1 1 ((L j)).h.cells.toList (by rfl) (by rfl) ?s1 s2.out (by omega) s3.out s4.out ?s5 (wr.heap.size + 1) (by simp) ?_
            case s1 => exact fun p v hv => s1.out p v hv
            case s5 => exact Nat.le_trans (show (w.heap.size + 4) ≤ wr.heap.size + 1 by omega) (Nat.le_of_eq (World.size_alloc _ _).symm)
            intro gg cap w3 hown3 hgrow hat hlt3
            have HOw := fun g (hg : u.ownBlock = some g) => hown.lt g hg
            have A := (Below.refl wr.heap.size wr).alloc (Nat.le_refl _) (.cells ((L j)).h.cells 30)
            have hrow3 : RowG (fun x : Vt => x.h.cells) id 13 30 (w.heap.size + 4) SS (fun t X => X = M t) w3 (.slice (some ⟨gg, 0, none⟩) (m + 1) cap) (m + 1) :=
              RowG.push (x := (L j)) hown Hf.out (((HIn.out.below (A.mono (by omega))).below (Below.refl _ _).drew).up (by show top ≤ (wr.alloc _).heap.size; rw [World.size_alloc]; omega)) (HIn.out.off.mono HSt.out)
                (fun g hg => HIn.out.off.mono fun b hb => by have := (HOw g hg).1; omega) HMj.out hown3 hgrow
                (by rcases hat with h | h
                    · exact .inl h.symm
                    · exact .inr (by show some gg = some (wr.alloc _).heap.size; rw [World.size_alloc, h]))
            have far : ∀ B, B < (w.heap.size + 4) → some B ≠ u.ownBlock := fun B hB e => by have := (HOw B e.symm).1; omega
            have P3 := Whole.kept (P.alloc (.cells ((L j)).h.cells 30)).drew hgrow (far _ (by omega))
            have XB3 := Whole.kept (XB.alloc (.cells ((L j)).h.cells 30)).drew hgrow (far _ (by omega))
            have Q3 := Whole.kept (Q.alloc (.cells ((L j)).h.cells 30)).drew hgrow (far _ (by omega))
            have O3 := Whole.kept (O.alloc (.cells ((L j)).h.cells 30)).drew hgrow (far _ (by omega))
            have hb3 := (hbr.alloc hbr.size (.cells ((L j)).h.cells 30)).drew.grown hgrow (by show w.heap.size ≤ (wr.alloc _).heap.size; rw [World.size_alloc]; omega) (fun g hg => by have := (HOw g hg).1; omega)
            clear hown Hf hown3 hgrow hat hrow hl P XB Q O hbr cP oO fO s1 s2 s3 s4 l0 l1 l2 l3 l4 l5 l6 l7 l8 l9 l10 l11 l12 A HOw far
            have fO := Whole.frozen O3 11
            refine hK.out _ _ trivial (fun _ => ?_)
            clear hK KK
            try simp only [Act.put, List.getElem_toArray, List.getElem_cons_zero, List.getElem_cons_succ, List.setIfInBounds_toArray, List.set_cons_zero, List.set_cons_succ]
            refine wpAnyH_take (i := 9) (v := ?v9b) rfl (by kernel_rfl) (by kernel_rfl) (by kernel_rfl) (fun _ _ _ h => h) (Or.inl ⟨by rfl, ?hy9b⟩) trivial ?rest9b
            case hy9b => ((intro w hSw); go_simp; (try with_reducible rfl))
            case rest9b =>
            simp only [Act.put, List.getElem_toArray, List.getElem_cons_zero, List.getElem_cons_succ, List.setIfInBounds_toArray, List.set_cons_zero, List.set_cons_succ]
            refine wpAnyH_ready (rs := [10]) (by kernel_rfl) (by simp) ?_
            refine AllReadyH.cons rfl (fun KK hK => ?_) AllReadyH.nil
            have oO := Whole.cell O3 11
            simp only [List.getElem?_toArray, List.getElem?_cons_succ, List.getElem?_cons_zero] at oO
            go_simp
            refine hK.out _ _ trivial (fun _ => ?_)
            clear hK KK oO fO
            refine wpAnyH_done (by kernel_rfl) ?_ _
            have O4 := Whole.set O3 11 (.slice (some ⟨gg, 0, none⟩) (m + 1) cap)
            have P4 := Whole.far (p := ⟨w.heap.size + 1 + 1 + 1, 11, none⟩) P3 (by show w.heap.size ≠ w.heap.size + 1 + 1 + 1; omega) (.slice (some ⟨gg, 0, none⟩) (m + 1) cap)
            have XB4 := Whole.far (p := ⟨w.heap.size + 1 + 1 + 1, 11, none⟩) XB3 (by show w.heap.size + 1 ≠ w.heap.size + 1 + 1 + 1; omega) (.slice (some ⟨gg, 0, none⟩) (m + 1) cap)
            have Q4 := Whole.far (p := ⟨w.heap.size + 1 + 1 + 1, 11, none⟩) Q3 (by show w.heap.size + 1 + 1 ≠ w.heap.size + 1 + 1 + 1; omega) (.slice (some ⟨gg, 0, none⟩) (m + 1) cap)
            have hb4 := hb3.setCell (p := ⟨w.heap.size + 1 + 1 + 1, 11, none⟩) (by show w.heap.size ≤ w.heap.size + 1 + 1 + 1; omega) (.slice (some ⟨gg, 0, none⟩) (m + 1) cap)
            have hrow4 := hrow3.turn (grown_set w3 (w.heap.size + 1 + 1 + 1) 11 (.slice (some ⟨gg, 0, none⟩) (m + 1) cap)) (by omega) (fun b hb => by have hb' := HSl.out b hb; omega)
            clear P3 XB3 Q3 O3 hb3 hrow3
            go_wp2_with fail
            go_roundw
            case rel => exact ⟨j + 1, _, m + 1, by omega, by go_num, Hm1, hrow4, P4, XB4, Q4, O4, hb4⟩
            case measure => simp [intOf]; omega
        · have hge : ¬ ((j : Int) < (ln : Int)) := by omega
          have Hc2 : Hid (c = ln + 1) := Lib.hid (by have := HCn.out.2.1 (by omega) hjl; omega)
          go_wp2_with fail
          go_roundw
          case rel => exact ⟨j + 1, u, c, by omega, by go_num, Lib.hid ⟨fun q => by omega, fun _ q => by omega, fun _ => Hc2.out⟩, hrow, P, XB, Q, O, hbr⟩
          case measure => simp [intOf]; omega
    · have hgt : ¬ ((j : Int) ≤ (ln : Int)) := by omega
      obtain rfl : c = ln + 1 := HCn.out.2.2 (by omega)
      obtain ⟨-, a', c', b1, rfl, -, -, -⟩ := RowG.done (fun x : Vt => vh_size x.h) hrow
      have HE : Hid (∀ W', Below w.heap.size w W' → RowG (fun x : Vt => x.h.cells) id 13 30 (w.heap.size + 4) SS (fun t X => X = M t) W' (.slice a' (ln + 1) c') (ln + 1) → FnS ((Vt.mk ⟨k, b', n', dd, e, tk, td, tn, tz, x, ba, bn, bc, la, ln, lc, fa, 0, fc, bb, bo, lb, lo, fb, fo⟩ Y L K F).insL i X) SS w (.returned (.agg #[.int .i64 6, .bool false, .bool false, .string ⟨#[]⟩, .int .i64 0, .int .i64 0, .int .i64 0, .int .i64 0, .int .i64 0, .string ⟨#[]⟩, .slice none 0 0, .slice a' (ln + 1) c', .slice none 0 0])) W') := Lib.hid fun W' hb hr =>
        lst_out (M := M) hr (by omega) (by omega) hb (fun t Z ht hq => by
          rw [hq, HM.out]
          dsimp only
          rcases Nat.lt_trichotomy t i with q | q | q
          · rw [if_pos q]; exact HWh.out _ (by omega)
          · rw [if_neg (by omega), if_pos q]; exact HXs.out
          · rw [if_neg (by omega), if_neg (by omega)]; exact HWh.out _ (by omega)) (fun a c b M' hM' => by rw [HM.out] at hM'; exact lst_same HOwn.out Hk.out hM')
      have Hr := Lib.hid hrow
      clear hrow HCn
      obtain ⟨c0, c1, c2, c3, c4, c5, c6, c7, c8, c9, c10, c11, c12⟩ := Whole.c13 (h := (Vh.lst 6 a' (ln + 1) c' 0)) O
      simp only [Vh.lst, Vh.cells, List.getElem?_toArray, List.getElem?_cons_succ, List.getElem?_cons_zero] at c0 c1 c2 c3 c4 c5 c6 c7 c8 c9 c10 c11 c12
      have hone := Lib.hid (vh_all (Vh.lst 6 a' (ln + 1) c' 0))
      go_wp2_with (refine wpList_store_row rfl 30 _ _ rfl (w.heap.size + 2) (Vh.lst 6 a' (ln + 1) c' 0).cells rfl rfl 30 _ Q vh_row rfl hone.out ?_)
      exact bodyPost_ret (v := .agg (Vh.lst 6 a' (ln + 1) c' 0).cells) (ret_val (p := 6) rfl rfl (Q.setRow _)) rfl (HE.out _ (below_setRow hbr (by omega) _) (Hr.out.turn (grown_row _ _ _) (by omega) (fun b hb => by have hb' := HSl.out b hb; omega)))
theorem within_any {T X : Vt} {n : Int} {top : Nat} {w : World} (hT : T.In w top) (hX : X.In w w.heap.size) {SS : Nat → Prop} (hXo : X.Off SS) (hSt : ∀ b, b < top → SS b) (hSl : ∀ b, SS b → b < w.heap.size) (ht : top ≤ w.heap.size) (ho : T.h.own = true) (hk : T.h.k = 6) (hn0 : 0 ≤ n) (hnl : n ≤ (T.h.ln : Int)) (hln : T.h.ln < 1048576) :
    Calls Tryd.prog 58 #[.agg T.h.cells, .int .i64 n, .agg X.h.cells] w (FnS (T.insL n.toNat X) SS w) := by
  cases T with
  | nil => exact hT.elim
  | mk h Y L K F =>
    obtain ⟨i, rfl⟩ := Int.eq_ofNat_of_zero_le hn0
    exact withinL hT hX hXo hSt hSl ht ho hk (by have q : (i : Int) ≤ (h.ln : Int) := hnl; omega) hln
end Go.Proofs.YtfkfboiblgoamaaDoor
