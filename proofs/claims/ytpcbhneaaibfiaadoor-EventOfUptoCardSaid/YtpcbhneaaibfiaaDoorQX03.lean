/- Laid together for a claim: EvLawO. -/
import Derived.Test.YtpcbhneaaibfiaaDoorQB33
import Derived.Test.YtpcbhneaaibfiaaDoorQB32
import Derived.Test.YtpcbhneaaibfiaaDoorQX02
import Derived.Test.YtpcbhneaaibfiaaDoorQB31
import Derived.Deep.RegionHeld3
/- EventOf: the walk. -/
namespace Go.Proofs.YtpcbhneaaibfiaaDoor
open Go.RowKit
set_option linter.unusedSimpArgs false
set_option linter.unusedVariables false

theorem look_size2 {T : Vt} (hw : T.whole) (h : (T.look 1 0).2 = 0) : T.size ≤ 65536 := by
  have h1 := (Vt.look_ok (d := 1) (s := 0) hw h).2.2
  have h2 := Vt.look_bd T 1 0 (by decide)
  have h3 : (T.look 1 0).1 = ((0 : Int) + T.size) := h1
  omega
theorem rofs_any {T : Vt} {top : Nat} {w : World} (hT : T.In w top) (ht : top ≤ w.heap.size) (hg : T.good) (hl : (evs T).length ≤ 1000000) : Calls Tryd.prog 14 #[.agg T.h.cells] w fun e w' => ∃ p : Evs, e = .returned (.slice p.a p.n p.c) ∧ p.In w' w'.heap.size ∧ SameL p.list (evs T) ∧ Below w.heap.size w w' := by
  refine (rof_any T top w hT ht hg hl).mono fun e w' hr => ?_
  obtain ⟨a, c, rfl, h1, h2⟩ := hr
  obtain ⟨p, h3, h4, h5, -, -⟩ := h1.evs (by omega)
  exact ⟨p, by rw [h3], h4, h5, h2⟩
set_option maxHeartbeats 8000000 in
set_option maxRecDepth 100000 in
theorem walk_EventOf (W : World) (T : Vt) (hT : T.In W W.heap.size) : Calls Tryd.prog 3 #[.agg T.h.cells] W fun e W' => e = .returned (.bool true) ∧ Below W.heap.size W W' := by
  have hb0 := (Below.refl W.heap.size W).alloc (Nat.le_refl _) (.cells T.h.cells 30)
  have P := Whole.new W 30 T.h.cells
  have HFit := Lib.hid (fit_any (T := T) (w := W.alloc (.cells T.h.cells 30)) (Vt.In.below hb0 hT) hb0.size)
  have HLiv := Lib.hid (fun (w1 : World) => lives_any w1)
  have HOf := Lib.hid (fun (w1 : World) (hb : Below W.heap.size W w1) (hl : (T.look 1 0).2 = 0) => ofs_any (T := T) (Vt.In.below hb hT) hb.size (look_size2 hT.whole hl) (Vt.upto_le (Vt.look_ok (d := 1) (s := 0) hT.whole hl).2.1 (by decide)))
  have HRf := Lib.hid (fun (w1 : World) (hb : Below W.heap.size W w1) (hl : (T.look 1 0).2 = 0) => rofs_any (T := T) (Vt.In.below hb hT) hb.size (Vt.look_ok (d := 1) (s := 0) hT.whole hl).1 (by have := evs_len T; have := look_size2 hT.whole hl; omega))
  have HRs := Lib.hid (fun (p q : Evs) (w1 : World) (hp : p.In w1 w1.heap.size) (hq : q.In w1 w1.heap.size) => rsame_any hp hq (Nat.le_refl _))
  obtain ⟨c0, c1, c2, c3, c4, c5, c6, c7, c8, c9, c10, c11, c12⟩ := Whole.c13 (h := T.h) P
  clear hT
  obtain ⟨N, hN⟩ : ∃ N, evs T = N := ⟨_, rfl⟩
  unfold OfsOut at HOf
  simp only [hN] at HOf HRf
  obtain ⟨h, hh⟩ : ∃ h, T.h = h := ⟨_, rfl⟩
  rw [hh] at hb0 P HFit HOf HRf c0 c1 c2 c3 c4 c5 c6 c7 c8 c9 c10 c11 c12 ⊢
  clear hh hN
  simp only [Vh.cells] at hb0 P HFit HOf HRf c0 c1 c2 c3 c4 c5 c6 c7 c8 c9 c10 c11 c12 ⊢
  go_enter Tryd.func3, Tryd.ntmps3
  go_wp2_with fail
  refine HFit.out.mono ?_; rintro _ w1 ⟨c, rfl, hc, hb1⟩
  have g1 := below_then hb0 hb1
  have P1 := P.below hb1 P.lt
  have Hc := Lib.hid hc
  clear HFit hb0 hb1 P hc c0 c1 c2 c3 c4 c5 c6 c7 c8 c9 c10 c11 c12
  cases c
  · clear HOf HRf HRs Hc P1
    go_wp2_with fail
    refine (HLiv.out w1).mono ?_; rintro _ w2 ⟨rfl, hb2⟩
    have g2 := below_then g1 hb2
    clear g1 hb2 HLiv
    go_wp2
    (first | exact ⟨rfl, g2⟩ | (go_ret; exact ⟨rfl, g2⟩))
  have HL := Lib.hid (Hc.out (by trivial))
  clear Hc
  go_wp2_with fail
  refine wp_region_held_drew (S := fun V => Whole V W.heap.size 30 #[.int .i64 h.k, .bool h.b, .bool h.n, .string h.d, .int .i64 h.e, .int .i64 h.tk, .int .i64 h.td, .int .i64 h.tn, .int .i64 h.tz, .string h.x, .slice h.ba h.bn h.bc, .slice h.la h.ln h.lc, .slice h.fa h.fn h.fc]) (by kernel_rfl) (Whole.drew P1) (fun hS => ?_)
  refine wpAnyH_take (i := 0) (v := ?v0x1) rfl (by kernel_rfl) (by kernel_rfl) (by kernel_rfl) (fun _ _ _ h => h) (Or.inl ⟨by rfl, ?hy0x1⟩) hS ?rest0x1
  case hy0x1 => (intro wS hSw; have z0 := Whole.cell hSw 0; have z1 := Whole.cell hSw 1; have z2 := Whole.cell hSw 2; have z3 := Whole.cell hSw 3; have z4 := Whole.cell hSw 4; have z5 := Whole.cell hSw 5; have z6 := Whole.cell hSw 6; have z7 := Whole.cell hSw 7; have z8 := Whole.cell hSw 8; have z9 := Whole.cell hSw 9; have z10 := Whole.cell hSw 10; have z11 := Whole.cell hSw 11; have z12 := Whole.cell hSw 12; simp only [List.getElem?_toArray, List.getElem?_cons_succ, List.getElem?_cons_zero] at z0 z1 z2 z3 z4 z5 z6 z7 z8 z9 z10 z11 z12; go_simp; (try with_reducible rfl))
  case rest0x1 =>
  simp only [Act.put, List.getElem_toArray, List.getElem_cons_zero, List.getElem_cons_succ, List.setIfInBounds_toArray, List.set_cons_zero, List.set_cons_succ]
  refine wpAnyH_take (i := 2) (v := ?v2x2) rfl (by kernel_rfl) (by kernel_rfl) (by kernel_rfl) (fun _ _ _ h => h) (Or.inl ⟨by rfl, ?hy2x2⟩) hS ?rest2x2
  case hy2x2 => (intro wS hSw; have z0 := Whole.cell hSw 0; have z1 := Whole.cell hSw 1; have z2 := Whole.cell hSw 2; have z3 := Whole.cell hSw 3; have z4 := Whole.cell hSw 4; have z5 := Whole.cell hSw 5; have z6 := Whole.cell hSw 6; have z7 := Whole.cell hSw 7; have z8 := Whole.cell hSw 8; have z9 := Whole.cell hSw 9; have z10 := Whole.cell hSw 10; have z11 := Whole.cell hSw 11; have z12 := Whole.cell hSw 12; simp only [List.getElem?_toArray, List.getElem?_cons_succ, List.getElem?_cons_zero] at z0 z1 z2 z3 z4 z5 z6 z7 z8 z9 z10 z11 z12; go_simp; (try with_reducible rfl))
  case rest2x2 =>
  simp only [Act.put, List.getElem_toArray, List.getElem_cons_zero, List.getElem_cons_succ, List.setIfInBounds_toArray, List.set_cons_zero, List.set_cons_succ]
  have g2 := g1.drew
  have P2 : Whole w1.drew W.heap.size 30 #[.int .i64 h.k, .bool h.b, .bool h.n, .string h.d, .int .i64 h.e, .int .i64 h.tk, .int .i64 h.td, .int .i64 h.tn, .int .i64 h.tz, .string h.x, .slice h.ba h.bn h.bc, .slice h.la h.ln h.lc, .slice h.fa h.fn h.fc] := P1
  clear g1 P1
  generalize w1.drew = w2 at *
  refine wpAnyH_ready (rs := [1]) (by kernel_rfl) (by simp) ?_
  refine AllReadyH.cons rfl (fun KK hK => ?_) AllReadyH.nil
  go_simp
  go_at_call 13
  refine (HOf.out w2 g2 HL.out).mono ?_; rintro _ w3 ⟨p, rfl, hp, hps, -, -, hbw3⟩
  have g3 := below_then g2 hbw3
  have P3 := P2.below hbw3 P2.lt
  have Hp := Lib.hid hp
  have Hps := Lib.hid hps
  clear hp hps
  refine hK.out _ _ P3 (fun hS3 => ?_)
  clear hK KK
  try simp only [Act.put, List.getElem_toArray, List.getElem_cons_zero, List.getElem_cons_succ, List.setIfInBounds_toArray, List.set_cons_zero, List.set_cons_succ]
  refine wpAnyH_ready (rs := [3]) (by kernel_rfl) (by simp) ?_
  refine AllReadyH.cons rfl (fun KK hK => ?_) AllReadyH.nil
  go_simp
  go_at_call 14
  refine (HRf.out w3 g3 HL.out).mono ?_; rintro _ w4 ⟨q, rfl, hq, hqs, hbw4⟩
  have g4 := below_then g3 hbw4
  have P4 := P3.below hbw4 P3.lt
  have Hq := Lib.hid hq
  have Hqs := Lib.hid hqs
  clear hq hqs
  have Hpx := Lib.hid ((Evs.In.below Hp.out hbw4).up hbw4.size)
  have Hqx := Hq
  clear hbw3 hbw4 HOf HRf
  refine hK.out _ _ P4 (fun hS4 => ?_)
  clear hK KK
  try simp only [Act.put, List.getElem_toArray, List.getElem_cons_zero, List.getElem_cons_succ, List.setIfInBounds_toArray, List.set_cons_zero, List.set_cons_succ]
  refine wpAnyH_ready (rs := [4]) (by kernel_rfl) (by simp) ?_
  refine AllReadyH.cons rfl (fun KK hK => ?_) AllReadyH.nil
  go_simp
  go_at_call 12
  have HR := Lib.hid (HRs.out p q w4 Hpx.out Hqx.out)
  rw [sameL_iff.2 (Hps.out.trans Hqs.out.symm)] at HR
  refine HR.out.mono ?_; rintro _ w5 ⟨rfl, hb5⟩
  have g5 := below_then g4 hb5
  have P5 := P4.below hb5 P4.lt
  clear HR hb5 HRs
  refine hK.out _ _ P5 (fun hS5 => ?_)
  clear hK KK
  try simp only [Act.put, List.getElem_toArray, List.getElem_cons_zero, List.getElem_cons_succ, List.setIfInBounds_toArray, List.set_cons_zero, List.set_cons_succ]
  refine wpAnyH_take (i := 5) (v := ?v5x3) rfl (by kernel_rfl) (by kernel_rfl) (by kernel_rfl) (fun _ _ _ h => h) (Or.inl ⟨by rfl, ?hy5x3⟩) hS5 ?rest5x3
  case hy5x3 => (intro wS hSw; go_simp; (try with_reducible rfl))
  case rest5x3 =>
  simp only [Act.put, List.getElem_toArray, List.getElem_cons_zero, List.getElem_cons_succ, List.setIfInBounds_toArray, List.set_cons_zero, List.set_cons_succ]
  refine wpAnyH_ready (rs := [6]) (by kernel_rfl) (by simp) ?_
  refine AllReadyH.cons rfl (fun KK hK => ?_) AllReadyH.nil
  rw [if_pos (by rfl)]
  go_simp
  go_at_call 11
  refine (HLiv.out w5).mono ?_; rintro _ w6 ⟨rfl, hb6⟩
  have g6 := below_then g5 hb6
  have P6 := P5.below hb6 P5.lt
  refine hK.out _ _ P6 (fun hS6 => ?_)
  clear hK KK
  try simp only [Act.put, List.getElem_toArray, List.getElem_cons_zero, List.getElem_cons_succ, List.setIfInBounds_toArray, List.set_cons_zero, List.set_cons_succ]
  refine wpAnyH_take (i := 7) (v := ?v7x4) rfl (by kernel_rfl) (by kernel_rfl) (by kernel_rfl) (fun _ _ _ h => h) (Or.inl ⟨by rfl, ?hy7x4⟩) hS6 ?rest7x4
  case hy7x4 => (intro wS hSw; go_simp; (try with_reducible rfl))
  case rest7x4 =>
  simp only [Act.put, List.getElem_toArray, List.getElem_cons_zero, List.getElem_cons_succ, List.setIfInBounds_toArray, List.set_cons_zero, List.set_cons_succ]
  refine wpAnyH_take (i := 8) (v := ?v8x5) rfl (by kernel_rfl) (by kernel_rfl) (by kernel_rfl) (fun _ _ _ h => h) (Or.inl ⟨by rfl, ?hy8x5⟩) hS6 ?rest8x5
  case hy8x5 => (intro wS hSw; go_simp; (try with_reducible rfl))
  case rest8x5 =>
  simp only [Act.put, List.getElem_toArray, List.getElem_cons_zero, List.getElem_cons_succ, List.setIfInBounds_toArray, List.set_cons_zero, List.set_cons_succ]
  refine wpAnyH_done (by kernel_rfl) ?_ _
  clear hS hS3 hS4 hS5 hS6 P2 P3 P4 P5 P6 g2 g3 g4 g5 hb6 HLiv
  go_wp2
  (first | exact ⟨rfl, g6⟩ | (go_ret; exact ⟨rfl, g6⟩))
end Go.Proofs.YtpcbhneaaibfiaaDoor
