/- Decimals: sums of lists, the reference's. -/
import Derived.Test.YtcnfgcdbjofihaaDoorDecSumL
import Derived.Deep.DeepCutAuto
namespace Go.Proofs.YtcnfgcdbjofihaaDoor
open Go.RowKit

set_option maxHeartbeats 4000000 in
set_option maxRecDepth 100000 in
theorem rsum_some {b o n c : Nat} {D : Nat → Dec.Dc} (hD : ∀ i, i < n → Dec.ok (D i)) (w : World) (hL : Dec.Lst w b o n D) (hb : b < w.heap.size) (hn : n ≤ 20) :
    Calls Tryd.prog 31 #[.slice (some ⟨b, o, none⟩) n c] w fun r w' => r = .returned (.tuple #[Dec.ag (Dec.accR D n).1, .int .i64 (Dec.accR D n).2]) ∧ Below w.heap.size w w' := by
  have HD := Lib.hid hD
  have HLL := Lib.hid hL
  have HB := Lib.hid hb
  clear hD hL hb
  have K := B2.new w false ⟨#[]⟩ 0 false ⟨#[]⟩ 0
  have P0 := K.one
  have P1 := K.two
  have hbb := K.below
  clear K
  have hn0 : (0 : Int) ≤ n := by omega
  have hn20 : (n : Int) ≤ 20 := by omega
  go_enter Tryd.func31, Tryd.ntmps31
  go_wp2_with fail
  go_loopw [5] (fun i wr => ∃ k : Nat, k ≤ n ∧ i = .int .i64 k ∧ (Dec.accR D k).2 = 0 ∧ Whole wr w.heap.size 23 #[.bool false, .string ⟨#[]⟩, .int .i64 0] ∧ Whole wr (w.heap.size + 1) 23 #[.bool (Dec.accR D k).1.neg, .string (Dig.st (Dec.accR D k).1.m), .int .i64 (Dec.accR D k).1.e] ∧ Below w.heap.size w wr) (fun i _ => n - (intOf i).toNat)
  case atStart => exact ⟨0, by omega, rfl, rfl, P0, by show Whole _ _ _ #[.bool false, .string (Dig.st 0), .int .i64 0]; rw [Dec.st0]; exact P1, hbb⟩
  case round =>
    clear P0 P1 hbb
    obtain ⟨k, hk, rfl, hk0, Q0, Q1, hbr⟩ := hrel
    have hki : (0 : Int) ≤ k := by omega
    by_cases hkn : k < n
    · obtain ⟨l0, l1, l2⟩ := (HLL.out.below hbr HB.out) k hkn
      have hki2 : (k : Int) < n := by omega
      have hbw := Nat.lt_of_lt_of_le HB.out hbr.size
      have o2 := HD.out k hkn
      have o1 := Dec.acc_ok HD.out k (by omega)
      have hacc : Dec.accR D (k + 1) = (if (Dec.addR (Dec.accR D k).1 (D k)).2 = 0 then Dec.addR (Dec.accR D k).1 (D k) else (Dec.z0, (Dec.addR (Dec.accR D k).1 (D k)).2)) := by
        show (if (Dec.accR D k).2 = 0 then _ else _) = _
        rw [if_pos hk0]
      have hst := Lib.hid (fun (h : (Dec.accR D (k + 1)).2 ≠ 0) => Dec.acc_stays D h n (by omega))
      generalize D k = d at *
      generalize (Dec.accR D k).1 = a at *
      obtain ⟨R, hR⟩ : ∃ R, Dec.addR a d = R := ⟨_, rfl⟩
      rw [hR] at hacc
      obtain ⟨⟨rg, rm, re⟩, rr⟩ := R
      obtain ⟨q, hq⟩ : ∃ q, Dig.st rm = q := ⟨_, rfl⟩
      have HA := Lib.hid (fun w => radd_leaf o1 o2 hR hq w)
      obtain ⟨an, am, ae⟩ := a
      obtain ⟨dn, dm, de⟩ := d
      unfold Dec.ag at HA
      dsimp only at HA l0 l1 l2 Q1 hacc
      have HQ := Lib.hid hq
      have HACC := Lib.hid hacc
      clear hacc hk0 o1 o2 hR hq hkn
      generalize Dig.st am = x at *
      generalize Dig.st dm = y at *
      obtain ⟨c0, c1, c2⟩ := Q1.c3
      have f1 := Q1.frozen
      go_upto_region 6 with fail
      go_cut [6] (fun t wx => t = .int .i64 rr ∧ Whole wx w.heap.size 23 #[.bool false, .string ⟨#[]⟩, .int .i64 0] ∧ Whole wx (w.heap.size + 1) 23 #[.bool rg, .string q, .int .i64 re] ∧ Below w.heap.size w wx)
      case first =>
        clear hst HACC HQ
        replace Q0 := Q0.drew
        replace Q1 := Q1.drew
        replace hbr := hbr.drew
        go_region_with (first
          | (go_at_call 25; refine (HA.out _).mono ?_; rintro _ w1 ⟨rfl, hb1⟩; replace Q0 := Q0.below hb1 Q0.lt; replace Q1 := Q1.below hb1 Q1.lt; replace hbr := below_then hbr hb1; clear hb1 c0 c1 c2 l0 l1 l2 f1; obtain ⟨c0, c1, c2⟩ := Q1.c3; have f1 := Q1.frozen))
        all_goals
          go_wp2_with fail
          go_meet
          refine ⟨rfl, ?_, Q1.s3 _ _ _, ?_⟩
          · exact ((Q0.far (p := ⟨w.heap.size + 1, 0, none⟩) (by simp) _).far (p := ⟨w.heap.size + 1, 1, none⟩) (by simp) _).far (p := ⟨w.heap.size + 1, 2, none⟩) (by simp) _
          · exact ((hbr.setCell (p := ⟨w.heap.size + 1, 0, none⟩) (Nat.le_add_right _ _) _).setCell (p := ⟨w.heap.size + 1, 1, none⟩) (Nat.le_add_right _ _) _).setCell (p := ⟨w.heap.size + 1, 2, none⟩) (Nat.le_add_right _ _) _
      case rest =>
      obtain ⟨rfl, R0, R1, hbb⟩ := hcut
      clear hbr l0 l1 l2 c0 c1 c2 f1 HA Q0 Q1
      obtain ⟨r0, r1, r2⟩ := R0.c3
      have f0 := R0.frozen
      by_cases h0 : rr = 0
      · have d1 : (rr != 0) = false := by simpa using h0
        have ha := HACC.out
        rw [if_pos h0] at ha
        have HF := Lib.hid ha
        clear ha hst HACC
        go_wp2_with fail
        go_roundw
        case rel =>
          refine ⟨k + 1, by omega, by go_num, by rw [HF.out, h0], R0, ?_, hbb⟩
          rw [HF.out]
          dsimp only
          rw [HQ.out]
          exact R1
        case measure => simp [intOf]; omega
      · have d1 : (rr != 0) = true := by simpa using h0
        have ha := HACC.out
        rw [if_neg h0] at ha
        have HF : Hid (Dec.accR D n = (Dec.z0, rr)) := Lib.hid (by rw [hst.out (by rw [ha]; exact h0), ha])
        have hfin := R0.s3 (.bool false) (.string ⟨#[]⟩) (.int .i64 0)
        clear ha hst HACC
        go_wp2_with fail
        exact bodyPost_ret (v := .tuple #[.agg #[.bool false, .string ⟨#[]⟩, .int .i64 0], .int .i64 rr]) (by simp [results, Tryd.results31, go_sem, hfin.c3]) rfl ⟨by rw [HF.out, ← Dec.ag_z0], ((hbb.setCell (p := ⟨w.heap.size, 0, none⟩) (Nat.le_refl _) _).setCell (p := ⟨w.heap.size, 1, none⟩) (Nat.le_refl _) _).setCell (p := ⟨w.heap.size, 2, none⟩) (Nat.le_refl _) _⟩
    · obtain rfl : k = n := by omega
      have hd : decide ((k : Int) < k) = false := decide_eq_false (by omega)
      obtain ⟨an, am, ae, hA⟩ : ∃ an am ae, Dec.accR D k = (⟨an, am, ae⟩, 0) := ⟨_, _, _, Prod.ext rfl hk0⟩
      rw [hA] at Q1
      dsimp only at Q1
      have HAcc := Lib.hid hA
      obtain ⟨c0, c1, c2⟩ := Q1.c3
      obtain ⟨r0, r1, r2⟩ := Q0.c3
      have f0 := Q0.frozen
      obtain ⟨x, hx⟩ : ∃ x, Dig.st am = x := ⟨_, rfl⟩
      rw [hx] at c1
      have HX := Lib.hid hx
      clear hkn hA hk0 Q1 hx
      go_wp2_with fail
      have hfin := Q0.s3 (.bool an) (.string x) (.int .i64 ae)
      exact bodyPost_ret (v := .tuple #[.agg #[.bool an, .string x, .int .i64 ae], .int .i64 0]) (by simp [results, Tryd.results31, go_sem, hfin.c3]) rfl ⟨by rw [HAcc.out, ← HX.out]; rfl, ((hbr.setCell (p := ⟨w.heap.size, 0, none⟩) (Nat.le_refl _) _).setCell (p := ⟨w.heap.size, 1, none⟩) (Nat.le_refl _) _).setCell (p := ⟨w.heap.size, 2, none⟩) (Nat.le_refl _) _⟩
end Go.Proofs.YtcnfgcdbjofihaaDoor
