/- Laid together for a claim: VkChkF, VkChk, VtRes, VtPath. -/
import Derived.Test.YtfkfboiblgoamaaDoorQB10
import Derived.Test.YtfkfboiblgoamaaDoorQB11
import Derived.Test.YtfkfboiblgoamaaDoorQB12
import Derived.Test.YtfkfboiblgoamaaDoorQB09
import Derived.Test.YtfkfboiblgoamaaDoorQB05
/- The program's value.check: kind F. -/
namespace Go.Proofs.YtfkfboiblgoamaaDoor
open Go.RowKit
set_option linter.unusedSimpArgs false
set_option linter.unusedVariables false
set_option maxHeartbeats 4000000 in
set_option maxRecDepth 100000 in
theorem chkF_keys {b n : Bool} {dd : ByteArray} {e tk td tn tz : Int} {x : ByteArray} {ba : Option Addr} {bc : Nat} {la : Option Addr} {lc : Nat} {fa : Option Addr} {fn fc bb bo lb lo fb fo : Nat} {Y : Nat → Int} {L : Nat → Vt} {K : Nat → ByteArray} {F : Nat → Vt} {d s : Int} {top B : Nat} {w : World} (hT : (Vt.mk ⟨7, b, n, dd, e, tk, td, tn, tz, x, ba, 0, bc, la, 0, lc, fa, fn, fc, bb, bo, lb, lo, fb, fo⟩ Y L K F).In w top) (ht : top ≤ B) (hB : Whole w B 3 #[.int .i64 s]) (d0 : 0 ≤ d) (s0 : 0 ≤ s) (h : d ≤ 48) (s1 : s ≤ 65535) (he : Vh.ext ⟨7, b, n, dd, e, tk, td, tn, tz, x, ba, 0, bc, la, 0, lc, fa, fn, fc, bb, bo, lb, lo, fb, fo⟩ = false) (hx : x.size ≤ 65536) (hkk : keysE K fn ≠ 0) :
    Calls Tryd.prog 54 #[.agg #[.int .i64 7, .bool b, .bool n, .string dd, .int .i64 e, .int .i64 tk, .int .i64 td, .int .i64 tn, .int .i64 tz, .string x, .slice ba 0 bc, .slice la 0 lc, .slice fa fn fc], .int .i64 d, .pointer (some ⟨B, 0, none⟩)] w (ChkOut (s, keysE K fn) B w) := by
  obtain ⟨E, hE⟩ : ∃ E, keysE K fn = E := ⟨_, rfl⟩
  rw [hE] at hkk ⊢
  have z1 : (E == 0) = false := beq_eq_false_iff_ne.2 hkk
  have z2 : (E != 0) = true := bne_iff_ne.2 hkk
  have HX := Lib.hid (ext_any ⟨7, b, n, dd, e, tk, td, tn, tz, x, ba, 0, bc, la, 0, lc, fa, fn, fc, bb, bo, lb, lo, fb, fo⟩ ⟨by show (0 : Int) ≤ 7; decide, by show (7 : Int) ≤ 7; decide⟩)
  rw [he] at HX
  simp only [Vh.cells] at HX
  clear he
  have hxi : (x.size : Int) ≤ 65536 := by omega
  have hBl := hB.lt
  have hz0 : (w.setCell ⟨B, 0, none⟩ (.int .i64 (s + 1))).heap.size = w.heap.size := by simp [World.setCell]
  have P1 := Whole.new (w.setCell ⟨B, 0, none⟩ (.int .i64 (s + 1))) 30 #[.int .i64 7, .bool b, .bool n, .string dd, .int .i64 e, .int .i64 tk, .int .i64 td, .int .i64 tn, .int .i64 tz, .string x, .slice ba 0 bc, .slice la 0 lc, .slice fa fn fc]
  rw [hz0] at P1
  have B1 := (hB.s (.int .i64 (s + 1))).alloc (.cells #[.int .i64 7, .bool b, .bool n, .string dd, .int .i64 e, .int .i64 tk, .int .i64 td, .int .i64 tn, .int .i64 tz, .string x, .slice ba 0 bc, .slice la 0 lc, .slice fa fn fc] 30)
  have K1 : Kept (· = B) w ((w.setCell ⟨B, 0, none⟩ (.int .i64 (s + 1))).alloc (.cells #[.int .i64 7, .bool b, .bool n, .string dd, .int .i64 e, .int .i64 tk, .int .i64 td, .int .i64 tn, .int .i64 tz, .string x, .slice ba 0 bc, .slice la 0 lc, .slice fa fn fc] 30)) := (Kept.setB w B (.int .i64 (s + 1))).then ((Below.refl _ _).alloc (Nat.le_refl _) _)
  have bc0 := hB.cell 0
  have bf0 := hB.frozen 0
  clear hz0
  simp only [List.getElem?_toArray, List.getElem?_cons_zero] at bc0
  have HTk := Lib.hid (fun (w1 : World) (h : Kept (· = B) w w1) => Vt.In.below (h.below (Nat.le_of_lt (Nat.lt_of_le_of_lt ht hBl)) (fun c q e => by omega)) hT)
  have HKy := Lib.hid (fun (w1 : World) (h : Kept (· = B) w w1) => show Calls Tryd.prog 67 #[.slice fa fn fc] w1 fun r w' => r = .returned (.int .i64 (keysE K fn)) ∧ Below w1.heap.size w1 w' from vkeys_any (T := (Vt.mk ⟨7, b, n, dd, e, tk, td, tn, tz, x, ba, 0, bc, la, 0, lc, fa, fn, fc, bb, bo, lb, lo, fb, fo⟩ Y L K F)) (top := top) (HTk.out w1 h) (by have := h.size; omega))
  rw [hE] at HKy
  have HkE := Lib.hid hkk
  clear HTk hE hkk
  clear hT hB
  go_enter Tryd.func54, Tryd.ntmps54
  go_upto_region 2 with (fail)
  have hW : ∃ w1, (w.setCell ⟨B, 0, none⟩ (.int .i64 (s + 1))).alloc (.cells #[.int .i64 7, .bool b, .bool n, .string dd, .int .i64 e, .int .i64 tk, .int .i64 td, .int .i64 tn, .int .i64 tz, .string x, .slice ba 0 bc, .slice la 0 lc, .slice fa fn fc] 30) = w1 := ⟨_, rfl⟩
  obtain ⟨w1, hw1⟩ := hW
  rw [hw1] at P1 B1 K1 ⊢
  clear hw1 bc0 bf0
  have bc1 := B1.cell 0
  simp only [List.getElem?_toArray, List.getElem?_cons_zero] at bc1
  obtain ⟨c0, c1, c2, c3, c4, c5, c6, c7, c8, c9, c10, c11, c12⟩ := Whole.c13 (h := ⟨7, b, n, dd, e, tk, td, tn, tz, x, ba, 0, bc, la, 0, lc, fa, fn, fc, bb, bo, lb, lo, fb, fo⟩) P1
  go_wp2_with fail
  refine (HX.out _).mono ?_; rintro _ w2 ⟨rfl, hb2⟩
  have P2 := P1.below hb2 P1.lt
  have B2 := B1.below hb2 B1.lt
  have K2 := K1.then hb2
  clear c0 c1 c2 c3 c4 c5 c6 c7 c8 c9 c10 c11 c12 bc1 P1 B1 K1 hb2
  have bc2 := B2.cell 0
  simp only [List.getElem?_toArray, List.getElem?_cons_zero] at bc2
  obtain ⟨c0, c1, c2, c3, c4, c5, c6, c7, c8, c9, c10, c11, c12⟩ := Whole.c13 (h := ⟨7, b, n, dd, e, tk, td, tn, tz, x, ba, 0, bc, la, 0, lc, fa, fn, fc, bb, bo, lb, lo, fb, fo⟩) P2
  go_wp2_with fail
  refine (HKy.out _ K2).mono ?_; rintro _ w3 ⟨rfl, hb3⟩
  have P3 := P2.below hb3 P2.lt
  have B3 := B2.below hb3 B2.lt
  have K3 := K2.then hb3
  clear c0 c1 c2 c3 c4 c5 c6 c7 c8 c9 c10 c11 c12 bc2 P2 B2 K2 hb3
  have bc3 := B3.cell 0
  simp only [List.getElem?_toArray, List.getElem?_cons_zero] at bc3
  obtain ⟨c0, c1, c2, c3, c4, c5, c6, c7, c8, c9, c10, c11, c12⟩ := Whole.c13 (h := ⟨7, b, n, dd, e, tk, td, tn, tz, x, ba, 0, bc, la, 0, lc, fa, fn, fc, bb, bo, lb, lo, fb, fo⟩) P3
  go_wp2
  go_ret
  exact ⟨_, rfl, B3, fun q => absurd (show E = 0 from q) HkE.out, K3⟩
set_option maxHeartbeats 4000000 in
set_option maxRecDepth 100000 in
theorem chkF_ok {b n : Bool} {dd : ByteArray} {e tk td tn tz : Int} {x : ByteArray} {ba : Option Addr} {bc : Nat} {la : Option Addr} {lc : Nat} {fa : Option Addr} {fn fc bb bo lb lo fb fo : Nat} {Y : Nat → Int} {L : Nat → Vt} {K : Nat → ByteArray} {F : Nat → Vt} {d s : Int} {top B : Nat} {w : World} (hT : (Vt.mk ⟨7, b, n, dd, e, tk, td, tn, tz, x, ba, 0, bc, la, 0, lc, fa, fn, fc, bb, bo, lb, lo, fb, fo⟩ Y L K F).In w top) (ht : top ≤ B) (hB : Whole w B 3 #[.int .i64 s]) (d0 : 0 ≤ d) (s0 : 0 ≤ s) (h : d ≤ 48) (s1 : s ≤ 65535) (he : Vh.ext ⟨7, b, n, dd, e, tk, td, tn, tz, x, ba, 0, bc, la, 0, lc, fa, fn, fc, bb, bo, lb, lo, fb, fo⟩ = false) (ih : ∀ i, i < fn → ChkIs (F i)) (hx : x.size ≤ 65536) (hkk : keysE K fn = 0) :
    Calls Tryd.prog 54 #[.agg #[.int .i64 7, .bool b, .bool n, .string dd, .int .i64 e, .int .i64 tk, .int .i64 td, .int .i64 tn, .int .i64 tz, .string x, .slice ba 0 bc, .slice la 0 lc, .slice fa fn fc], .int .i64 d, .pointer (some ⟨B, 0, none⟩)] w (ChkOut (foldE (fun i t => (F i).look (d + 1) t) fn (s + 1)) B w) := by
  have hnb : fn ≤ 1048576 := hT.1.fn
  have hni : (fn : Int) ≤ 1048576 := by omega
  obtain ⟨f, hf⟩ : ∃ f, (fun i t => (F i).look (d + 1) t) = f := ⟨_, rfl⟩
  rw [hf]
  have HF : Hid (∀ j, s + 1 ≤ (foldE f j (s + 1)).1 ∧ (foldE f j (s + 1)).1 ≤ 65536) := Lib.hid fun j => foldE_bd (by omega) (fun i t ht => by rw [← hf]; exact Vt.look_bd (F i) (d + 1) t ht) j
  have HI := Lib.hid ih
  have Hf := Lib.hid hf
  clear ih hf
  have HX := Lib.hid (ext_any ⟨7, b, n, dd, e, tk, td, tn, tz, x, ba, 0, bc, la, 0, lc, fa, fn, fc, bb, bo, lb, lo, fb, fo⟩ ⟨by show (0 : Int) ≤ 7; decide, by show (7 : Int) ≤ 7; decide⟩)
  rw [he] at HX
  simp only [Vh.cells] at HX
  clear he
  have hxi : (x.size : Int) ≤ 65536 := by omega
  have hBl := hB.lt
  have hz0 : (w.setCell ⟨B, 0, none⟩ (.int .i64 (s + 1))).heap.size = w.heap.size := by simp [World.setCell]
  have P1 := Whole.new (w.setCell ⟨B, 0, none⟩ (.int .i64 (s + 1))) 30 #[.int .i64 7, .bool b, .bool n, .string dd, .int .i64 e, .int .i64 tk, .int .i64 td, .int .i64 tn, .int .i64 tz, .string x, .slice ba 0 bc, .slice la 0 lc, .slice fa fn fc]
  rw [hz0] at P1
  have B1 := (hB.s (.int .i64 (s + 1))).alloc (.cells #[.int .i64 7, .bool b, .bool n, .string dd, .int .i64 e, .int .i64 tk, .int .i64 td, .int .i64 tn, .int .i64 tz, .string x, .slice ba 0 bc, .slice la 0 lc, .slice fa fn fc] 30)
  have K1 : Kept (· = B) w ((w.setCell ⟨B, 0, none⟩ (.int .i64 (s + 1))).alloc (.cells #[.int .i64 7, .bool b, .bool n, .string dd, .int .i64 e, .int .i64 tk, .int .i64 td, .int .i64 tn, .int .i64 tz, .string x, .slice ba 0 bc, .slice la 0 lc, .slice fa fn fc] 30)) := (Kept.setB w B (.int .i64 (s + 1))).then ((Below.refl _ _).alloc (Nat.le_refl _) _)
  have bc0 := hB.cell 0
  have bf0 := hB.frozen 0
  clear hz0
  simp only [List.getElem?_toArray, List.getElem?_cons_zero] at bc0
  have HTk := Lib.hid (fun (w1 : World) (h : Kept (· = B) w w1) => Vt.In.below (h.below (Nat.le_of_lt (Nat.lt_of_le_of_lt ht hBl)) (fun c q e => by omega)) hT)
  have HKy := Lib.hid (fun (w1 : World) (h : Kept (· = B) w w1) => show Calls Tryd.prog 67 #[.slice fa fn fc] w1 fun r w' => r = .returned (.int .i64 (keysE K fn)) ∧ Below w1.heap.size w1 w' from vkeys_any (T := (Vt.mk ⟨7, b, n, dd, e, tk, td, tn, tz, x, ba, 0, bc, la, 0, lc, fa, fn, fc, bb, bo, lb, lo, fb, fo⟩ Y L K F)) (top := top) (HTk.out w1 h) (by have := h.size; omega))
  have HAd := Lib.hid (fun (q : 0 < fn) => hT.2.2.2.2.2.1 q)
  have HRw := Lib.hid (fun (w1 : World) (h : Kept (· = B) w w1) (j : Nat) (hj : j < fn) => (⟨lies_fcs ((HTk.out w1 h).2.2.2.2.2.2 j hj).1 ((HTk.out w1 h).2.2.2.2.2.2 j hj).2.2.1, ((HTk.out w1 h).2.2.2.2.2.2 j hj).2.2.2⟩ : LiesAt w1 fb (fo + j * 14) (fcs (K j, F j)) ∧ (F j).In w1 top))
  rw [hkk] at HKy
  clear hkk
  clear HTk
  clear hT hB
  go_enter Tryd.func54, Tryd.ntmps54
  go_upto_region 2 with (fail)
  have hW : ∃ w1, (w.setCell ⟨B, 0, none⟩ (.int .i64 (s + 1))).alloc (.cells #[.int .i64 7, .bool b, .bool n, .string dd, .int .i64 e, .int .i64 tk, .int .i64 td, .int .i64 tn, .int .i64 tz, .string x, .slice ba 0 bc, .slice la 0 lc, .slice fa fn fc] 30) = w1 := ⟨_, rfl⟩
  obtain ⟨w1, hw1⟩ := hW
  rw [hw1] at P1 B1 K1 ⊢
  clear hw1 bc0 bf0
  have bc1 := B1.cell 0
  simp only [List.getElem?_toArray, List.getElem?_cons_zero] at bc1
  obtain ⟨c0, c1, c2, c3, c4, c5, c6, c7, c8, c9, c10, c11, c12⟩ := Whole.c13 (h := ⟨7, b, n, dd, e, tk, td, tn, tz, x, ba, 0, bc, la, 0, lc, fa, fn, fc, bb, bo, lb, lo, fb, fo⟩) P1
  go_wp2_with fail
  refine (HX.out _).mono ?_; rintro _ w2 ⟨rfl, hb2⟩
  have P2 := P1.below hb2 P1.lt
  have B2 := B1.below hb2 B1.lt
  have K2 := K1.then hb2
  clear c0 c1 c2 c3 c4 c5 c6 c7 c8 c9 c10 c11 c12 bc1 P1 B1 K1 hb2
  have bc2 := B2.cell 0
  simp only [List.getElem?_toArray, List.getElem?_cons_zero] at bc2
  obtain ⟨c0, c1, c2, c3, c4, c5, c6, c7, c8, c9, c10, c11, c12⟩ := Whole.c13 (h := ⟨7, b, n, dd, e, tk, td, tn, tz, x, ba, 0, bc, la, 0, lc, fa, fn, fc, bb, bo, lb, lo, fb, fo⟩) P2
  go_wp2_with fail
  refine (HKy.out _ K2).mono ?_; rintro _ w3 ⟨rfl, hb3⟩
  have P3 := P2.below hb3 P2.lt
  have B3 := B2.below hb3 B2.lt
  have K3 := K2.then hb3
  clear c0 c1 c2 c3 c4 c5 c6 c7 c8 c9 c10 c11 c12 bc2 P2 B2 K2 hb3
  have bc3 := B3.cell 0
  simp only [List.getElem?_toArray, List.getElem?_cons_zero] at bc3
  obtain ⟨c0, c1, c2, c3, c4, c5, c6, c7, c8, c9, c10, c11, c12⟩ := Whole.c13 (h := ⟨7, b, n, dd, e, tk, td, tn, tz, x, ba, 0, bc, la, 0, lc, fa, fn, fc, bb, bo, lb, lo, fb, fo⟩) P3
  go_wp2_with fail
  go_loopw [91] (fun i wr => i = .int .i64 0 ∧ wr = w3) (fun _ _ => 0)
  case atStart => exact ⟨rfl, rfl⟩
  case round =>
    obtain ⟨rfl, rfl⟩ := hrel
    go_wp2_with fail
    go_loopw [107] (fun i wr => ∃ j : Nat, j ≤ fn ∧ i = .int .i64 j ∧ (foldE f j (s + 1)).2 = 0 ∧ Whole wr B 3 #[.int .i64 (foldE f j (s + 1)).1] ∧ Kept (· = B) w wr ∧ Whole wr w.heap.size 30 #[.int .i64 7, .bool b, .bool n, .string dd, .int .i64 e, .int .i64 tk, .int .i64 td, .int .i64 tn, .int .i64 tz, .string x, .slice ba 0 bc, .slice la 0 lc, .slice fa fn fc]) (fun i _ => fn - (intOf i).toNat)
    case atStart => exact ⟨0, by omega, rfl, rfl, B3, K3, P3⟩
    case round =>
      clear P3 B3 K3 bc3 c0 c1 c2 c3 c4 c5 c6 c7 c8 c9 c10 c11 c12
      obtain ⟨j, hj, rfl, hj0, Bw, Kw, Pw⟩ := hrel
      have hji : (0 : Int) ≤ j := by omega
      obtain ⟨q1, q2⟩ := HF.out j
      have Hst := Lib.hid (foldE_stays (f := f) (s := s + 1) (n := j + 1))
      have hsucc := foldE_succ (f := f) (s := s + 1) (n := j) hj0
      obtain ⟨t, ht'⟩ : ∃ t, (foldE f j (s + 1)).1 = t := ⟨_, rfl⟩
      rw [ht'] at q1 q2 hsucc Bw
      by_cases hjn : j < fn
      · have hji2 : (j : Int) < fn := by omega
        obtain ⟨hl, hin⟩ := HRw.out wr Kw j hjn
        obtain ⟨e1, -⟩ := HAd.out (by omega)
        subst e1
        obtain ⟨l0, l1, l2, l3, l4, l5, l6, l7, l8, l9, l10, l11, l12, l13⟩ := lies_c14 hl
        have A1 := (Below.refl wr.heap.size wr).alloc (Nat.le_refl _) (.cells #[.string (K j), .int .i64 (F j).h.k, .bool (F j).h.b, .bool (F j).h.n, .string (F j).h.d, .int .i64 (F j).h.e, .int .i64 (F j).h.tk, .int .i64 (F j).h.td, .int .i64 (F j).h.tn, .int .i64 (F j).h.tz, .string (F j).h.x, .slice (F j).h.ba (F j).h.bn (F j).h.bc, .slice (F j).h.la (F j).h.ln (F j).h.lc, .slice (F j).h.fa (F j).h.fn (F j).h.fc] 61)
        have BA := Bw.alloc (.cells #[.string (K j), .int .i64 (F j).h.k, .bool (F j).h.b, .bool (F j).h.n, .string (F j).h.d, .int .i64 (F j).h.e, .int .i64 (F j).h.tk, .int .i64 (F j).h.td, .int .i64 (F j).h.tn, .int .i64 (F j).h.tz, .string (F j).h.x, .slice (F j).h.ba (F j).h.bn (F j).h.bc, .slice (F j).h.la (F j).h.ln (F j).h.lc, .slice (F j).h.fa (F j).h.fn (F j).h.fc] 61)
        have PA := Pw.alloc (.cells #[.string (K j), .int .i64 (F j).h.k, .bool (F j).h.b, .bool (F j).h.n, .string (F j).h.d, .int .i64 (F j).h.e, .int .i64 (F j).h.tk, .int .i64 (F j).h.td, .int .i64 (F j).h.tn, .int .i64 (F j).h.tz, .string (F j).h.x, .slice (F j).h.ba (F j).h.bn (F j).h.bc, .slice (F j).h.la (F j).h.ln (F j).h.lc, .slice (F j).h.fa (F j).h.fn (F j).h.fc] 61)
        have KA := Kw.then A1
        have E1 : Whole (wr.alloc (.cells #[.string (K j), .int .i64 (F j).h.k, .bool (F j).h.b, .bool (F j).h.n, .string (F j).h.d, .int .i64 (F j).h.e, .int .i64 (F j).h.tk, .int .i64 (F j).h.td, .int .i64 (F j).h.tn, .int .i64 (F j).h.tz, .string (F j).h.x, .slice (F j).h.ba (F j).h.bn (F j).h.bc, .slice (F j).h.la (F j).h.ln (F j).h.lc, .slice (F j).h.fa (F j).h.fn (F j).h.fc] 61)) wr.heap.size 61 #[.string (K j), .int .i64 (F j).h.k, .bool (F j).h.b, .bool (F j).h.n, .string (F j).h.d, .int .i64 (F j).h.e, .int .i64 (F j).h.tk, .int .i64 (F j).h.td, .int .i64 (F j).h.tn, .int .i64 (F j).h.tz, .string (F j).h.x, .slice (F j).h.ba (F j).h.bn (F j).h.bc, .slice (F j).h.la (F j).h.ln (F j).h.lc, .slice (F j).h.fa (F j).h.fn (F j).h.fc] := Whole.new wr _ _
        obtain ⟨e0, e1, e2, e3, e4, e5, e6, e7, e8, e9, e10, e11, e12, e13, -⟩ := fb_of (y := K j) (h := (F j).h) E1 (Below.refl _ _)
        have HC := Lib.hid (HI.out j hjn (d + 1) t top B _ ((hin.below (A1.mono (by have := Kw.size; omega)))) ht BA (by omega) (by omega) (by omega) (by omega))
        have hfj : (F j).look (d + 1) t = f j t := by rw [← Hf.out]
        rw [hfj] at HC
        clear hfj hin
        obtain ⟨R, hR⟩ : ∃ R, f j t = R := ⟨_, rfl⟩
        rw [hR] at HC hsucc
        clear hR
        obtain ⟨R1, R2⟩ := R
        simp only [Vh.cells] at HC
        have HS := Lib.hid hsucc
        have H0 := Lib.hid hj0
        have HT' := Lib.hid ht'
        clear hsucc hj0 ht'
        by_cases z : R2 = 0
        · subst z
          go_wp2_with fail
          refine HC.out.mono ?_; rintro _ w5 ⟨s', rfl, B5, hs', K5⟩
          have es := hs' rfl
          dsimp only at es
          subst es
          have K6 := KA.trans K5 (fun _ q => .inl q)
          have P6 := PA.keptB K5 (show ¬ w.heap.size = B by omega)
          clear HC hs'
          go_wp2
          go_roundw
          case rel => exact ⟨j + 1, by omega, by go_num, by rw [HS.out], by rw [HS.out]; exact B5, K6, P6⟩
          case measure => simp [intOf]; omega
        · have z1 : (R2 == 0) = false := beq_eq_false_iff_ne.2 z
          have z2 : (R2 != 0) = true := bne_iff_ne.2 z
          have HR : Hid (foldE f fn (s + 1) = (R1, R2)) := Lib.hid (by rw [Hst.out (by rw [HS.out]; exact z) fn (by omega), HS.out])
          have HZ := Lib.hid z
          rw [HR.out]
          clear z HR
          go_wp2_with fail
          refine HC.out.mono ?_; rintro _ w5 ⟨s', rfl, B5, hs', K5⟩
          have K6 := KA.trans K5 (fun _ q => .inl q)
          clear HC hs'
          go_wp2
          go_ret
          exact ⟨_, rfl, B5, fun q => absurd (show R2 = 0 from q) HZ.out, K6⟩
      · obtain rfl : j = fn := by omega
        have HR : Hid (foldE f j (s + 1) = (t, 0)) := Lib.hid (Prod.ext ht' hj0)
        clear hsucc hj0 ht'
        go_wp2
        go_ret
        show ChkOut _ _ _ _ _
        rw [HR.out]
        exact ⟨_, rfl, Bw, fun _ => rfl, Kw⟩
end Go.Proofs.YtfkfboiblgoamaaDoor
/- The program's value.check and value.Check: what the reference's look says. -/
namespace Go.Proofs.YtfkfboiblgoamaaDoor
open Go.RowKit
set_option linter.unusedSimpArgs false
set_option linter.unusedVariables false

theorem utfB_nil {x : ByteArray} (h : x.size = 0) : utfB x = true := by
  obtain ⟨rs, hs⟩ := Utf.left_split x
  have h1 := Utf.len_split hs
  have h2 : x.data.toList.length = x.size := by simp
  unfold utfB
  exact decide_eq_true (by omega)
theorem vd_zero {s : ByteArray} (h : s.size = 0) : Dec.vd false s 0 := by
  unfold Dec.vd
  rw [if_pos h]
  exact ⟨rfl, rfl⟩
theorem toList_size {s : ByteArray} (h : s.toList = []) : s.size = 0 := by
  rw [Lib.toList_data] at h
  have h2 : s.data.toList.length = s.size := by simp
  rw [h] at h2
  exact h2.symm
/-- What is wrong with a value whose fields are its kind's own. -/
theorem oneE_when {k : Int} {b n : Bool} {dd : ByteArray} {e tk td tn tz : Int} {x : ByteArray} {ba : Option Addr} {bn bc : Nat} {la : Option Addr} {ln lc : Nat} {fa : Option Addr} {fn fc bb bo lb lo fb fo : Nat} {Y : Nat → Int} {L : Nat → Vt} {K : Nat → ByteArray} {F : Nat → Vt} (ho : Vh.own ⟨k, b, n, dd, e, tk, td, tn, tz, x, ba, bn, bc, la, ln, lc, fa, fn, fc, bb, bo, lb, lo, fb, fo⟩ = true) :
    oneE (.mk ⟨k, b, n, dd, e, tk, td, tn, tz, x, ba, bn, bc, la, ln, lc, fa, fn, fc, bb, bo, lb, lo, fb, fo⟩ Y L K F) = (if ¬ Dec.vd n dd e ∨ (k = 3 ∧ ¬ Mom.Ok tk td tn tz) then 2 else if utfB x = false then 5 else if 65536 < x.size ∨ 65536 < bn then 10 else keysE K fn) := by
  unfold oneE
  exact if_neg (by show ¬ Vh.own ⟨k, b, n, dd, e, tk, td, tn, tz, x, ba, bn, bc, la, ln, lc, fa, fn, fc, bb, bo, lb, lo, fb, fo⟩ = false; rw [ho]; decide)
set_option maxHeartbeats 1000000 in
theorem chk_any : ∀ T : Vt, ChkIs T := by
  intro T
  induction T with
  | nil => intro d s top B w hT; exact hT.elim
  | mk h Y L K F ihL ihF =>
    intro d s top B w hT ht hB d0 d1 s0 s1
    have hok : h.ok := hT.1
    have ho := own_ext h
    have hl := Vt.look_eq (T := .mk h Y L K F) (by intro e; cases e) d s
    by_cases t1 : 48 < d
    · rw [hl, if_pos t1]
      obtain ⟨k, b, n, dd, e, tk, td, tn, tz, x, ba, bn, bc, la, ln, lc, fa, fn, fc, bb, bo, lb, lo, fb, fo⟩ := h
      exact chk_deep hT ht hB d0 s0 t1 s1
    rw [if_neg t1] at hl
    by_cases t2 : 65536 ≤ s
    · rw [hl, if_pos t2]
      obtain ⟨k, b, n, dd, e, tk, td, tn, tz, x, ba, bn, bc, la, ln, lc, fa, fn, fc, bb, bo, lb, lo, fb, fo⟩ := h
      exact chk_many hT ht hB d0 s0 (by omega) t2 s1
    rw [if_neg t2] at hl
    have t3 : d ≤ 48 := by omega
    have t4 : s ≤ 65535 := by omega
    cases hown : h.own with
    | false =>
      have e6 : oneE (.mk h Y L K F) = 6 := by unfold oneE; exact if_pos hown
      rw [hl, e6, if_pos (by decide)]
      rw [hown] at ho
      obtain ⟨k, b, n, dd, e, tk, td, tn, tz, x, ba, bn, bc, la, ln, lc, fa, fn, fc, bb, bo, lb, lo, fb, fo⟩ := h
      dsimp only at ho
      by_cases k0 : k < 0
      · exact chk_low hT ht hB d0 s0 t3 t4 k0
      by_cases k7 : 7 < k
      · exact chk_high hT ht hB d0 s0 t3 t4 k7
      have hx : Vh.ext ⟨k, b, n, dd, e, tk, td, tn, tz, x, ba, bn, bc, la, ln, lc, fa, fn, fc, bb, bo, lb, lo, fb, fo⟩ = true := by
        rw [decide_eq_true (show (0 : Int) ≤ k by omega), decide_eq_true (show k ≤ 7 by omega)] at ho
        simpa using ho.symm
      exact chk_ext hT ht hB d0 s0 t3 t4 (Int.not_lt.1 k0) (Int.not_lt.1 k7) hx
    | true =>
      obtain ⟨k0, k7, p1, p2, p3, p4, p5, p6, p7⟩ := Vh.own_parts hown
      rw [hown] at ho
      have hx : h.ext = false := by
        rw [decide_eq_true k0, decide_eq_true k7] at ho
        simpa using ho.symm
      obtain ⟨k, b, n, dd, e, tk, td, tn, tz, x, ba, bn, bc, la, ln, lc, fa, fn, fc, bb, bo, lb, lo, fb, fo⟩ := h
      have hone := oneE_when (Y := Y) (L := L) (K := K) (F := F) hown
      have ok1 := hok.d
      have ok2 := hok.x
      have ok3 := hok.bn
      dsimp only at k0 k7 p1 p2 p3 p4 p5 p6 p7 ok1 ok2 ok3
      have hmx : dd.size ≤ maxLen := Nat.le_trans ok1 (by unfold maxLen; omega)
      clear ho hown hok
      by_cases k2 : k = 2
      · subst k2
        obtain rfl := p5 (by decide)
        obtain rfl := p6 (by decide)
        obtain rfl := p7 (by decide)
        have xz := toList_size (p4 (by decide))
        have hxs : x.size ≤ 65536 := by omega
        by_cases v : Dec.vd n dd e
        · rw [if_neg (by rintro (q | ⟨q, -⟩); { exact q v }; { exact absurd q (by decide) }), if_neg (by rw [utfB_nil xz]; decide), if_neg (by omega)] at hone
          rw [hl, hone, if_neg (fun q => q rfl)]
          exact chk2_ok hT ht hB d0 s0 t3 t4 hx (decide_eq_true v) hmx hxs
        · rw [if_pos (.inl v)] at hone
          rw [hl, hone, if_pos (by decide)]
          exact chk2_bad hT ht hB d0 s0 t3 t4 hx (decide_eq_false v) hmx
      obtain ⟨rfl, dz, rfl⟩ := p2 k2
      have hv0 := vd_zero (toList_size dz)
      by_cases k3 : k = 3
      · subst k3
        obtain rfl := p5 (by decide)
        obtain rfl := p6 (by decide)
        obtain rfl := p7 (by decide)
        have xz := toList_size (p4 (by decide))
        have hxs : x.size ≤ 65536 := by omega
        by_cases v : Mom.Ok tk td tn tz
        · rw [if_neg (by rintro (q | ⟨-, q⟩); { exact q hv0 }; { exact q v }), if_neg (by rw [utfB_nil xz]; decide), if_neg (by omega)] at hone
          rw [hl, hone, if_neg (fun q => q rfl)]
          exact chk3_ok hT ht hB d0 s0 t3 t4 hx (decide_eq_true v) hxs
        · rw [if_pos (.inr ⟨rfl, v⟩)] at hone
          rw [hl, hone, if_pos (by decide)]
          exact chk3_bad hT ht hB d0 s0 t3 t4 hx (decide_eq_false v)
      rw [if_neg (by rintro (q | ⟨q, -⟩); { exact q hv0 }; { exact k3 q })] at hone
      by_cases k4 : k = 4
      · subst k4
        obtain rfl := p5 (by decide)
        obtain rfl := p6 (by decide)
        obtain rfl := p7 (by decide)
        cases u : utfB x with
        | false =>
          rw [if_pos u] at hone
          rw [hl, hone, if_pos (by decide)]
          exact chk4_bad hT ht hB d0 s0 t3 t4 hx ok2 u
        | true =>
          rw [if_neg (by rw [u]; decide)] at hone
          by_cases z : 65536 < x.size
          · rw [if_pos (.inl z)] at hone
            rw [hl, hone, if_pos (by decide)]
            exact chk4_big hT ht hB d0 s0 t3 t4 hx ok2 u z
          · rw [if_neg (by omega)] at hone
            rw [hl, hone, if_neg (fun q => q rfl)]
            exact chk4_ok hT ht hB d0 s0 t3 t4 hx ok2 u (Nat.not_lt.1 z)
      have xz := toList_size (p4 k4)
      have hxs : x.size ≤ 65536 := by omega
      rw [if_neg (by rw [utfB_nil xz]; decide)] at hone
      by_cases k6 : k = 6
      · subst k6
        obtain rfl := p5 (by decide)
        obtain rfl := p7 (by decide)
        rw [if_neg (by omega)] at hone
        rw [hl, hone, if_neg (fun q => q rfl)]
        exact chkL_ok hT ht hB d0 s0 t3 t4 hx (fun i _ => ihL i) hxs
      by_cases k7' : k = 7
      · subst k7'
        obtain rfl := p5 (by decide)
        obtain rfl := p6 (by decide)
        rw [if_neg (by omega)] at hone
        by_cases v : keysE K fn = 0
        · rw [v] at hone
          rw [hl, hone, if_neg (fun q => q rfl)]
          exact chkF_ok hT ht hB d0 s0 t3 t4 hx (fun i _ => ihF i) hxs v
        · rw [hl, hone, if_pos v]
          exact chkF_keys hT ht hB d0 s0 t3 t4 hx hxs v
      obtain rfl := p6 k6
      obtain rfl := p7 k7'
      have q2 : (k == 2) = false := beq_eq_false_iff_ne.2 k2
      have q3 : (k == 3) = false := beq_eq_false_iff_ne.2 k3
      have q4 : (k == 4) = false := beq_eq_false_iff_ne.2 k4
      by_cases z : 65536 < bn
      · rw [if_pos (.inr z)] at hone
        rw [hl, hone, if_pos (by decide)]
        exact chkP_big hT ht hB d0 s0 t3 t4 hx k0 k7 q2 q3 q4 hxs z ok3
      · rw [if_neg (by omega)] at hone
        rw [hl, hone, if_neg (fun q => q rfl)]
        have e0 : foldE (fun i t => ((Vt.mk ⟨k, b, false, dd, 0, tk, td, tn, tz, x, ba, bn, bc, la, 0, lc, fa, 0, fc, bb, bo, lb, lo, fb, fo⟩ Y L K F).kid i).look (d + 1) t) (Vt.mk ⟨k, b, false, dd, 0, tk, td, tn, tz, x, ba, bn, bc, la, 0, lc, fa, 0, fc, bb, bo, lb, lo, fb, fo⟩ Y L K F).kn (s + 1) = (s + 1, 0) := by
          have : (Vt.mk ⟨k, b, false, dd, 0, tk, td, tn, tz, x, ba, bn, bc, la, 0, lc, fa, 0, fc, bb, bo, lb, lo, fb, fo⟩ Y L K F).kn = 0 := by unfold Vt.kn; split <;> rfl
          rw [this]
          rfl
        rw [e0]
        exact chkP_ok hT ht hB d0 s0 t3 t4 hx k0 k7 q2 q3 q4 hxs (Nat.not_lt.1 z)
end Go.Proofs.YtfkfboiblgoamaaDoor
/- Values: a value as a result. value.Copy. -/
namespace Go.Proofs.YtfkfboiblgoamaaDoor
open Go.RowKit

theorem vh_all (h : Vh) : h.cells.all (·.oneCell') = true := by simp [Vh.cells, Value.oneCell']
/-- A value as the result. -/
theorem ret_val {fn : Func} {p : Tmp} (h : fn.results = #[.cell p 30]) {tmps : Array Value} {W : World} {B : Nat} {g : Vh} (hp : tmps.getD p undef = .pointer (some ⟨B, 0, none⟩)) (H : Whole W B 30 g.cells) :
    (results fn tmps).run Tryd.prog W = .ok (.agg g.cells) W :=
  results_cell_row h tmps W B 30 g.cells (0, 0) _ hp H Tryd.underlying30 rfl vh_row
/-- A value and something else as the results. -/
theorem ret_val2 {fn : Func} {p q : Tmp} (h : fn.results = #[.cell p 30, .tmp q]) {tmps : Array Value} {W : World} {B : Nat} {g : Vh} (hp : tmps.getD p undef = .pointer (some ⟨B, 0, none⟩)) (H : Whole W B 30 g.cells) :
    (results fn tmps).run Tryd.prog W = .ok (.tuple #[.agg g.cells, tmps.getD q undef]) W := by
  have hp' : tmps[p]?.getD undef = .pointer (some ⟨B, 0, none⟩) := by simpa using hp
  simp [results, h, hp', asAddr, run_loadVar_row W B 30 30 g.cells (0, 0) _ H Tryd.underlying30 rfl vh_row]
/-- Two boxes, of which the second turns: what lies behind them is as it was. -/
theorem Vt.In.stays {W W' : World} {T : Vt} {S : Nat → Prop} (h : T.In W W.heap.size) (ho : T.Off S) (hs : ∀ b, S b → W'.heap[b]? = W.heap[b]?) (hz : W.heap.size ≤ W'.heap.size) : T.In W' W'.heap.size :=
  Vt.In.turn (S := S) (fun b hb hlt => ⟨hs b hb, by omega⟩) h ho
set_option maxHeartbeats 2000000 in
set_option maxRecDepth 100000 in
theorem copy_any {T : Vt} {top : Nat} {w : World} (hT : T.In w top) (ht : top ≤ w.heap.size) (hu : T.upto 65536) :
    Calls Tryd.prog 22 #[.agg T.h.cells] w (CopyOut T w) := by
  have hb0 := ((Below.refl w.heap.size w).alloc (Nat.le_refl _) (.cells T.h.cells 30)).alloc (by simp) (.cells Vh.zero.cells 30)
  have Q := Whole.new (w.alloc (.cells T.h.cells 30)) 30 Vh.zero.cells
  rw [World.size_alloc] at Q
  have HC := Lib.hid (copied_any T 65536 65536 top ((w.alloc (.cells T.h.cells 30)).alloc (.cells Vh.zero.cells 30)) rfl (Vt.In.below (hb0.mono ht) hT) (Nat.le_trans ht hb0.size) hu (Nat.le_refl _))
  clear hT hu
  simp only [Vh.cells, Vh.zero] at HC Q hb0 ⊢
  go_enter Tryd.func22, Tryd.ntmps22
  go_wp2_with fail
  refine HC.out.mono ?_; rintro _ w1 ⟨X, rfl, hX, hXo, hXs, hb1⟩
  have Q1 := Q.below hb1 Q.lt
  have g1 := below_then hb0 hb1
  have hone := Lib.hid (vh_all X.h)
  have Hs := Lib.hid hXs
  clear HC Q hb0 hXs
  go_wp2_with (refine wpList_store_row rfl 30 _ _ rfl (w.heap.size + 1) X.h.cells rfl rfl 30 _ Q1 vh_row rfl hone.out ?_)
  have Q2 := Q1.setRow X.h.cells
  have hsz := Q1.lt
  simp at hXo
  refine bodyPost_ret (v := .agg X.h.cells) (ret_val (p := 2) rfl rfl Q2) rfl ⟨X, rfl, hX.stays hXo (fun b hb => setRow_other _ _ _ _ (by omega)) (by rw [size_setRow]; omega), hXo.mono fun b hb => by omega, Hs.out, below_setRow g1 (by omega) _⟩
end Go.Proofs.YtfkfboiblgoamaaDoor
/- Paths: steps, how they lie in memory; what a step leads to (plain). -/
namespace Go.Proofs.YtfkfboiblgoamaaDoor
open Go.ChangeShapes Go.WideShapes Go.Joins Go.Deep Go.RowKit

/-- A step of a path. -/
structure Stp where
  ix : Bool
  key : ByteArray
  n : Int
instance : Inhabited Stp := ⟨⟨false, ByteArray.empty, 0⟩⟩
def Stp.cells (s : Stp) : Array Value := #[.bool s.ix, .string s.key, .int .i64 s.n]
structure Stp.ok (s : Stp) : Prop where
  key : s.key.size ≤ 1048576
  n : w64 s.n
/-- A path in memory. -/
structure Pth where
  a : Option Addr
  n : Nat
  c : Nat
  b : Nat
  o : Nat
  S : Nat → Stp
def Pth.In (W : World) (top : Nat) (p : Pth) : Prop := (0 < p.n → p.a = some ⟨p.b, p.o, none⟩ ∧ p.b < top) ∧ (p.n ≤ 1048576 ∧ p.n ≤ p.c ∧ p.c ≤ maxLen) ∧ ∀ i, i < p.n → LiesAt W p.b (p.o + i * 3) (p.S i).cells ∧ (p.S i).ok
theorem Pth.In.below {W W' : World} {top : Nat} {p : Pth} (h : p.In W top) (hb : Below top W W') : p.In W' top :=
  ⟨h.1, h.2.1, fun i hi => ⟨(h.2.2 i hi).1.below hb (h.1 (by omega)).2, (h.2.2 i hi).2⟩⟩
theorem Pth.In.up {W : World} {top top' : Nat} {p : Pth} (h : p.In W top) (hle : top ≤ top') : p.In W top' :=
  ⟨fun q => ⟨(h.1 q).1, Nat.lt_of_lt_of_le (h.1 q).2 hle⟩, h.2⟩
theorem LiesAt.s3 {W : World} {b o : Nat} {s : Stp} (H : LiesAt W b o s.cells) : W.cell? ⟨b, o, none⟩ = some (.bool s.ix) ∧ W.cell? ⟨b, o + 1, none⟩ = some (.string s.key) ∧ W.cell? ⟨b, o + 2, none⟩ = some (.int .i64 s.n) :=
  have z : s.cells.size = 3 := rfl
  ⟨H 0 (by omega), H 1 (by omega), H 2 (by omega)⟩
theorem cStp : Tryd.prog.cellsOf 50 = 3 := by kernel_rfl
section
variable {H : Type} {enc : TypeId × Value → H} {w : World} {base : Nat} {spare : Nat → Bool} {held : Bool}
set_option maxRecDepth 100000 in
theorem stp3 {n : Nat} {cs : List Value} {x : DataW H × List MemPlace} (hl : cs.length = 3) (h : DataW.trod enc Tryd.prog w base spare held n 50 cs = some x) (hM : Rows.uptoBulk x.1 ≤ 1048576) : ∃ s : Stp, cs = s.cells.toList ∧ s.ok := by
  match cs, hl with
  | [c0, c1, c2], _ =>
  obtain ⟨xs, m, _, hx, _, hlen, hf⟩ := DataW.trod_struct Tryd.underlying50 h
  match xs, hlen with
  | [x0, x1, x2], _ =>
  obtain ⟨a, rfl⟩ := bool1 (n := m) (c := c0) (x := x0) (by simpa [cBool] using hf 0 _ rfl)
  obtain ⟨s, rfl, hs⟩ := str1 (n := m) (c := c1) (x := x1) (by simpa [cStr] using hf 1 _ rfl)
  obtain ⟨e, rfl, he⟩ := int1 (n := m) (c := c2) (x := x2) (by simpa [cInt] using hf 2 _ rfl)
  rw [hx] at hM
  simp only [List.map_cons, List.map_nil, Rows.uptoBulk, Rows.uptoBulkAll] at hM
  exact ⟨⟨a, s, e⟩, rfl, by dsimp only; omega, he⟩
set_option maxRecDepth 100000 in
/-- .. an argument that is a path. -/
theorem open_path {r : Reach} {b0 : Nat} {v : Value} {d : DataW H} {p : List MemPlace} (hv : Value.okWide Tryd.prog w r b0 31 v) (h : DataW.Trod enc Tryd.prog w base spare held 31 v d p) (hM : Rows.uptoBulk d ≤ 1048576) :
    ∃ q : Pth, v = .slice q.a q.n q.c ∧ q.In w w.heap.size := by
  obtain ⟨a', len', cap', rfl⟩ := okWide_slice Tryd.underlying31 hv
  obtain ⟨fuel, hf⟩ := h
  obtain ⟨a, len, cap, b, o, S, hcs, hcc, hn, ha, hS⟩ := row_down (α := Stp) (fun B O z => LiesAt w B O z.cells ∧ z.ok) Tryd.underlying31 cStp (by omega) hf (fun B O m cs' y _ hl' hc hy hyM => by
    obtain ⟨s, rfl, hs⟩ := stp3 hl' hy hyM
    exact ⟨s, fun j hj => by rw [hc j hj, Array.getElem?_toList], hs⟩) hM
  have e : Value.slice a' len' cap' = .slice a len cap := by
    simp only [Value.cells, List.cons.injEq, and_true] at hcs
    exact hcs
  exact ⟨⟨a, len, cap, b, o, S⟩, e, ha, ⟨hn, hcc⟩, hS⟩
end

/-! ### which steps are valid -/
def stepOk (s : Stp) : Prop := if s.ix = true then s.key.toList = [] ∧ 0 ≤ s.n ∧ s.n ≤ 65536 else s.n = 0 ∧ s.key.size ≤ 1024 ∧ utfB s.key = true
def pathOk (S : Nat → Stp) (n : Nat) : Prop := n ≤ 48 ∧ ∀ i, i < n → stepOk (S i)
noncomputable def pathB (S : Nat → Stp) (n : Nat) : Bool := @decide (pathOk S n) (Classical.propDecidable _)
theorem pathB_yes {S : Nat → Stp} {n : Nat} (h : pathOk S n) : pathB S n = true := @decide_eq_true _ (Classical.propDecidable _) h
theorem pathB_no {S : Nat → Stp} {n : Nat} (h : ¬ pathOk S n) : pathB S n = false := @decide_eq_false _ (Classical.propDecidable _) h
theorem pathB_ok {S : Nat → Stp} {n : Nat} (h : pathB S n = true) : pathOk S n := @of_decide_eq_true _ (Classical.propDecidable _) h

/-! ### what a step leads to -/
/-- The first field with a key; the number of fields, if there is none. -/
noncomputable def fidx (K : Nat → ByteArray) (key : ByteArray) : Nat → Nat
  | 0 => 0
  | n + 1 => if fidx K key n < n then fidx K key n else if K n = key then n else n + 1
theorem fidx_le (K : Nat → ByteArray) (key : ByteArray) : ∀ n, fidx K key n ≤ n := by
  intro n
  induction n with
  | zero => exact Nat.le_refl _
  | succ n ih =>
    unfold fidx
    split
    · omega
    split <;> omega
theorem fidx_none {K : Nat → ByteArray} {key : ByteArray} : ∀ {n : Nat}, (∀ i, i < n → K i ≠ key) → fidx K key n = n := by
  intro n
  induction n with
  | zero => intro _; rfl
  | succ n ih =>
    intro h
    unfold fidx
    rw [ih (fun i hi => h i (by omega)), if_neg (by omega), if_neg (h n (by omega))]
theorem fidx_first {K : Nat → ByteArray} {key : ByteArray} {i : Nat} (hi : ∀ j, j < i → K j ≠ key) (hk : K i = key) : ∀ {n : Nat}, i < n → fidx K key n = i := by
  intro n
  induction n with
  | zero => intro h; omega
  | succ n ih =>
    intro h
    unfold fidx
    by_cases e : i = n
    · subst e
      rw [fidx_none hi, if_neg (by omega), if_pos hk]
    · rw [ih (by omega), if_pos (by omega)]
theorem fidx_spec {K : Nat → ByteArray} {key : ByteArray} : ∀ {n : Nat}, (fidx K key n < n → K (fidx K key n) = key) ∧ ∀ j, j < fidx K key n → K j ≠ key := by
  intro n
  induction n with
  | zero => exact ⟨fun h => absurd h (Nat.not_lt_zero _), fun j h => absurd h (Nat.not_lt_zero _)⟩
  | succ n ih =>
    unfold fidx
    split
    · rename_i h
      exact ⟨fun _ => ih.1 h, ih.2⟩
    · rename_i h
      have e : fidx K key n = n := by have := fidx_le K key n; omega
      rw [e] at ih
      split
      · rename_i hk
        exact ⟨fun _ => hk, ih.2⟩
      · rename_i hk
        exact ⟨fun h => absurd h (Nat.lt_irrefl _), fun j hj => by
          by_cases q : j = n
          · rw [q]; exact hk
          · exact ih.2 j (by omega)⟩
/-- The place of the part to which a step leads, and an error. -/
noncomputable def Vt.find (T : Vt) (s : Stp) : Int × Int :=
  if s.ix = true then (if T.h.k ≠ 6 then (0, 6) else if s.n < 0 ∨ (T.h.ln : Int) ≤ s.n then (0, 7) else (s.n, 0))
  else if T.h.k ≠ 7 then (0, 6) else if fidx T.K s.key T.h.fn < T.h.fn then ((fidx T.K s.key T.h.fn : Nat), 0) else (0, 7)
def Vt.part (T : Vt) (i : Nat) : Vt := if T.h.k = 6 then T.L i else T.F i
theorem Vt.find_ok {T : Vt} {s : Stp} (h : (T.find s).2 = 0) : ∃ i : Nat, (T.find s).1 = i ∧ ((s.ix = true ∧ T.h.k = 6 ∧ i < T.h.ln ∧ s.n = i) ∨ (s.ix = false ∧ T.h.k = 7 ∧ i < T.h.fn ∧ i = fidx T.K s.key T.h.fn)) := by
  unfold Vt.find at h ⊢
  split at h
  · rename_i hx
    rw [if_pos hx]
    split at h
    · simp at h
    · rename_i h6
      split at h
      · simp at h
      · rename_i hn
        rw [if_neg h6, if_neg hn]
        exact ⟨s.n.toNat, by dsimp only; omega, .inl ⟨hx, by omega, by omega, by omega⟩⟩
  · rename_i hx
    rw [if_neg hx]
    split at h
    · simp at h
    · rename_i h7
      split at h
      · rename_i hf
        rw [if_neg h7, if_pos hf]
        exact ⟨_, rfl, .inr ⟨by simpa using hx, by omega, hf, rfl⟩⟩
      · simp at h
/-- Where the first steps of a path lead, or the first error. -/
noncomputable def Vt.atN (T : Vt) (S : Nat → Stp) : Nat → Vt × Int
  | 0 => (T, 0)
  | k + 1 => if (T.atN S k).2 ≠ 0 then T.atN S k else if ((T.atN S k).1.find (S k)).2 ≠ 0 then ((T.atN S k).1, ((T.atN S k).1.find (S k)).2) else ((T.atN S k).1.part ((T.atN S k).1.find (S k)).1.toNat, 0)
theorem Vt.atN_stays {T : Vt} {S : Nat → Stp} {n : Nat} (h : (T.atN S n).2 ≠ 0) : ∀ m, n ≤ m → T.atN S m = T.atN S n := by
  intro m hm
  induction m with
  | zero => rw [Nat.le_zero.1 hm]
  | succ m ih =>
    by_cases e : n = m + 1
    · rw [e]
    · have q := ih (by omega)
      show (if (T.atN S m).2 ≠ 0 then _ else _) = _
      rw [if_pos (by rw [q]; exact h), q]
theorem Vt.atN_bad {T : Vt} {S : Nat → Stp} {k n : Nat} (h0 : (T.atN S k).2 = 0) (hb : ((T.atN S k).1.find (S k)).2 ≠ 0) (hk : k < n) : (T.atN S n).2 = ((T.atN S k).1.find (S k)).2 := by
  have e : T.atN S (k + 1) = ((T.atN S k).1, ((T.atN S k).1.find (S k)).2) := by
    show (if (T.atN S k).2 ≠ 0 then _ else _) = _
    rw [if_neg (by simp [h0]), if_pos hb]
  rw [Vt.atN_stays (n := k + 1) (by rw [e]; exact hb) n (by omega), e]
theorem Vt.atN_next {T : Vt} {S : Nat → Stp} {k : Nat} (h0 : (T.atN S k).2 = 0) (hb : ((T.atN S k).1.find (S k)).2 = 0) : T.atN S (k + 1) = ((T.atN S k).1.part ((T.atN S k).1.find (S k)).1.toNat, 0) := by
  show (if (T.atN S k).2 ≠ 0 then _ else _) = _
  rw [if_neg (by simp [h0]), if_neg (by simp [hb])]
theorem Vt.In.part {W : World} {top : Nat} {T : Vt} (h : T.In W top) {s : Stp} (h0 : (T.find s).2 = 0) : (T.part (T.find s).1.toNat).In W top := by
  obtain ⟨i, e, hc⟩ := Vt.find_ok h0
  rw [e, Int.toNat_natCast]
  cases T with
  | nil => exact h.elim
  | mk g Y L K F =>
    obtain ⟨_, _, _, _, h4, _, h6⟩ := h
    unfold Vt.part
    rcases hc with ⟨_, k6, hi, _⟩ | ⟨_, k7, hi, _⟩
    · rw [if_pos k6]; exact (h4 i hi).2
    · rw [if_neg (by rw [k7]; decide)]; exact (h6 i hi).2.2.2
theorem Vt.In.atN {W : World} {top : Nat} {T : Vt} (h : T.In W top) (S : Nat → Stp) : ∀ n, (T.atN S n).1.In W top := by
  intro n
  induction n with
  | zero => exact h
  | succ n ih =>
    unfold Vt.atN
    split
    · exact ih
    split
    · exact ih
    · rename_i _ hq
      exact ih.part (Classical.byContradiction hq)
end Go.Proofs.YtfkfboiblgoamaaDoor
