/- Laid together for a claim: VkChk4, VkChkP, VkChkL. -/
import Derived.Test.YtfkfboiblgoamaaDoorQB10
import Derived.Test.YtfkfboiblgoamaaDoorQB11
/- The program's value.check: kind 4. -/
namespace Go.Proofs.YtfkfboiblgoamaaDoor
open Go.RowKit
set_option linter.unusedSimpArgs false
set_option linter.unusedVariables false
set_option maxHeartbeats 4000000 in
set_option maxRecDepth 100000 in
theorem chk4_bad {b n : Bool} {dd : ByteArray} {e tk td tn tz : Int} {x : ByteArray} {ba : Option Addr} {bc : Nat} {la : Option Addr} {lc : Nat} {fa : Option Addr} {fc bb bo lb lo fb fo : Nat} {Y : Nat → Int} {L : Nat → Vt} {K : Nat → ByteArray} {F : Nat → Vt} {d s : Int} {top B : Nat} {w : World} (hT : (Vt.mk ⟨4, b, n, dd, e, tk, td, tn, tz, x, ba, 0, bc, la, 0, lc, fa, 0, fc, bb, bo, lb, lo, fb, fo⟩ Y L K F).In w top) (ht : top ≤ B) (hB : Whole w B 3 #[.int .i64 s]) (d0 : 0 ≤ d) (s0 : 0 ≤ s) (h : d ≤ 48) (s1 : s ≤ 65535) (he : Vh.ext ⟨4, b, n, dd, e, tk, td, tn, tz, x, ba, 0, bc, la, 0, lc, fa, 0, fc, bb, bo, lb, lo, fb, fo⟩ = false) (hs : x.size ≤ 1048576) (hv : utfB x = false) :
    Calls Tryd.prog 54 #[.agg #[.int .i64 4, .bool b, .bool n, .string dd, .int .i64 e, .int .i64 tk, .int .i64 td, .int .i64 tn, .int .i64 tz, .string x, .slice ba 0 bc, .slice la 0 lc, .slice fa 0 fc], .int .i64 d, .pointer (some ⟨B, 0, none⟩)] w (ChkOut (s, 5) B w) := by
  have HX := Lib.hid (ext_any ⟨4, b, n, dd, e, tk, td, tn, tz, x, ba, 0, bc, la, 0, lc, fa, 0, fc, bb, bo, lb, lo, fb, fo⟩ ⟨by show (0 : Int) ≤ 4; decide, by show (4 : Int) ≤ 7; decide⟩)
  rw [he] at HX
  simp only [Vh.cells] at HX
  clear he
  have HU := Lib.hid (putf_any hs)
  rw [hv] at HU
  clear hv
  have hx0 : (0 : Int) ≤ x.size := by omega
  have hx1 : (x.size : Int) ≤ 1048576 := by omega
  have hBl := hB.lt
  have hz0 : (w.setCell ⟨B, 0, none⟩ (.int .i64 (s + 1))).heap.size = w.heap.size := by simp [World.setCell]
  have P1 := Whole.new (w.setCell ⟨B, 0, none⟩ (.int .i64 (s + 1))) 30 #[.int .i64 4, .bool b, .bool n, .string dd, .int .i64 e, .int .i64 tk, .int .i64 td, .int .i64 tn, .int .i64 tz, .string x, .slice ba 0 bc, .slice la 0 lc, .slice fa 0 fc]
  rw [hz0] at P1
  have B1 := (hB.s (.int .i64 (s + 1))).alloc (.cells #[.int .i64 4, .bool b, .bool n, .string dd, .int .i64 e, .int .i64 tk, .int .i64 td, .int .i64 tn, .int .i64 tz, .string x, .slice ba 0 bc, .slice la 0 lc, .slice fa 0 fc] 30)
  have K1 : Kept (· = B) w ((w.setCell ⟨B, 0, none⟩ (.int .i64 (s + 1))).alloc (.cells #[.int .i64 4, .bool b, .bool n, .string dd, .int .i64 e, .int .i64 tk, .int .i64 td, .int .i64 tn, .int .i64 tz, .string x, .slice ba 0 bc, .slice la 0 lc, .slice fa 0 fc] 30)) := (Kept.setB w B (.int .i64 (s + 1))).then ((Below.refl _ _).alloc (Nat.le_refl _) _)
  have bc0 := hB.cell 0
  have bf0 := hB.frozen 0
  clear hz0
  simp only [List.getElem?_toArray, List.getElem?_cons_zero] at bc0
  have HTk := Lib.hid (fun (w1 : World) (h : Kept (· = B) w w1) => Vt.In.below (h.below (Nat.le_of_lt (Nat.lt_of_le_of_lt ht hBl)) (fun c q e => by omega)) hT)
  clear HTk
  clear hT hB
  go_enter Tryd.func54, Tryd.ntmps54
  go_upto_region 2 with (fail)
  have hW : ∃ w1, (w.setCell ⟨B, 0, none⟩ (.int .i64 (s + 1))).alloc (.cells #[.int .i64 4, .bool b, .bool n, .string dd, .int .i64 e, .int .i64 tk, .int .i64 td, .int .i64 tn, .int .i64 tz, .string x, .slice ba 0 bc, .slice la 0 lc, .slice fa 0 fc] 30) = w1 := ⟨_, rfl⟩
  obtain ⟨w1, hw1⟩ := hW
  rw [hw1] at P1 B1 K1 ⊢
  clear hw1 bc0 bf0
  have bc1 := B1.cell 0
  simp only [List.getElem?_toArray, List.getElem?_cons_zero] at bc1
  obtain ⟨c0, c1, c2, c3, c4, c5, c6, c7, c8, c9, c10, c11, c12⟩ := Whole.c13 (h := ⟨4, b, n, dd, e, tk, td, tn, tz, x, ba, 0, bc, la, 0, lc, fa, 0, fc, bb, bo, lb, lo, fb, fo⟩) P1
  go_wp2_with fail
  refine (HX.out _).mono ?_; rintro _ w2 ⟨rfl, hb2⟩
  have P2 := P1.below hb2 P1.lt
  have B2 := B1.below hb2 B1.lt
  have K2 := K1.then hb2
  clear c0 c1 c2 c3 c4 c5 c6 c7 c8 c9 c10 c11 c12 bc1 P1 B1 K1 hb2
  have bc2 := B2.cell 0
  simp only [List.getElem?_toArray, List.getElem?_cons_zero] at bc2
  obtain ⟨c0, c1, c2, c3, c4, c5, c6, c7, c8, c9, c10, c11, c12⟩ := Whole.c13 (h := ⟨4, b, n, dd, e, tk, td, tn, tz, x, ba, 0, bc, la, 0, lc, fa, 0, fc, bb, bo, lb, lo, fb, fo⟩) P2
  go_wp2_with fail
  refine (HU.out _).mono ?_; rintro _ w3 ⟨rfl, rfl⟩
  go_wp2
  go_ret
  exact ⟨_, rfl, B2, fun q => absurd (show (5 : Int) = 0 from q) (by decide), K2⟩
set_option maxHeartbeats 4000000 in
set_option maxRecDepth 100000 in
theorem chk4_big {b n : Bool} {dd : ByteArray} {e tk td tn tz : Int} {x : ByteArray} {ba : Option Addr} {bc : Nat} {la : Option Addr} {lc : Nat} {fa : Option Addr} {fc bb bo lb lo fb fo : Nat} {Y : Nat → Int} {L : Nat → Vt} {K : Nat → ByteArray} {F : Nat → Vt} {d s : Int} {top B : Nat} {w : World} (hT : (Vt.mk ⟨4, b, n, dd, e, tk, td, tn, tz, x, ba, 0, bc, la, 0, lc, fa, 0, fc, bb, bo, lb, lo, fb, fo⟩ Y L K F).In w top) (ht : top ≤ B) (hB : Whole w B 3 #[.int .i64 s]) (d0 : 0 ≤ d) (s0 : 0 ≤ s) (h : d ≤ 48) (s1 : s ≤ 65535) (he : Vh.ext ⟨4, b, n, dd, e, tk, td, tn, tz, x, ba, 0, bc, la, 0, lc, fa, 0, fc, bb, bo, lb, lo, fb, fo⟩ = false) (hs : x.size ≤ 1048576) (hv : utfB x = true) (hx : 65536 < x.size) :
    Calls Tryd.prog 54 #[.agg #[.int .i64 4, .bool b, .bool n, .string dd, .int .i64 e, .int .i64 tk, .int .i64 td, .int .i64 tn, .int .i64 tz, .string x, .slice ba 0 bc, .slice la 0 lc, .slice fa 0 fc], .int .i64 d, .pointer (some ⟨B, 0, none⟩)] w (ChkOut (s, 10) B w) := by
  have HX := Lib.hid (ext_any ⟨4, b, n, dd, e, tk, td, tn, tz, x, ba, 0, bc, la, 0, lc, fa, 0, fc, bb, bo, lb, lo, fb, fo⟩ ⟨by show (0 : Int) ≤ 4; decide, by show (4 : Int) ≤ 7; decide⟩)
  rw [he] at HX
  simp only [Vh.cells] at HX
  clear he
  have HU := Lib.hid (putf_any hs)
  rw [hv] at HU
  clear hv
  have hx0 : (0 : Int) ≤ x.size := by omega
  have hx1 : (x.size : Int) ≤ 1048576 := by omega
  have hxi : (65536 : Int) < x.size := by omega
  have hBl := hB.lt
  have hz0 : (w.setCell ⟨B, 0, none⟩ (.int .i64 (s + 1))).heap.size = w.heap.size := by simp [World.setCell]
  have P1 := Whole.new (w.setCell ⟨B, 0, none⟩ (.int .i64 (s + 1))) 30 #[.int .i64 4, .bool b, .bool n, .string dd, .int .i64 e, .int .i64 tk, .int .i64 td, .int .i64 tn, .int .i64 tz, .string x, .slice ba 0 bc, .slice la 0 lc, .slice fa 0 fc]
  rw [hz0] at P1
  have B1 := (hB.s (.int .i64 (s + 1))).alloc (.cells #[.int .i64 4, .bool b, .bool n, .string dd, .int .i64 e, .int .i64 tk, .int .i64 td, .int .i64 tn, .int .i64 tz, .string x, .slice ba 0 bc, .slice la 0 lc, .slice fa 0 fc] 30)
  have K1 : Kept (· = B) w ((w.setCell ⟨B, 0, none⟩ (.int .i64 (s + 1))).alloc (.cells #[.int .i64 4, .bool b, .bool n, .string dd, .int .i64 e, .int .i64 tk, .int .i64 td, .int .i64 tn, .int .i64 tz, .string x, .slice ba 0 bc, .slice la 0 lc, .slice fa 0 fc] 30)) := (Kept.setB w B (.int .i64 (s + 1))).then ((Below.refl _ _).alloc (Nat.le_refl _) _)
  have bc0 := hB.cell 0
  have bf0 := hB.frozen 0
  clear hz0
  simp only [List.getElem?_toArray, List.getElem?_cons_zero] at bc0
  have HTk := Lib.hid (fun (w1 : World) (h : Kept (· = B) w w1) => Vt.In.below (h.below (Nat.le_of_lt (Nat.lt_of_le_of_lt ht hBl)) (fun c q e => by omega)) hT)
  clear HTk
  clear hT hB
  go_enter Tryd.func54, Tryd.ntmps54
  go_upto_region 2 with (fail)
  have hW : ∃ w1, (w.setCell ⟨B, 0, none⟩ (.int .i64 (s + 1))).alloc (.cells #[.int .i64 4, .bool b, .bool n, .string dd, .int .i64 e, .int .i64 tk, .int .i64 td, .int .i64 tn, .int .i64 tz, .string x, .slice ba 0 bc, .slice la 0 lc, .slice fa 0 fc] 30) = w1 := ⟨_, rfl⟩
  obtain ⟨w1, hw1⟩ := hW
  rw [hw1] at P1 B1 K1 ⊢
  clear hw1 bc0 bf0
  have bc1 := B1.cell 0
  simp only [List.getElem?_toArray, List.getElem?_cons_zero] at bc1
  obtain ⟨c0, c1, c2, c3, c4, c5, c6, c7, c8, c9, c10, c11, c12⟩ := Whole.c13 (h := ⟨4, b, n, dd, e, tk, td, tn, tz, x, ba, 0, bc, la, 0, lc, fa, 0, fc, bb, bo, lb, lo, fb, fo⟩) P1
  go_wp2_with fail
  refine (HX.out _).mono ?_; rintro _ w2 ⟨rfl, hb2⟩
  have P2 := P1.below hb2 P1.lt
  have B2 := B1.below hb2 B1.lt
  have K2 := K1.then hb2
  clear c0 c1 c2 c3 c4 c5 c6 c7 c8 c9 c10 c11 c12 bc1 P1 B1 K1 hb2
  have bc2 := B2.cell 0
  simp only [List.getElem?_toArray, List.getElem?_cons_zero] at bc2
  obtain ⟨c0, c1, c2, c3, c4, c5, c6, c7, c8, c9, c10, c11, c12⟩ := Whole.c13 (h := ⟨4, b, n, dd, e, tk, td, tn, tz, x, ba, 0, bc, la, 0, lc, fa, 0, fc, bb, bo, lb, lo, fb, fo⟩) P2
  go_wp2_with fail
  refine (HU.out _).mono ?_; rintro _ w3 ⟨rfl, rfl⟩
  go_wp2
  go_ret
  exact ⟨_, rfl, B2, fun q => absurd (show (10 : Int) = 0 from q) (by decide), K2⟩
set_option maxHeartbeats 4000000 in
set_option maxRecDepth 100000 in
theorem chk4_ok {b n : Bool} {dd : ByteArray} {e tk td tn tz : Int} {x : ByteArray} {ba : Option Addr} {bc : Nat} {la : Option Addr} {lc : Nat} {fa : Option Addr} {fc bb bo lb lo fb fo : Nat} {Y : Nat → Int} {L : Nat → Vt} {K : Nat → ByteArray} {F : Nat → Vt} {d s : Int} {top B : Nat} {w : World} (hT : (Vt.mk ⟨4, b, n, dd, e, tk, td, tn, tz, x, ba, 0, bc, la, 0, lc, fa, 0, fc, bb, bo, lb, lo, fb, fo⟩ Y L K F).In w top) (ht : top ≤ B) (hB : Whole w B 3 #[.int .i64 s]) (d0 : 0 ≤ d) (s0 : 0 ≤ s) (h : d ≤ 48) (s1 : s ≤ 65535) (he : Vh.ext ⟨4, b, n, dd, e, tk, td, tn, tz, x, ba, 0, bc, la, 0, lc, fa, 0, fc, bb, bo, lb, lo, fb, fo⟩ = false) (hs : x.size ≤ 1048576) (hv : utfB x = true) (hx : x.size ≤ 65536) :
    Calls Tryd.prog 54 #[.agg #[.int .i64 4, .bool b, .bool n, .string dd, .int .i64 e, .int .i64 tk, .int .i64 td, .int .i64 tn, .int .i64 tz, .string x, .slice ba 0 bc, .slice la 0 lc, .slice fa 0 fc], .int .i64 d, .pointer (some ⟨B, 0, none⟩)] w (ChkOut (s + 1, 0) B w) := by
  have HX := Lib.hid (ext_any ⟨4, b, n, dd, e, tk, td, tn, tz, x, ba, 0, bc, la, 0, lc, fa, 0, fc, bb, bo, lb, lo, fb, fo⟩ ⟨by show (0 : Int) ≤ 4; decide, by show (4 : Int) ≤ 7; decide⟩)
  rw [he] at HX
  simp only [Vh.cells] at HX
  clear he
  have HU := Lib.hid (putf_any hs)
  rw [hv] at HU
  clear hv
  have hx0 : (0 : Int) ≤ x.size := by omega
  have hx1 : (x.size : Int) ≤ 1048576 := by omega
  have hBl := hB.lt
  have hz0 : (w.setCell ⟨B, 0, none⟩ (.int .i64 (s + 1))).heap.size = w.heap.size := by simp [World.setCell]
  have P1 := Whole.new (w.setCell ⟨B, 0, none⟩ (.int .i64 (s + 1))) 30 #[.int .i64 4, .bool b, .bool n, .string dd, .int .i64 e, .int .i64 tk, .int .i64 td, .int .i64 tn, .int .i64 tz, .string x, .slice ba 0 bc, .slice la 0 lc, .slice fa 0 fc]
  rw [hz0] at P1
  have B1 := (hB.s (.int .i64 (s + 1))).alloc (.cells #[.int .i64 4, .bool b, .bool n, .string dd, .int .i64 e, .int .i64 tk, .int .i64 td, .int .i64 tn, .int .i64 tz, .string x, .slice ba 0 bc, .slice la 0 lc, .slice fa 0 fc] 30)
  have K1 : Kept (· = B) w ((w.setCell ⟨B, 0, none⟩ (.int .i64 (s + 1))).alloc (.cells #[.int .i64 4, .bool b, .bool n, .string dd, .int .i64 e, .int .i64 tk, .int .i64 td, .int .i64 tn, .int .i64 tz, .string x, .slice ba 0 bc, .slice la 0 lc, .slice fa 0 fc] 30)) := (Kept.setB w B (.int .i64 (s + 1))).then ((Below.refl _ _).alloc (Nat.le_refl _) _)
  have bc0 := hB.cell 0
  have bf0 := hB.frozen 0
  clear hz0
  simp only [List.getElem?_toArray, List.getElem?_cons_zero] at bc0
  have HTk := Lib.hid (fun (w1 : World) (h : Kept (· = B) w w1) => Vt.In.below (h.below (Nat.le_of_lt (Nat.lt_of_le_of_lt ht hBl)) (fun c q e => by omega)) hT)
  have HKy := Lib.hid (fun (w1 : World) (h : Kept (· = B) w w1) => show Calls Tryd.prog 67 #[.slice fa 0 fc] w1 fun r w' => r = .returned (.int .i64 (0)) ∧ Below w1.heap.size w1 w' from vkeys_any (T := (Vt.mk ⟨4, b, n, dd, e, tk, td, tn, tz, x, ba, 0, bc, la, 0, lc, fa, 0, fc, bb, bo, lb, lo, fb, fo⟩ Y L K F)) (top := top) (HTk.out w1 h) (by have := h.size; omega))
  have hxi : (x.size : Int) ≤ 65536 := by omega
  clear HTk
  clear hT hB
  go_enter Tryd.func54, Tryd.ntmps54
  go_upto_region 2 with (fail)
  have hW : ∃ w1, (w.setCell ⟨B, 0, none⟩ (.int .i64 (s + 1))).alloc (.cells #[.int .i64 4, .bool b, .bool n, .string dd, .int .i64 e, .int .i64 tk, .int .i64 td, .int .i64 tn, .int .i64 tz, .string x, .slice ba 0 bc, .slice la 0 lc, .slice fa 0 fc] 30) = w1 := ⟨_, rfl⟩
  obtain ⟨w1, hw1⟩ := hW
  rw [hw1] at P1 B1 K1 ⊢
  clear hw1 bc0 bf0
  have bc1 := B1.cell 0
  simp only [List.getElem?_toArray, List.getElem?_cons_zero] at bc1
  obtain ⟨c0, c1, c2, c3, c4, c5, c6, c7, c8, c9, c10, c11, c12⟩ := Whole.c13 (h := ⟨4, b, n, dd, e, tk, td, tn, tz, x, ba, 0, bc, la, 0, lc, fa, 0, fc, bb, bo, lb, lo, fb, fo⟩) P1
  go_wp2_with fail
  refine (HX.out _).mono ?_; rintro _ w2 ⟨rfl, hb2⟩
  have P2 := P1.below hb2 P1.lt
  have B2 := B1.below hb2 B1.lt
  have K2 := K1.then hb2
  clear c0 c1 c2 c3 c4 c5 c6 c7 c8 c9 c10 c11 c12 bc1 P1 B1 K1 hb2
  have bc2 := B2.cell 0
  simp only [List.getElem?_toArray, List.getElem?_cons_zero] at bc2
  obtain ⟨c0, c1, c2, c3, c4, c5, c6, c7, c8, c9, c10, c11, c12⟩ := Whole.c13 (h := ⟨4, b, n, dd, e, tk, td, tn, tz, x, ba, 0, bc, la, 0, lc, fa, 0, fc, bb, bo, lb, lo, fb, fo⟩) P2
  go_wp2_with fail
  refine (HU.out _).mono ?_; rintro _ w3 ⟨rfl, rfl⟩
  go_wp2_with fail
  refine (HKy.out _ K2).mono ?_; rintro _ w3 ⟨rfl, hb3⟩
  have P3 := P2.below hb3 P2.lt
  have B3 := B2.below hb3 B2.lt
  have K3 := K2.then hb3
  clear c0 c1 c2 c3 c4 c5 c6 c7 c8 c9 c10 c11 c12 bc2 P2 B2 K2 hb3
  have bc3 := B3.cell 0
  simp only [List.getElem?_toArray, List.getElem?_cons_zero] at bc3
  obtain ⟨c0, c1, c2, c3, c4, c5, c6, c7, c8, c9, c10, c11, c12⟩ := Whole.c13 (h := ⟨4, b, n, dd, e, tk, td, tn, tz, x, ba, 0, bc, la, 0, lc, fa, 0, fc, bb, bo, lb, lo, fb, fo⟩) P3
  go_wp2_with fail
  go_loopw [91] (fun i wr => i = .int .i64 0 ∧ wr = w3) (fun _ _ => 0)
  case atStart => exact ⟨rfl, rfl⟩
  case round =>
    obtain ⟨rfl, rfl⟩ := hrel
    go_wp2_with fail
    go_loopw [107] (fun i wr' => i = .int .i64 0 ∧ wr' = wr) (fun _ _ => 0)
    case atStart => exact ⟨rfl, rfl⟩
    case round =>
      obtain ⟨rfl, rfl⟩ := hrel
      go_wp2
      go_ret
      exact ⟨_, rfl, B3, fun _ => rfl, K3⟩
end Go.Proofs.YtfkfboiblgoamaaDoor
/- The program's value.check: kind P. -/
namespace Go.Proofs.YtfkfboiblgoamaaDoor
open Go.RowKit
set_option linter.unusedSimpArgs false
set_option linter.unusedVariables false
set_option maxHeartbeats 4000000 in
set_option maxRecDepth 100000 in
theorem chkP_big {k : Int} {b n : Bool} {dd : ByteArray} {e tk td tn tz : Int} {x : ByteArray} {ba : Option Addr} {bn bc : Nat} {la : Option Addr} {lc : Nat} {fa : Option Addr} {fc bb bo lb lo fb fo : Nat} {Y : Nat → Int} {L : Nat → Vt} {K : Nat → ByteArray} {F : Nat → Vt} {d s : Int} {top B : Nat} {w : World} (hT : (Vt.mk ⟨k, b, n, dd, e, tk, td, tn, tz, x, ba, bn, bc, la, 0, lc, fa, 0, fc, bb, bo, lb, lo, fb, fo⟩ Y L K F).In w top) (ht : top ≤ B) (hB : Whole w B 3 #[.int .i64 s]) (d0 : 0 ≤ d) (s0 : 0 ≤ s) (h : d ≤ 48) (s1 : s ≤ 65535) (he : Vh.ext ⟨k, b, n, dd, e, tk, td, tn, tz, x, ba, bn, bc, la, 0, lc, fa, 0, fc, bb, bo, lb, lo, fb, fo⟩ = false) (hk0 : 0 ≤ k) (hk7 : k ≤ 7) (q2 : (k == 2) = false) (q3 : (k == 3) = false) (q4 : (k == 4) = false) (hx : x.size ≤ 65536) (hy : 65536 < bn) (hy2 : bn ≤ 1048576) :
    Calls Tryd.prog 54 #[.agg #[.int .i64 k, .bool b, .bool n, .string dd, .int .i64 e, .int .i64 tk, .int .i64 td, .int .i64 tn, .int .i64 tz, .string x, .slice ba bn bc, .slice la 0 lc, .slice fa 0 fc], .int .i64 d, .pointer (some ⟨B, 0, none⟩)] w (ChkOut (s, 10) B w) := by
  have HX := Lib.hid (ext_any ⟨k, b, n, dd, e, tk, td, tn, tz, x, ba, bn, bc, la, 0, lc, fa, 0, fc, bb, bo, lb, lo, fb, fo⟩ ⟨hk0, hk7⟩)
  rw [he] at HX
  simp only [Vh.cells] at HX
  clear he
  have hxi : (x.size : Int) ≤ 65536 := by omega
  have hyi : (65536 : Int) < bn := by omega
  have hBl := hB.lt
  have hz0 : (w.setCell ⟨B, 0, none⟩ (.int .i64 (s + 1))).heap.size = w.heap.size := by simp [World.setCell]
  have P1 := Whole.new (w.setCell ⟨B, 0, none⟩ (.int .i64 (s + 1))) 30 #[.int .i64 k, .bool b, .bool n, .string dd, .int .i64 e, .int .i64 tk, .int .i64 td, .int .i64 tn, .int .i64 tz, .string x, .slice ba bn bc, .slice la 0 lc, .slice fa 0 fc]
  rw [hz0] at P1
  have B1 := (hB.s (.int .i64 (s + 1))).alloc (.cells #[.int .i64 k, .bool b, .bool n, .string dd, .int .i64 e, .int .i64 tk, .int .i64 td, .int .i64 tn, .int .i64 tz, .string x, .slice ba bn bc, .slice la 0 lc, .slice fa 0 fc] 30)
  have K1 : Kept (· = B) w ((w.setCell ⟨B, 0, none⟩ (.int .i64 (s + 1))).alloc (.cells #[.int .i64 k, .bool b, .bool n, .string dd, .int .i64 e, .int .i64 tk, .int .i64 td, .int .i64 tn, .int .i64 tz, .string x, .slice ba bn bc, .slice la 0 lc, .slice fa 0 fc] 30)) := (Kept.setB w B (.int .i64 (s + 1))).then ((Below.refl _ _).alloc (Nat.le_refl _) _)
  have bc0 := hB.cell 0
  have bf0 := hB.frozen 0
  clear hz0
  simp only [List.getElem?_toArray, List.getElem?_cons_zero] at bc0
  have HTk := Lib.hid (fun (w1 : World) (h : Kept (· = B) w w1) => Vt.In.below (h.below (Nat.le_of_lt (Nat.lt_of_le_of_lt ht hBl)) (fun c q e => by omega)) hT)
  clear HTk
  clear hT hB
  go_enter Tryd.func54, Tryd.ntmps54
  go_upto_region 2 with (fail)
  have hW : ∃ w1, (w.setCell ⟨B, 0, none⟩ (.int .i64 (s + 1))).alloc (.cells #[.int .i64 k, .bool b, .bool n, .string dd, .int .i64 e, .int .i64 tk, .int .i64 td, .int .i64 tn, .int .i64 tz, .string x, .slice ba bn bc, .slice la 0 lc, .slice fa 0 fc] 30) = w1 := ⟨_, rfl⟩
  obtain ⟨w1, hw1⟩ := hW
  rw [hw1] at P1 B1 K1 ⊢
  clear hw1 bc0 bf0
  have bc1 := B1.cell 0
  simp only [List.getElem?_toArray, List.getElem?_cons_zero] at bc1
  obtain ⟨c0, c1, c2, c3, c4, c5, c6, c7, c8, c9, c10, c11, c12⟩ := Whole.c13 (h := ⟨k, b, n, dd, e, tk, td, tn, tz, x, ba, bn, bc, la, 0, lc, fa, 0, fc, bb, bo, lb, lo, fb, fo⟩) P1
  go_wp2_with fail
  refine (HX.out _).mono ?_; rintro _ w2 ⟨rfl, hb2⟩
  have P2 := P1.below hb2 P1.lt
  have B2 := B1.below hb2 B1.lt
  have K2 := K1.then hb2
  clear c0 c1 c2 c3 c4 c5 c6 c7 c8 c9 c10 c11 c12 bc1 P1 B1 K1 hb2
  have bc2 := B2.cell 0
  simp only [List.getElem?_toArray, List.getElem?_cons_zero] at bc2
  obtain ⟨c0, c1, c2, c3, c4, c5, c6, c7, c8, c9, c10, c11, c12⟩ := Whole.c13 (h := ⟨k, b, n, dd, e, tk, td, tn, tz, x, ba, bn, bc, la, 0, lc, fa, 0, fc, bb, bo, lb, lo, fb, fo⟩) P2
  go_wp2
  go_ret
  exact ⟨_, rfl, B2, fun q => absurd (show (10 : Int) = 0 from q) (by decide), K2⟩
set_option maxHeartbeats 4000000 in
set_option maxRecDepth 100000 in
theorem chkP_ok {k : Int} {b n : Bool} {dd : ByteArray} {e tk td tn tz : Int} {x : ByteArray} {ba : Option Addr} {bn bc : Nat} {la : Option Addr} {lc : Nat} {fa : Option Addr} {fc bb bo lb lo fb fo : Nat} {Y : Nat → Int} {L : Nat → Vt} {K : Nat → ByteArray} {F : Nat → Vt} {d s : Int} {top B : Nat} {w : World} (hT : (Vt.mk ⟨k, b, n, dd, e, tk, td, tn, tz, x, ba, bn, bc, la, 0, lc, fa, 0, fc, bb, bo, lb, lo, fb, fo⟩ Y L K F).In w top) (ht : top ≤ B) (hB : Whole w B 3 #[.int .i64 s]) (d0 : 0 ≤ d) (s0 : 0 ≤ s) (h : d ≤ 48) (s1 : s ≤ 65535) (he : Vh.ext ⟨k, b, n, dd, e, tk, td, tn, tz, x, ba, bn, bc, la, 0, lc, fa, 0, fc, bb, bo, lb, lo, fb, fo⟩ = false) (hk0 : 0 ≤ k) (hk7 : k ≤ 7) (q2 : (k == 2) = false) (q3 : (k == 3) = false) (q4 : (k == 4) = false) (hx : x.size ≤ 65536) (hy : bn ≤ 65536) :
    Calls Tryd.prog 54 #[.agg #[.int .i64 k, .bool b, .bool n, .string dd, .int .i64 e, .int .i64 tk, .int .i64 td, .int .i64 tn, .int .i64 tz, .string x, .slice ba bn bc, .slice la 0 lc, .slice fa 0 fc], .int .i64 d, .pointer (some ⟨B, 0, none⟩)] w (ChkOut (s + 1, 0) B w) := by
  have HX := Lib.hid (ext_any ⟨k, b, n, dd, e, tk, td, tn, tz, x, ba, bn, bc, la, 0, lc, fa, 0, fc, bb, bo, lb, lo, fb, fo⟩ ⟨hk0, hk7⟩)
  rw [he] at HX
  simp only [Vh.cells] at HX
  clear he
  have hxi : (x.size : Int) ≤ 65536 := by omega
  have hyi : (bn : Int) ≤ 65536 := by omega
  have hBl := hB.lt
  have hz0 : (w.setCell ⟨B, 0, none⟩ (.int .i64 (s + 1))).heap.size = w.heap.size := by simp [World.setCell]
  have P1 := Whole.new (w.setCell ⟨B, 0, none⟩ (.int .i64 (s + 1))) 30 #[.int .i64 k, .bool b, .bool n, .string dd, .int .i64 e, .int .i64 tk, .int .i64 td, .int .i64 tn, .int .i64 tz, .string x, .slice ba bn bc, .slice la 0 lc, .slice fa 0 fc]
  rw [hz0] at P1
  have B1 := (hB.s (.int .i64 (s + 1))).alloc (.cells #[.int .i64 k, .bool b, .bool n, .string dd, .int .i64 e, .int .i64 tk, .int .i64 td, .int .i64 tn, .int .i64 tz, .string x, .slice ba bn bc, .slice la 0 lc, .slice fa 0 fc] 30)
  have K1 : Kept (· = B) w ((w.setCell ⟨B, 0, none⟩ (.int .i64 (s + 1))).alloc (.cells #[.int .i64 k, .bool b, .bool n, .string dd, .int .i64 e, .int .i64 tk, .int .i64 td, .int .i64 tn, .int .i64 tz, .string x, .slice ba bn bc, .slice la 0 lc, .slice fa 0 fc] 30)) := (Kept.setB w B (.int .i64 (s + 1))).then ((Below.refl _ _).alloc (Nat.le_refl _) _)
  have bc0 := hB.cell 0
  have bf0 := hB.frozen 0
  clear hz0
  simp only [List.getElem?_toArray, List.getElem?_cons_zero] at bc0
  have HTk := Lib.hid (fun (w1 : World) (h : Kept (· = B) w w1) => Vt.In.below (h.below (Nat.le_of_lt (Nat.lt_of_le_of_lt ht hBl)) (fun c q e => by omega)) hT)
  have HKy := Lib.hid (fun (w1 : World) (h : Kept (· = B) w w1) => show Calls Tryd.prog 67 #[.slice fa 0 fc] w1 fun r w' => r = .returned (.int .i64 (0)) ∧ Below w1.heap.size w1 w' from vkeys_any (T := (Vt.mk ⟨k, b, n, dd, e, tk, td, tn, tz, x, ba, bn, bc, la, 0, lc, fa, 0, fc, bb, bo, lb, lo, fb, fo⟩ Y L K F)) (top := top) (HTk.out w1 h) (by have := h.size; omega))
  clear HTk
  clear hT hB
  go_enter Tryd.func54, Tryd.ntmps54
  go_upto_region 2 with (fail)
  have hW : ∃ w1, (w.setCell ⟨B, 0, none⟩ (.int .i64 (s + 1))).alloc (.cells #[.int .i64 k, .bool b, .bool n, .string dd, .int .i64 e, .int .i64 tk, .int .i64 td, .int .i64 tn, .int .i64 tz, .string x, .slice ba bn bc, .slice la 0 lc, .slice fa 0 fc] 30) = w1 := ⟨_, rfl⟩
  obtain ⟨w1, hw1⟩ := hW
  rw [hw1] at P1 B1 K1 ⊢
  clear hw1 bc0 bf0
  have bc1 := B1.cell 0
  simp only [List.getElem?_toArray, List.getElem?_cons_zero] at bc1
  obtain ⟨c0, c1, c2, c3, c4, c5, c6, c7, c8, c9, c10, c11, c12⟩ := Whole.c13 (h := ⟨k, b, n, dd, e, tk, td, tn, tz, x, ba, bn, bc, la, 0, lc, fa, 0, fc, bb, bo, lb, lo, fb, fo⟩) P1
  go_wp2_with fail
  refine (HX.out _).mono ?_; rintro _ w2 ⟨rfl, hb2⟩
  have P2 := P1.below hb2 P1.lt
  have B2 := B1.below hb2 B1.lt
  have K2 := K1.then hb2
  clear c0 c1 c2 c3 c4 c5 c6 c7 c8 c9 c10 c11 c12 bc1 P1 B1 K1 hb2
  have bc2 := B2.cell 0
  simp only [List.getElem?_toArray, List.getElem?_cons_zero] at bc2
  obtain ⟨c0, c1, c2, c3, c4, c5, c6, c7, c8, c9, c10, c11, c12⟩ := Whole.c13 (h := ⟨k, b, n, dd, e, tk, td, tn, tz, x, ba, bn, bc, la, 0, lc, fa, 0, fc, bb, bo, lb, lo, fb, fo⟩) P2
  go_wp2_with fail
  refine (HKy.out _ K2).mono ?_; rintro _ w3 ⟨rfl, hb3⟩
  have P3 := P2.below hb3 P2.lt
  have B3 := B2.below hb3 B2.lt
  have K3 := K2.then hb3
  clear c0 c1 c2 c3 c4 c5 c6 c7 c8 c9 c10 c11 c12 bc2 P2 B2 K2 hb3
  have bc3 := B3.cell 0
  simp only [List.getElem?_toArray, List.getElem?_cons_zero] at bc3
  obtain ⟨c0, c1, c2, c3, c4, c5, c6, c7, c8, c9, c10, c11, c12⟩ := Whole.c13 (h := ⟨k, b, n, dd, e, tk, td, tn, tz, x, ba, bn, bc, la, 0, lc, fa, 0, fc, bb, bo, lb, lo, fb, fo⟩) P3
  go_wp2_with fail
  go_loopw [91] (fun i wr => i = .int .i64 0 ∧ wr = w3) (fun _ _ => 0)
  case atStart => exact ⟨rfl, rfl⟩
  case round =>
    obtain ⟨rfl, rfl⟩ := hrel
    go_wp2_with fail
    go_loopw [107] (fun i wr' => i = .int .i64 0 ∧ wr' = wr) (fun _ _ => 0)
    case atStart => exact ⟨rfl, rfl⟩
    case round =>
      obtain ⟨rfl, rfl⟩ := hrel
      go_wp2
      go_ret
      exact ⟨_, rfl, B3, fun _ => rfl, K3⟩
end Go.Proofs.YtfkfboiblgoamaaDoor
/- The program's value.check: kind L. -/
namespace Go.Proofs.YtfkfboiblgoamaaDoor
open Go.RowKit
set_option linter.unusedSimpArgs false
set_option linter.unusedVariables false
set_option maxHeartbeats 4000000 in
set_option maxRecDepth 100000 in
theorem chkL_ok {b n : Bool} {dd : ByteArray} {e tk td tn tz : Int} {x : ByteArray} {ba : Option Addr} {bc : Nat} {la : Option Addr} {ln lc : Nat} {fa : Option Addr} {fc bb bo lb lo fb fo : Nat} {Y : Nat → Int} {L : Nat → Vt} {K : Nat → ByteArray} {F : Nat → Vt} {d s : Int} {top B : Nat} {w : World} (hT : (Vt.mk ⟨6, b, n, dd, e, tk, td, tn, tz, x, ba, 0, bc, la, ln, lc, fa, 0, fc, bb, bo, lb, lo, fb, fo⟩ Y L K F).In w top) (ht : top ≤ B) (hB : Whole w B 3 #[.int .i64 s]) (d0 : 0 ≤ d) (s0 : 0 ≤ s) (h : d ≤ 48) (s1 : s ≤ 65535) (he : Vh.ext ⟨6, b, n, dd, e, tk, td, tn, tz, x, ba, 0, bc, la, ln, lc, fa, 0, fc, bb, bo, lb, lo, fb, fo⟩ = false) (ih : ∀ i, i < ln → ChkIs (L i)) (hx : x.size ≤ 65536) :
    Calls Tryd.prog 54 #[.agg #[.int .i64 6, .bool b, .bool n, .string dd, .int .i64 e, .int .i64 tk, .int .i64 td, .int .i64 tn, .int .i64 tz, .string x, .slice ba 0 bc, .slice la ln lc, .slice fa 0 fc], .int .i64 d, .pointer (some ⟨B, 0, none⟩)] w (ChkOut (foldE (fun i t => (L i).look (d + 1) t) ln (s + 1)) B w) := by
  have hnb : ln ≤ 1048576 := hT.1.ln
  have hni : (ln : Int) ≤ 1048576 := by omega
  obtain ⟨f, hf⟩ : ∃ f, (fun i t => (L i).look (d + 1) t) = f := ⟨_, rfl⟩
  rw [hf]
  have HF : Hid (∀ j, s + 1 ≤ (foldE f j (s + 1)).1 ∧ (foldE f j (s + 1)).1 ≤ 65536) := Lib.hid fun j => foldE_bd (by omega) (fun i t ht => by rw [← hf]; exact Vt.look_bd (L i) (d + 1) t ht) j
  have HI := Lib.hid ih
  have Hf := Lib.hid hf
  clear ih hf
  have HX := Lib.hid (ext_any ⟨6, b, n, dd, e, tk, td, tn, tz, x, ba, 0, bc, la, ln, lc, fa, 0, fc, bb, bo, lb, lo, fb, fo⟩ ⟨by show (0 : Int) ≤ 6; decide, by show (6 : Int) ≤ 7; decide⟩)
  rw [he] at HX
  simp only [Vh.cells] at HX
  clear he
  have hxi : (x.size : Int) ≤ 65536 := by omega
  have hBl := hB.lt
  have hz0 : (w.setCell ⟨B, 0, none⟩ (.int .i64 (s + 1))).heap.size = w.heap.size := by simp [World.setCell]
  have P1 := Whole.new (w.setCell ⟨B, 0, none⟩ (.int .i64 (s + 1))) 30 #[.int .i64 6, .bool b, .bool n, .string dd, .int .i64 e, .int .i64 tk, .int .i64 td, .int .i64 tn, .int .i64 tz, .string x, .slice ba 0 bc, .slice la ln lc, .slice fa 0 fc]
  rw [hz0] at P1
  have B1 := (hB.s (.int .i64 (s + 1))).alloc (.cells #[.int .i64 6, .bool b, .bool n, .string dd, .int .i64 e, .int .i64 tk, .int .i64 td, .int .i64 tn, .int .i64 tz, .string x, .slice ba 0 bc, .slice la ln lc, .slice fa 0 fc] 30)
  have K1 : Kept (· = B) w ((w.setCell ⟨B, 0, none⟩ (.int .i64 (s + 1))).alloc (.cells #[.int .i64 6, .bool b, .bool n, .string dd, .int .i64 e, .int .i64 tk, .int .i64 td, .int .i64 tn, .int .i64 tz, .string x, .slice ba 0 bc, .slice la ln lc, .slice fa 0 fc] 30)) := (Kept.setB w B (.int .i64 (s + 1))).then ((Below.refl _ _).alloc (Nat.le_refl _) _)
  have bc0 := hB.cell 0
  have bf0 := hB.frozen 0
  clear hz0
  simp only [List.getElem?_toArray, List.getElem?_cons_zero] at bc0
  have HTk := Lib.hid (fun (w1 : World) (h : Kept (· = B) w w1) => Vt.In.below (h.below (Nat.le_of_lt (Nat.lt_of_le_of_lt ht hBl)) (fun c q e => by omega)) hT)
  have HKy := Lib.hid (fun (w1 : World) (h : Kept (· = B) w w1) => show Calls Tryd.prog 67 #[.slice fa 0 fc] w1 fun r w' => r = .returned (.int .i64 (0)) ∧ Below w1.heap.size w1 w' from vkeys_any (T := (Vt.mk ⟨6, b, n, dd, e, tk, td, tn, tz, x, ba, 0, bc, la, ln, lc, fa, 0, fc, bb, bo, lb, lo, fb, fo⟩ Y L K F)) (top := top) (HTk.out w1 h) (by have := h.size; omega))
  have HAd := Lib.hid (fun (q : 0 < ln) => hT.2.2.2.1 q)
  have HRw := Lib.hid (fun (w1 : World) (h : Kept (· = B) w w1) (j : Nat) (hj : j < ln) => (⟨((HTk.out w1 h).2.2.2.2.1 j hj).1, ((HTk.out w1 h).2.2.2.2.1 j hj).2⟩ : LiesAt w1 lb (lo + j * 13) (L j).h.cells ∧ (L j).In w1 top))
  clear HTk
  clear hT hB
  go_enter Tryd.func54, Tryd.ntmps54
  go_upto_region 2 with (fail)
  have hW : ∃ w1, (w.setCell ⟨B, 0, none⟩ (.int .i64 (s + 1))).alloc (.cells #[.int .i64 6, .bool b, .bool n, .string dd, .int .i64 e, .int .i64 tk, .int .i64 td, .int .i64 tn, .int .i64 tz, .string x, .slice ba 0 bc, .slice la ln lc, .slice fa 0 fc] 30) = w1 := ⟨_, rfl⟩
  obtain ⟨w1, hw1⟩ := hW
  rw [hw1] at P1 B1 K1 ⊢
  clear hw1 bc0 bf0
  have bc1 := B1.cell 0
  simp only [List.getElem?_toArray, List.getElem?_cons_zero] at bc1
  obtain ⟨c0, c1, c2, c3, c4, c5, c6, c7, c8, c9, c10, c11, c12⟩ := Whole.c13 (h := ⟨6, b, n, dd, e, tk, td, tn, tz, x, ba, 0, bc, la, ln, lc, fa, 0, fc, bb, bo, lb, lo, fb, fo⟩) P1
  go_wp2_with fail
  refine (HX.out _).mono ?_; rintro _ w2 ⟨rfl, hb2⟩
  have P2 := P1.below hb2 P1.lt
  have B2 := B1.below hb2 B1.lt
  have K2 := K1.then hb2
  clear c0 c1 c2 c3 c4 c5 c6 c7 c8 c9 c10 c11 c12 bc1 P1 B1 K1 hb2
  have bc2 := B2.cell 0
  simp only [List.getElem?_toArray, List.getElem?_cons_zero] at bc2
  obtain ⟨c0, c1, c2, c3, c4, c5, c6, c7, c8, c9, c10, c11, c12⟩ := Whole.c13 (h := ⟨6, b, n, dd, e, tk, td, tn, tz, x, ba, 0, bc, la, ln, lc, fa, 0, fc, bb, bo, lb, lo, fb, fo⟩) P2
  go_wp2_with fail
  refine (HKy.out _ K2).mono ?_; rintro _ w3 ⟨rfl, hb3⟩
  have P3 := P2.below hb3 P2.lt
  have B3 := B2.below hb3 B2.lt
  have K3 := K2.then hb3
  clear c0 c1 c2 c3 c4 c5 c6 c7 c8 c9 c10 c11 c12 bc2 P2 B2 K2 hb3
  have bc3 := B3.cell 0
  simp only [List.getElem?_toArray, List.getElem?_cons_zero] at bc3
  obtain ⟨c0, c1, c2, c3, c4, c5, c6, c7, c8, c9, c10, c11, c12⟩ := Whole.c13 (h := ⟨6, b, n, dd, e, tk, td, tn, tz, x, ba, 0, bc, la, ln, lc, fa, 0, fc, bb, bo, lb, lo, fb, fo⟩) P3
  go_wp2_with fail
  go_loopw [91] (fun i wr => ∃ j : Nat, j ≤ ln ∧ i = .int .i64 j ∧ (foldE f j (s + 1)).2 = 0 ∧ Whole wr B 3 #[.int .i64 (foldE f j (s + 1)).1] ∧ Kept (· = B) w wr ∧ Whole wr w.heap.size 30 #[.int .i64 6, .bool b, .bool n, .string dd, .int .i64 e, .int .i64 tk, .int .i64 td, .int .i64 tn, .int .i64 tz, .string x, .slice ba 0 bc, .slice la ln lc, .slice fa 0 fc]) (fun i _ => ln - (intOf i).toNat)
  case atStart => exact ⟨0, by omega, rfl, rfl, B3, K3, P3⟩
  case round =>
    clear P3 B3 K3 bc3 c0 c1 c2 c3 c4 c5 c6 c7 c8 c9 c10 c11 c12
    obtain ⟨j, hj, rfl, hj0, Bw, Kw, Pw⟩ := hrel
    have hji : (0 : Int) ≤ j := by omega
    obtain ⟨q1, q2⟩ := HF.out j
    have Hst := Lib.hid (foldE_stays (f := f) (s := s + 1) (n := j + 1))
    have hsucc := foldE_succ (f := f) (s := s + 1) (n := j) hj0
    obtain ⟨t, ht'⟩ : ∃ t, (foldE f j (s + 1)).1 = t := ⟨_, rfl⟩
    rw [ht'] at q1 q2 hsucc Bw
    by_cases hjn : j < ln
    · have hji2 : (j : Int) < ln := by omega
      obtain ⟨hl, hin⟩ := HRw.out wr Kw j hjn
      obtain ⟨e1, -⟩ := HAd.out (by omega)
      subst e1
      obtain ⟨l0, l1, l2, l3, l4, l5, l6, l7, l8, l9, l10, l11, l12⟩ := hl.c13
      have A1 := (Below.refl wr.heap.size wr).alloc (Nat.le_refl _) (.cells #[.int .i64 (L j).h.k, .bool (L j).h.b, .bool (L j).h.n, .string (L j).h.d, .int .i64 (L j).h.e, .int .i64 (L j).h.tk, .int .i64 (L j).h.td, .int .i64 (L j).h.tn, .int .i64 (L j).h.tz, .string (L j).h.x, .slice (L j).h.ba (L j).h.bn (L j).h.bc, .slice (L j).h.la (L j).h.ln (L j).h.lc, .slice (L j).h.fa (L j).h.fn (L j).h.fc] 30)
      have BA := Bw.alloc (.cells #[.int .i64 (L j).h.k, .bool (L j).h.b, .bool (L j).h.n, .string (L j).h.d, .int .i64 (L j).h.e, .int .i64 (L j).h.tk, .int .i64 (L j).h.td, .int .i64 (L j).h.tn, .int .i64 (L j).h.tz, .string (L j).h.x, .slice (L j).h.ba (L j).h.bn (L j).h.bc, .slice (L j).h.la (L j).h.ln (L j).h.lc, .slice (L j).h.fa (L j).h.fn (L j).h.fc] 30)
      have PA := Pw.alloc (.cells #[.int .i64 (L j).h.k, .bool (L j).h.b, .bool (L j).h.n, .string (L j).h.d, .int .i64 (L j).h.e, .int .i64 (L j).h.tk, .int .i64 (L j).h.td, .int .i64 (L j).h.tn, .int .i64 (L j).h.tz, .string (L j).h.x, .slice (L j).h.ba (L j).h.bn (L j).h.bc, .slice (L j).h.la (L j).h.ln (L j).h.lc, .slice (L j).h.fa (L j).h.fn (L j).h.fc] 30)
      have KA := Kw.then A1
      have E1 : Whole (wr.alloc (.cells #[.int .i64 (L j).h.k, .bool (L j).h.b, .bool (L j).h.n, .string (L j).h.d, .int .i64 (L j).h.e, .int .i64 (L j).h.tk, .int .i64 (L j).h.td, .int .i64 (L j).h.tn, .int .i64 (L j).h.tz, .string (L j).h.x, .slice (L j).h.ba (L j).h.bn (L j).h.bc, .slice (L j).h.la (L j).h.ln (L j).h.lc, .slice (L j).h.fa (L j).h.fn (L j).h.fc] 30)) wr.heap.size 30 #[.int .i64 (L j).h.k, .bool (L j).h.b, .bool (L j).h.n, .string (L j).h.d, .int .i64 (L j).h.e, .int .i64 (L j).h.tk, .int .i64 (L j).h.td, .int .i64 (L j).h.tn, .int .i64 (L j).h.tz, .string (L j).h.x, .slice (L j).h.ba (L j).h.bn (L j).h.bc, .slice (L j).h.la (L j).h.ln (L j).h.lc, .slice (L j).h.fa (L j).h.fn (L j).h.fc] := Whole.new wr _ _
      obtain ⟨e0, e1, e2, e3, e4, e5, e6, e7, e8, e9, e10, e11, e12⟩ := Whole.c13 (h := (L j).h) E1
      have HC := Lib.hid (HI.out j hjn (d + 1) t top B _ ((hin.below (A1.mono (by have := Kw.size; omega)))) ht BA (by omega) (by omega) (by omega) (by omega))
      have hfj : (L j).look (d + 1) t = f j t := by rw [← Hf.out]
      rw [hfj] at HC
      clear hfj hin
      obtain ⟨R, hR⟩ : ∃ R, f j t = R := ⟨_, rfl⟩
      rw [hR] at HC hsucc
      clear hR
      obtain ⟨R1, R2⟩ := R
      simp only [Vh.cells] at HC
      have HS := Lib.hid hsucc
      have H0 := Lib.hid hj0
      have HT' := Lib.hid ht'
      clear hsucc hj0 ht'
      by_cases z : R2 = 0
      · subst z
        go_wp2_with fail
        refine HC.out.mono ?_; rintro _ w5 ⟨s', rfl, B5, hs', K5⟩
        have es := hs' rfl
        dsimp only at es
        subst es
        have K6 := KA.trans K5 (fun _ q => .inl q)
        have P6 := PA.keptB K5 (show ¬ w.heap.size = B by omega)
        clear HC hs'
        go_wp2
        go_roundw
        case rel => exact ⟨j + 1, by omega, by go_num, by rw [HS.out], by rw [HS.out]; exact B5, K6, P6⟩
        case measure => simp [intOf]; omega
      · have z1 : (R2 == 0) = false := beq_eq_false_iff_ne.2 z
        have z2 : (R2 != 0) = true := bne_iff_ne.2 z
        have HR : Hid (foldE f ln (s + 1) = (R1, R2)) := Lib.hid (by rw [Hst.out (by rw [HS.out]; exact z) ln (by omega), HS.out])
        have HZ := Lib.hid z
        rw [HR.out]
        clear z HR
        go_wp2_with fail
        refine HC.out.mono ?_; rintro _ w5 ⟨s', rfl, B5, hs', K5⟩
        have K6 := KA.trans K5 (fun _ q => .inl q)
        clear HC hs'
        go_wp2
        go_ret
        exact ⟨_, rfl, B5, fun q => absurd (show R2 = 0 from q) HZ.out, K6⟩
    · obtain rfl : j = ln := by omega
      have HR : Hid (foldE f j (s + 1) = (t, 0)) := Lib.hid (Prod.ext ht' hj0)
      clear hsucc hj0 ht'
      obtain ⟨c0, c1, c2, c3, c4, c5, c6, c7, c8, c9, c10, c11, c12⟩ := Whole.c13 (h := ⟨6, b, n, dd, e, tk, td, tn, tz, x, ba, 0, bc, la, j, lc, fa, 0, fc, bb, bo, lb, lo, fb, fo⟩) Pw
      go_wp2_with fail
      go_loopw [107] (fun i wr' => i = .int .i64 0 ∧ wr' = wr) (fun _ _ => 0)
      case atStart => exact ⟨rfl, rfl⟩
      case round =>
        obtain ⟨rfl, rfl⟩ := hrel
        go_wp2
        go_ret
        show ChkOut _ _ _ _ _
        rw [HR.out]
        exact ⟨_, rfl, Bw, fun _ => rfl, Kw⟩
end Go.Proofs.YtfkfboiblgoamaaDoor
