/- Times: Parse where the form fits (printed by gen_momparse.py). -/
import Derived.Test.YthbjkibclbgjoaaMomParse
namespace Go.Proofs.Ythbjkibclbgjoaa
open Go.RowKit
theorem fl_all {W : World} {F : Nat} {y mo d hh mi ss nn sg oh om : Int} (h : Whole W F 59 #[.int .i64 y, .int .i64 mo, .int .i64 d, .int .i64 hh, .int .i64 mi, .int .i64 ss, .int .i64 nn, .int .u8 sg, .int .i64 oh, .int .i64 om]) :
    W.cell? ⟨F, 0, none⟩ = some (.int .i64 y) ∧ W.cell? ⟨F, 1, none⟩ = some (.int .i64 mo) ∧ W.cell? ⟨F, 2, none⟩ = some (.int .i64 d) ∧ W.cell? ⟨F, 3, none⟩ = some (.int .i64 hh) ∧ W.cell? ⟨F, 4, none⟩ = some (.int .i64 mi) ∧ W.cell? ⟨F, 5, none⟩ = some (.int .i64 ss) ∧ W.cell? ⟨F, 6, none⟩ = some (.int .i64 nn) ∧ W.cell? ⟨F, 7, none⟩ = some (.int .u8 sg) ∧ W.cell? ⟨F, 8, none⟩ = some (.int .i64 oh) ∧ W.cell? ⟨F, 9, none⟩ = some (.int .i64 om) :=
  ⟨h.cell 0, h.cell 1, h.cell 2, h.cell 3, h.cell 4, h.cell 5, h.cell 6, h.cell 7, h.cell 8, h.cell 9⟩
set_option maxHeartbeats 1000000 in
theorem parse_day {x : ByteArray} {k y mo d hh mi ss nn sg oh om : Int} {s : Mom.Rd} (hP : Mom.form ⟨x, false⟩ Mom.fl0 = (k, s, ⟨y, mo, d, hh, mi, ss, nn, sg, oh, om⟩)) (hx : x.size ≤ maxLen) (hb : s.b = false) (hs : s.x.size = 0) (hk : k ≠ 2) (hv : ¬ Cal.Vld y mo d) (w : World) :
    Calls Try.prog 17 #[.string x] w fun e w' => e = .returned (.tuple #[.agg #[.int .i64 0, .int .i64 0, .int .i64 0, .int .i64 0], .int .i64 2]) ∧ Below w.heap.size w w' := by
  have K := Lib.hid (form_pf hx w)
  rw [hP] at K
  have he := none_list hs
  clear hP hs
  have HD := Lib.hid (day_any y mo d)
  rw [Cal.dayN, Cal.dayE, if_neg hv, if_neg hv] at HD
  have d1 : (k != 2) = true := by simpa using hk
  clear hk hv
  go_enter Try.func17, Try.ntmps17
  go_wp2_with fail
  refine K.out.mono ?_; rintro e w1 ⟨rfl, h⟩
  have r0 := h.rd.c0
  have r1 := h.rd.c1
  simp only at r0 r1
  rw [hb] at r1
  have ht := Whole.new w1 23 #[.int .i64 k, .int .i64 0, .int .i64 0, .int .i64 0]
  have hfl := (h.fl).alloc (.cells #[.int .i64 k, .int .i64 0, .int .i64 0, .int .i64 0] 23)
  have hres := (h.res).alloc (.cells #[.int .i64 k, .int .i64 0, .int .i64 0, .int .i64 0] 23)
  have hbw := (h.below).alloc h.below.size (.cells #[.int .i64 k, .int .i64 0, .int .i64 0, .int .i64 0] 23)
  have lt1 := h.fl.lt
  have lt2 : w1.heap.size < (w1.alloc (.cells #[.int .i64 k, .int .i64 0, .int .i64 0, .int .i64 0] 23)).heap.size := by simp
  dsimp only at hfl
  obtain ⟨f0, f1, f2, f3, f4, f5, f6, f7, f8, f9⟩ := fl_all hfl
  obtain ⟨t0, t1, t2, t3⟩ := ht.c4
  obtain ⟨q0, q1, q2, q3⟩ := hres.c4
  have tz := ht.frozen
  have qz := hres.frozen
  go_wp2_with fail
  refine (HD.out _).mono ?_; rintro e w2 ⟨rfl, hb2⟩
  replace ht := ht.below hb2 lt2
  replace hfl := hfl.below hb2 (by simp; omega)
  replace hres := hres.below hb2 (by simp; omega)
  replace hbw := below_then hbw hb2
  clear hb2 f0 f1 f2 f3 f4 f5 f6 f7 f8 f9 t0 t1 t2 t3 q0 q1 q2 q3 tz qz
  obtain ⟨f0, f1, f2, f3, f4, f5, f6, f7, f8, f9⟩ := fl_all hfl
  obtain ⟨t0, t1, t2, t3⟩ := ht.c4
  obtain ⟨q0, q1, q2, q3⟩ := hres.c4
  have tz := ht.frozen
  have qz := hres.frozen
  have hfin := hres.s4 (.int .i64 0) (.int .i64 0) (.int .i64 0) (.int .i64 0)
  have hbf := (((hbw.setCell (p := ⟨w.heap.size, 0, none⟩) (Nat.le_refl _) (.int .i64 0)).setCell (p := ⟨w.heap.size, 1, none⟩) (Nat.le_refl _) (.int .i64 0)).setCell (p := ⟨w.heap.size, 2, none⟩) (Nat.le_refl _) (.int .i64 0)).setCell (p := ⟨w.heap.size, 3, none⟩) (Nat.le_refl _) (.int .i64 0)
  go_wp2_with fail
  refine bodyPost_ret (v := .tuple #[.agg #[.int .i64 0, .int .i64 0, .int .i64 0, .int .i64 0], .int .i64 2]) (by simp [results, Try.results17, go_sem, hfin.c4]) rfl ⟨rfl, hbf⟩
set_option maxHeartbeats 1000000 in
theorem parse_range_a {x : ByteArray} {k y mo d hh mi ss nn sg oh om : Int} {s : Mom.Rd} (hP : Mom.form ⟨x, false⟩ Mom.fl0 = (k, s, ⟨y, mo, d, hh, mi, ss, nn, sg, oh, om⟩)) (hx : x.size ≤ maxLen) (hb : s.b = false) (hs : s.x.size = 0) (hk : k ≠ 2) (hv : Cal.Vld y mo d) (hr : 23 < hh) (w : World) :
    Calls Try.prog 17 #[.string x] w fun e w' => e = .returned (.tuple #[.agg #[.int .i64 0, .int .i64 0, .int .i64 0, .int .i64 0], .int .i64 2]) ∧ Below w.heap.size w w' := by
  have K := Lib.hid (form_pf hx w)
  rw [hP] at K
  have he := none_list hs
  clear hP hs
  have HD := Lib.hid (day_any y mo d)
  rw [Cal.dayN, Cal.dayE, if_pos hv, if_pos hv] at HD
  have kn := Cal.kn_num hv
  unfold Cal.kn at kn
  have d1 : (k != 2) = true := by simpa using hk
  clear hk hv
  generalize Cal.num y mo d = nd at *
  go_enter Try.func17, Try.ntmps17
  go_wp2_with fail
  refine K.out.mono ?_; rintro e w1 ⟨rfl, h⟩
  have r0 := h.rd.c0
  have r1 := h.rd.c1
  simp only at r0 r1
  rw [hb] at r1
  have ht := Whole.new w1 23 #[.int .i64 k, .int .i64 0, .int .i64 0, .int .i64 0]
  have hfl := (h.fl).alloc (.cells #[.int .i64 k, .int .i64 0, .int .i64 0, .int .i64 0] 23)
  have hres := (h.res).alloc (.cells #[.int .i64 k, .int .i64 0, .int .i64 0, .int .i64 0] 23)
  have hbw := (h.below).alloc h.below.size (.cells #[.int .i64 k, .int .i64 0, .int .i64 0, .int .i64 0] 23)
  have lt1 := h.fl.lt
  have lt2 : w1.heap.size < (w1.alloc (.cells #[.int .i64 k, .int .i64 0, .int .i64 0, .int .i64 0] 23)).heap.size := by simp
  dsimp only at hfl
  obtain ⟨f0, f1, f2, f3, f4, f5, f6, f7, f8, f9⟩ := fl_all hfl
  obtain ⟨t0, t1, t2, t3⟩ := ht.c4
  obtain ⟨q0, q1, q2, q3⟩ := hres.c4
  have tz := ht.frozen
  have qz := hres.frozen
  go_wp2_with fail
  refine (HD.out _).mono ?_; rintro e w2 ⟨rfl, hb2⟩
  replace ht := ht.below hb2 lt2
  replace hfl := hfl.below hb2 (by simp; omega)
  replace hres := hres.below hb2 (by simp; omega)
  replace hbw := below_then hbw hb2
  clear hb2 f0 f1 f2 f3 f4 f5 f6 f7 f8 f9 t0 t1 t2 t3 q0 q1 q2 q3 tz qz
  obtain ⟨f0, f1, f2, f3, f4, f5, f6, f7, f8, f9⟩ := fl_all hfl
  obtain ⟨t0, t1, t2, t3⟩ := ht.c4
  obtain ⟨q0, q1, q2, q3⟩ := hres.c4
  have tz := ht.frozen
  have qz := hres.frozen
  replace ht := ht.set 1 (.int .i64 nd)
  replace hfl := hfl.far (p := ⟨w1.heap.size, 1, none⟩) (by simp; omega) (.int .i64 nd)
  replace hres := hres.far (p := ⟨w1.heap.size, 1, none⟩) (by simp; omega) (.int .i64 nd)
  replace hbw := hbw.setCell (p := ⟨w1.heap.size, 1, none⟩) (by have := h.below.size; simpa using this) (.int .i64 nd)
  have tb := ht.c4
  have fb := fl_all hfl
  have qb := hres.c4
  have qbf := hres.frozen
  obtain ⟨g0, g1, g2, g3⟩ := tb
  obtain ⟨e0, e1, e2, e3, e4, e5, e6, e7, e8, e9⟩ := fb
  obtain ⟨qq0, qq1, qq2, qq3⟩ := qb
  have hfin := hres.s4 (.int .i64 0) (.int .i64 0) (.int .i64 0) (.int .i64 0)
  have hbf := (((hbw.setCell (p := ⟨w.heap.size, 0, none⟩) (Nat.le_refl _) (.int .i64 0)).setCell (p := ⟨w.heap.size, 1, none⟩) (Nat.le_refl _) (.int .i64 0)).setCell (p := ⟨w.heap.size, 2, none⟩) (Nat.le_refl _) (.int .i64 0)).setCell (p := ⟨w.heap.size, 3, none⟩) (Nat.le_refl _) (.int .i64 0)
  go_wp2_with fail
  refine bodyPost_ret (v := .tuple #[.agg #[.int .i64 0, .int .i64 0, .int .i64 0, .int .i64 0], .int .i64 2]) (by simp [results, Try.results17, go_sem, hfin.c4]) rfl ⟨rfl, hbf⟩
set_option maxHeartbeats 1000000 in
theorem parse_range_b {x : ByteArray} {k y mo d hh mi ss nn sg oh om : Int} {s : Mom.Rd} (hP : Mom.form ⟨x, false⟩ Mom.fl0 = (k, s, ⟨y, mo, d, hh, mi, ss, nn, sg, oh, om⟩)) (hx : x.size ≤ maxLen) (hb : s.b = false) (hs : s.x.size = 0) (hk : k ≠ 2) (hv : Cal.Vld y mo d) (r1 : hh ≤ 23) (hr : 59 < mi) (w : World) :
    Calls Try.prog 17 #[.string x] w fun e w' => e = .returned (.tuple #[.agg #[.int .i64 0, .int .i64 0, .int .i64 0, .int .i64 0], .int .i64 2]) ∧ Below w.heap.size w w' := by
  have K := Lib.hid (form_pf hx w)
  rw [hP] at K
  have he := none_list hs
  clear hP hs
  have HD := Lib.hid (day_any y mo d)
  rw [Cal.dayN, Cal.dayE, if_pos hv, if_pos hv] at HD
  have kn := Cal.kn_num hv
  unfold Cal.kn at kn
  have d1 : (k != 2) = true := by simpa using hk
  clear hk hv
  generalize Cal.num y mo d = nd at *
  go_enter Try.func17, Try.ntmps17
  go_wp2_with fail
  refine K.out.mono ?_; rintro e w1 ⟨rfl, h⟩
  have r0 := h.rd.c0
  have r1 := h.rd.c1
  simp only at r0 r1
  rw [hb] at r1
  have ht := Whole.new w1 23 #[.int .i64 k, .int .i64 0, .int .i64 0, .int .i64 0]
  have hfl := (h.fl).alloc (.cells #[.int .i64 k, .int .i64 0, .int .i64 0, .int .i64 0] 23)
  have hres := (h.res).alloc (.cells #[.int .i64 k, .int .i64 0, .int .i64 0, .int .i64 0] 23)
  have hbw := (h.below).alloc h.below.size (.cells #[.int .i64 k, .int .i64 0, .int .i64 0, .int .i64 0] 23)
  have lt1 := h.fl.lt
  have lt2 : w1.heap.size < (w1.alloc (.cells #[.int .i64 k, .int .i64 0, .int .i64 0, .int .i64 0] 23)).heap.size := by simp
  dsimp only at hfl
  obtain ⟨f0, f1, f2, f3, f4, f5, f6, f7, f8, f9⟩ := fl_all hfl
  obtain ⟨t0, t1, t2, t3⟩ := ht.c4
  obtain ⟨q0, q1, q2, q3⟩ := hres.c4
  have tz := ht.frozen
  have qz := hres.frozen
  go_wp2_with fail
  refine (HD.out _).mono ?_; rintro e w2 ⟨rfl, hb2⟩
  replace ht := ht.below hb2 lt2
  replace hfl := hfl.below hb2 (by simp; omega)
  replace hres := hres.below hb2 (by simp; omega)
  replace hbw := below_then hbw hb2
  clear hb2 f0 f1 f2 f3 f4 f5 f6 f7 f8 f9 t0 t1 t2 t3 q0 q1 q2 q3 tz qz
  obtain ⟨f0, f1, f2, f3, f4, f5, f6, f7, f8, f9⟩ := fl_all hfl
  obtain ⟨t0, t1, t2, t3⟩ := ht.c4
  obtain ⟨q0, q1, q2, q3⟩ := hres.c4
  have tz := ht.frozen
  have qz := hres.frozen
  replace ht := ht.set 1 (.int .i64 nd)
  replace hfl := hfl.far (p := ⟨w1.heap.size, 1, none⟩) (by simp; omega) (.int .i64 nd)
  replace hres := hres.far (p := ⟨w1.heap.size, 1, none⟩) (by simp; omega) (.int .i64 nd)
  replace hbw := hbw.setCell (p := ⟨w1.heap.size, 1, none⟩) (by have := h.below.size; simpa using this) (.int .i64 nd)
  have tb := ht.c4
  have fb := fl_all hfl
  have qb := hres.c4
  have qbf := hres.frozen
  obtain ⟨g0, g1, g2, g3⟩ := tb
  obtain ⟨e0, e1, e2, e3, e4, e5, e6, e7, e8, e9⟩ := fb
  obtain ⟨qq0, qq1, qq2, qq3⟩ := qb
  have hfin := hres.s4 (.int .i64 0) (.int .i64 0) (.int .i64 0) (.int .i64 0)
  have hbf := (((hbw.setCell (p := ⟨w.heap.size, 0, none⟩) (Nat.le_refl _) (.int .i64 0)).setCell (p := ⟨w.heap.size, 1, none⟩) (Nat.le_refl _) (.int .i64 0)).setCell (p := ⟨w.heap.size, 2, none⟩) (Nat.le_refl _) (.int .i64 0)).setCell (p := ⟨w.heap.size, 3, none⟩) (Nat.le_refl _) (.int .i64 0)
  go_wp2_with fail
  refine bodyPost_ret (v := .tuple #[.agg #[.int .i64 0, .int .i64 0, .int .i64 0, .int .i64 0], .int .i64 2]) (by simp [results, Try.results17, go_sem, hfin.c4]) rfl ⟨rfl, hbf⟩
set_option maxHeartbeats 1000000 in
theorem parse_range_c {x : ByteArray} {k y mo d hh mi ss nn sg oh om : Int} {s : Mom.Rd} (hP : Mom.form ⟨x, false⟩ Mom.fl0 = (k, s, ⟨y, mo, d, hh, mi, ss, nn, sg, oh, om⟩)) (hx : x.size ≤ maxLen) (hb : s.b = false) (hs : s.x.size = 0) (hk : k ≠ 2) (hv : Cal.Vld y mo d) (r1 : hh ≤ 23) (r2 : mi ≤ 59) (hr : 59 < ss) (w : World) :
    Calls Try.prog 17 #[.string x] w fun e w' => e = .returned (.tuple #[.agg #[.int .i64 0, .int .i64 0, .int .i64 0, .int .i64 0], .int .i64 2]) ∧ Below w.heap.size w w' := by
  have K := Lib.hid (form_pf hx w)
  rw [hP] at K
  have he := none_list hs
  clear hP hs
  have HD := Lib.hid (day_any y mo d)
  rw [Cal.dayN, Cal.dayE, if_pos hv, if_pos hv] at HD
  have kn := Cal.kn_num hv
  unfold Cal.kn at kn
  have d1 : (k != 2) = true := by simpa using hk
  clear hk hv
  generalize Cal.num y mo d = nd at *
  go_enter Try.func17, Try.ntmps17
  go_wp2_with fail
  refine K.out.mono ?_; rintro e w1 ⟨rfl, h⟩
  have r0 := h.rd.c0
  have r1 := h.rd.c1
  simp only at r0 r1
  rw [hb] at r1
  have ht := Whole.new w1 23 #[.int .i64 k, .int .i64 0, .int .i64 0, .int .i64 0]
  have hfl := (h.fl).alloc (.cells #[.int .i64 k, .int .i64 0, .int .i64 0, .int .i64 0] 23)
  have hres := (h.res).alloc (.cells #[.int .i64 k, .int .i64 0, .int .i64 0, .int .i64 0] 23)
  have hbw := (h.below).alloc h.below.size (.cells #[.int .i64 k, .int .i64 0, .int .i64 0, .int .i64 0] 23)
  have lt1 := h.fl.lt
  have lt2 : w1.heap.size < (w1.alloc (.cells #[.int .i64 k, .int .i64 0, .int .i64 0, .int .i64 0] 23)).heap.size := by simp
  dsimp only at hfl
  obtain ⟨f0, f1, f2, f3, f4, f5, f6, f7, f8, f9⟩ := fl_all hfl
  obtain ⟨t0, t1, t2, t3⟩ := ht.c4
  obtain ⟨q0, q1, q2, q3⟩ := hres.c4
  have tz := ht.frozen
  have qz := hres.frozen
  go_wp2_with fail
  refine (HD.out _).mono ?_; rintro e w2 ⟨rfl, hb2⟩
  replace ht := ht.below hb2 lt2
  replace hfl := hfl.below hb2 (by simp; omega)
  replace hres := hres.below hb2 (by simp; omega)
  replace hbw := below_then hbw hb2
  clear hb2 f0 f1 f2 f3 f4 f5 f6 f7 f8 f9 t0 t1 t2 t3 q0 q1 q2 q3 tz qz
  obtain ⟨f0, f1, f2, f3, f4, f5, f6, f7, f8, f9⟩ := fl_all hfl
  obtain ⟨t0, t1, t2, t3⟩ := ht.c4
  obtain ⟨q0, q1, q2, q3⟩ := hres.c4
  have tz := ht.frozen
  have qz := hres.frozen
  replace ht := ht.set 1 (.int .i64 nd)
  replace hfl := hfl.far (p := ⟨w1.heap.size, 1, none⟩) (by simp; omega) (.int .i64 nd)
  replace hres := hres.far (p := ⟨w1.heap.size, 1, none⟩) (by simp; omega) (.int .i64 nd)
  replace hbw := hbw.setCell (p := ⟨w1.heap.size, 1, none⟩) (by have := h.below.size; simpa using this) (.int .i64 nd)
  have tb := ht.c4
  have fb := fl_all hfl
  have qb := hres.c4
  have qbf := hres.frozen
  obtain ⟨g0, g1, g2, g3⟩ := tb
  obtain ⟨e0, e1, e2, e3, e4, e5, e6, e7, e8, e9⟩ := fb
  obtain ⟨qq0, qq1, qq2, qq3⟩ := qb
  have hfin := hres.s4 (.int .i64 0) (.int .i64 0) (.int .i64 0) (.int .i64 0)
  have hbf := (((hbw.setCell (p := ⟨w.heap.size, 0, none⟩) (Nat.le_refl _) (.int .i64 0)).setCell (p := ⟨w.heap.size, 1, none⟩) (Nat.le_refl _) (.int .i64 0)).setCell (p := ⟨w.heap.size, 2, none⟩) (Nat.le_refl _) (.int .i64 0)).setCell (p := ⟨w.heap.size, 3, none⟩) (Nat.le_refl _) (.int .i64 0)
  go_wp2_with fail
  refine bodyPost_ret (v := .tuple #[.agg #[.int .i64 0, .int .i64 0, .int .i64 0, .int .i64 0], .int .i64 2]) (by simp [results, Try.results17, go_sem, hfin.c4]) rfl ⟨rfl, hbf⟩
set_option maxHeartbeats 1000000 in
theorem parse_range_d {x : ByteArray} {k y mo d hh mi ss nn sg oh om : Int} {s : Mom.Rd} (hP : Mom.form ⟨x, false⟩ Mom.fl0 = (k, s, ⟨y, mo, d, hh, mi, ss, nn, sg, oh, om⟩)) (hx : x.size ≤ maxLen) (hb : s.b = false) (hs : s.x.size = 0) (hk : k ≠ 2) (hv : Cal.Vld y mo d) (r1 : hh ≤ 23) (r2 : mi ≤ 59) (r3 : ss ≤ 59) (hr : 23 < oh) (w : World) :
    Calls Try.prog 17 #[.string x] w fun e w' => e = .returned (.tuple #[.agg #[.int .i64 0, .int .i64 0, .int .i64 0, .int .i64 0], .int .i64 2]) ∧ Below w.heap.size w w' := by
  have K := Lib.hid (form_pf hx w)
  rw [hP] at K
  have he := none_list hs
  clear hP hs
  have HD := Lib.hid (day_any y mo d)
  rw [Cal.dayN, Cal.dayE, if_pos hv, if_pos hv] at HD
  have kn := Cal.kn_num hv
  unfold Cal.kn at kn
  have d1 : (k != 2) = true := by simpa using hk
  clear hk hv
  generalize Cal.num y mo d = nd at *
  go_enter Try.func17, Try.ntmps17
  go_wp2_with fail
  refine K.out.mono ?_; rintro e w1 ⟨rfl, h⟩
  have r0 := h.rd.c0
  have r1 := h.rd.c1
  simp only at r0 r1
  rw [hb] at r1
  have ht := Whole.new w1 23 #[.int .i64 k, .int .i64 0, .int .i64 0, .int .i64 0]
  have hfl := (h.fl).alloc (.cells #[.int .i64 k, .int .i64 0, .int .i64 0, .int .i64 0] 23)
  have hres := (h.res).alloc (.cells #[.int .i64 k, .int .i64 0, .int .i64 0, .int .i64 0] 23)
  have hbw := (h.below).alloc h.below.size (.cells #[.int .i64 k, .int .i64 0, .int .i64 0, .int .i64 0] 23)
  have lt1 := h.fl.lt
  have lt2 : w1.heap.size < (w1.alloc (.cells #[.int .i64 k, .int .i64 0, .int .i64 0, .int .i64 0] 23)).heap.size := by simp
  dsimp only at hfl
  obtain ⟨f0, f1, f2, f3, f4, f5, f6, f7, f8, f9⟩ := fl_all hfl
  obtain ⟨t0, t1, t2, t3⟩ := ht.c4
  obtain ⟨q0, q1, q2, q3⟩ := hres.c4
  have tz := ht.frozen
  have qz := hres.frozen
  go_wp2_with fail
  refine (HD.out _).mono ?_; rintro e w2 ⟨rfl, hb2⟩
  replace ht := ht.below hb2 lt2
  replace hfl := hfl.below hb2 (by simp; omega)
  replace hres := hres.below hb2 (by simp; omega)
  replace hbw := below_then hbw hb2
  clear hb2 f0 f1 f2 f3 f4 f5 f6 f7 f8 f9 t0 t1 t2 t3 q0 q1 q2 q3 tz qz
  obtain ⟨f0, f1, f2, f3, f4, f5, f6, f7, f8, f9⟩ := fl_all hfl
  obtain ⟨t0, t1, t2, t3⟩ := ht.c4
  obtain ⟨q0, q1, q2, q3⟩ := hres.c4
  have tz := ht.frozen
  have qz := hres.frozen
  replace ht := ht.set 1 (.int .i64 nd)
  replace hfl := hfl.far (p := ⟨w1.heap.size, 1, none⟩) (by simp; omega) (.int .i64 nd)
  replace hres := hres.far (p := ⟨w1.heap.size, 1, none⟩) (by simp; omega) (.int .i64 nd)
  replace hbw := hbw.setCell (p := ⟨w1.heap.size, 1, none⟩) (by have := h.below.size; simpa using this) (.int .i64 nd)
  have tb := ht.c4
  have fb := fl_all hfl
  have qb := hres.c4
  have qbf := hres.frozen
  obtain ⟨g0, g1, g2, g3⟩ := tb
  obtain ⟨e0, e1, e2, e3, e4, e5, e6, e7, e8, e9⟩ := fb
  obtain ⟨qq0, qq1, qq2, qq3⟩ := qb
  have hfin := hres.s4 (.int .i64 0) (.int .i64 0) (.int .i64 0) (.int .i64 0)
  have hbf := (((hbw.setCell (p := ⟨w.heap.size, 0, none⟩) (Nat.le_refl _) (.int .i64 0)).setCell (p := ⟨w.heap.size, 1, none⟩) (Nat.le_refl _) (.int .i64 0)).setCell (p := ⟨w.heap.size, 2, none⟩) (Nat.le_refl _) (.int .i64 0)).setCell (p := ⟨w.heap.size, 3, none⟩) (Nat.le_refl _) (.int .i64 0)
  go_wp2_with fail
  refine bodyPost_ret (v := .tuple #[.agg #[.int .i64 0, .int .i64 0, .int .i64 0, .int .i64 0], .int .i64 2]) (by simp [results, Try.results17, go_sem, hfin.c4]) rfl ⟨rfl, hbf⟩
set_option maxHeartbeats 1000000 in
theorem parse_range_e {x : ByteArray} {k y mo d hh mi ss nn sg oh om : Int} {s : Mom.Rd} (hP : Mom.form ⟨x, false⟩ Mom.fl0 = (k, s, ⟨y, mo, d, hh, mi, ss, nn, sg, oh, om⟩)) (hx : x.size ≤ maxLen) (hb : s.b = false) (hs : s.x.size = 0) (hk : k ≠ 2) (hv : Cal.Vld y mo d) (r1 : hh ≤ 23) (r2 : mi ≤ 59) (r3 : ss ≤ 59) (r4 : oh ≤ 23) (hr : 59 < om) (w : World) :
    Calls Try.prog 17 #[.string x] w fun e w' => e = .returned (.tuple #[.agg #[.int .i64 0, .int .i64 0, .int .i64 0, .int .i64 0], .int .i64 2]) ∧ Below w.heap.size w w' := by
  have K := Lib.hid (form_pf hx w)
  rw [hP] at K
  have he := none_list hs
  clear hP hs
  have HD := Lib.hid (day_any y mo d)
  rw [Cal.dayN, Cal.dayE, if_pos hv, if_pos hv] at HD
  have kn := Cal.kn_num hv
  unfold Cal.kn at kn
  have d1 : (k != 2) = true := by simpa using hk
  clear hk hv
  generalize Cal.num y mo d = nd at *
  go_enter Try.func17, Try.ntmps17
  go_wp2_with fail
  refine K.out.mono ?_; rintro e w1 ⟨rfl, h⟩
  have r0 := h.rd.c0
  have r1 := h.rd.c1
  simp only at r0 r1
  rw [hb] at r1
  have ht := Whole.new w1 23 #[.int .i64 k, .int .i64 0, .int .i64 0, .int .i64 0]
  have hfl := (h.fl).alloc (.cells #[.int .i64 k, .int .i64 0, .int .i64 0, .int .i64 0] 23)
  have hres := (h.res).alloc (.cells #[.int .i64 k, .int .i64 0, .int .i64 0, .int .i64 0] 23)
  have hbw := (h.below).alloc h.below.size (.cells #[.int .i64 k, .int .i64 0, .int .i64 0, .int .i64 0] 23)
  have lt1 := h.fl.lt
  have lt2 : w1.heap.size < (w1.alloc (.cells #[.int .i64 k, .int .i64 0, .int .i64 0, .int .i64 0] 23)).heap.size := by simp
  dsimp only at hfl
  obtain ⟨f0, f1, f2, f3, f4, f5, f6, f7, f8, f9⟩ := fl_all hfl
  obtain ⟨t0, t1, t2, t3⟩ := ht.c4
  obtain ⟨q0, q1, q2, q3⟩ := hres.c4
  have tz := ht.frozen
  have qz := hres.frozen
  go_wp2_with fail
  refine (HD.out _).mono ?_; rintro e w2 ⟨rfl, hb2⟩
  replace ht := ht.below hb2 lt2
  replace hfl := hfl.below hb2 (by simp; omega)
  replace hres := hres.below hb2 (by simp; omega)
  replace hbw := below_then hbw hb2
  clear hb2 f0 f1 f2 f3 f4 f5 f6 f7 f8 f9 t0 t1 t2 t3 q0 q1 q2 q3 tz qz
  obtain ⟨f0, f1, f2, f3, f4, f5, f6, f7, f8, f9⟩ := fl_all hfl
  obtain ⟨t0, t1, t2, t3⟩ := ht.c4
  obtain ⟨q0, q1, q2, q3⟩ := hres.c4
  have tz := ht.frozen
  have qz := hres.frozen
  replace ht := ht.set 1 (.int .i64 nd)
  replace hfl := hfl.far (p := ⟨w1.heap.size, 1, none⟩) (by simp; omega) (.int .i64 nd)
  replace hres := hres.far (p := ⟨w1.heap.size, 1, none⟩) (by simp; omega) (.int .i64 nd)
  replace hbw := hbw.setCell (p := ⟨w1.heap.size, 1, none⟩) (by have := h.below.size; simpa using this) (.int .i64 nd)
  have tb := ht.c4
  have fb := fl_all hfl
  have qb := hres.c4
  have qbf := hres.frozen
  obtain ⟨g0, g1, g2, g3⟩ := tb
  obtain ⟨e0, e1, e2, e3, e4, e5, e6, e7, e8, e9⟩ := fb
  obtain ⟨qq0, qq1, qq2, qq3⟩ := qb
  have hfin := hres.s4 (.int .i64 0) (.int .i64 0) (.int .i64 0) (.int .i64 0)
  have hbf := (((hbw.setCell (p := ⟨w.heap.size, 0, none⟩) (Nat.le_refl _) (.int .i64 0)).setCell (p := ⟨w.heap.size, 1, none⟩) (Nat.le_refl _) (.int .i64 0)).setCell (p := ⟨w.heap.size, 2, none⟩) (Nat.le_refl _) (.int .i64 0)).setCell (p := ⟨w.heap.size, 3, none⟩) (Nat.le_refl _) (.int .i64 0)
  go_wp2_with fail
  refine bodyPost_ret (v := .tuple #[.agg #[.int .i64 0, .int .i64 0, .int .i64 0, .int .i64 0], .int .i64 2]) (by simp [results, Try.results17, go_sem, hfin.c4]) rfl ⟨rfl, hbf⟩
set_option maxHeartbeats 1000000 in
theorem parse_clock_a {x : ByteArray} {k y mo d hh mi ss nn sg oh om : Int} {s : Mom.Rd} (hP : Mom.form ⟨x, false⟩ Mom.fl0 = (k, s, ⟨y, mo, d, hh, mi, ss, nn, sg, oh, om⟩)) (hx : x.size ≤ maxLen) (hb : s.b = false) (hs : s.x.size = 0) (hk : k = 2) (hr : 23 < hh) (w : World) :
    Calls Try.prog 17 #[.string x] w fun e w' => e = .returned (.tuple #[.agg #[.int .i64 0, .int .i64 0, .int .i64 0, .int .i64 0], .int .i64 2]) ∧ Below w.heap.size w w' := by
  have K := Lib.hid (form_pf hx w)
  rw [hP] at K
  have he := none_list hs
  clear hP hs
  have d1 : (k != 2) = false := by simpa using hk
  clear hk
  go_enter Try.func17, Try.ntmps17
  go_wp2_with fail
  refine K.out.mono ?_; rintro e w1 ⟨rfl, h⟩
  have r0 := h.rd.c0
  have r1 := h.rd.c1
  simp only at r0 r1
  rw [hb] at r1
  have ht := Whole.new w1 23 #[.int .i64 k, .int .i64 0, .int .i64 0, .int .i64 0]
  have hfl := (h.fl).alloc (.cells #[.int .i64 k, .int .i64 0, .int .i64 0, .int .i64 0] 23)
  have hres := (h.res).alloc (.cells #[.int .i64 k, .int .i64 0, .int .i64 0, .int .i64 0] 23)
  have hbw := (h.below).alloc h.below.size (.cells #[.int .i64 k, .int .i64 0, .int .i64 0, .int .i64 0] 23)
  have lt1 := h.fl.lt
  have lt2 : w1.heap.size < (w1.alloc (.cells #[.int .i64 k, .int .i64 0, .int .i64 0, .int .i64 0] 23)).heap.size := by simp
  dsimp only at hfl
  obtain ⟨f0, f1, f2, f3, f4, f5, f6, f7, f8, f9⟩ := fl_all hfl
  obtain ⟨t0, t1, t2, t3⟩ := ht.c4
  obtain ⟨q0, q1, q2, q3⟩ := hres.c4
  have tz := ht.frozen
  have qz := hres.frozen
  have hfin := hres.s4 (.int .i64 0) (.int .i64 0) (.int .i64 0) (.int .i64 0)
  have hbf := (((hbw.setCell (p := ⟨w.heap.size, 0, none⟩) (Nat.le_refl _) (.int .i64 0)).setCell (p := ⟨w.heap.size, 1, none⟩) (Nat.le_refl _) (.int .i64 0)).setCell (p := ⟨w.heap.size, 2, none⟩) (Nat.le_refl _) (.int .i64 0)).setCell (p := ⟨w.heap.size, 3, none⟩) (Nat.le_refl _) (.int .i64 0)
  go_wp2_with fail
  refine bodyPost_ret (v := .tuple #[.agg #[.int .i64 0, .int .i64 0, .int .i64 0, .int .i64 0], .int .i64 2]) (by simp [results, Try.results17, go_sem, hfin.c4]) rfl ⟨rfl, hbf⟩
set_option maxHeartbeats 1000000 in
theorem parse_clock_b {x : ByteArray} {k y mo d hh mi ss nn sg oh om : Int} {s : Mom.Rd} (hP : Mom.form ⟨x, false⟩ Mom.fl0 = (k, s, ⟨y, mo, d, hh, mi, ss, nn, sg, oh, om⟩)) (hx : x.size ≤ maxLen) (hb : s.b = false) (hs : s.x.size = 0) (hk : k = 2) (r1 : hh ≤ 23) (hr : 59 < mi) (w : World) :
    Calls Try.prog 17 #[.string x] w fun e w' => e = .returned (.tuple #[.agg #[.int .i64 0, .int .i64 0, .int .i64 0, .int .i64 0], .int .i64 2]) ∧ Below w.heap.size w w' := by
  have K := Lib.hid (form_pf hx w)
  rw [hP] at K
  have he := none_list hs
  clear hP hs
  have d1 : (k != 2) = false := by simpa using hk
  clear hk
  go_enter Try.func17, Try.ntmps17
  go_wp2_with fail
  refine K.out.mono ?_; rintro e w1 ⟨rfl, h⟩
  have r0 := h.rd.c0
  have r1 := h.rd.c1
  simp only at r0 r1
  rw [hb] at r1
  have ht := Whole.new w1 23 #[.int .i64 k, .int .i64 0, .int .i64 0, .int .i64 0]
  have hfl := (h.fl).alloc (.cells #[.int .i64 k, .int .i64 0, .int .i64 0, .int .i64 0] 23)
  have hres := (h.res).alloc (.cells #[.int .i64 k, .int .i64 0, .int .i64 0, .int .i64 0] 23)
  have hbw := (h.below).alloc h.below.size (.cells #[.int .i64 k, .int .i64 0, .int .i64 0, .int .i64 0] 23)
  have lt1 := h.fl.lt
  have lt2 : w1.heap.size < (w1.alloc (.cells #[.int .i64 k, .int .i64 0, .int .i64 0, .int .i64 0] 23)).heap.size := by simp
  dsimp only at hfl
  obtain ⟨f0, f1, f2, f3, f4, f5, f6, f7, f8, f9⟩ := fl_all hfl
  obtain ⟨t0, t1, t2, t3⟩ := ht.c4
  obtain ⟨q0, q1, q2, q3⟩ := hres.c4
  have tz := ht.frozen
  have qz := hres.frozen
  have hfin := hres.s4 (.int .i64 0) (.int .i64 0) (.int .i64 0) (.int .i64 0)
  have hbf := (((hbw.setCell (p := ⟨w.heap.size, 0, none⟩) (Nat.le_refl _) (.int .i64 0)).setCell (p := ⟨w.heap.size, 1, none⟩) (Nat.le_refl _) (.int .i64 0)).setCell (p := ⟨w.heap.size, 2, none⟩) (Nat.le_refl _) (.int .i64 0)).setCell (p := ⟨w.heap.size, 3, none⟩) (Nat.le_refl _) (.int .i64 0)
  go_wp2_with fail
  refine bodyPost_ret (v := .tuple #[.agg #[.int .i64 0, .int .i64 0, .int .i64 0, .int .i64 0], .int .i64 2]) (by simp [results, Try.results17, go_sem, hfin.c4]) rfl ⟨rfl, hbf⟩
set_option maxHeartbeats 1000000 in
theorem parse_clock_c {x : ByteArray} {k y mo d hh mi ss nn sg oh om : Int} {s : Mom.Rd} (hP : Mom.form ⟨x, false⟩ Mom.fl0 = (k, s, ⟨y, mo, d, hh, mi, ss, nn, sg, oh, om⟩)) (hx : x.size ≤ maxLen) (hb : s.b = false) (hs : s.x.size = 0) (hk : k = 2) (r1 : hh ≤ 23) (r2 : mi ≤ 59) (hr : 59 < ss) (w : World) :
    Calls Try.prog 17 #[.string x] w fun e w' => e = .returned (.tuple #[.agg #[.int .i64 0, .int .i64 0, .int .i64 0, .int .i64 0], .int .i64 2]) ∧ Below w.heap.size w w' := by
  have K := Lib.hid (form_pf hx w)
  rw [hP] at K
  have he := none_list hs
  clear hP hs
  have d1 : (k != 2) = false := by simpa using hk
  clear hk
  go_enter Try.func17, Try.ntmps17
  go_wp2_with fail
  refine K.out.mono ?_; rintro e w1 ⟨rfl, h⟩
  have r0 := h.rd.c0
  have r1 := h.rd.c1
  simp only at r0 r1
  rw [hb] at r1
  have ht := Whole.new w1 23 #[.int .i64 k, .int .i64 0, .int .i64 0, .int .i64 0]
  have hfl := (h.fl).alloc (.cells #[.int .i64 k, .int .i64 0, .int .i64 0, .int .i64 0] 23)
  have hres := (h.res).alloc (.cells #[.int .i64 k, .int .i64 0, .int .i64 0, .int .i64 0] 23)
  have hbw := (h.below).alloc h.below.size (.cells #[.int .i64 k, .int .i64 0, .int .i64 0, .int .i64 0] 23)
  have lt1 := h.fl.lt
  have lt2 : w1.heap.size < (w1.alloc (.cells #[.int .i64 k, .int .i64 0, .int .i64 0, .int .i64 0] 23)).heap.size := by simp
  dsimp only at hfl
  obtain ⟨f0, f1, f2, f3, f4, f5, f6, f7, f8, f9⟩ := fl_all hfl
  obtain ⟨t0, t1, t2, t3⟩ := ht.c4
  obtain ⟨q0, q1, q2, q3⟩ := hres.c4
  have tz := ht.frozen
  have qz := hres.frozen
  have hfin := hres.s4 (.int .i64 0) (.int .i64 0) (.int .i64 0) (.int .i64 0)
  have hbf := (((hbw.setCell (p := ⟨w.heap.size, 0, none⟩) (Nat.le_refl _) (.int .i64 0)).setCell (p := ⟨w.heap.size, 1, none⟩) (Nat.le_refl _) (.int .i64 0)).setCell (p := ⟨w.heap.size, 2, none⟩) (Nat.le_refl _) (.int .i64 0)).setCell (p := ⟨w.heap.size, 3, none⟩) (Nat.le_refl _) (.int .i64 0)
  go_wp2_with fail
  refine bodyPost_ret (v := .tuple #[.agg #[.int .i64 0, .int .i64 0, .int .i64 0, .int .i64 0], .int .i64 2]) (by simp [results, Try.results17, go_sem, hfin.c4]) rfl ⟨rfl, hbf⟩
set_option maxHeartbeats 1000000 in
theorem parse_clock_d {x : ByteArray} {k y mo d hh mi ss nn sg oh om : Int} {s : Mom.Rd} (hP : Mom.form ⟨x, false⟩ Mom.fl0 = (k, s, ⟨y, mo, d, hh, mi, ss, nn, sg, oh, om⟩)) (hx : x.size ≤ maxLen) (hb : s.b = false) (hs : s.x.size = 0) (hk : k = 2) (r1 : hh ≤ 23) (r2 : mi ≤ 59) (r3 : ss ≤ 59) (hr : 23 < oh) (w : World) :
    Calls Try.prog 17 #[.string x] w fun e w' => e = .returned (.tuple #[.agg #[.int .i64 0, .int .i64 0, .int .i64 0, .int .i64 0], .int .i64 2]) ∧ Below w.heap.size w w' := by
  have K := Lib.hid (form_pf hx w)
  rw [hP] at K
  have he := none_list hs
  clear hP hs
  have d1 : (k != 2) = false := by simpa using hk
  clear hk
  go_enter Try.func17, Try.ntmps17
  go_wp2_with fail
  refine K.out.mono ?_; rintro e w1 ⟨rfl, h⟩
  have r0 := h.rd.c0
  have r1 := h.rd.c1
  simp only at r0 r1
  rw [hb] at r1
  have ht := Whole.new w1 23 #[.int .i64 k, .int .i64 0, .int .i64 0, .int .i64 0]
  have hfl := (h.fl).alloc (.cells #[.int .i64 k, .int .i64 0, .int .i64 0, .int .i64 0] 23)
  have hres := (h.res).alloc (.cells #[.int .i64 k, .int .i64 0, .int .i64 0, .int .i64 0] 23)
  have hbw := (h.below).alloc h.below.size (.cells #[.int .i64 k, .int .i64 0, .int .i64 0, .int .i64 0] 23)
  have lt1 := h.fl.lt
  have lt2 : w1.heap.size < (w1.alloc (.cells #[.int .i64 k, .int .i64 0, .int .i64 0, .int .i64 0] 23)).heap.size := by simp
  dsimp only at hfl
  obtain ⟨f0, f1, f2, f3, f4, f5, f6, f7, f8, f9⟩ := fl_all hfl
  obtain ⟨t0, t1, t2, t3⟩ := ht.c4
  obtain ⟨q0, q1, q2, q3⟩ := hres.c4
  have tz := ht.frozen
  have qz := hres.frozen
  have hfin := hres.s4 (.int .i64 0) (.int .i64 0) (.int .i64 0) (.int .i64 0)
  have hbf := (((hbw.setCell (p := ⟨w.heap.size, 0, none⟩) (Nat.le_refl _) (.int .i64 0)).setCell (p := ⟨w.heap.size, 1, none⟩) (Nat.le_refl _) (.int .i64 0)).setCell (p := ⟨w.heap.size, 2, none⟩) (Nat.le_refl _) (.int .i64 0)).setCell (p := ⟨w.heap.size, 3, none⟩) (Nat.le_refl _) (.int .i64 0)
  go_wp2_with fail
  refine bodyPost_ret (v := .tuple #[.agg #[.int .i64 0, .int .i64 0, .int .i64 0, .int .i64 0], .int .i64 2]) (by simp [results, Try.results17, go_sem, hfin.c4]) rfl ⟨rfl, hbf⟩
set_option maxHeartbeats 1000000 in
theorem parse_clock_e {x : ByteArray} {k y mo d hh mi ss nn sg oh om : Int} {s : Mom.Rd} (hP : Mom.form ⟨x, false⟩ Mom.fl0 = (k, s, ⟨y, mo, d, hh, mi, ss, nn, sg, oh, om⟩)) (hx : x.size ≤ maxLen) (hb : s.b = false) (hs : s.x.size = 0) (hk : k = 2) (r1 : hh ≤ 23) (r2 : mi ≤ 59) (r3 : ss ≤ 59) (r4 : oh ≤ 23) (hr : 59 < om) (w : World) :
    Calls Try.prog 17 #[.string x] w fun e w' => e = .returned (.tuple #[.agg #[.int .i64 0, .int .i64 0, .int .i64 0, .int .i64 0], .int .i64 2]) ∧ Below w.heap.size w w' := by
  have K := Lib.hid (form_pf hx w)
  rw [hP] at K
  have he := none_list hs
  clear hP hs
  have d1 : (k != 2) = false := by simpa using hk
  clear hk
  go_enter Try.func17, Try.ntmps17
  go_wp2_with fail
  refine K.out.mono ?_; rintro e w1 ⟨rfl, h⟩
  have r0 := h.rd.c0
  have r1 := h.rd.c1
  simp only at r0 r1
  rw [hb] at r1
  have ht := Whole.new w1 23 #[.int .i64 k, .int .i64 0, .int .i64 0, .int .i64 0]
  have hfl := (h.fl).alloc (.cells #[.int .i64 k, .int .i64 0, .int .i64 0, .int .i64 0] 23)
  have hres := (h.res).alloc (.cells #[.int .i64 k, .int .i64 0, .int .i64 0, .int .i64 0] 23)
  have hbw := (h.below).alloc h.below.size (.cells #[.int .i64 k, .int .i64 0, .int .i64 0, .int .i64 0] 23)
  have lt1 := h.fl.lt
  have lt2 : w1.heap.size < (w1.alloc (.cells #[.int .i64 k, .int .i64 0, .int .i64 0, .int .i64 0] 23)).heap.size := by simp
  dsimp only at hfl
  obtain ⟨f0, f1, f2, f3, f4, f5, f6, f7, f8, f9⟩ := fl_all hfl
  obtain ⟨t0, t1, t2, t3⟩ := ht.c4
  obtain ⟨q0, q1, q2, q3⟩ := hres.c4
  have tz := ht.frozen
  have qz := hres.frozen
  have hfin := hres.s4 (.int .i64 0) (.int .i64 0) (.int .i64 0) (.int .i64 0)
  have hbf := (((hbw.setCell (p := ⟨w.heap.size, 0, none⟩) (Nat.le_refl _) (.int .i64 0)).setCell (p := ⟨w.heap.size, 1, none⟩) (Nat.le_refl _) (.int .i64 0)).setCell (p := ⟨w.heap.size, 2, none⟩) (Nat.le_refl _) (.int .i64 0)).setCell (p := ⟨w.heap.size, 3, none⟩) (Nat.le_refl _) (.int .i64 0)
  go_wp2_with fail
  refine bodyPost_ret (v := .tuple #[.agg #[.int .i64 0, .int .i64 0, .int .i64 0, .int .i64 0], .int .i64 2]) (by simp [results, Try.results17, go_sem, hfin.c4]) rfl ⟨rfl, hbf⟩
end Go.Proofs.Ythbjkibclbgjoaa
