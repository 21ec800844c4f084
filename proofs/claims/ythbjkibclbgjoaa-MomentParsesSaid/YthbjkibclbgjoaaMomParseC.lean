/- Times: Parse where the form fits (printed by gen_momparse2.py). -/
import Derived.Test.YthbjkibclbgjoaaMomParseB
import Derived.Deep.Cut
namespace Go.Proofs.Ythbjkibclbgjoaa
open Go.RowKit
/-- What is known while Parse fills its time, which lies in block T. -/
structure PS (w W : World) (T : Nat) (a b c d : Int) (f : Mom.Fl) : Prop where
  tt : Whole W T 23 #[.int .i64 a, .int .i64 b, .int .i64 c, .int .i64 d]
  fl : FlAt W (w.heap.size + 1 + 1) f
  res : Whole W w.heap.size 23 #[.int .i64 0, .int .i64 0, .int .i64 0, .int .i64 0]
  below : Below w.heap.size w W
  lt : w.heap.size + 1 + 1 < T
theorem PF.ps {w W : World} {P : Int × Mom.Rd × Mom.Fl} (h : PF w W P) (k : Int) : PS w (W.alloc (.cells #[.int .i64 k, .int .i64 0, .int .i64 0, .int .i64 0] 23)) W.heap.size k 0 0 0 P.2.2 :=
  ⟨Whole.new W _ _, h.fl.alloc _, h.res.alloc _, h.below.alloc h.below.size _, h.fl.lt⟩
theorem PS.call {w W W' : World} {T : Nat} {a b c d : Int} {f : Mom.Fl} (h : PS w W T a b c d f) (hb : Below W.heap.size W W') : PS w W' T a b c d f :=
  ⟨h.tt.below hb h.tt.lt, h.fl.below hb h.fl.lt, h.res.below hb h.res.lt, below_then h.below hb, h.lt⟩
theorem PS.s1 {w W : World} {T : Nat} {a b c d : Int} {f : Mom.Fl} (h : PS w W T a b c d f) (v : Int) : PS w (W.setCell ⟨T, 1, none⟩ (.int .i64 v)) T a v c d f := by
  have := h.lt
  exact ⟨h.tt.set 1 _, h.fl.far (p := ⟨T, 1, none⟩) (by simp; omega) _, h.res.far (p := ⟨T, 1, none⟩) (by simp; omega) _, h.below.setCell (p := ⟨T, 1, none⟩) (by simp; omega) _, h.lt⟩
theorem PS.s2 {w W : World} {T : Nat} {a b c d : Int} {f : Mom.Fl} (h : PS w W T a b c d f) (v : Int) : PS w (W.setCell ⟨T, 2, none⟩ (.int .i64 v)) T a b v d f := by
  have := h.lt
  exact ⟨h.tt.set 2 _, h.fl.far (p := ⟨T, 2, none⟩) (by simp; omega) _, h.res.far (p := ⟨T, 2, none⟩) (by simp; omega) _, h.below.setCell (p := ⟨T, 2, none⟩) (by simp; omega) _, h.lt⟩
theorem PS.s3 {w W : World} {T : Nat} {a b c d : Int} {f : Mom.Fl} (h : PS w W T a b c d f) (v : Int) : PS w (W.setCell ⟨T, 3, none⟩ (.int .i64 v)) T a b c v f := by
  have := h.lt
  exact ⟨h.tt.set 3 _, h.fl.far (p := ⟨T, 3, none⟩) (by simp; omega) _, h.res.far (p := ⟨T, 3, none⟩) (by simp; omega) _, h.below.setCell (p := ⟨T, 3, none⟩) (by simp; omega) _, h.lt⟩

set_option maxHeartbeats 2000000 in
theorem parse_ok_day {x : ByteArray} {k y mo d hh mi ss nn sg oh om : Int} {s : Mom.Rd} (hP : Mom.form ⟨x, false⟩ Mom.fl0 = (k, s, ⟨y, mo, d, hh, mi, ss, nn, sg, oh, om⟩)) (hx : x.size ≤ maxLen) (hb : s.b = false) (hs : s.x.size = 0) (hk : k ≠ 2) (hv : Cal.Vld y mo d) (h1 : 0 ≤ hh) (h2 : hh ≤ 23) (h3 : 0 ≤ mi) (h4 : mi ≤ 59) (h5 : 0 ≤ ss) (h6 : ss ≤ 59) (h7 : 0 ≤ nn) (h8 : nn ≤ 999999999) (h9 : 0 ≤ oh) (h10 : oh ≤ 23) (h11 : 0 ≤ om) (h12 : om ≤ 59) (hg : sg ≠ 45) (w : World) :
    Calls Try.prog 17 #[.string x] w fun e w' => e = .returned (.tuple #[.agg #[.int .i64 k, .int .i64 (Cal.num y mo d), .int .i64 (((hh * 60 + mi) * 60 + ss) * 1000000000 + nn), .int .i64 (oh * 60 + om)], .int .i64 0]) ∧ Below w.heap.size w w' := by
  have K := Lib.hid (form_pf hx w)
  rw [hP] at K
  have he := none_list hs
  clear hP hs
  have dg : (sg == 45) = false := beq_eq_false_iff_ne.2 hg
  clear hg
  have HD := Lib.hid (day_any y mo d)
  rw [Cal.dayN, Cal.dayE, if_pos hv, if_pos hv] at HD
  have kn := Cal.kn_num hv
  unfold Cal.kn at kn
  have d1 : (k != 2) = true := by simpa using hk
  clear hk hv
  generalize Cal.num y mo d = nd at *
  go_enter Try.func17, Try.ntmps17
  go_wp2_with fail
  refine K.out.mono ?_; rintro e w1 ⟨rfl, h⟩
  have r0 := h.rd.c0
  have r1 := h.rd.c1
  simp only at r0 r1
  rw [hb] at r1
  have ps := h.ps k
  dsimp only at ps
  go_upto_region 7 with fail
  clear r0 r1 h K he hb
  generalize hT : w1.heap.size = T at *
  generalize hW : w1.alloc (.cells #[.int .i64 k, .int .i64 0, .int .i64 0, .int .i64 0] 23) = W at *
  clear hW hT
  obtain ⟨f0, f1, f2, f3, f4, f5, f6, f7, f8, f9⟩ := fl_all ps.fl
  obtain ⟨t0, t1, t2, t3⟩ := ps.tt.c4
  have tz := ps.tt.frozen
  go_wp2_with fail
  refine (HD.out _).mono ?_; rintro e W2 ⟨rfl, hb2⟩
  clear f0 f1 f2 f3 f4 f5 f6 f7 f8 f9 t0 t1 t2 t3 tz
  replace ps := ps.call hb2
  clear hb2 HD
  obtain ⟨f0, f1, f2, f3, f4, f5, f6, f7, f8, f9⟩ := fl_all ps.fl
  obtain ⟨t0, t1, t2, t3⟩ := ps.tt.c4
  have tz := ps.tt.frozen
  go_upto_region 12 with fail
  clear f0 f1 f2 f3 f4 f5 f6 f7 f8 f9 t0 t1 t2 t3 tz
  replace ps := ps.s1 (nd)
  generalize hW : W2.setCell ⟨T, 1, none⟩ (.int .i64 (nd)) = W3 at *
  clear hW
  obtain ⟨f0, f1, f2, f3, f4, f5, f6, f7, f8, f9⟩ := fl_all ps.fl
  obtain ⟨t0, t1, t2, t3⟩ := ps.tt.c4
  have tz := ps.tt.frozen
  go_upto_region 15 with fail
  clear f0 f1 f2 f3 f4 f5 f6 f7 f8 f9 t0 t1 t2 t3 tz
  replace ps := ps.s2 (((hh * 60 + mi) * 60 + ss) * 1000000000 + nn)
  generalize hW : W3.setCell ⟨T, 2, none⟩ (.int .i64 (((hh * 60 + mi) * 60 + ss) * 1000000000 + nn)) = W4 at *
  clear hW
  obtain ⟨f0, f1, f2, f3, f4, f5, f6, f7, f8, f9⟩ := fl_all ps.fl
  obtain ⟨t0, t1, t2, t3⟩ := ps.tt.c4
  have tz := ps.tt.frozen
  go_upto_region 16 with fail
  clear f0 f1 f2 f3 f4 f5 f6 f7 f8 f9 t0 t1 t2 t3 tz
  replace ps := ps.s3 (oh * 60 + om)
  generalize hW : W4.setCell ⟨T, 3, none⟩ (.int .i64 (oh * 60 + om)) = W5 at *
  clear hW
  obtain ⟨f0, f1, f2, f3, f4, f5, f6, f7, f8, f9⟩ := fl_all ps.fl
  obtain ⟨t0, t1, t2, t3⟩ := ps.tt.c4
  have tz := ps.tt.frozen
  obtain ⟨q0, q1, q2, q3⟩ := ps.res.c4
  have qz := ps.res.frozen
  have hfin := Whole.s4 ps.res (.int .i64 k) (.int .i64 nd) (.int .i64 (((hh * 60 + mi) * 60 + ss) * 1000000000 + nn)) (.int .i64 (oh * 60 + om))
  have hbf := ((((ps.below.setCell (p := ⟨w.heap.size, 0, none⟩) (Nat.le_refl _) (.int .i64 k)).setCell (p := ⟨w.heap.size, 1, none⟩) (Nat.le_refl _) (.int .i64 nd)).setCell (p := ⟨w.heap.size, 2, none⟩) (Nat.le_refl _) (.int .i64 (((hh * 60 + mi) * 60 + ss) * 1000000000 + nn))).setCell (p := ⟨w.heap.size, 3, none⟩) (Nat.le_refl _) (.int .i64 (oh * 60 + om)))
  go_wp2_with fail
  refine bodyPost_ret (v := .tuple #[.agg #[.int .i64 k, .int .i64 nd, .int .i64 (((hh * 60 + mi) * 60 + ss) * 1000000000 + nn), .int .i64 (oh * 60 + om)], .int .i64 0]) (by simp [results, Try.results17, go_sem, hfin.c4]) rfl ⟨rfl, hbf⟩
set_option maxHeartbeats 2000000 in
theorem parse_ok_day_neg {x : ByteArray} {k y mo d hh mi ss nn sg oh om : Int} {s : Mom.Rd} (hP : Mom.form ⟨x, false⟩ Mom.fl0 = (k, s, ⟨y, mo, d, hh, mi, ss, nn, sg, oh, om⟩)) (hx : x.size ≤ maxLen) (hb : s.b = false) (hs : s.x.size = 0) (hk : k ≠ 2) (hv : Cal.Vld y mo d) (h1 : 0 ≤ hh) (h2 : hh ≤ 23) (h3 : 0 ≤ mi) (h4 : mi ≤ 59) (h5 : 0 ≤ ss) (h6 : ss ≤ 59) (h7 : 0 ≤ nn) (h8 : nn ≤ 999999999) (h9 : 0 ≤ oh) (h10 : oh ≤ 23) (h11 : 0 ≤ om) (h12 : om ≤ 59) (hg : sg = 45) (w : World) :
    Calls Try.prog 17 #[.string x] w fun e w' => e = .returned (.tuple #[.agg #[.int .i64 k, .int .i64 (Cal.num y mo d), .int .i64 (((hh * 60 + mi) * 60 + ss) * 1000000000 + nn), .int .i64 (-(oh * 60 + om))], .int .i64 0]) ∧ Below w.heap.size w w' := by
  have K := Lib.hid (form_pf hx w)
  rw [hP] at K
  have he := none_list hs
  clear hP hs
  have dg : (sg == 45) = true := beq_iff_eq.2 hg
  clear hg
  have HD := Lib.hid (day_any y mo d)
  rw [Cal.dayN, Cal.dayE, if_pos hv, if_pos hv] at HD
  have kn := Cal.kn_num hv
  unfold Cal.kn at kn
  have d1 : (k != 2) = true := by simpa using hk
  clear hk hv
  generalize Cal.num y mo d = nd at *
  go_enter Try.func17, Try.ntmps17
  go_wp2_with fail
  refine K.out.mono ?_; rintro e w1 ⟨rfl, h⟩
  have r0 := h.rd.c0
  have r1 := h.rd.c1
  simp only at r0 r1
  rw [hb] at r1
  have ps := h.ps k
  dsimp only at ps
  go_upto_region 7 with fail
  clear r0 r1 h K he hb
  generalize hT : w1.heap.size = T at *
  generalize hW : w1.alloc (.cells #[.int .i64 k, .int .i64 0, .int .i64 0, .int .i64 0] 23) = W at *
  clear hW hT
  obtain ⟨f0, f1, f2, f3, f4, f5, f6, f7, f8, f9⟩ := fl_all ps.fl
  obtain ⟨t0, t1, t2, t3⟩ := ps.tt.c4
  have tz := ps.tt.frozen
  go_wp2_with fail
  refine (HD.out _).mono ?_; rintro e W2 ⟨rfl, hb2⟩
  clear f0 f1 f2 f3 f4 f5 f6 f7 f8 f9 t0 t1 t2 t3 tz
  replace ps := ps.call hb2
  clear hb2 HD
  obtain ⟨f0, f1, f2, f3, f4, f5, f6, f7, f8, f9⟩ := fl_all ps.fl
  obtain ⟨t0, t1, t2, t3⟩ := ps.tt.c4
  have tz := ps.tt.frozen
  go_upto_region 12 with fail
  clear f0 f1 f2 f3 f4 f5 f6 f7 f8 f9 t0 t1 t2 t3 tz
  replace ps := ps.s1 (nd)
  generalize hW : W2.setCell ⟨T, 1, none⟩ (.int .i64 (nd)) = W3 at *
  clear hW
  obtain ⟨f0, f1, f2, f3, f4, f5, f6, f7, f8, f9⟩ := fl_all ps.fl
  obtain ⟨t0, t1, t2, t3⟩ := ps.tt.c4
  have tz := ps.tt.frozen
  go_upto_region 15 with fail
  clear f0 f1 f2 f3 f4 f5 f6 f7 f8 f9 t0 t1 t2 t3 tz
  replace ps := ps.s2 (((hh * 60 + mi) * 60 + ss) * 1000000000 + nn)
  generalize hW : W3.setCell ⟨T, 2, none⟩ (.int .i64 (((hh * 60 + mi) * 60 + ss) * 1000000000 + nn)) = W4 at *
  clear hW
  obtain ⟨f0, f1, f2, f3, f4, f5, f6, f7, f8, f9⟩ := fl_all ps.fl
  obtain ⟨t0, t1, t2, t3⟩ := ps.tt.c4
  have tz := ps.tt.frozen
  go_upto_region 16 with fail
  clear f0 f1 f2 f3 f4 f5 f6 f7 f8 f9 t0 t1 t2 t3 tz
  replace ps := ps.s3 (oh * 60 + om)
  generalize hW : W4.setCell ⟨T, 3, none⟩ (.int .i64 (oh * 60 + om)) = W5 at *
  clear hW
  obtain ⟨f0, f1, f2, f3, f4, f5, f6, f7, f8, f9⟩ := fl_all ps.fl
  obtain ⟨t0, t1, t2, t3⟩ := ps.tt.c4
  have tz := ps.tt.frozen
  go_upto_region 18 with fail
  clear f0 f1 f2 f3 f4 f5 f6 f7 f8 f9 t0 t1 t2 t3 tz
  replace ps := ps.s3 (-(oh * 60 + om))
  generalize hW : W5.setCell ⟨T, 3, none⟩ (.int .i64 (-(oh * 60 + om))) = W6 at *
  clear hW
  obtain ⟨f0, f1, f2, f3, f4, f5, f6, f7, f8, f9⟩ := fl_all ps.fl
  obtain ⟨t0, t1, t2, t3⟩ := ps.tt.c4
  have tz := ps.tt.frozen
  obtain ⟨q0, q1, q2, q3⟩ := ps.res.c4
  have qz := ps.res.frozen
  have hfin := Whole.s4 ps.res (.int .i64 k) (.int .i64 nd) (.int .i64 (((hh * 60 + mi) * 60 + ss) * 1000000000 + nn)) (.int .i64 (-(oh * 60 + om)))
  have hbf := ((((ps.below.setCell (p := ⟨w.heap.size, 0, none⟩) (Nat.le_refl _) (.int .i64 k)).setCell (p := ⟨w.heap.size, 1, none⟩) (Nat.le_refl _) (.int .i64 nd)).setCell (p := ⟨w.heap.size, 2, none⟩) (Nat.le_refl _) (.int .i64 (((hh * 60 + mi) * 60 + ss) * 1000000000 + nn))).setCell (p := ⟨w.heap.size, 3, none⟩) (Nat.le_refl _) (.int .i64 (-(oh * 60 + om))))
  go_wp2_with fail
  refine bodyPost_ret (v := .tuple #[.agg #[.int .i64 k, .int .i64 nd, .int .i64 (((hh * 60 + mi) * 60 + ss) * 1000000000 + nn), .int .i64 (-(oh * 60 + om))], .int .i64 0]) (by simp [results, Try.results17, go_sem, hfin.c4]) rfl ⟨rfl, hbf⟩
set_option maxHeartbeats 2000000 in
theorem parse_ok_clock {x : ByteArray} {k y mo d hh mi ss nn sg oh om : Int} {s : Mom.Rd} (hP : Mom.form ⟨x, false⟩ Mom.fl0 = (k, s, ⟨y, mo, d, hh, mi, ss, nn, sg, oh, om⟩)) (hx : x.size ≤ maxLen) (hb : s.b = false) (hs : s.x.size = 0) (hk : k = 2) (h1 : 0 ≤ hh) (h2 : hh ≤ 23) (h3 : 0 ≤ mi) (h4 : mi ≤ 59) (h5 : 0 ≤ ss) (h6 : ss ≤ 59) (h7 : 0 ≤ nn) (h8 : nn ≤ 999999999) (h9 : 0 ≤ oh) (h10 : oh ≤ 23) (h11 : 0 ≤ om) (h12 : om ≤ 59) (hg : sg ≠ 45) (w : World) :
    Calls Try.prog 17 #[.string x] w fun e w' => e = .returned (.tuple #[.agg #[.int .i64 k, .int .i64 0, .int .i64 (((hh * 60 + mi) * 60 + ss) * 1000000000 + nn), .int .i64 (oh * 60 + om)], .int .i64 0]) ∧ Below w.heap.size w w' := by
  have K := Lib.hid (form_pf hx w)
  rw [hP] at K
  have he := none_list hs
  clear hP hs
  have dg : (sg == 45) = false := beq_eq_false_iff_ne.2 hg
  clear hg
  have d1 : (k != 2) = false := by simpa using hk
  clear hk
  go_enter Try.func17, Try.ntmps17
  go_wp2_with fail
  refine K.out.mono ?_; rintro e w1 ⟨rfl, h⟩
  have r0 := h.rd.c0
  have r1 := h.rd.c1
  simp only at r0 r1
  rw [hb] at r1
  have ps := h.ps k
  dsimp only at ps
  go_upto_region 7 with fail
  clear r0 r1 h K he hb
  generalize hT : w1.heap.size = T at *
  generalize hW : w1.alloc (.cells #[.int .i64 k, .int .i64 0, .int .i64 0, .int .i64 0] 23) = W at *
  clear hW hT
  obtain ⟨f0, f1, f2, f3, f4, f5, f6, f7, f8, f9⟩ := fl_all ps.fl
  obtain ⟨t0, t1, t2, t3⟩ := ps.tt.c4
  have tz := ps.tt.frozen
  go_upto_region 15 with fail
  clear f0 f1 f2 f3 f4 f5 f6 f7 f8 f9 t0 t1 t2 t3 tz
  replace ps := ps.s2 (((hh * 60 + mi) * 60 + ss) * 1000000000 + nn)
  generalize hW : W.setCell ⟨T, 2, none⟩ (.int .i64 (((hh * 60 + mi) * 60 + ss) * 1000000000 + nn)) = W4 at *
  clear hW
  obtain ⟨f0, f1, f2, f3, f4, f5, f6, f7, f8, f9⟩ := fl_all ps.fl
  obtain ⟨t0, t1, t2, t3⟩ := ps.tt.c4
  have tz := ps.tt.frozen
  go_upto_region 16 with fail
  clear f0 f1 f2 f3 f4 f5 f6 f7 f8 f9 t0 t1 t2 t3 tz
  replace ps := ps.s3 (oh * 60 + om)
  generalize hW : W4.setCell ⟨T, 3, none⟩ (.int .i64 (oh * 60 + om)) = W5 at *
  clear hW
  obtain ⟨f0, f1, f2, f3, f4, f5, f6, f7, f8, f9⟩ := fl_all ps.fl
  obtain ⟨t0, t1, t2, t3⟩ := ps.tt.c4
  have tz := ps.tt.frozen
  obtain ⟨q0, q1, q2, q3⟩ := ps.res.c4
  have qz := ps.res.frozen
  have hfin := Whole.s4 ps.res (.int .i64 k) (.int .i64 0) (.int .i64 (((hh * 60 + mi) * 60 + ss) * 1000000000 + nn)) (.int .i64 (oh * 60 + om))
  have hbf := ((((ps.below.setCell (p := ⟨w.heap.size, 0, none⟩) (Nat.le_refl _) (.int .i64 k)).setCell (p := ⟨w.heap.size, 1, none⟩) (Nat.le_refl _) (.int .i64 0)).setCell (p := ⟨w.heap.size, 2, none⟩) (Nat.le_refl _) (.int .i64 (((hh * 60 + mi) * 60 + ss) * 1000000000 + nn))).setCell (p := ⟨w.heap.size, 3, none⟩) (Nat.le_refl _) (.int .i64 (oh * 60 + om)))
  go_wp2_with fail
  refine bodyPost_ret (v := .tuple #[.agg #[.int .i64 k, .int .i64 0, .int .i64 (((hh * 60 + mi) * 60 + ss) * 1000000000 + nn), .int .i64 (oh * 60 + om)], .int .i64 0]) (by simp [results, Try.results17, go_sem, hfin.c4]) rfl ⟨rfl, hbf⟩
set_option maxHeartbeats 2000000 in
theorem parse_ok_clock_neg {x : ByteArray} {k y mo d hh mi ss nn sg oh om : Int} {s : Mom.Rd} (hP : Mom.form ⟨x, false⟩ Mom.fl0 = (k, s, ⟨y, mo, d, hh, mi, ss, nn, sg, oh, om⟩)) (hx : x.size ≤ maxLen) (hb : s.b = false) (hs : s.x.size = 0) (hk : k = 2) (h1 : 0 ≤ hh) (h2 : hh ≤ 23) (h3 : 0 ≤ mi) (h4 : mi ≤ 59) (h5 : 0 ≤ ss) (h6 : ss ≤ 59) (h7 : 0 ≤ nn) (h8 : nn ≤ 999999999) (h9 : 0 ≤ oh) (h10 : oh ≤ 23) (h11 : 0 ≤ om) (h12 : om ≤ 59) (hg : sg = 45) (w : World) :
    Calls Try.prog 17 #[.string x] w fun e w' => e = .returned (.tuple #[.agg #[.int .i64 k, .int .i64 0, .int .i64 (((hh * 60 + mi) * 60 + ss) * 1000000000 + nn), .int .i64 (-(oh * 60 + om))], .int .i64 0]) ∧ Below w.heap.size w w' := by
  have K := Lib.hid (form_pf hx w)
  rw [hP] at K
  have he := none_list hs
  clear hP hs
  have dg : (sg == 45) = true := beq_iff_eq.2 hg
  clear hg
  have d1 : (k != 2) = false := by simpa using hk
  clear hk
  go_enter Try.func17, Try.ntmps17
  go_wp2_with fail
  refine K.out.mono ?_; rintro e w1 ⟨rfl, h⟩
  have r0 := h.rd.c0
  have r1 := h.rd.c1
  simp only at r0 r1
  rw [hb] at r1
  have ps := h.ps k
  dsimp only at ps
  go_upto_region 7 with fail
  clear r0 r1 h K he hb
  generalize hT : w1.heap.size = T at *
  generalize hW : w1.alloc (.cells #[.int .i64 k, .int .i64 0, .int .i64 0, .int .i64 0] 23) = W at *
  clear hW hT
  obtain ⟨f0, f1, f2, f3, f4, f5, f6, f7, f8, f9⟩ := fl_all ps.fl
  obtain ⟨t0, t1, t2, t3⟩ := ps.tt.c4
  have tz := ps.tt.frozen
  go_upto_region 15 with fail
  clear f0 f1 f2 f3 f4 f5 f6 f7 f8 f9 t0 t1 t2 t3 tz
  replace ps := ps.s2 (((hh * 60 + mi) * 60 + ss) * 1000000000 + nn)
  generalize hW : W.setCell ⟨T, 2, none⟩ (.int .i64 (((hh * 60 + mi) * 60 + ss) * 1000000000 + nn)) = W4 at *
  clear hW
  obtain ⟨f0, f1, f2, f3, f4, f5, f6, f7, f8, f9⟩ := fl_all ps.fl
  obtain ⟨t0, t1, t2, t3⟩ := ps.tt.c4
  have tz := ps.tt.frozen
  go_upto_region 16 with fail
  clear f0 f1 f2 f3 f4 f5 f6 f7 f8 f9 t0 t1 t2 t3 tz
  replace ps := ps.s3 (oh * 60 + om)
  generalize hW : W4.setCell ⟨T, 3, none⟩ (.int .i64 (oh * 60 + om)) = W5 at *
  clear hW
  obtain ⟨f0, f1, f2, f3, f4, f5, f6, f7, f8, f9⟩ := fl_all ps.fl
  obtain ⟨t0, t1, t2, t3⟩ := ps.tt.c4
  have tz := ps.tt.frozen
  go_upto_region 18 with fail
  clear f0 f1 f2 f3 f4 f5 f6 f7 f8 f9 t0 t1 t2 t3 tz
  replace ps := ps.s3 (-(oh * 60 + om))
  generalize hW : W5.setCell ⟨T, 3, none⟩ (.int .i64 (-(oh * 60 + om))) = W6 at *
  clear hW
  obtain ⟨f0, f1, f2, f3, f4, f5, f6, f7, f8, f9⟩ := fl_all ps.fl
  obtain ⟨t0, t1, t2, t3⟩ := ps.tt.c4
  have tz := ps.tt.frozen
  obtain ⟨q0, q1, q2, q3⟩ := ps.res.c4
  have qz := ps.res.frozen
  have hfin := Whole.s4 ps.res (.int .i64 k) (.int .i64 0) (.int .i64 (((hh * 60 + mi) * 60 + ss) * 1000000000 + nn)) (.int .i64 (-(oh * 60 + om)))
  have hbf := ((((ps.below.setCell (p := ⟨w.heap.size, 0, none⟩) (Nat.le_refl _) (.int .i64 k)).setCell (p := ⟨w.heap.size, 1, none⟩) (Nat.le_refl _) (.int .i64 0)).setCell (p := ⟨w.heap.size, 2, none⟩) (Nat.le_refl _) (.int .i64 (((hh * 60 + mi) * 60 + ss) * 1000000000 + nn))).setCell (p := ⟨w.heap.size, 3, none⟩) (Nat.le_refl _) (.int .i64 (-(oh * 60 + om))))
  go_wp2_with fail
  refine bodyPost_ret (v := .tuple #[.agg #[.int .i64 k, .int .i64 0, .int .i64 (((hh * 60 + mi) * 60 + ss) * 1000000000 + nn), .int .i64 (-(oh * 60 + om))], .int .i64 0]) (by simp [results, Try.results17, go_sem, hfin.c4]) rfl ⟨rfl, hbf⟩
end Go.Proofs.Ythbjkibclbgjoaa
