/- Times: dates, clocks and offsets are read (printed by gen_momread.py). -/
import Derived.Test.YthbjkibclbgjoaaMomReadD
namespace Go.Proofs.Ythbjkibclbgjoaa
open Go.RowKit

namespace Mom
structure Fl where
  y : Int
  mo : Int
  d : Int
  h : Int
  mi : Int
  s : Int
  n : Int
  sg : Int
  oh : Int
  om : Int
def date (s : Rd) (f : Fl) : Rd × Fl :=
  ((num (one (num (one (num s 4).2 ⟨#[45]⟩).2 2).2 ⟨#[45]⟩).2 2).2, { f with y := (num s 4).1, mo := (num (one (num s 4).2 ⟨#[45]⟩).2 2).1, d := (num (one (num (one (num s 4).2 ⟨#[45]⟩).2 2).2 ⟨#[45]⟩).2 2).1 })
/-- A clock up to its seconds. -/
def hms3 (s : Rd) (f : Fl) : Rd × Fl :=
  ((num (one (num (one (num s 2).2 ⟨#[58]⟩).2 2).2 ⟨#[58]⟩).2 2).2, { f with h := (num s 2).1, mi := (num (one (num s 2).2 ⟨#[58]⟩).2 2).1, s := (num (one (num (one (num s 2).2 ⟨#[58]⟩).2 2).2 ⟨#[58]⟩).2 2).1 })
def clock (s : Rd) (f : Fl) : Rd × Fl :=
  if bt (hms3 s f).1.x 0 = 46 then ((frac ⟨(hms3 s f).1.x.extract 1 (hms3 s f).1.x.size, (hms3 s f).1.b⟩).2, { (hms3 s f).2 with n := (frac ⟨(hms3 s f).1.x.extract 1 (hms3 s f).1.x.size, (hms3 s f).1.b⟩).1 })
  else hms3 s f
def signs : ByteArray := ⟨#[90, 122, 43, 45]⟩
def offs (s : Rd) (f : Fl) : Rd × Fl :=
  if (one s signs).1 = 43 ∨ (one s signs).1 = 45 then
    ((num (one (num (one s signs).2 2).2 ⟨#[58]⟩).2 2).2, { f with sg := (one s signs).1, oh := (num (one s signs).2 2).1, om := (num (one (num (one s signs).2 2).2 ⟨#[58]⟩).2 2).1 })
  else ((one s signs).2, { f with sg := (one s signs).1 })
end Mom
def FlAt (W : World) (F : Nat) (f : Mom.Fl) : Prop := Whole W F 59 #[.int .i64 f.y, .int .i64 f.mo, .int .i64 f.d, .int .i64 f.h, .int .i64 f.mi, .int .i64 f.s, .int .i64 f.n, .int .u8 f.sg, .int .i64 f.oh, .int .i64 f.om]
theorem below_of_grown {n B : Nat} {w W W' : World} (h : W.grownBy W' (some B)) (hb : Below n w W) (hn : n ≤ B) (hs : n ≤ W.heap.size) : Below n w W' :=
  hb.grown h hs (fun j e => by cases e; exact hn)
/-- The reader and the fields, and what lay ahead of them. -/
structure RF (W0 : World) (n : Nat) (W : World) (B : Nat) (s : Mom.Rd) (F : Nat) (f : Mom.Fl) : Prop where
  rd : RdAt W B s
  fl : FlAt W F f
  below : Below n W0 W
  size : n ≤ W.heap.size
theorem RF.call {W0 W W' : World} {n B F : Nat} {s s' : Mom.Rd} {f : Mom.Fl} (h : RF W0 n W B s F f) (hr : RdAt W' B s') (hg : W.grownBy W' (some B)) (hne : B ≠ F) (hB : n ≤ B) : RF W0 n W' B s' F f :=
  ⟨hr, h.fl.kept hg (by simp; omega), below_of_grown hg h.below hB h.size, Nat.le_trans h.size hg.size⟩
theorem RF.set0 {W0 W : World} {n B F : Nat} {s : Mom.Rd} {f : Mom.Fl} (h : RF W0 n W B s F f) (hne : B ≠ F) (hF : n ≤ F) (v : Int) : RF W0 n (W.setCell ⟨F, 0, none⟩ (.int .i64 v)) B s F { f with y := v } :=
  ⟨h.rd.far (by simp; omega) _, h.fl.set 0 _, h.below.setCell (by simpa using hF) _, by simpa using h.size⟩
theorem RF.cell0 {W0 W : World} {n B F : Nat} {s : Mom.Rd} {f : Mom.Fl} (h : RF W0 n W B s F f) : W.cell? ⟨F, 0, none⟩ = some (.int .i64 f.y) ∧ W.frozen? ⟨F, 0, none⟩ = false := ⟨h.fl.cell 0, h.fl.frozen 0⟩
theorem RF.set1 {W0 W : World} {n B F : Nat} {s : Mom.Rd} {f : Mom.Fl} (h : RF W0 n W B s F f) (hne : B ≠ F) (hF : n ≤ F) (v : Int) : RF W0 n (W.setCell ⟨F, 1, none⟩ (.int .i64 v)) B s F { f with mo := v } :=
  ⟨h.rd.far (by simp; omega) _, h.fl.set 1 _, h.below.setCell (by simpa using hF) _, by simpa using h.size⟩
theorem RF.cell1 {W0 W : World} {n B F : Nat} {s : Mom.Rd} {f : Mom.Fl} (h : RF W0 n W B s F f) : W.cell? ⟨F, 1, none⟩ = some (.int .i64 f.mo) ∧ W.frozen? ⟨F, 1, none⟩ = false := ⟨h.fl.cell 1, h.fl.frozen 1⟩
theorem RF.set2 {W0 W : World} {n B F : Nat} {s : Mom.Rd} {f : Mom.Fl} (h : RF W0 n W B s F f) (hne : B ≠ F) (hF : n ≤ F) (v : Int) : RF W0 n (W.setCell ⟨F, 2, none⟩ (.int .i64 v)) B s F { f with d := v } :=
  ⟨h.rd.far (by simp; omega) _, h.fl.set 2 _, h.below.setCell (by simpa using hF) _, by simpa using h.size⟩
theorem RF.cell2 {W0 W : World} {n B F : Nat} {s : Mom.Rd} {f : Mom.Fl} (h : RF W0 n W B s F f) : W.cell? ⟨F, 2, none⟩ = some (.int .i64 f.d) ∧ W.frozen? ⟨F, 2, none⟩ = false := ⟨h.fl.cell 2, h.fl.frozen 2⟩
theorem RF.set3 {W0 W : World} {n B F : Nat} {s : Mom.Rd} {f : Mom.Fl} (h : RF W0 n W B s F f) (hne : B ≠ F) (hF : n ≤ F) (v : Int) : RF W0 n (W.setCell ⟨F, 3, none⟩ (.int .i64 v)) B s F { f with h := v } :=
  ⟨h.rd.far (by simp; omega) _, h.fl.set 3 _, h.below.setCell (by simpa using hF) _, by simpa using h.size⟩
theorem RF.cell3 {W0 W : World} {n B F : Nat} {s : Mom.Rd} {f : Mom.Fl} (h : RF W0 n W B s F f) : W.cell? ⟨F, 3, none⟩ = some (.int .i64 f.h) ∧ W.frozen? ⟨F, 3, none⟩ = false := ⟨h.fl.cell 3, h.fl.frozen 3⟩
theorem RF.set4 {W0 W : World} {n B F : Nat} {s : Mom.Rd} {f : Mom.Fl} (h : RF W0 n W B s F f) (hne : B ≠ F) (hF : n ≤ F) (v : Int) : RF W0 n (W.setCell ⟨F, 4, none⟩ (.int .i64 v)) B s F { f with mi := v } :=
  ⟨h.rd.far (by simp; omega) _, h.fl.set 4 _, h.below.setCell (by simpa using hF) _, by simpa using h.size⟩
theorem RF.cell4 {W0 W : World} {n B F : Nat} {s : Mom.Rd} {f : Mom.Fl} (h : RF W0 n W B s F f) : W.cell? ⟨F, 4, none⟩ = some (.int .i64 f.mi) ∧ W.frozen? ⟨F, 4, none⟩ = false := ⟨h.fl.cell 4, h.fl.frozen 4⟩
theorem RF.set5 {W0 W : World} {n B F : Nat} {s : Mom.Rd} {f : Mom.Fl} (h : RF W0 n W B s F f) (hne : B ≠ F) (hF : n ≤ F) (v : Int) : RF W0 n (W.setCell ⟨F, 5, none⟩ (.int .i64 v)) B s F { f with s := v } :=
  ⟨h.rd.far (by simp; omega) _, h.fl.set 5 _, h.below.setCell (by simpa using hF) _, by simpa using h.size⟩
theorem RF.cell5 {W0 W : World} {n B F : Nat} {s : Mom.Rd} {f : Mom.Fl} (h : RF W0 n W B s F f) : W.cell? ⟨F, 5, none⟩ = some (.int .i64 f.s) ∧ W.frozen? ⟨F, 5, none⟩ = false := ⟨h.fl.cell 5, h.fl.frozen 5⟩
theorem RF.set6 {W0 W : World} {n B F : Nat} {s : Mom.Rd} {f : Mom.Fl} (h : RF W0 n W B s F f) (hne : B ≠ F) (hF : n ≤ F) (v : Int) : RF W0 n (W.setCell ⟨F, 6, none⟩ (.int .i64 v)) B s F { f with n := v } :=
  ⟨h.rd.far (by simp; omega) _, h.fl.set 6 _, h.below.setCell (by simpa using hF) _, by simpa using h.size⟩
theorem RF.cell6 {W0 W : World} {n B F : Nat} {s : Mom.Rd} {f : Mom.Fl} (h : RF W0 n W B s F f) : W.cell? ⟨F, 6, none⟩ = some (.int .i64 f.n) ∧ W.frozen? ⟨F, 6, none⟩ = false := ⟨h.fl.cell 6, h.fl.frozen 6⟩
theorem RF.set7 {W0 W : World} {n B F : Nat} {s : Mom.Rd} {f : Mom.Fl} (h : RF W0 n W B s F f) (hne : B ≠ F) (hF : n ≤ F) (v : Int) : RF W0 n (W.setCell ⟨F, 7, none⟩ (.int .u8 v)) B s F { f with sg := v } :=
  ⟨h.rd.far (by simp; omega) _, h.fl.set 7 _, h.below.setCell (by simpa using hF) _, by simpa using h.size⟩
theorem RF.cell7 {W0 W : World} {n B F : Nat} {s : Mom.Rd} {f : Mom.Fl} (h : RF W0 n W B s F f) : W.cell? ⟨F, 7, none⟩ = some (.int .u8 f.sg) ∧ W.frozen? ⟨F, 7, none⟩ = false := ⟨h.fl.cell 7, h.fl.frozen 7⟩
theorem RF.set8 {W0 W : World} {n B F : Nat} {s : Mom.Rd} {f : Mom.Fl} (h : RF W0 n W B s F f) (hne : B ≠ F) (hF : n ≤ F) (v : Int) : RF W0 n (W.setCell ⟨F, 8, none⟩ (.int .i64 v)) B s F { f with oh := v } :=
  ⟨h.rd.far (by simp; omega) _, h.fl.set 8 _, h.below.setCell (by simpa using hF) _, by simpa using h.size⟩
theorem RF.cell8 {W0 W : World} {n B F : Nat} {s : Mom.Rd} {f : Mom.Fl} (h : RF W0 n W B s F f) : W.cell? ⟨F, 8, none⟩ = some (.int .i64 f.oh) ∧ W.frozen? ⟨F, 8, none⟩ = false := ⟨h.fl.cell 8, h.fl.frozen 8⟩
theorem RF.set9 {W0 W : World} {n B F : Nat} {s : Mom.Rd} {f : Mom.Fl} (h : RF W0 n W B s F f) (hne : B ≠ F) (hF : n ≤ F) (v : Int) : RF W0 n (W.setCell ⟨F, 9, none⟩ (.int .i64 v)) B s F { f with om := v } :=
  ⟨h.rd.far (by simp; omega) _, h.fl.set 9 _, h.below.setCell (by simpa using hF) _, by simpa using h.size⟩
theorem RF.cell9 {W0 W : World} {n B F : Nat} {s : Mom.Rd} {f : Mom.Fl} (h : RF W0 n W B s F f) : W.cell? ⟨F, 9, none⟩ = some (.int .i64 f.om) ∧ W.frozen? ⟨F, 9, none⟩ = false := ⟨h.fl.cell 9, h.fl.frozen 9⟩
theorem RF.setrd {W0 W : World} {n B F : Nat} {s : Mom.Rd} {f : Mom.Fl} (h : RF W0 n W B s F f) (hne : B ≠ F) (hB : n ≤ B) (y : ByteArray) : RF W0 n (W.setCell ⟨B, 0, none⟩ (.string y)) B ⟨y, s.b⟩ F f :=
  ⟨h.rd.set 0 _, h.fl.far (by simp; omega) _, h.below.setCell (by simpa using hB) _, by simpa using h.size⟩
theorem some_list {x : ByteArray} (h : 0 < x.size) : x.toList.isEmpty = false := by
  rw [Lib.toList_data]
  cases hh : x.data.toList with
  | nil => have : x.size = 0 := by rw [← ByteArray.size_data, ← Array.length_toList, hh]; rfl
           omega
  | cons _ _ => rfl
theorem none_list {x : ByteArray} (h : x.size = 0) : x.toList.isEmpty = true := by
  rw [Lib.toList_data]
  cases hh : x.data.toList with
  | nil => rfl
  | cons _ _ => have : x.size ≠ 0 := by rw [← ByteArray.size_data, ← Array.length_toList, hh]; simp
                omega

set_option maxHeartbeats 1000000 in
theorem date_st {s : Mom.Rd} {f : Mom.Fl} {B F n : Nat} (hx : s.x.size ≤ maxLen) (hne : B ≠ F) (hB : n ≤ B) (hF : n ≤ F) {W0 W : World} (h : RF W0 n W B s F f) :
    Calls Try.prog 60 #[.pointer (some ⟨B, 0, none⟩), .pointer (some ⟨F, 0, none⟩)] W fun e W' =>
      (∃ v, e = .returned v) ∧ RF W0 n W' B (Mom.date s f).1 F (Mom.date s f).2 := by
  unfold Mom.date
  have z1 := Nat.le_trans (Mom.num_size s 4) hx
  have z2 := Nat.le_trans (Mom.one_size (Mom.num s 4).2 ⟨#[45]⟩) z1
  have z3 := Nat.le_trans (Mom.num_size (Mom.one (Mom.num s 4).2 ⟨#[45]⟩).2 2) z2
  have z4 := Nat.le_trans (Mom.one_size (Mom.num (Mom.one (Mom.num s 4).2 ⟨#[45]⟩).2 2).2 ⟨#[45]⟩) z3
  have z5 := Nat.le_trans (Mom.num_size (Mom.one (Mom.num (Mom.one (Mom.num s 4).2 ⟨#[45]⟩).2 2).2 ⟨#[45]⟩).2 2) z4
  generalize hA1 : Mom.num s 4 = A1 at *
  generalize hA2 : Mom.one A1.2 ⟨#[45]⟩ = A2 at *
  generalize hA3 : Mom.num A2.2 2 = A3 at *
  generalize hA4 : Mom.one A3.2 ⟨#[45]⟩ = A4 at *
  generalize hA5 : Mom.num A4.2 2 = A5 at *
  have K1 := Lib.hid (fun (W : World) (hW : RdAt W B s) => number_st (wd := 4) (B := B) hx (by omega) hW); rw [hA1] at K1
  have K2 := Lib.hid (fun (W : World) (hW : RdAt W B A1.2) => one_st (o := ⟨#[45]⟩) (B := B) z1 (by decide) hW); rw [hA2] at K2
  have K3 := Lib.hid (fun (W : World) (hW : RdAt W B A2.2) => number_st (wd := 2) (B := B) z2 (by omega) hW); rw [hA3] at K3
  have K4 := Lib.hid (fun (W : World) (hW : RdAt W B A3.2) => one_st (o := ⟨#[45]⟩) (B := B) z3 (by decide) hW); rw [hA4] at K4
  have K5 := Lib.hid (fun (W : World) (hW : RdAt W B A4.2) => number_st (wd := 2) (B := B) z4 (by omega) hW); rw [hA5] at K5
  clear hA1 hA2 hA3 hA4 hA5 z1 z2 z3 z4 z5 hx
  go_enter Try.func60, Try.ntmps60
  go_wp2_with fail
  refine (K1.out _ h.rd).mono ?_; rintro e w1 ⟨rfl, hr, hg⟩
  replace h := h.call hr hg hne hB
  clear hr hg
  obtain ⟨hc, hz⟩ := h.cell0
  go_wp2_with fail
  replace h := h.set0 hne hF A1.1
  clear hc hz
  refine (K2.out _ h.rd).mono ?_; rintro e w2 ⟨rfl, hr, hg⟩
  replace h := h.call hr hg hne hB
  clear hr hg
  go_wp2_with fail
  refine (K3.out _ h.rd).mono ?_; rintro e w3 ⟨rfl, hr, hg⟩
  replace h := h.call hr hg hne hB
  clear hr hg
  obtain ⟨hc, hz⟩ := h.cell1
  go_wp2_with fail
  replace h := h.set1 hne hF A3.1
  clear hc hz
  refine (K4.out _ h.rd).mono ?_; rintro e w4 ⟨rfl, hr, hg⟩
  replace h := h.call hr hg hne hB
  clear hr hg
  go_wp2_with fail
  refine (K5.out _ h.rd).mono ?_; rintro e w5 ⟨rfl, hr, hg⟩
  replace h := h.call hr hg hne hB
  clear hr hg
  obtain ⟨hc, hz⟩ := h.cell2
  go_wp2_with fail
  replace h := h.set2 hne hF A5.1
  clear hc hz
  go_end0
  exact ⟨⟨_, rfl⟩, h⟩

set_option maxHeartbeats 1000000 in
theorem clock_st {s : Mom.Rd} {f : Mom.Fl} {B F n : Nat} (hx : s.x.size ≤ maxLen) (hne : B ≠ F) (hB : n ≤ B) (hF : n ≤ F) {W0 W : World} (h : RF W0 n W B s F f) :
    Calls Try.prog 59 #[.pointer (some ⟨B, 0, none⟩), .pointer (some ⟨F, 0, none⟩)] W fun e W' =>
      (∃ v, e = .returned v) ∧ RF W0 n W' B (Mom.clock s f).1 F (Mom.clock s f).2 := by
  unfold Mom.clock Mom.hms3
  dsimp only
  have z1 := Nat.le_trans (Mom.num_size s 2) hx
  have z2 := Nat.le_trans (Mom.one_size (Mom.num s 2).2 ⟨#[58]⟩) z1
  have z3 := Nat.le_trans (Mom.num_size (Mom.one (Mom.num s 2).2 ⟨#[58]⟩).2 2) z2
  have z4 := Nat.le_trans (Mom.one_size (Mom.num (Mom.one (Mom.num s 2).2 ⟨#[58]⟩).2 2).2 ⟨#[58]⟩) z3
  have z5 := Nat.le_trans (Mom.num_size (Mom.one (Mom.num (Mom.one (Mom.num s 2).2 ⟨#[58]⟩).2 2).2 ⟨#[58]⟩).2 2) z4
  generalize hA1 : Mom.num s 2 = A1 at *
  generalize hA2 : Mom.one A1.2 ⟨#[58]⟩ = A2 at *
  generalize hA3 : Mom.num A2.2 2 = A3 at *
  generalize hA4 : Mom.one A3.2 ⟨#[58]⟩ = A4 at *
  generalize hA5 : Mom.num A4.2 2 = A5 at *
  have K1 := Lib.hid (fun (W : World) (hW : RdAt W B s) => number_st (wd := 2) (B := B) hx (by omega) hW); rw [hA1] at K1
  have K2 := Lib.hid (fun (W : World) (hW : RdAt W B A1.2) => one_st (o := ⟨#[58]⟩) (B := B) z1 (by decide) hW); rw [hA2] at K2
  have K3 := Lib.hid (fun (W : World) (hW : RdAt W B A2.2) => number_st (wd := 2) (B := B) z2 (by omega) hW); rw [hA3] at K3
  have K4 := Lib.hid (fun (W : World) (hW : RdAt W B A3.2) => one_st (o := ⟨#[58]⟩) (B := B) z3 (by decide) hW); rw [hA4] at K4
  have K5 := Lib.hid (fun (W : World) (hW : RdAt W B A4.2) => number_st (wd := 2) (B := B) z4 (by omega) hW); rw [hA5] at K5
  have K6 := Lib.hid (fun (W : World) (hW : RdAt W B ⟨A5.2.x.extract 1 A5.2.x.size, A5.2.b⟩) => fraction_st (B := B) (s := ⟨A5.2.x.extract 1 A5.2.x.size, A5.2.b⟩) (by simp [ByteArray.size_extract]; omega) hW)
  generalize hA6 : Mom.frac ⟨A5.2.x.extract 1 A5.2.x.size, A5.2.b⟩ = A6 at *
  clear hA1 hA2 hA3 hA4 hA5 hA6 z1 z2 z3 z4 hx
  unfold maxLen at z5
  by_cases hp : Mom.bt A5.2.x 0 = 46
  · rw [if_pos hp]
    have hs : 0 < A5.2.x.size := by
      rcases Nat.eq_zero_or_pos A5.2.x.size with h0 | h0
      · rw [Mom.bt_out (x := A5.2.x) (by omega)] at hp; omega
      · exact h0
    rw [Mom.bt_in hs] at hp
    have t1 : ((A5.2.x[0].toNat : Int) == 46) = true := by rw [hp]; rfl
    have t2 := some_list hs
    clear hp
    go_enter Try.func59, Try.ntmps59
    go_wp2_with fail
    refine (K1.out _ h.rd).mono ?_; rintro e w1 ⟨rfl, hr, hg⟩
    replace h := h.call hr hg hne hB
    clear hr hg
    obtain ⟨hc, hz⟩ := h.cell3
    go_wp2_with fail
    replace h := h.set3 hne hF A1.1
    clear hc hz
    refine (K2.out _ h.rd).mono ?_; rintro e w2 ⟨rfl, hr, hg⟩
    replace h := h.call hr hg hne hB
    clear hr hg
    go_wp2_with fail
    refine (K3.out _ h.rd).mono ?_; rintro e w3 ⟨rfl, hr, hg⟩
    replace h := h.call hr hg hne hB
    clear hr hg
    obtain ⟨hc, hz⟩ := h.cell4
    go_wp2_with fail
    replace h := h.set4 hne hF A3.1
    clear hc hz
    refine (K4.out _ h.rd).mono ?_; rintro e w4 ⟨rfl, hr, hg⟩
    replace h := h.call hr hg hne hB
    clear hr hg
    go_wp2_with fail
    refine (K5.out _ h.rd).mono ?_; rintro e w5 ⟨rfl, hr, hg⟩
    replace h := h.call hr hg hne hB
    clear hr hg
    obtain ⟨hc, hz⟩ := h.cell5
    have hr0 := h.rd.c0
    have hr1 := h.rd.frozen 0
    go_wp2_with fail
    replace h := (h.set5 hne hF A5.1).setrd hne hB (A5.2.x.extract 1 A5.2.x.size)
    clear hc hz hr0 hr1
    refine (K6.out _ h.rd).mono ?_; rintro e w6 ⟨rfl, hr, hg⟩
    replace h := h.call hr hg hne hB
    clear hr hg
    obtain ⟨hc, hz⟩ := h.cell6
    go_wp2_with fail
    replace h := h.set6 hne hF A6.1
    go_end0
    exact ⟨⟨_, rfl⟩, h⟩
  · rw [if_neg hp]
    by_cases hs : 0 < A5.2.x.size
    · rw [Mom.bt_in hs] at hp
      have t1 : ((A5.2.x[0].toNat : Int) == 46) = false := beq_eq_false_iff_ne.2 hp
      have t2 := some_list hs
      clear hp
      go_enter Try.func59, Try.ntmps59
      go_wp2_with fail
      refine (K1.out _ h.rd).mono ?_; rintro e w1 ⟨rfl, hr, hg⟩
      replace h := h.call hr hg hne hB
      clear hr hg
      obtain ⟨hc, hz⟩ := h.cell3
      go_wp2_with fail
      replace h := h.set3 hne hF A1.1
      clear hc hz
      refine (K2.out _ h.rd).mono ?_; rintro e w2 ⟨rfl, hr, hg⟩
      replace h := h.call hr hg hne hB
      clear hr hg
      go_wp2_with fail
      refine (K3.out _ h.rd).mono ?_; rintro e w3 ⟨rfl, hr, hg⟩
      replace h := h.call hr hg hne hB
      clear hr hg
      obtain ⟨hc, hz⟩ := h.cell4
      go_wp2_with fail
      replace h := h.set4 hne hF A3.1
      clear hc hz
      refine (K4.out _ h.rd).mono ?_; rintro e w4 ⟨rfl, hr, hg⟩
      replace h := h.call hr hg hne hB
      clear hr hg
      go_wp2_with fail
      refine (K5.out _ h.rd).mono ?_; rintro e w5 ⟨rfl, hr, hg⟩
      replace h := h.call hr hg hne hB
      clear hr hg
      obtain ⟨hc, hz⟩ := h.cell5
      have hr0 := h.rd.c0
      have hr1 := h.rd.frozen 0
      go_wp2_with fail
      replace h := h.set5 hne hF A5.1
      go_end0
      exact ⟨⟨_, rfl⟩, h⟩
    · have t2 := none_list (x := A5.2.x) (by omega)
      clear hp
      go_enter Try.func59, Try.ntmps59
      go_wp2_with fail
      refine (K1.out _ h.rd).mono ?_; rintro e w1 ⟨rfl, hr, hg⟩
      replace h := h.call hr hg hne hB
      clear hr hg
      obtain ⟨hc, hz⟩ := h.cell3
      go_wp2_with fail
      replace h := h.set3 hne hF A1.1
      clear hc hz
      refine (K2.out _ h.rd).mono ?_; rintro e w2 ⟨rfl, hr, hg⟩
      replace h := h.call hr hg hne hB
      clear hr hg
      go_wp2_with fail
      refine (K3.out _ h.rd).mono ?_; rintro e w3 ⟨rfl, hr, hg⟩
      replace h := h.call hr hg hne hB
      clear hr hg
      obtain ⟨hc, hz⟩ := h.cell4
      go_wp2_with fail
      replace h := h.set4 hne hF A3.1
      clear hc hz
      refine (K4.out _ h.rd).mono ?_; rintro e w4 ⟨rfl, hr, hg⟩
      replace h := h.call hr hg hne hB
      clear hr hg
      go_wp2_with fail
      refine (K5.out _ h.rd).mono ?_; rintro e w5 ⟨rfl, hr, hg⟩
      replace h := h.call hr hg hne hB
      clear hr hg
      obtain ⟨hc, hz⟩ := h.cell5
      have hr0 := h.rd.c0
      have hr1 := h.rd.frozen 0
      go_wp2_with fail
      replace h := h.set5 hne hF A5.1
      go_end0
      exact ⟨⟨_, rfl⟩, h⟩

set_option maxHeartbeats 1000000 in
theorem offset_st {s : Mom.Rd} {f : Mom.Fl} {B F n : Nat} (hx : s.x.size ≤ maxLen) (hne : B ≠ F) (hB : n ≤ B) (hF : n ≤ F) {W0 W : World} (h : RF W0 n W B s F f) :
    Calls Try.prog 62 #[.pointer (some ⟨B, 0, none⟩), .pointer (some ⟨F, 0, none⟩)] W fun e W' =>
      (∃ v, e = .returned v) ∧ RF W0 n W' B (Mom.offs s f).1 F (Mom.offs s f).2 := by
  unfold Mom.offs
  have z1 := Nat.le_trans (Mom.one_size s Mom.signs) hx
  have z2 := Nat.le_trans (Mom.num_size (Mom.one s Mom.signs).2 2) z1
  have z3 := Nat.le_trans (Mom.one_size (Mom.num (Mom.one s Mom.signs).2 2).2 ⟨#[58]⟩) z2
  generalize hA1 : Mom.one s Mom.signs = A1 at *
  generalize hA2 : Mom.num A1.2 2 = A2 at *
  generalize hA3 : Mom.one A2.2 ⟨#[58]⟩ = A3 at *
  generalize hA4 : Mom.num A3.2 2 = A4 at *
  have K1 := Lib.hid (fun (W : World) (hW : RdAt W B s) => one_st (o := Mom.signs) (B := B) hx (by decide) hW); rw [hA1] at K1
  have K2 := Lib.hid (fun (W : World) (hW : RdAt W B A1.2) => number_st (wd := 2) (B := B) z1 (by omega) hW); rw [hA2] at K2
  have K3 := Lib.hid (fun (W : World) (hW : RdAt W B A2.2) => one_st (o := ⟨#[58]⟩) (B := B) z2 (by decide) hW); rw [hA3] at K3
  have K4 := Lib.hid (fun (W : World) (hW : RdAt W B A3.2) => number_st (wd := 2) (B := B) z3 (by omega) hW); rw [hA4] at K4
  clear hA1 hA2 hA3 hA4 z1 z2 z3 hx
  by_cases h43 : A1.1 = 43
  · rw [if_pos (.inl h43)]
    have t1 : (A1.1 == 43) = true := beq_iff_eq.2 h43
    clear h43
    go_enter Try.func62, Try.ntmps62
    go_wp2_with fail
    refine (K1.out _ h.rd).mono ?_; rintro e w1 ⟨rfl, hr, hg⟩
    replace h := h.call hr hg hne hB
    clear hr hg
    obtain ⟨hc, hz⟩ := h.cell7
    have hc7 := (h.set7 hne hF A1.1).cell7.1
    go_wp2_with fail
    replace h := h.set7 hne hF A1.1
    clear hc hz hc7
    refine (K2.out _ h.rd).mono ?_; rintro e w2 ⟨rfl, hr, hg⟩
    replace h := h.call hr hg hne hB
    clear hr hg
    obtain ⟨hc, hz⟩ := h.cell8
    go_wp2_with fail
    replace h := h.set8 hne hF A2.1
    clear hc hz
    refine (K3.out _ h.rd).mono ?_; rintro e w3 ⟨rfl, hr, hg⟩
    replace h := h.call hr hg hne hB
    clear hr hg
    go_wp2_with fail
    refine (K4.out _ h.rd).mono ?_; rintro e w4 ⟨rfl, hr, hg⟩
    replace h := h.call hr hg hne hB
    clear hr hg
    obtain ⟨hc, hz⟩ := h.cell9
    go_wp2_with fail
    replace h := h.set9 hne hF A4.1
    go_end0
    exact ⟨⟨_, rfl⟩, h⟩
  have t1 : (A1.1 == 43) = false := beq_eq_false_iff_ne.2 h43
  by_cases h45 : A1.1 = 45
  · rw [if_pos (.inr h45)]
    have t2 : (A1.1 == 45) = true := beq_iff_eq.2 h45
    clear h43 h45
    go_enter Try.func62, Try.ntmps62
    go_wp2_with fail
    refine (K1.out _ h.rd).mono ?_; rintro e w1 ⟨rfl, hr, hg⟩
    replace h := h.call hr hg hne hB
    clear hr hg
    obtain ⟨hc, hz⟩ := h.cell7
    have hc7 := (h.set7 hne hF A1.1).cell7.1
    go_wp2_with fail
    replace h := h.set7 hne hF A1.1
    clear hc hz hc7
    refine (K2.out _ h.rd).mono ?_; rintro e w2 ⟨rfl, hr, hg⟩
    replace h := h.call hr hg hne hB
    clear hr hg
    obtain ⟨hc, hz⟩ := h.cell8
    go_wp2_with fail
    replace h := h.set8 hne hF A2.1
    clear hc hz
    refine (K3.out _ h.rd).mono ?_; rintro e w3 ⟨rfl, hr, hg⟩
    replace h := h.call hr hg hne hB
    clear hr hg
    go_wp2_with fail
    refine (K4.out _ h.rd).mono ?_; rintro e w4 ⟨rfl, hr, hg⟩
    replace h := h.call hr hg hne hB
    clear hr hg
    obtain ⟨hc, hz⟩ := h.cell9
    go_wp2_with fail
    replace h := h.set9 hne hF A4.1
    go_end0
    exact ⟨⟨_, rfl⟩, h⟩
  · rw [if_neg (fun e => e.elim h43 h45)]
    have t2 : (A1.1 == 45) = false := beq_eq_false_iff_ne.2 h45
    clear h43 h45
    go_enter Try.func62, Try.ntmps62
    go_wp2_with fail
    refine (K1.out _ h.rd).mono ?_; rintro e w1 ⟨rfl, hr, hg⟩
    replace h := h.call hr hg hne hB
    clear hr hg
    obtain ⟨hc, hz⟩ := h.cell7
    have hc7 := (h.set7 hne hF A1.1).cell7.1
    go_wp2_with fail
    replace h := h.set7 hne hF A1.1
    clear hc hz hc7
    go_end0
    exact ⟨⟨_, rfl⟩, h⟩
end Go.Proofs.Ythbjkibclbgjoaa
