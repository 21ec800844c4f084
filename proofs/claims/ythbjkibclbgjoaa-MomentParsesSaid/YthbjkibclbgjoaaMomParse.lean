/- Times: Parse. -/
import Derived.Test.YthbjkibclbgjoaaMomForm
namespace Go.Proofs.Ythbjkibclbgjoaa
open Go.RowKit

attribute [local irreducible] Mom.num Mom.one Mom.frac Mom.date Mom.hms3 Mom.clock Mom.offs Mom.form
namespace Mom
def Fb (f : Fl) : Prop := 0 ≤ f.h ∧ 0 ≤ f.mi ∧ 0 ≤ f.s ∧ (0 ≤ f.n ∧ f.n ≤ 999999999) ∧ 0 ≤ f.oh ∧ 0 ≤ f.om
theorem num_nn (s : Rd) (w : Nat) : 0 ≤ (num s w).1 := by
  unfold num
  split
  · rename_i h; exact (nv_bd h).1
  · exact Int.le_refl _
theorem frac_bd (s : Rd) : 0 ≤ (frac s).1 ∧ (frac s).1 ≤ 999999999 := by
  unfold frac
  split
  · rename_i h; exact pow10_bd (run_cnt s.x).1 h.2 (Nat.le_refl _)
  · dsimp only; omega
theorem date_fb {s : Rd} {f : Fl} (h : Fb f) : Fb (date s f).2 := by unfold date; exact h
theorem hms3_fb {s : Rd} {f : Fl} (h : Fb f) : Fb (hms3 s f).2 := by unfold hms3; exact ⟨num_nn _ _, num_nn _ _, num_nn _ _, h.2.2.2⟩
theorem clock_fb {s : Rd} {f : Fl} (h : Fb f) : Fb (clock s f).2 := by
  unfold clock
  have h1 := hms3_fb (s := s) h
  split
  · exact ⟨h1.1, h1.2.1, h1.2.2.1, frac_bd _, h1.2.2.2.2⟩
  · exact h1
theorem offs_fb {s : Rd} {f : Fl} (h : Fb f) : Fb (offs s f).2 := by
  unfold offs
  split
  · exact ⟨h.1, h.2.1, h.2.2.1, h.2.2.2.1, num_nn _ _, num_nn _ _⟩
  · exact h
theorem form_fb {s : Rd} {f : Fl} (h : Fb f) : Fb (form s f).2.2 := by
  unfold form
  split
  · exact clock_fb h
  split
  · exact date_fb h
  split
  · exact clock_fb (date_fb h)
  · exact offs_fb (clock_fb (date_fb h))
theorem form_kind (s : Rd) (f : Fl) : (form s f).1 = 1 ∨ (form s f).1 = 2 ∨ (form s f).1 = 3 ∨ (form s f).1 = 4 := by
  unfold form
  split
  · exact .inr (.inl rfl)
  split
  · exact .inl rfl
  split
  · exact .inr (.inr (.inl rfl))
  · exact .inr (.inr (.inr rfl))
def fl0 : Fl := ⟨0, 0, 0, 0, 0, 0, 0, 0, 0, 0⟩
end Mom

def PW (w : World) (x : ByteArray) : World := (((w.alloc (.cells #[.int .i64 0, .int .i64 0, .int .i64 0, .int .i64 0] 23)).alloc (.cells #[.string x, .bool false] 57)).alloc (.cells #[.int .i64 0, .int .i64 0, .int .i64 0, .int .i64 0, .int .i64 0, .int .i64 0, .int .i64 0, .int .u8 0, .int .i64 0, .int .i64 0] 59))
theorem pw_size (w : World) (x : ByteArray) : (PW w x).heap.size = w.heap.size + 1 + 1 + 1 := by unfold PW; simp
theorem pw_rf (w : World) (x : ByteArray) : RF (PW w x) (w.heap.size + 1) (PW w x) (w.heap.size + 1) ⟨x, false⟩ (w.heap.size + 1 + 1) Mom.fl0 := by
  refine ⟨?_, ?_, Below.refl _ _, by rw [pw_size]; omega⟩
  · have := (Whole.new (w.alloc (.cells #[.int .i64 0, .int .i64 0, .int .i64 0, .int .i64 0] 23)) 57 #[.string x, .bool false]).alloc (.cells #[.int .i64 0, .int .i64 0, .int .i64 0, .int .i64 0, .int .i64 0, .int .i64 0, .int .i64 0, .int .u8 0, .int .i64 0, .int .i64 0] 59)
    simp only [World.size_alloc] at this
    exact this
  · have := Whole.new ((w.alloc (.cells #[.int .i64 0, .int .i64 0, .int .i64 0, .int .i64 0] 23)).alloc (.cells #[.string x, .bool false] 57)) 59 #[.int .i64 0, .int .i64 0, .int .i64 0, .int .i64 0, .int .i64 0, .int .i64 0, .int .i64 0, .int .u8 0, .int .i64 0, .int .i64 0]
    simp only [World.size_alloc] at this
    exact this
theorem pw_res (w : World) (x : ByteArray) : Whole (PW w x) w.heap.size 23 #[.int .i64 0, .int .i64 0, .int .i64 0, .int .i64 0] := ((Whole.new w 23 #[.int .i64 0, .int .i64 0, .int .i64 0, .int .i64 0]).alloc _).alloc _
theorem pw_below (w : World) (x : ByteArray) : Below w.heap.size w (PW w x) := (((Below.refl _ _).alloc (Nat.le_refl _) _).alloc (by simp) _).alloc (by simp; omega) _
theorem Whole.s4 {W : World} {B : Nat} {t : TypeId} {a b c d : Value} (h : Whole W B t #[a, b, c, d]) (p q r s : Value) : Whole ((((W.setCell ⟨B, 0, none⟩ p).setCell ⟨B, 1, none⟩ q).setCell ⟨B, 2, none⟩ r).setCell ⟨B, 3, none⟩ s) B t #[p, q, r, s] := (((h.set 0 p).set 1 q).set 2 r).set 3 s
/-- What is known behind 'form'. -/
structure PF (w W : World) (P : Int × Mom.Rd × Mom.Fl) : Prop where
  rd : RdAt W (w.heap.size + 1) P.2.1
  fl : FlAt W (w.heap.size + 1 + 1) P.2.2
  res : Whole W w.heap.size 23 #[.int .i64 0, .int .i64 0, .int .i64 0, .int .i64 0]
  below : Below w.heap.size w W
theorem form_pf {x : ByteArray} (hx : x.size ≤ maxLen) (w : World) :
    Calls Try.prog 40 #[.pointer (some ⟨w.heap.size + 1, 0, none⟩), .pointer (some ⟨w.heap.size + 1 + 1, 0, none⟩)] (PW w x) fun e W' =>
      e = .returned (.int .i64 (Mom.form ⟨x, false⟩ Mom.fl0).1) ∧ PF w W' (Mom.form ⟨x, false⟩ Mom.fl0) :=
  (form_st hx (by omega) (Nat.le_refl _) (by omega) (pw_rf w x)).mono fun e W' ⟨he, h⟩ =>
    ⟨he, h.rd, h.fl, (pw_res w x).below h.below (by omega), (pw_below w x).trans (h.below.mono (by omega))⟩

theorem parse_bad {x : ByteArray} (hx : x.size ≤ maxLen) (h : (Mom.form ⟨x, false⟩ Mom.fl0).2.1.b = true ∨ (Mom.form ⟨x, false⟩ Mom.fl0).2.1.x.size ≠ 0) (w : World) :
    Calls Try.prog 17 #[.string x] w fun e w' => e = .returned (.tuple #[.agg #[.int .i64 0, .int .i64 0, .int .i64 0, .int .i64 0], .int .i64 3]) ∧ Below w.heap.size w w' := by
  have K := Lib.hid (form_pf hx w)
  generalize Mom.form ⟨x, false⟩ Mom.fl0 = P at *
  have hb : P.2.1.b = true ∨ (P.2.1.b = false ∧ P.2.1.x.toList.isEmpty = false) := by
    rcases h with h | h
    · exact .inl h
    · cases hb : P.2.1.b with
      | true => exact .inl rfl
      | false => exact .inr ⟨rfl, some_list (by omega)⟩
  clear h
  rcases hb with hb | ⟨hb, hb2⟩
  all_goals
    go_enter Try.func17, Try.ntmps17
    go_wp2_with fail
    refine K.out.mono ?_; rintro e w1 ⟨rfl, h⟩
    have r0 := h.rd.c0
    have r1 := h.rd.c1
    rw [hb] at r1
    obtain ⟨q0, q1, q2, q3⟩ := h.res.c4
    have qf := h.res.frozen
    have hfin := h.res.s4 (.int .i64 0) (.int .i64 0) (.int .i64 0) (.int .i64 0)
    have hbf := (((h.below.setCell (p := ⟨w.heap.size, 0, none⟩) (Nat.le_refl _) (.int .i64 0)).setCell (p := ⟨w.heap.size, 1, none⟩) (Nat.le_refl _) (.int .i64 0)).setCell (p := ⟨w.heap.size, 2, none⟩) (Nat.le_refl _) (.int .i64 0)).setCell (p := ⟨w.heap.size, 3, none⟩) (Nat.le_refl _) (.int .i64 0)
    go_wp2_with fail
    refine bodyPost_ret (v := .tuple #[.agg #[.int .i64 0, .int .i64 0, .int .i64 0, .int .i64 0], .int .i64 3]) (by simp [results, Try.results17, go_sem, hfin.c4]) rfl ⟨rfl, hbf⟩
end Go.Proofs.Ythbjkibclbgjoaa
