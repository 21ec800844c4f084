/- Times: the whole form is read. -/
import Derived.Test.YthbjkibclbgjoaaMomReadE
namespace Go.Proofs.Ythbjkibclbgjoaa
open Go.RowKit

namespace Mom
def tees : ByteArray := ⟨#[84, 116, 32]⟩
def form (s : Rd) (f : Fl) : Int × Rd × Fl :=
  if bt s.x 2 = 58 then (2, clock s f)
  else if (date s f).1.x.size = 0 then (1, date s f)
  else if (clock (one (date s f).1 tees).2 (date s f).2).1.x.size = 0 then (3, clock (one (date s f).1 tees).2 (date s f).2)
  else (4, offs (clock (one (date s f).1 tees).2 (date s f).2).1 (clock (one (date s f).1 tees).2 (date s f).2).2)
theorem date_size (s : Rd) (f : Fl) : (date s f).1.x.size ≤ s.x.size := by
  unfold date
  dsimp only
  refine Nat.le_trans (num_size _ _) (Nat.le_trans (one_size _ _) (Nat.le_trans (num_size _ _) (Nat.le_trans (one_size _ _) ?_)))
  exact num_size _ _
theorem hms3_size (s : Rd) (f : Fl) : (hms3 s f).1.x.size ≤ s.x.size := by
  unfold hms3
  dsimp only
  refine Nat.le_trans (num_size _ _) (Nat.le_trans (one_size _ _) (Nat.le_trans (num_size _ _) (Nat.le_trans (one_size _ _) ?_)))
  exact num_size _ _
theorem clock_size (s : Rd) (f : Fl) : (clock s f).1.x.size ≤ s.x.size := by
  unfold clock
  have := hms3_size s f
  split
  · dsimp only
    refine Nat.le_trans (frac_size _) (Nat.le_trans ?_ this)
    simp [ByteArray.size_extract]
  · exact this
theorem offs_size (s : Rd) (f : Fl) : (offs s f).1.x.size ≤ s.x.size := by
  unfold offs
  split
  · dsimp only
    refine Nat.le_trans (num_size _ _) (Nat.le_trans (one_size _ _) (Nat.le_trans (num_size _ _) ?_))
    exact one_size _ _
  · dsimp only
    exact one_size _ _
end Mom

set_option maxHeartbeats 1000000 in
theorem form_st {s : Mom.Rd} {f : Mom.Fl} {B F n : Nat} (hx : s.x.size ≤ maxLen) (hne : B ≠ F) (hB : n ≤ B) (hF : n ≤ F) {W0 W : World} (h : RF W0 n W B s F f) :
    Calls Try.prog 40 #[.pointer (some ⟨B, 0, none⟩), .pointer (some ⟨F, 0, none⟩)] W fun e W' =>
      e = .returned (.int .i64 (Mom.form s f).1) ∧ RF W0 n W' B (Mom.form s f).2.1 F (Mom.form s f).2.2 := by
  have y1 := Nat.le_trans (Mom.date_size s f) hx
  have y2 := Nat.le_trans (Mom.one_size (Mom.date s f).1 Mom.tees) y1
  have y3 := Nat.le_trans (Mom.clock_size (Mom.one (Mom.date s f).1 Mom.tees).2 (Mom.date s f).2) y2
  have K0 := Lib.hid (fun (W : World) (h : RF W0 n W B s F f) => clock_st hx hne hB hF h)
  have K1 := Lib.hid (fun (W : World) (h : RF W0 n W B s F f) => date_st hx hne hB hF h)
  have K2 := Lib.hid (fun (W : World) (h : RdAt W B (Mom.date s f).1) => one_st (o := Mom.tees) y1 (by decide) h)
  have K3 := Lib.hid (fun (W : World) (h : RF W0 n W B (Mom.one (Mom.date s f).1 Mom.tees).2 F (Mom.date s f).2) => clock_st y2 hne hB hF h)
  have K4 := Lib.hid (fun (W : World) (h : RF W0 n W B (Mom.clock (Mom.one (Mom.date s f).1 Mom.tees).2 (Mom.date s f).2).1 F (Mom.clock (Mom.one (Mom.date s f).1 Mom.tees).2 (Mom.date s f).2).2) => offset_st y3 hne hB hF h)
  unfold Mom.form
  generalize Mom.date s f = D at *
  generalize Mom.one D.1 Mom.tees = O at *
  generalize Mom.clock O.2 D.2 = C at *
  generalize Mom.offs C.1 C.2 = P at *
  generalize Mom.clock s f = C0 at *
  have hc0 := h.rd.c0
  unfold maxLen at hx y1 y2 y3
  by_cases hp : Mom.bt s.x 2 = 58
  · rw [if_pos hp]
    have hs : 2 < s.x.size := by
      rcases Nat.lt_or_ge 2 s.x.size with h0 | h0
      · exact h0
      · rw [Mom.bt_out (x := s.x) (by omega)] at hp; omega
    rw [Mom.bt_in hs] at hp
    have t1 : ((s.x[2].toNat : Int) == 58) = true := by rw [hp]; rfl
    clear hp
    go_enter Try.func40, Try.ntmps40
    go_wp2_with fail
    refine (K0.out _ h).mono ?_; rintro e w1 ⟨⟨v, rfl⟩, h1⟩
    go_wp2_with fail
    go_ret
    exact ⟨rfl, h1⟩
  rw [if_neg hp]
  have hq : (¬ 2 < s.x.size) ∨ ∃ h : 2 < s.x.size, ((s.x[2].toNat : Int) == 58) = false := by
    rcases Nat.lt_or_ge 2 s.x.size with h0 | h0
    · exact .inr ⟨h0, beq_eq_false_iff_ne.2 (fun e => hp ((Mom.bt_in h0).trans e))⟩
    · exact .inl (by omega)
  clear hp
  by_cases hd : D.1.x.size = 0
  · rw [if_pos hd]
    have t2 := none_list hd
    clear hd
    rcases hq with hq | ⟨hq, t1⟩
    · have d1 : decide (2 < (s.x.size : Int)) = false := decide_eq_false (by omega)
      go_enter Try.func40, Try.ntmps40
      go_wp2_with fail
      refine (K1.out _ h).mono ?_; rintro e w1 ⟨⟨v, rfl⟩, h1⟩
      have hc1 := h1.rd.c0
      go_wp2_with fail
      go_ret
      exact ⟨rfl, h1⟩
    · have d1 : decide (2 < (s.x.size : Int)) = true := decide_eq_true (by omega)
      go_enter Try.func40, Try.ntmps40
      go_wp2_with fail
      refine (K1.out _ h).mono ?_; rintro e w1 ⟨⟨v, rfl⟩, h1⟩
      have hc1 := h1.rd.c0
      go_wp2_with fail
      go_ret
      exact ⟨rfl, h1⟩
  rw [if_neg hd]
  have t2 := some_list (x := D.1.x) (by omega)
  clear hd
  by_cases hd : C.1.x.size = 0
  · rw [if_pos hd]
    have t3 := none_list hd
    clear hd
    rcases hq with hq | ⟨hq, t1⟩
    · have d1 : decide (2 < (s.x.size : Int)) = false := decide_eq_false (by omega)
      go_enter Try.func40, Try.ntmps40
      go_wp2_with fail
      refine (K1.out _ h).mono ?_; rintro e w1 ⟨⟨v, rfl⟩, h1⟩
      have hc1 := h1.rd.c0
      go_wp2_with fail
      refine (K2.out _ h1.rd).mono ?_; rintro e w2 ⟨rfl, hr, hg⟩
      have h2 := h1.call hr hg hne hB
      clear hr hg
      go_wp2_with fail
      refine (K3.out _ h2).mono ?_; rintro e w3 ⟨⟨v3, rfl⟩, h3⟩
      have hc3 := h3.rd.c0
      go_wp2_with fail
      go_ret
      exact ⟨rfl, h3⟩
    · have d1 : decide (2 < (s.x.size : Int)) = true := decide_eq_true (by omega)
      go_enter Try.func40, Try.ntmps40
      go_wp2_with fail
      refine (K1.out _ h).mono ?_; rintro e w1 ⟨⟨v, rfl⟩, h1⟩
      have hc1 := h1.rd.c0
      go_wp2_with fail
      refine (K2.out _ h1.rd).mono ?_; rintro e w2 ⟨rfl, hr, hg⟩
      have h2 := h1.call hr hg hne hB
      clear hr hg
      go_wp2_with fail
      refine (K3.out _ h2).mono ?_; rintro e w3 ⟨⟨v3, rfl⟩, h3⟩
      have hc3 := h3.rd.c0
      go_wp2_with fail
      go_ret
      exact ⟨rfl, h3⟩
  rw [if_neg hd]
  have t3 := some_list (x := C.1.x) (by omega)
  clear hd
  rcases hq with hq | ⟨hq, t1⟩
  · have d1 : decide (2 < (s.x.size : Int)) = false := decide_eq_false (by omega)
    go_enter Try.func40, Try.ntmps40
    go_wp2_with fail
    refine (K1.out _ h).mono ?_; rintro e w1 ⟨⟨v, rfl⟩, h1⟩
    have hc1 := h1.rd.c0
    go_wp2_with fail
    refine (K2.out _ h1.rd).mono ?_; rintro e w2 ⟨rfl, hr, hg⟩
    have h2 := h1.call hr hg hne hB
    clear hr hg
    go_wp2_with fail
    refine (K3.out _ h2).mono ?_; rintro e w3 ⟨⟨v3, rfl⟩, h3⟩
    have hc3 := h3.rd.c0
    go_wp2_with fail
    refine (K4.out _ h3).mono ?_; rintro e w4 ⟨⟨v4, rfl⟩, h4⟩
    go_wp2_with fail
    go_ret
    exact ⟨rfl, h4⟩
  · have d1 : decide (2 < (s.x.size : Int)) = true := decide_eq_true (by omega)
    go_enter Try.func40, Try.ntmps40
    go_wp2_with fail
    refine (K1.out _ h).mono ?_; rintro e w1 ⟨⟨v, rfl⟩, h1⟩
    have hc1 := h1.rd.c0
    go_wp2_with fail
    refine (K2.out _ h1.rd).mono ?_; rintro e w2 ⟨rfl, hr, hg⟩
    have h2 := h1.call hr hg hne hB
    clear hr hg
    go_wp2_with fail
    refine (K3.out _ h2).mono ?_; rintro e w3 ⟨⟨v3, rfl⟩, h3⟩
    have hc3 := h3.rd.c0
    go_wp2_with fail
    refine (K4.out _ h3).mono ?_; rintro e w4 ⟨⟨v4, rfl⟩, h4⟩
    go_wp2_with fail
    go_ret
    exact ⟨rfl, h4⟩
end Go.Proofs.Ythbjkibclbgjoaa
