/- Times: the reference's Parse where no date stands first. -/
import Derived.Test.YthbjkibclbgjoaaMomRefE
namespace Go.Proofs.Ythbjkibclbgjoaa
open Go.RowKit

def Mom.dateF : ByteArray := ⟨#[100, 100, 100, 100, 45, 100, 100, 45, 100, 100]⟩
/-- A result that is still empty. -/
structure RK (w W : World) : Prop where
  res : Whole W w.heap.size 23 #[.int .i64 0, .int .i64 0, .int .i64 0, .int .i64 0]
  below : Below w.heap.size w W
theorem RK.new (w : World) : RK w (w.alloc (.cells #[.int .i64 0, .int .i64 0, .int .i64 0, .int .i64 0] 23)) := ⟨Whole.new w _ _, (Below.refl _ _).alloc (Nat.le_refl _) _⟩
theorem RK.call {w W W' : World} (h : RK w W) (hb : Below W.heap.size W W') : RK w W' := ⟨h.res.below hb h.res.lt, below_then h.below hb⟩
theorem RK.put {w W : World} (h : RK w W) (u : Mom.Tm) : Whole (putT W w.heap.size u) w.heap.size 23 #[.int .i64 u.k, .int .i64 u.d, .int .i64 u.n, .int .i64 u.o] ∧ Below w.heap.size w (putT W w.heap.size u) :=
  ⟨h.res.s4 _ _ _ _, (((h.below.setCell (p := ⟨w.heap.size, 0, none⟩) (Nat.le_refl _) _).setCell (p := ⟨w.heap.size, 1, none⟩) (Nat.le_refl _) _).setCell (p := ⟨w.heap.size, 2, none⟩) (Nat.le_refl _) _).setCell (p := ⟨w.heap.size, 3, none⟩) (Nat.le_refl _) _⟩

set_option maxHeartbeats 2000000 in
theorem rparse_clock {x : ByteArray} (hx : x.size ≤ maxLen) (h : ¬ Mom.lk x Mom.dateF) (w : World) :
    Calls Try.prog 18 #[.string x] w fun e w' =>
      e = .returned (.tuple #[Mom.ag (if (Mom.rClk x).2.2.1 = false ∨ (Mom.rClk x).2.1.size ≠ 0 then Mom.tz else if (Mom.rClk x).2.2.2 = false then Mom.tz else ⟨2, 0, (Mom.rClk x).1, 0⟩), .int .i64 (if (Mom.rClk x).2.2.1 = false ∨ (Mom.rClk x).2.1.size ≠ 0 then 3 else if (Mom.rClk x).2.2.2 = false then 2 else 0)]) ∧ Below w.heap.size w w' := by
  have HL := Lib.hid (like_any (f := Mom.dateF) hx)
  rw [decide_eq_false h] at HL
  unfold Mom.dateF at HL
  have HC := Lib.hid (takeClock_any hx)
  generalize Mom.rClk x = Z at *
  obtain ⟨n, r, fm, inn⟩ := Z
  unfold Mom.c4 at HC
  dsimp only at HC ⊢
  have K := RK.new w
  clear h
  unfold maxLen at hx
  have hc : fm = false ∨ (fm = true ∧ r.toList.isEmpty = false ∧ r.size ≠ 0) ∨ (fm = true ∧ r.toList.isEmpty = true ∧ r.size = 0) := by
    cases fm
    · exact Or.inl rfl
    · by_cases g : r.size = 0
      · exact Or.inr (Or.inr ⟨rfl, none_list g, g⟩)
      · exact Or.inr (Or.inl ⟨rfl, some_list (by omega), g⟩)
  rcases hc with rfl | ⟨rfl, g1, g2⟩ | ⟨rfl, g1, g2⟩
  · rw [if_pos (Or.inl rfl), if_pos (Or.inl rfl)]
    unfold Mom.ag Mom.tz
    dsimp only
    go_enter Try.func18, Try.ntmps18
    go_wp2_with fail
    refine (HL.out _).mono ?_; rintro e w1 ⟨rfl, hb1⟩
    replace K := K.call hb1
    clear hb1
    go_wp2_with fail
    refine (HC.out _).mono ?_; rintro e w2 ⟨rfl, hb2⟩
    replace K := K.call hb2
    clear hb2
    obtain ⟨z0, z1, z2, z3⟩ := K.res.c4
    have zf := K.res.frozen
    obtain ⟨hfin, hbf⟩ := K.put Mom.tz
    unfold putT Mom.tz at hfin hbf
    go_wp2_with fail
    exact bodyPost_ret (v := .tuple #[.agg #[.int .i64 0, .int .i64 0, .int .i64 0, .int .i64 0], .int .i64 3]) (by simp [results, Try.results18, go_sem, hfin.c4]) rfl ⟨rfl, hbf⟩
  · rw [if_pos (Or.inr g2), if_pos (Or.inr g2)]
    unfold Mom.ag Mom.tz
    dsimp only
    clear g2
    go_enter Try.func18, Try.ntmps18
    go_wp2_with fail
    refine (HL.out _).mono ?_; rintro e w1 ⟨rfl, hb1⟩
    replace K := K.call hb1
    clear hb1
    go_wp2_with fail
    refine (HC.out _).mono ?_; rintro e w2 ⟨rfl, hb2⟩
    replace K := K.call hb2
    clear hb2
    obtain ⟨z0, z1, z2, z3⟩ := K.res.c4
    have zf := K.res.frozen
    obtain ⟨hfin, hbf⟩ := K.put Mom.tz
    unfold putT Mom.tz at hfin hbf
    go_wp2_with fail
    exact bodyPost_ret (v := .tuple #[.agg #[.int .i64 0, .int .i64 0, .int .i64 0, .int .i64 0], .int .i64 3]) (by simp [results, Try.results18, go_sem, hfin.c4]) rfl ⟨rfl, hbf⟩
  · have hn : ¬ ((true : Bool) = false ∨ r.size ≠ 0) := by
      rintro (q | q)
      · cases q
      · exact q g2
    rw [if_neg hn, if_neg hn]
    clear g2 hn
    cases inn
    · rw [if_pos (show (false : Bool) = false from rfl), if_pos (show (false : Bool) = false from rfl)]
      unfold Mom.ag Mom.tz
      dsimp only
      go_enter Try.func18, Try.ntmps18
      go_wp2_with fail
      refine (HL.out _).mono ?_; rintro e w1 ⟨rfl, hb1⟩
      replace K := K.call hb1
      clear hb1
      go_wp2_with fail
      refine (HC.out _).mono ?_; rintro e w2 ⟨rfl, hb2⟩
      replace K := K.call hb2
      clear hb2
      obtain ⟨z0, z1, z2, z3⟩ := K.res.c4
      have zf := K.res.frozen
      obtain ⟨hfin, hbf⟩ := K.put Mom.tz
      unfold putT Mom.tz at hfin hbf
      go_wp2_with fail
      exact bodyPost_ret (v := .tuple #[.agg #[.int .i64 0, .int .i64 0, .int .i64 0, .int .i64 0], .int .i64 2]) (by simp [results, Try.results18, go_sem, hfin.c4]) rfl ⟨rfl, hbf⟩
    · rw [if_neg (show ¬ ((true : Bool) = false) by decide), if_neg (show ¬ ((true : Bool) = false) by decide)]
      unfold Mom.ag
      dsimp only
      go_enter Try.func18, Try.ntmps18
      go_wp2_with fail
      refine (HL.out _).mono ?_; rintro e w1 ⟨rfl, hb1⟩
      replace K := K.call hb1
      clear hb1
      go_wp2_with fail
      refine (HC.out _).mono ?_; rintro e w2 ⟨rfl, hb2⟩
      replace K := K.call hb2
      clear hb2
      obtain ⟨z0, z1, z2, z3⟩ := K.res.c4
      have zf := K.res.frozen
      obtain ⟨hfin, hbf⟩ := K.put ⟨2, 0, n, 0⟩
      unfold putT at hfin hbf
      dsimp only at hfin hbf
      go_wp2_with fail
      exact bodyPost_ret (v := .tuple #[.agg #[.int .i64 2, .int .i64 0, .int .i64 n, .int .i64 0], .int .i64 0]) (by simp [results, Try.results18, go_sem, hfin.c4]) rfl ⟨rfl, hbf⟩
end Go.Proofs.Ythbjkibclbgjoaa
