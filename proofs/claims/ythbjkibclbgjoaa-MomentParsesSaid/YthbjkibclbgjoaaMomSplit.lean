/- Times: moments in the reference. -/
import Derived.Test.YthbjkibclbgjoaaMomCarry
namespace Go.Proofs.Ythbjkibclbgjoaa
open Go.RowKit

set_option maxHeartbeats 1000000 in
theorem split_any (d n : Int) (hd : -1000000000000 ≤ d ∧ d ≤ 1000000000000) (hn : -1000000000000000 ≤ n ∧ n ≤ 1000000000000000) (w : World) :
    Calls Try.prog 50 #[.int .i64 d, .int .i64 n] w fun e w' => e = .returned (.tuple #[.int .i64 (Mom.dD d n), .int .i64 (Mom.dN n)]) ∧ w = w' := by
  obtain ⟨d1, d2⟩ := hd
  obtain ⟨n1, n2⟩ := hn
  go_enter Try.func50, Try.ntmps50
  go_wp2
  go_loop [0, 1] (fun a b => ∃ x y : Int, a = .int .i64 x ∧ b = .int .i64 y ∧ x * 86400000000000 + y = d * 86400000000000 + n ∧ -1000000000000000 ≤ y ∧ y ≤ 1000000000000000) (fun _ b => (-(intOf b)).toNat)
  case atStart => exact ⟨d, n, rfl, rfl, rfl, n1, n2⟩
  case round =>
    obtain ⟨x, y, rfl, rfl, hxy, y1, y2⟩ := hrel
    by_cases hy : y < 0
    · go_wp2
      go_round
      case rel => exact ⟨x - 1, y + 86400000000000, rfl, rfl, by omega, by omega, by omega⟩
      case measure => simp [intOf]; omega
    · go_wp2
      go_loop [0, 1] (fun a b => ∃ x y : Int, a = .int .i64 x ∧ b = .int .i64 y ∧ x * 86400000000000 + y = d * 86400000000000 + n ∧ 0 ≤ y ∧ y ≤ 1000000000000000) (fun _ b => (intOf b).toNat)
      case atStart => exact ⟨x, y, rfl, rfl, hxy, by omega, y2⟩
      case round =>
        obtain ⟨x, y, rfl, rfl, hxy, y1, y2⟩ := hrel
        by_cases hy : 86400000000000 ≤ y
        · go_wp2
          go_round
          case rel => exact ⟨x + 1, y - 86400000000000, rfl, rfl, by omega, by omega, by omega⟩
          case measure => simp [intOf]; omega
        · go_wp2
          go_ret2
          have e1 : x = Mom.dD d n := by unfold Mom.dD; omega
          have e2 : y = Mom.dN n := by unfold Mom.dN; omega
          exact ⟨ret_two e1 (by rw [e2]), rfl⟩

set_option maxHeartbeats 1000000 in
theorem rmoment_ok {k d n o : Int} (h : Mom.Ok k d n o) (w : World) :
    Calls Try.prog 49 #[.agg #[.int .i64 k, .int .i64 d, .int .i64 n, .int .i64 o]] w fun e w' => e = .returned (.tuple #[.int .i64 (Mom.mD d n o), .int .i64 (Mom.mN n o)]) ∧ Below w.heap.size w w' := by
  have HC := Lib.hid (split_any d (n - o * 60000000000) (by have := h.1; omega) (by have := h.1; omega))
  change Hid (∀ w, Calls Try.prog 50 #[.int .i64 d, .int .i64 (n - o * 60000000000)] w fun e w' => e = .returned (.tuple #[.int .i64 (Mom.mD d n o), .int .i64 (Mom.mN n o)]) ∧ w = w') at HC
  obtain ⟨⟨_, _, h1, h2, h3, h4, h5, h6⟩, _⟩ := h
  generalize Mom.mD d n o = A at *
  generalize Mom.mN n o = B at *
  go_enter Try.func49, Try.ntmps49
  go_wp2_with fail
  refine (HC.out _).mono ?_; rintro e w1 ⟨rfl, rfl⟩
  go_wp2_with fail
  go_ret2
  exact ⟨rfl, (Below.refl _ _).alloc (Nat.le_refl _) _⟩

end Go.Proofs.Ythbjkibclbgjoaa
