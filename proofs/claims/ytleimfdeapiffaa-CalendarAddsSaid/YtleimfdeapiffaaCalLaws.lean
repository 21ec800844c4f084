/- The walks of the calendar's laws. -/
import Derived.Test.YtleimfdeapiffaaCalWalksD
namespace Go.Proofs.Ytleimfdeapiffaa
open Go.RowKit

theorem walk_CalendarTells (y m d : Int) (_ : (Lit.int .i64 y).wf = true) (_ : (Lit.int .i64 m).wf = true) (_ : (Lit.int .i64 d).wf = true) (w : World) :
    Calls Try.prog 3 #[.int .i64 y, .int .i64 m, .int .i64 d] w fun e w' => e = .returned (.bool true) ∧ Below w.heap.size w w' := by
  go_enter Try.func3, Try.ntmps3
  go_wp2_with (first | (go_at_call 9; refine (day_any _ _ _ _).mono ?_; rintro e w1 ⟨rfl, hb1⟩) | (go_at_call 10; refine (rday_any _ _ _ _).mono ?_; rintro e w' ⟨rfl, rfl⟩) | (go_at_call 11; refine (leap_any _ _).mono ?_; rintro e w' ⟨rfl, rfl⟩) | (go_at_call 12; refine (rleap_any _ _).mono ?_; rintro e w' ⟨rfl, rfl⟩) | (go_at_call 13; refine (month_any _ _ _).mono ?_; rintro e w2 ⟨rfl, hb2⟩) | (go_at_call 14; refine (rmonth_any _ _ _).mono ?_; rintro e w' ⟨rfl, rfl⟩) | (go_at_call 15; refine (cal_awake _).mono ?_; rintro e w3 ⟨rfl, hb3⟩))
  go_ret
  have hb := hb1.trans (hb2.mono hb1.size)
  exact ⟨rfl, hb.trans (hb3.mono hb.size)⟩
end Go.Proofs.Ytleimfdeapiffaa
