/- The calendar's Day and Date, the program's and the reference's: what each returns. -/
import Derived.Test.YtfkfboiblgoamaaVCalWalks
namespace Go.Proofs.Ytfkfboiblgoamaa
open Go.RowKit

theorem ret_two {k l : IntKind} {a b c d : Int} (h : a = c) (h' : b = d) : Ending.returned (.tuple #[.int k a, .int l b]) = .returned (.tuple #[.int k c, .int l d]) := by rw [h, h']
theorem val_int {k : IntKind} {a b : Int} (h : a = b) : Value.int k a = .int k b := by rw [h]
theorem ret_inC {k : IntKind} {a b : Int} (h : a = b) : Ending.returned (.int k a) = .returned (.int k b) := by rw [h]

/-! ### the reference -/
end Go.Proofs.Ytfkfboiblgoamaa
