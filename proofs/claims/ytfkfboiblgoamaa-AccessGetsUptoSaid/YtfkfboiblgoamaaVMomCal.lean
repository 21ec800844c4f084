/- The calendar, as far as times need it (printed by mk_momcal.py out of CalWalksC, CalWalksD). -/
import Derived.Test.YtfkfboiblgoamaaVCalWalksB
import Derived.Test.YtfkfboiblgoamaaMem
namespace Go.Proofs.Ytfkfboiblgoamaa
open Go.RowKit
theorem not_kn {n : Int} (h : ¬ Cal.kn n) : n < 0 ∨ 3652058 < n := by unfold Cal.kn at h; omega

theorem below_eq {w w' : World} (h : w = w') : Below w.heap.size w w' := by subst h; exact Below.refl _ _

end Go.Proofs.Ytfkfboiblgoamaa
