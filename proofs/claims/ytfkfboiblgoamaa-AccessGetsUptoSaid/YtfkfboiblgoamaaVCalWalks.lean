/- The leaf functions of the calendar, the program's and the reference's: what each returns. -/
import Derived.Test.YtfkfboiblgoamaaProg
import Derived.Test.YtfkfboiblgoamaaVCalMath
import Derived.WalkKit
import Derived.Outline
import Derived.Below
import Derived.LoopTactic
import Derived.Lib.Hide
import Derived.WalkLawsBesides
import Derived.WalkSpells
namespace Go.Proofs.Ytfkfboiblgoamaa
open Go.RowKit

end Go.Proofs.Ytfkfboiblgoamaa
