/-
  No cell of these rows narrows 'for every input' (looked for: loops, veiled, ifaces, maps, wideKeys, modest, calm, conditions, laid).
  DERIVED. THE GIVEN ROWS OF THIS SEAT. 9 by the template 'for every input the law returns true; each argument reads behind the call as it read before'; 0 by the template 'total and deterministic' (their statements: YtjokidcjjfdkpaaTotals.lean).
  GIVEN WITH THE SEED: the statements are not yours to turn. If you find one false, say at which input.
  Laid BY PROGRAM, IN A SANDBOX (cutbox-rows.mjs): the forced cells as the released guide's own fill.sh prints them over the translation da243766dadb417d… (all of the seat's roots in one cut). By AI agents, Wed Nov 11 2026. No macro, syntax, notation, axiom, sorry.
-/
import Derived.Test.YtjokidcjjfdkpaaChecked
import GoSem.Claim
import GoSem.ClaimJoined
import GoSem.ClaimMapViews
import Derived.JoinedTies
import Derived.KernelRfl
namespace Go.Proofs.Ytjokidcjjfdkpaa
/- THE CELL 'sum', in the pinned program and in every row, IS THE sha256 OF THE DUMP (.gsa) THAT YtjokidcjjfdkpaaProg.lean LOADS. Nothing in Lean hashes anything: it is a label: what it is worth is what the hold of that sum in a sandbox is worth. -/
noncomputable def Try.pinned : Pinned := { name := "ytjokidcjjfdkpaa", sum := "da243766dadb417daeb998d842379fd7acc468bb19446bf80300c36895cc9191", checked := Try.checked }
namespace Rows
def none {H : Type} : Left H := { results := [], args := [] }

/-- 'datakitlaw03.UtfEncodes': WHATEVER THE INPUT: true; the input reads as it did. -/
def utfEncodesSpec : ChangeSpec := { name := "utfEncodes", fn := fun _ => fun
  | [d] => { results := [.lit (.bool true)], args := [d] }
  | _ => none }
def utfEncodesRow : OpenClaim := { program := "ytjokidcjjfdkpaa", sum := "da243766dadb417daeb998d842379fd7acc468bb19446bf80300c36895cc9191", func := "datakit/datakitlaw03.UtfEncodes", spec := "utfEncodes", apart := false }
def UtfEncodesSaid : Prop := utfEncodesRow.holds Try.pinned (OpenSpec.ofChange utfEncodesSpec)

/-- ITS FALSE NEIGHBOUR: 'it returns false'. Refute it at one input. -/
def utfEncodesWrong : ChangeSpec := { name := "utfEncodes", fn := fun _ => fun
  | [d] => { results := [.lit (.bool false)], args := [d] }
  | _ => none }
def UtfEncodesWrongFalsely : Prop := utfEncodesRow.holds Try.pinned (OpenSpec.ofChange utfEncodesWrong)

/-- 'datakitlaw03.UtfRunes': WHATEVER THE INPUT: true; the input reads as it did. -/
def utfRunesSpec : ChangeSpec := { name := "utfRunes", fn := fun _ => fun
  | [d1, d2] => { results := [.lit (.bool true)], args := [d1, d2] }
  | _ => none }
def utfRunesRow : OpenClaim := { program := "ytjokidcjjfdkpaa", sum := "da243766dadb417daeb998d842379fd7acc468bb19446bf80300c36895cc9191", func := "datakit/datakitlaw03.UtfRunes", spec := "utfRunes", unfollowed := true, recurses := true, apart := false }
def UtfRunesSaid : Prop := utfRunesRow.holds Try.pinned (OpenSpec.ofChange utfRunesSpec)

/-- ITS FALSE NEIGHBOUR: 'it returns false'. Refute it at one input. -/
def utfRunesWrong : ChangeSpec := { name := "utfRunes", fn := fun _ => fun
  | [d1, d2] => { results := [.lit (.bool false)], args := [d1, d2] }
  | _ => none }
def UtfRunesWrongFalsely : Prop := utfRunesRow.holds Try.pinned (OpenSpec.ofChange utfRunesWrong)

/-- 'datakitlaw03.UtfLines': WHATEVER THE INPUT: true; the input reads as it did. -/
def utfLinesSpec : ChangeSpec := { name := "utfLines", fn := fun _ => fun
  | [d] => { results := [.lit (.bool true)], args := [d] }
  | _ => none }
def utfLinesRow : OpenClaim := { program := "ytjokidcjjfdkpaa", sum := "da243766dadb417daeb998d842379fd7acc468bb19446bf80300c36895cc9191", func := "datakit/datakitlaw03.UtfLines", spec := "utfLines", apart := false }
def UtfLinesSaid : Prop := utfLinesRow.holds Try.pinned (OpenSpec.ofChange utfLinesSpec)

/-- ITS FALSE NEIGHBOUR: 'it returns false'. Refute it at one input. -/
def utfLinesWrong : ChangeSpec := { name := "utfLines", fn := fun _ => fun
  | [d] => { results := [.lit (.bool false)], args := [d] }
  | _ => none }
def UtfLinesWrongFalsely : Prop := utfLinesRow.holds Try.pinned (OpenSpec.ofChange utfLinesWrong)

/-- 'datakitlaw03.UtfDecodes': WHATEVER THE INPUT: true; the input reads as it did. -/
def utfDecodesSpec : ChangeSpec := { name := "utfDecodes", fn := fun _ => fun
  | [d1, d2] => { results := [.lit (.bool true)], args := [d1, d2] }
  | _ => none }
def utfDecodesRow : OpenClaim := { program := "ytjokidcjjfdkpaa", sum := "da243766dadb417daeb998d842379fd7acc468bb19446bf80300c36895cc9191", func := "datakit/datakitlaw03.UtfDecodes", spec := "utfDecodes", apart := false }
def UtfDecodesSaid : Prop := utfDecodesRow.holds Try.pinned (OpenSpec.ofChange utfDecodesSpec)

/-- ITS FALSE NEIGHBOUR: 'it returns false'. Refute it at one input. -/
def utfDecodesWrong : ChangeSpec := { name := "utfDecodes", fn := fun _ => fun
  | [d1, d2] => { results := [.lit (.bool false)], args := [d1, d2] }
  | _ => none }
def UtfDecodesWrongFalsely : Prop := utfDecodesRow.holds Try.pinned (OpenSpec.ofChange utfDecodesWrong)

/-- 'datakitlaw03.UtfBack': WHATEVER THE INPUT: true; the input reads as it did. -/
def utfBackSpec : ChangeSpec := { name := "utfBack", fn := fun _ => fun
  | [d1, d2, d3] => { results := [.lit (.bool true)], args := [d1, d2, d3] }
  | _ => none }
def utfBackRow : OpenClaim := { program := "ytjokidcjjfdkpaa", sum := "da243766dadb417daeb998d842379fd7acc468bb19446bf80300c36895cc9191", func := "datakit/datakitlaw03.UtfBack", spec := "utfBack", apart := false }
def UtfBackSaid : Prop := utfBackRow.holds Try.pinned (OpenSpec.ofChange utfBackSpec)

/-- ITS FALSE NEIGHBOUR: 'it returns false'. Refute it at one input. -/
def utfBackWrong : ChangeSpec := { name := "utfBack", fn := fun _ => fun
  | [d1, d2, d3] => { results := [.lit (.bool false)], args := [d1, d2, d3] }
  | _ => none }
def UtfBackWrongFalsely : Prop := utfBackRow.holds Try.pinned (OpenSpec.ofChange utfBackWrong)

/-- 'datakitlaw03.UtfCounts': WHATEVER THE INPUT: true; the input reads as it did. -/
def utfCountsSpec : ChangeSpec := { name := "utfCounts", fn := fun _ => fun
  | [d1, d2, d3] => { results := [.lit (.bool true)], args := [d1, d2, d3] }
  | _ => none }
def utfCountsRow : OpenClaim := { program := "ytjokidcjjfdkpaa", sum := "da243766dadb417daeb998d842379fd7acc468bb19446bf80300c36895cc9191", func := "datakit/datakitlaw03.UtfCounts", spec := "utfCounts", apart := false }
def UtfCountsSaid : Prop := utfCountsRow.holds Try.pinned (OpenSpec.ofChange utfCountsSpec)

/-- ITS FALSE NEIGHBOUR: 'it returns false'. Refute it at one input. -/
def utfCountsWrong : ChangeSpec := { name := "utfCounts", fn := fun _ => fun
  | [d1, d2, d3] => { results := [.lit (.bool false)], args := [d1, d2, d3] }
  | _ => none }
def UtfCountsWrongFalsely : Prop := utfCountsRow.holds Try.pinned (OpenSpec.ofChange utfCountsWrong)

/-- 'datakitlaw03.UtfSlices': WHATEVER THE INPUT: true; the input reads as it did. -/
def utfSlicesSpec : ChangeSpec := { name := "utfSlices", fn := fun _ => fun
  | [d1, d2, d3] => { results := [.lit (.bool true)], args := [d1, d2, d3] }
  | _ => none }
def utfSlicesRow : OpenClaim := { program := "ytjokidcjjfdkpaa", sum := "da243766dadb417daeb998d842379fd7acc468bb19446bf80300c36895cc9191", func := "datakit/datakitlaw03.UtfSlices", spec := "utfSlices", apart := false }
def UtfSlicesSaid : Prop := utfSlicesRow.holds Try.pinned (OpenSpec.ofChange utfSlicesSpec)

/-- ITS FALSE NEIGHBOUR: 'it returns false'. Refute it at one input. -/
def utfSlicesWrong : ChangeSpec := { name := "utfSlices", fn := fun _ => fun
  | [d1, d2, d3] => { results := [.lit (.bool false)], args := [d1, d2, d3] }
  | _ => none }
def UtfSlicesWrongFalsely : Prop := utfSlicesRow.holds Try.pinned (OpenSpec.ofChange utfSlicesWrong)

/-- 'datakitlaw03.UtfPositions': WHATEVER THE INPUT: true; the input reads as it did. -/
def utfPositionsSpec : ChangeSpec := { name := "utfPositions", fn := fun _ => fun
  | [d1, d2, d3] => { results := [.lit (.bool true)], args := [d1, d2, d3] }
  | _ => none }
def utfPositionsRow : OpenClaim := { program := "ytjokidcjjfdkpaa", sum := "da243766dadb417daeb998d842379fd7acc468bb19446bf80300c36895cc9191", func := "datakit/datakitlaw03.UtfPositions", spec := "utfPositions", unfollowed := true, recurses := true, apart := false }
def UtfPositionsSaid : Prop := utfPositionsRow.holds Try.pinned (OpenSpec.ofChange utfPositionsSpec)

/-- ITS FALSE NEIGHBOUR: 'it returns false'. Refute it at one input. -/
def utfPositionsWrong : ChangeSpec := { name := "utfPositions", fn := fun _ => fun
  | [d1, d2, d3] => { results := [.lit (.bool false)], args := [d1, d2, d3] }
  | _ => none }
def UtfPositionsWrongFalsely : Prop := utfPositionsRow.holds Try.pinned (OpenSpec.ofChange utfPositionsWrong)

/-- 'datakitlaw03.UtfInverse': WHATEVER THE INPUT: true; the input reads as it did. -/
def utfInverseSpec : ChangeSpec := { name := "utfInverse", fn := fun _ => fun
  | [d1, d2, d3, d4] => { results := [.lit (.bool true)], args := [d1, d2, d3, d4] }
  | _ => none }
def utfInverseRow : OpenClaim := { program := "ytjokidcjjfdkpaa", sum := "da243766dadb417daeb998d842379fd7acc468bb19446bf80300c36895cc9191", func := "datakit/datakitlaw03.UtfInverse", spec := "utfInverse", unfollowed := true, recurses := true, apart := false }
def UtfInverseSaid : Prop := utfInverseRow.holds Try.pinned (OpenSpec.ofChange utfInverseSpec)

/-- ITS FALSE NEIGHBOUR: 'it returns false'. Refute it at one input. -/
def utfInverseWrong : ChangeSpec := { name := "utfInverse", fn := fun _ => fun
  | [d1, d2, d3, d4] => { results := [.lit (.bool false)], args := [d1, d2, d3, d4] }
  | _ => none }
def UtfInverseWrongFalsely : Prop := utfInverseRow.holds Try.pinned (OpenSpec.ofChange utfInverseWrong)

/- THE SECOND FORM. 'bulk': how many values and letters a reading holds, each counted each time it is reached (what is shared counts as often as it is met; a slice's spare places count too). A statement '..UptoSaid' is the law's where the arguments, and the package variables that the reading takes, are together of bulk at most 1048576: NARROWER than '..Said'. Prove '..Said' where nothing that the law and all that it calls make is longer than what came in: it says more and counts as full. Else prove '..UptoSaid'. A law counts once. -/
mutual
def uptoBulk {H : Type} : DataW H → Nat
  | .lit (.string bytes) => bytes.length + 1
  | .lit _ => 1
  | .nil => 1
  | .ptr d => uptoBulk d + 1
  | .slice elems spare => uptoBulkAll elems + uptoBulkAll spare + 1
  | .agg parts => uptoBulkAll parts + 1
  | .iface _ d => uptoBulk d + 1
  | .map entries => uptoBulkEntries entries + 1
  | .held _ => 1
def uptoBulkAll {H : Type} : List (DataW H) → Nat
  | [] => 0
  | d :: r => uptoBulk d + uptoBulkAll r
def uptoBulkEntries {H : Type} : List (Lit × DataW H) → Nat
  | [] => 0
  | x :: r => uptoBulkEntry x + uptoBulkEntries r
def uptoBulkEntry {H : Type} : Lit × DataW H → Nat
  | (.string bytes, d) => bytes.length + uptoBulk d + 1
  | (_, d) => uptoBulk d + 1
 end
def uptoSmall : (H : Type) → List (DataW H) → Bool := fun _ ds => decide (uptoBulkAll ds ≤ 1048576)
def OpenSpec.upto (s : _root_.Go.ChangeSpec) : _root_.Go.OpenSpec := { _root_.Go.OpenSpec.ofChange s with cond := some uptoSmall }

/-- 'datakitlaw03.UtfEncodes', WHERE WHAT IT READS IS OF BULK AT MOST 1048576: true; the input reads as it did. -/
def utfEncodesUptoRow : OpenClaim := { program := "ytjokidcjjfdkpaa", sum := "da243766dadb417daeb998d842379fd7acc468bb19446bf80300c36895cc9191", func := "datakit/datakitlaw03.UtfEncodes", spec := "utfEncodes", apart := false, narrowed := true }
def UtfEncodesUptoSaid : Prop := utfEncodesUptoRow.holds Try.pinned (OpenSpec.upto utfEncodesSpec)

/-- 'datakitlaw03.UtfRunes', WHERE WHAT IT READS IS OF BULK AT MOST 1048576: true; the input reads as it did. -/
def utfRunesUptoRow : OpenClaim := { program := "ytjokidcjjfdkpaa", sum := "da243766dadb417daeb998d842379fd7acc468bb19446bf80300c36895cc9191", func := "datakit/datakitlaw03.UtfRunes", spec := "utfRunes", unfollowed := true, recurses := true, apart := false, narrowed := true }
def UtfRunesUptoSaid : Prop := utfRunesUptoRow.holds Try.pinned (OpenSpec.upto utfRunesSpec)

/-- 'datakitlaw03.UtfLines', WHERE WHAT IT READS IS OF BULK AT MOST 1048576: true; the input reads as it did. -/
def utfLinesUptoRow : OpenClaim := { program := "ytjokidcjjfdkpaa", sum := "da243766dadb417daeb998d842379fd7acc468bb19446bf80300c36895cc9191", func := "datakit/datakitlaw03.UtfLines", spec := "utfLines", apart := false, narrowed := true }
def UtfLinesUptoSaid : Prop := utfLinesUptoRow.holds Try.pinned (OpenSpec.upto utfLinesSpec)

/-- 'datakitlaw03.UtfDecodes', WHERE WHAT IT READS IS OF BULK AT MOST 1048576: true; the input reads as it did. -/
def utfDecodesUptoRow : OpenClaim := { program := "ytjokidcjjfdkpaa", sum := "da243766dadb417daeb998d842379fd7acc468bb19446bf80300c36895cc9191", func := "datakit/datakitlaw03.UtfDecodes", spec := "utfDecodes", apart := false, narrowed := true }
def UtfDecodesUptoSaid : Prop := utfDecodesUptoRow.holds Try.pinned (OpenSpec.upto utfDecodesSpec)

/-- 'datakitlaw03.UtfBack', WHERE WHAT IT READS IS OF BULK AT MOST 1048576: true; the input reads as it did. -/
def utfBackUptoRow : OpenClaim := { program := "ytjokidcjjfdkpaa", sum := "da243766dadb417daeb998d842379fd7acc468bb19446bf80300c36895cc9191", func := "datakit/datakitlaw03.UtfBack", spec := "utfBack", apart := false, narrowed := true }
def UtfBackUptoSaid : Prop := utfBackUptoRow.holds Try.pinned (OpenSpec.upto utfBackSpec)

/-- 'datakitlaw03.UtfCounts', WHERE WHAT IT READS IS OF BULK AT MOST 1048576: true; the input reads as it did. -/
def utfCountsUptoRow : OpenClaim := { program := "ytjokidcjjfdkpaa", sum := "da243766dadb417daeb998d842379fd7acc468bb19446bf80300c36895cc9191", func := "datakit/datakitlaw03.UtfCounts", spec := "utfCounts", apart := false, narrowed := true }
def UtfCountsUptoSaid : Prop := utfCountsUptoRow.holds Try.pinned (OpenSpec.upto utfCountsSpec)

/-- 'datakitlaw03.UtfSlices', WHERE WHAT IT READS IS OF BULK AT MOST 1048576: true; the input reads as it did. -/
def utfSlicesUptoRow : OpenClaim := { program := "ytjokidcjjfdkpaa", sum := "da243766dadb417daeb998d842379fd7acc468bb19446bf80300c36895cc9191", func := "datakit/datakitlaw03.UtfSlices", spec := "utfSlices", apart := false, narrowed := true }
def UtfSlicesUptoSaid : Prop := utfSlicesUptoRow.holds Try.pinned (OpenSpec.upto utfSlicesSpec)

/-- 'datakitlaw03.UtfPositions', WHERE WHAT IT READS IS OF BULK AT MOST 1048576: true; the input reads as it did. -/
def utfPositionsUptoRow : OpenClaim := { program := "ytjokidcjjfdkpaa", sum := "da243766dadb417daeb998d842379fd7acc468bb19446bf80300c36895cc9191", func := "datakit/datakitlaw03.UtfPositions", spec := "utfPositions", unfollowed := true, recurses := true, apart := false, narrowed := true }
def UtfPositionsUptoSaid : Prop := utfPositionsUptoRow.holds Try.pinned (OpenSpec.upto utfPositionsSpec)

/-- 'datakitlaw03.UtfInverse', WHERE WHAT IT READS IS OF BULK AT MOST 1048576: true; the input reads as it did. -/
def utfInverseUptoRow : OpenClaim := { program := "ytjokidcjjfdkpaa", sum := "da243766dadb417daeb998d842379fd7acc468bb19446bf80300c36895cc9191", func := "datakit/datakitlaw03.UtfInverse", spec := "utfInverse", unfollowed := true, recurses := true, apart := false, narrowed := true }
def UtfInverseUptoSaid : Prop := utfInverseUptoRow.holds Try.pinned (OpenSpec.upto utfInverseSpec)

end Rows
end Go.Proofs.Ytjokidcjjfdkpaa
