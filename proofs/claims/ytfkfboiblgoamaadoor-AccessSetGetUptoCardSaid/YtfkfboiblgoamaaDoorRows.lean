/-
  NARROWER THAN 'FOR EVERY INPUT', by the rows' own cells (each row's printed sentence says how): AccessSets: loops, laid · AccessInserts: loops, laid · AccessSetGet: loops, laid · AccessUndoes: loops, laid.
  DERIVED. THE GIVEN ROWS OF THIS SEAT. 4 by the template 'for every input the law returns true; each argument reads behind the call as it read before'; 0 by the template 'total and deterministic' (their statements: YtfkfboiblgoamaaDoorTotals.lean).
  GIVEN WITH THE SEED: the statements are not yours to turn. If you find one false, say at which input.
  Laid BY PROGRAM, IN A SANDBOX (cutbox-rows.mjs): the forced cells as the released guide's own fill.sh prints them over the translation fdc0a3acafd9bb72… (all of the seat's roots in one cut). By AI agents, Wed Nov 11 2026. No macro, syntax, notation, axiom, sorry.
-/
import Derived.Test.YtfkfboiblgoamaaDoorChecked
import GoSem.PinnedTables
import GoSem.Claim
import GoSem.ClaimJoined
import GoSem.ClaimMapViews
import Derived.JoinedTies
import Derived.KernelRfl
namespace Go.Proofs.YtfkfboiblgoamaaDoor
/- THE CELL 'sum', in the pinned program and in every row, IS THE sha256 OF THE DUMP (.gsa) THAT YtfkfboiblgoamaaDoorProg.lean LOADS. Nothing in Lean hashes anything: it is a label: what it is worth is what the hold of that sum in a sandbox is worth. -/
noncomputable def Tryd.pinned : Pinned := { name := "ytfkfboiblgoamaadoor", sum := "fdc0a3acafd9bb729663e258edd24e52e1154a626e2cb12866eea7cb816992a7", checked := Tryd.checked }
namespace Rows
def none {H : Type} : Left H := { results := [], args := [] }

/- WHAT THE LISTED PACKAGE-LEVEL VARIABLES READ AS WHEN THE CALL BEGINS. Each datum BY PROGRAM (the guide's laid-datum.mjs) off the statement by which the dump's own 'gosem.cut.vars' lays the variable. In a bare row this is a premise. The card (YtfkfboiblgoamaaDoorCards.lean) ties it to the program's text. -/
def laid_unicode_utf8_acceptRanges {H : Type} : DataW H := .agg [.agg [.lit (.int .u8 128), .lit (.int .u8 191)], .agg [.lit (.int .u8 160), .lit (.int .u8 191)], .agg [.lit (.int .u8 128), .lit (.int .u8 159)], .agg [.lit (.int .u8 144), .lit (.int .u8 191)], .agg [.lit (.int .u8 128), .lit (.int .u8 143)], .agg [.lit (.int .u8 0), .lit (.int .u8 0)], .agg [.lit (.int .u8 0), .lit (.int .u8 0)], .agg [.lit (.int .u8 0), .lit (.int .u8 0)], .agg [.lit (.int .u8 0), .lit (.int .u8 0)], .agg [.lit (.int .u8 0), .lit (.int .u8 0)], .agg [.lit (.int .u8 0), .lit (.int .u8 0)], .agg [.lit (.int .u8 0), .lit (.int .u8 0)], .agg [.lit (.int .u8 0), .lit (.int .u8 0)], .agg [.lit (.int .u8 0), .lit (.int .u8 0)], .agg [.lit (.int .u8 0), .lit (.int .u8 0)], .agg [.lit (.int .u8 0), .lit (.int .u8 0)]]
/-- One of Go's own tables, pinned by name: the form's constant. -/
def laid_unicode_utf8_first : DataW Unit := Go.Pinned.utf8First

/-- 'datakitlaw09.AccessSets': WHATEVER THE INPUT: true; the input reads as it did. -/
def accessSetsSpec : ChangeSpec := { name := "accessSets", fn := fun _ => fun
  | [d1, d2, d3] => { results := [.lit (.bool true)], args := [d1, d2, d3] }
  | _ => none }
def accessSetsRow : OpenClaim := { program := "ytfkfboiblgoamaadoor", sum := "fdc0a3acafd9bb729663e258edd24e52e1154a626e2cb12866eea7cb816992a7", func := "datakit/datakitlaw09.AccessSets", spec := "accessSets", inPlace := ["internal/bytealg.IndexByteString", "internal/bytealg.IndexString"], unfollowed := true, recurses := true, named := ["unicode/utf8.first", "unicode/utf8.acceptRanges", "internal/bytealg.MaxLen"], loops := true, apart := false, laid := [("unicode/utf8.acceptRanges", laid_unicode_utf8_acceptRanges), ("unicode/utf8.first", laid_unicode_utf8_first)] }
def AccessSetsSaid : Prop := accessSetsRow.holds Tryd.pinned (OpenSpec.ofChange accessSetsSpec)

/-- ITS FALSE NEIGHBOUR: 'it returns false'. Refute it at one input. -/
def accessSetsWrong : ChangeSpec := { name := "accessSets", fn := fun _ => fun
  | [d1, d2, d3] => { results := [.lit (.bool false)], args := [d1, d2, d3] }
  | _ => none }
def AccessSetsWrongFalsely : Prop := accessSetsRow.holds Tryd.pinned (OpenSpec.ofChange accessSetsWrong)

/-- 'datakitlaw09.AccessInserts': WHATEVER THE INPUT: true; the input reads as it did. -/
def accessInsertsSpec : ChangeSpec := { name := "accessInserts", fn := fun _ => fun
  | [d1, d2, d3] => { results := [.lit (.bool true)], args := [d1, d2, d3] }
  | _ => none }
def accessInsertsRow : OpenClaim := { program := "ytfkfboiblgoamaadoor", sum := "fdc0a3acafd9bb729663e258edd24e52e1154a626e2cb12866eea7cb816992a7", func := "datakit/datakitlaw09.AccessInserts", spec := "accessInserts", inPlace := ["internal/bytealg.IndexByteString", "internal/bytealg.IndexString"], unfollowed := true, recurses := true, named := ["unicode/utf8.first", "unicode/utf8.acceptRanges", "internal/bytealg.MaxLen"], loops := true, apart := false, laid := [("unicode/utf8.acceptRanges", laid_unicode_utf8_acceptRanges), ("unicode/utf8.first", laid_unicode_utf8_first)] }
def AccessInsertsSaid : Prop := accessInsertsRow.holds Tryd.pinned (OpenSpec.ofChange accessInsertsSpec)

/-- ITS FALSE NEIGHBOUR: 'it returns false'. Refute it at one input. -/
def accessInsertsWrong : ChangeSpec := { name := "accessInserts", fn := fun _ => fun
  | [d1, d2, d3] => { results := [.lit (.bool false)], args := [d1, d2, d3] }
  | _ => none }
def AccessInsertsWrongFalsely : Prop := accessInsertsRow.holds Tryd.pinned (OpenSpec.ofChange accessInsertsWrong)

/-- 'datakitlaw09.AccessSetGet': WHATEVER THE INPUT: true; the input reads as it did. -/
def accessSetGetSpec : ChangeSpec := { name := "accessSetGet", fn := fun _ => fun
  | [d1, d2, d3] => { results := [.lit (.bool true)], args := [d1, d2, d3] }
  | _ => none }
def accessSetGetRow : OpenClaim := { program := "ytfkfboiblgoamaadoor", sum := "fdc0a3acafd9bb729663e258edd24e52e1154a626e2cb12866eea7cb816992a7", func := "datakit/datakitlaw09.AccessSetGet", spec := "accessSetGet", inPlace := ["internal/bytealg.IndexByteString", "internal/bytealg.IndexString"], unfollowed := true, recurses := true, named := ["unicode/utf8.first", "unicode/utf8.acceptRanges", "internal/bytealg.MaxLen"], loops := true, apart := false, laid := [("unicode/utf8.acceptRanges", laid_unicode_utf8_acceptRanges), ("unicode/utf8.first", laid_unicode_utf8_first)] }
def AccessSetGetSaid : Prop := accessSetGetRow.holds Tryd.pinned (OpenSpec.ofChange accessSetGetSpec)

/-- ITS FALSE NEIGHBOUR: 'it returns false'. Refute it at one input. -/
def accessSetGetWrong : ChangeSpec := { name := "accessSetGet", fn := fun _ => fun
  | [d1, d2, d3] => { results := [.lit (.bool false)], args := [d1, d2, d3] }
  | _ => none }
def AccessSetGetWrongFalsely : Prop := accessSetGetRow.holds Tryd.pinned (OpenSpec.ofChange accessSetGetWrong)

/-- 'datakitlaw09.AccessUndoes': WHATEVER THE INPUT: true; the input reads as it did. -/
def accessUndoesSpec : ChangeSpec := { name := "accessUndoes", fn := fun _ => fun
  | [d1, d2, d3] => { results := [.lit (.bool true)], args := [d1, d2, d3] }
  | _ => none }
def accessUndoesRow : OpenClaim := { program := "ytfkfboiblgoamaadoor", sum := "fdc0a3acafd9bb729663e258edd24e52e1154a626e2cb12866eea7cb816992a7", func := "datakit/datakitlaw09.AccessUndoes", spec := "accessUndoes", inPlace := ["internal/bytealg.IndexByteString", "internal/bytealg.IndexString"], unfollowed := true, recurses := true, named := ["unicode/utf8.first", "unicode/utf8.acceptRanges", "internal/bytealg.MaxLen"], loops := true, apart := false, laid := [("unicode/utf8.acceptRanges", laid_unicode_utf8_acceptRanges), ("unicode/utf8.first", laid_unicode_utf8_first)] }
def AccessUndoesSaid : Prop := accessUndoesRow.holds Tryd.pinned (OpenSpec.ofChange accessUndoesSpec)

/-- ITS FALSE NEIGHBOUR: 'it returns false'. Refute it at one input. -/
def accessUndoesWrong : ChangeSpec := { name := "accessUndoes", fn := fun _ => fun
  | [d1, d2, d3] => { results := [.lit (.bool false)], args := [d1, d2, d3] }
  | _ => none }
def AccessUndoesWrongFalsely : Prop := accessUndoesRow.holds Tryd.pinned (OpenSpec.ofChange accessUndoesWrong)

/- THE SECOND FORM. 'bulk': how many values and letters a reading holds, each counted each time it is reached (what is shared counts as often as it is met; a slice's spare places count too). A statement '..UptoSaid' is the law's where the arguments, and the package variables that the reading takes, are together of bulk at most 1048576: NARROWER than '..Said'. Prove '..Said' where nothing that the law and all that it calls make is longer than what came in: it says more and counts as full. Else prove '..UptoSaid'. A law counts once. -/
mutual
def uptoBulk {H : Type} : DataW H → Nat
  | .lit (.string bytes) => bytes.length + 1
  | .lit _ => 1
  | .nil => 1
  | .ptr d => uptoBulk d + 1
  | .slice elems spare => uptoBulkAll elems + uptoBulkAll spare + 1
  | .agg parts => uptoBulkAll parts + 1
  | .iface _ d => uptoBulk d + 1
  | .map entries => uptoBulkEntries entries + 1
  | .held _ => 1
def uptoBulkAll {H : Type} : List (DataW H) → Nat
  | [] => 0
  | d :: r => uptoBulk d + uptoBulkAll r
def uptoBulkEntries {H : Type} : List (Lit × DataW H) → Nat
  | [] => 0
  | x :: r => uptoBulkEntry x + uptoBulkEntries r
def uptoBulkEntry {H : Type} : Lit × DataW H → Nat
  | (.string bytes, d) => bytes.length + uptoBulk d + 1
  | (_, d) => uptoBulk d + 1
 end
def uptoSmall : (H : Type) → List (DataW H) → Bool := fun _ ds => decide (uptoBulkAll ds ≤ 1048576)
def OpenSpec.upto (s : _root_.Go.ChangeSpec) : _root_.Go.OpenSpec := { _root_.Go.OpenSpec.ofChange s with cond := some uptoSmall }

/-- 'datakitlaw09.AccessSets', WHERE WHAT IT READS IS OF BULK AT MOST 1048576: true; the input reads as it did. -/
def accessSetsUptoRow : OpenClaim := { program := "ytfkfboiblgoamaadoor", sum := "fdc0a3acafd9bb729663e258edd24e52e1154a626e2cb12866eea7cb816992a7", func := "datakit/datakitlaw09.AccessSets", spec := "accessSets", inPlace := ["internal/bytealg.IndexByteString", "internal/bytealg.IndexString"], unfollowed := true, recurses := true, named := ["unicode/utf8.first", "unicode/utf8.acceptRanges", "internal/bytealg.MaxLen"], loops := true, apart := false, laid := [("unicode/utf8.acceptRanges", laid_unicode_utf8_acceptRanges), ("unicode/utf8.first", laid_unicode_utf8_first)], narrowed := true }
def AccessSetsUptoSaid : Prop := accessSetsUptoRow.holds Tryd.pinned (OpenSpec.upto accessSetsSpec)

/-- 'datakitlaw09.AccessInserts', WHERE WHAT IT READS IS OF BULK AT MOST 1048576: true; the input reads as it did. -/
def accessInsertsUptoRow : OpenClaim := { program := "ytfkfboiblgoamaadoor", sum := "fdc0a3acafd9bb729663e258edd24e52e1154a626e2cb12866eea7cb816992a7", func := "datakit/datakitlaw09.AccessInserts", spec := "accessInserts", inPlace := ["internal/bytealg.IndexByteString", "internal/bytealg.IndexString"], unfollowed := true, recurses := true, named := ["unicode/utf8.first", "unicode/utf8.acceptRanges", "internal/bytealg.MaxLen"], loops := true, apart := false, laid := [("unicode/utf8.acceptRanges", laid_unicode_utf8_acceptRanges), ("unicode/utf8.first", laid_unicode_utf8_first)], narrowed := true }
def AccessInsertsUptoSaid : Prop := accessInsertsUptoRow.holds Tryd.pinned (OpenSpec.upto accessInsertsSpec)

/-- 'datakitlaw09.AccessSetGet', WHERE WHAT IT READS IS OF BULK AT MOST 1048576: true; the input reads as it did. -/
def accessSetGetUptoRow : OpenClaim := { program := "ytfkfboiblgoamaadoor", sum := "fdc0a3acafd9bb729663e258edd24e52e1154a626e2cb12866eea7cb816992a7", func := "datakit/datakitlaw09.AccessSetGet", spec := "accessSetGet", inPlace := ["internal/bytealg.IndexByteString", "internal/bytealg.IndexString"], unfollowed := true, recurses := true, named := ["unicode/utf8.first", "unicode/utf8.acceptRanges", "internal/bytealg.MaxLen"], loops := true, apart := false, laid := [("unicode/utf8.acceptRanges", laid_unicode_utf8_acceptRanges), ("unicode/utf8.first", laid_unicode_utf8_first)], narrowed := true }
def AccessSetGetUptoSaid : Prop := accessSetGetUptoRow.holds Tryd.pinned (OpenSpec.upto accessSetGetSpec)

/-- 'datakitlaw09.AccessUndoes', WHERE WHAT IT READS IS OF BULK AT MOST 1048576: true; the input reads as it did. -/
def accessUndoesUptoRow : OpenClaim := { program := "ytfkfboiblgoamaadoor", sum := "fdc0a3acafd9bb729663e258edd24e52e1154a626e2cb12866eea7cb816992a7", func := "datakit/datakitlaw09.AccessUndoes", spec := "accessUndoes", inPlace := ["internal/bytealg.IndexByteString", "internal/bytealg.IndexString"], unfollowed := true, recurses := true, named := ["unicode/utf8.first", "unicode/utf8.acceptRanges", "internal/bytealg.MaxLen"], loops := true, apart := false, laid := [("unicode/utf8.acceptRanges", laid_unicode_utf8_acceptRanges), ("unicode/utf8.first", laid_unicode_utf8_first)], narrowed := true }
def AccessUndoesUptoSaid : Prop := accessUndoesUptoRow.holds Tryd.pinned (OpenSpec.upto accessUndoesSpec)

end Rows
end Go.Proofs.YtfkfboiblgoamaaDoor
