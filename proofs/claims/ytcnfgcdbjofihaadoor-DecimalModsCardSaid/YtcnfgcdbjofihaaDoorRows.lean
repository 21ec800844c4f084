/-
  NARROWER THAN 'FOR EVERY INPUT', by the rows' own cells (each row's printed sentence says how): DecimalMakes: laid · DecimalTexts: laid · DecimalParses: laid · DecimalOrder: laid · DecimalSums: laid · DecimalMods: laid · DecimalInts: laid · DecimalRounds: laid · DecimalProducts: laid · DecimalRing: laid.
  DERIVED. THE GIVEN ROWS OF THIS SEAT. 10 by the template 'for every input the law returns true; each argument reads behind the call as it read before'; 0 by the template 'total and deterministic' (their statements: YtcnfgcdbjofihaaDoorTotals.lean).
  GIVEN WITH THE SEED: the statements are not yours to turn. If you find one false, say at which input.
  Laid BY PROGRAM, IN A SANDBOX (cutbox-rows.mjs): the forced cells as the released guide's own fill.sh prints them over the translation 3d1cc4d8c2823977… (all of the seat's roots in one cut). By AI agents, Wed Nov 11 2026. No macro, syntax, notation, axiom, sorry.
-/
import Derived.Test.YtcnfgcdbjofihaaDoorChecked
import GoSem.PinnedTables
import GoSem.Claim
import GoSem.ClaimJoined
import GoSem.ClaimMapViews
import Derived.JoinedTies
import Derived.KernelRfl
namespace Go.Proofs.YtcnfgcdbjofihaaDoor
/- THE CELL 'sum', in the pinned program and in every row, IS THE sha256 OF THE DUMP (.gsa) THAT YtcnfgcdbjofihaaDoorProg.lean LOADS. Nothing in Lean hashes anything: it is a label: what it is worth is what the hold of that sum in a sandbox is worth. -/
noncomputable def Tryd.pinned : Pinned := { name := "ytcnfgcdbjofihaadoor", sum := "3d1cc4d8c2823977953171d5d32a45c0b7256cc2430ffe1c69a6eb11f1a9924a", checked := Tryd.checked }
namespace Rows
def none {H : Type} : Left H := { results := [], args := [] }

/- WHAT THE LISTED PACKAGE-LEVEL VARIABLES READ AS WHEN THE CALL BEGINS. Each datum BY PROGRAM (the guide's laid-datum.mjs) off the statement by which the dump's own 'gosem.cut.vars' lays the variable. In a bare row this is a premise. The card (YtcnfgcdbjofihaaDoorCards.lean) ties it to the program's text. -/
def laid_unicode_utf8_acceptRanges {H : Type} : DataW H := .agg [.agg [.lit (.int .u8 128), .lit (.int .u8 191)], .agg [.lit (.int .u8 160), .lit (.int .u8 191)], .agg [.lit (.int .u8 128), .lit (.int .u8 159)], .agg [.lit (.int .u8 144), .lit (.int .u8 191)], .agg [.lit (.int .u8 128), .lit (.int .u8 143)], .agg [.lit (.int .u8 0), .lit (.int .u8 0)], .agg [.lit (.int .u8 0), .lit (.int .u8 0)], .agg [.lit (.int .u8 0), .lit (.int .u8 0)], .agg [.lit (.int .u8 0), .lit (.int .u8 0)], .agg [.lit (.int .u8 0), .lit (.int .u8 0)], .agg [.lit (.int .u8 0), .lit (.int .u8 0)], .agg [.lit (.int .u8 0), .lit (.int .u8 0)], .agg [.lit (.int .u8 0), .lit (.int .u8 0)], .agg [.lit (.int .u8 0), .lit (.int .u8 0)], .agg [.lit (.int .u8 0), .lit (.int .u8 0)], .agg [.lit (.int .u8 0), .lit (.int .u8 0)]]
/-- One of Go's own tables, pinned by name: the form's constant. -/
def laid_unicode_utf8_first : DataW Unit := Go.Pinned.utf8First

/-- 'datakitlaw02.DecimalMakes': WHATEVER THE INPUT: true; the input reads as it did. -/
def decimalMakesSpec : ChangeSpec := { name := "decimalMakes", fn := fun _ => fun
  | [d1, d2, d3] => { results := [.lit (.bool true)], args := [d1, d2, d3] }
  | _ => none }
def decimalMakesRow : OpenClaim := { program := "ytcnfgcdbjofihaadoor", sum := "3d1cc4d8c2823977953171d5d32a45c0b7256cc2430ffe1c69a6eb11f1a9924a", func := "datakit/datakitlaw02.DecimalMakes", spec := "decimalMakes", inPlace := ["internal/bytealg.IndexByteString", "internal/bytealg.IndexString", "internal/abi.NoEscape", "internal/bytealg.MakeNoZero", "internal/bytealg.abigen_runtime_cmpstring"], named := ["unicode/utf8.first", "unicode/utf8.acceptRanges", "internal/bytealg.MaxLen"], apart := false, laid := [("unicode/utf8.acceptRanges", laid_unicode_utf8_acceptRanges), ("unicode/utf8.first", laid_unicode_utf8_first)] }
def DecimalMakesSaid : Prop := decimalMakesRow.holds Tryd.pinned (OpenSpec.ofChange decimalMakesSpec)

/-- ITS FALSE NEIGHBOUR: 'it returns false'. Refute it at one input. -/
def decimalMakesWrong : ChangeSpec := { name := "decimalMakes", fn := fun _ => fun
  | [d1, d2, d3] => { results := [.lit (.bool false)], args := [d1, d2, d3] }
  | _ => none }
def DecimalMakesWrongFalsely : Prop := decimalMakesRow.holds Tryd.pinned (OpenSpec.ofChange decimalMakesWrong)

/-- 'datakitlaw02.DecimalTexts': WHATEVER THE INPUT: true; the input reads as it did. -/
def decimalTextsSpec : ChangeSpec := { name := "decimalTexts", fn := fun _ => fun
  | [d] => { results := [.lit (.bool true)], args := [d] }
  | _ => none }
def decimalTextsRow : OpenClaim := { program := "ytcnfgcdbjofihaadoor", sum := "3d1cc4d8c2823977953171d5d32a45c0b7256cc2430ffe1c69a6eb11f1a9924a", func := "datakit/datakitlaw02.DecimalTexts", spec := "decimalTexts", inPlace := ["internal/bytealg.IndexByteString", "internal/bytealg.IndexString", "internal/abi.NoEscape", "internal/bytealg.MakeNoZero", "internal/bytealg.abigen_runtime_cmpstring"], named := ["unicode/utf8.first", "unicode/utf8.acceptRanges", "internal/bytealg.MaxLen"], apart := false, laid := [("unicode/utf8.acceptRanges", laid_unicode_utf8_acceptRanges), ("unicode/utf8.first", laid_unicode_utf8_first)] }
def DecimalTextsSaid : Prop := decimalTextsRow.holds Tryd.pinned (OpenSpec.ofChange decimalTextsSpec)

/-- ITS FALSE NEIGHBOUR: 'it returns false'. Refute it at one input. -/
def decimalTextsWrong : ChangeSpec := { name := "decimalTexts", fn := fun _ => fun
  | [d] => { results := [.lit (.bool false)], args := [d] }
  | _ => none }
def DecimalTextsWrongFalsely : Prop := decimalTextsRow.holds Tryd.pinned (OpenSpec.ofChange decimalTextsWrong)

/-- 'datakitlaw02.DecimalParses': WHATEVER THE INPUT: true; the input reads as it did. -/
def decimalParsesSpec : ChangeSpec := { name := "decimalParses", fn := fun _ => fun
  | [d] => { results := [.lit (.bool true)], args := [d] }
  | _ => none }
def decimalParsesRow : OpenClaim := { program := "ytcnfgcdbjofihaadoor", sum := "3d1cc4d8c2823977953171d5d32a45c0b7256cc2430ffe1c69a6eb11f1a9924a", func := "datakit/datakitlaw02.DecimalParses", spec := "decimalParses", inPlace := ["internal/bytealg.IndexByteString", "internal/bytealg.IndexString", "internal/abi.NoEscape", "internal/bytealg.MakeNoZero", "internal/bytealg.abigen_runtime_cmpstring"], named := ["unicode/utf8.first", "unicode/utf8.acceptRanges", "internal/bytealg.MaxLen"], apart := false, laid := [("unicode/utf8.acceptRanges", laid_unicode_utf8_acceptRanges), ("unicode/utf8.first", laid_unicode_utf8_first)] }
def DecimalParsesSaid : Prop := decimalParsesRow.holds Tryd.pinned (OpenSpec.ofChange decimalParsesSpec)

/-- ITS FALSE NEIGHBOUR: 'it returns false'. Refute it at one input. -/
def decimalParsesWrong : ChangeSpec := { name := "decimalParses", fn := fun _ => fun
  | [d] => { results := [.lit (.bool false)], args := [d] }
  | _ => none }
def DecimalParsesWrongFalsely : Prop := decimalParsesRow.holds Tryd.pinned (OpenSpec.ofChange decimalParsesWrong)

/-- 'datakitlaw02.DecimalOrder': WHATEVER THE INPUT: true; the input reads as it did. -/
def decimalOrderSpec : ChangeSpec := { name := "decimalOrder", fn := fun _ => fun
  | [d] => { results := [.lit (.bool true)], args := [d] }
  | _ => none }
def decimalOrderRow : OpenClaim := { program := "ytcnfgcdbjofihaadoor", sum := "3d1cc4d8c2823977953171d5d32a45c0b7256cc2430ffe1c69a6eb11f1a9924a", func := "datakit/datakitlaw02.DecimalOrder", spec := "decimalOrder", inPlace := ["internal/bytealg.IndexByteString", "internal/bytealg.IndexString", "internal/abi.NoEscape", "internal/bytealg.MakeNoZero", "internal/bytealg.abigen_runtime_cmpstring"], named := ["unicode/utf8.first", "unicode/utf8.acceptRanges", "internal/bytealg.MaxLen"], apart := false, laid := [("unicode/utf8.acceptRanges", laid_unicode_utf8_acceptRanges), ("unicode/utf8.first", laid_unicode_utf8_first)] }
def DecimalOrderSaid : Prop := decimalOrderRow.holds Tryd.pinned (OpenSpec.ofChange decimalOrderSpec)

/-- ITS FALSE NEIGHBOUR: 'it returns false'. Refute it at one input. -/
def decimalOrderWrong : ChangeSpec := { name := "decimalOrder", fn := fun _ => fun
  | [d] => { results := [.lit (.bool false)], args := [d] }
  | _ => none }
def DecimalOrderWrongFalsely : Prop := decimalOrderRow.holds Tryd.pinned (OpenSpec.ofChange decimalOrderWrong)

/-- 'datakitlaw02.DecimalSums': WHATEVER THE INPUT: true; the input reads as it did. -/
def decimalSumsSpec : ChangeSpec := { name := "decimalSums", fn := fun _ => fun
  | [d1, d2] => { results := [.lit (.bool true)], args := [d1, d2] }
  | _ => none }
def decimalSumsRow : OpenClaim := { program := "ytcnfgcdbjofihaadoor", sum := "3d1cc4d8c2823977953171d5d32a45c0b7256cc2430ffe1c69a6eb11f1a9924a", func := "datakit/datakitlaw02.DecimalSums", spec := "decimalSums", inPlace := ["internal/bytealg.IndexByteString", "internal/bytealg.IndexString", "internal/abi.NoEscape", "internal/bytealg.MakeNoZero", "internal/bytealg.abigen_runtime_cmpstring"], named := ["unicode/utf8.first", "unicode/utf8.acceptRanges", "internal/bytealg.MaxLen"], apart := false, laid := [("unicode/utf8.acceptRanges", laid_unicode_utf8_acceptRanges), ("unicode/utf8.first", laid_unicode_utf8_first)] }
def DecimalSumsSaid : Prop := decimalSumsRow.holds Tryd.pinned (OpenSpec.ofChange decimalSumsSpec)

/-- ITS FALSE NEIGHBOUR: 'it returns false'. Refute it at one input. -/
def decimalSumsWrong : ChangeSpec := { name := "decimalSums", fn := fun _ => fun
  | [d1, d2] => { results := [.lit (.bool false)], args := [d1, d2] }
  | _ => none }
def DecimalSumsWrongFalsely : Prop := decimalSumsRow.holds Tryd.pinned (OpenSpec.ofChange decimalSumsWrong)

/-- 'datakitlaw02.DecimalMods': WHATEVER THE INPUT: true; the input reads as it did. -/
def decimalModsSpec : ChangeSpec := { name := "decimalMods", fn := fun _ => fun
  | [d1, d2, d3] => { results := [.lit (.bool true)], args := [d1, d2, d3] }
  | _ => none }
def decimalModsRow : OpenClaim := { program := "ytcnfgcdbjofihaadoor", sum := "3d1cc4d8c2823977953171d5d32a45c0b7256cc2430ffe1c69a6eb11f1a9924a", func := "datakit/datakitlaw02.DecimalMods", spec := "decimalMods", inPlace := ["internal/bytealg.IndexByteString", "internal/bytealg.IndexString", "internal/abi.NoEscape", "internal/bytealg.MakeNoZero", "internal/bytealg.abigen_runtime_cmpstring"], named := ["unicode/utf8.first", "unicode/utf8.acceptRanges", "internal/bytealg.MaxLen"], apart := false, laid := [("unicode/utf8.acceptRanges", laid_unicode_utf8_acceptRanges), ("unicode/utf8.first", laid_unicode_utf8_first)] }
def DecimalModsSaid : Prop := decimalModsRow.holds Tryd.pinned (OpenSpec.ofChange decimalModsSpec)

/-- ITS FALSE NEIGHBOUR: 'it returns false'. Refute it at one input. -/
def decimalModsWrong : ChangeSpec := { name := "decimalMods", fn := fun _ => fun
  | [d1, d2, d3] => { results := [.lit (.bool false)], args := [d1, d2, d3] }
  | _ => none }
def DecimalModsWrongFalsely : Prop := decimalModsRow.holds Tryd.pinned (OpenSpec.ofChange decimalModsWrong)

/-- 'datakitlaw02.DecimalInts': WHATEVER THE INPUT: true; the input reads as it did. -/
def decimalIntsSpec : ChangeSpec := { name := "decimalInts", fn := fun _ => fun
  | [d1, d2] => { results := [.lit (.bool true)], args := [d1, d2] }
  | _ => none }
def decimalIntsRow : OpenClaim := { program := "ytcnfgcdbjofihaadoor", sum := "3d1cc4d8c2823977953171d5d32a45c0b7256cc2430ffe1c69a6eb11f1a9924a", func := "datakit/datakitlaw02.DecimalInts", spec := "decimalInts", inPlace := ["internal/bytealg.IndexByteString", "internal/bytealg.IndexString", "internal/abi.NoEscape", "internal/bytealg.MakeNoZero", "internal/bytealg.abigen_runtime_cmpstring"], named := ["unicode/utf8.first", "unicode/utf8.acceptRanges", "internal/bytealg.MaxLen"], apart := false, laid := [("unicode/utf8.acceptRanges", laid_unicode_utf8_acceptRanges), ("unicode/utf8.first", laid_unicode_utf8_first)] }
def DecimalIntsSaid : Prop := decimalIntsRow.holds Tryd.pinned (OpenSpec.ofChange decimalIntsSpec)

/-- ITS FALSE NEIGHBOUR: 'it returns false'. Refute it at one input. -/
def decimalIntsWrong : ChangeSpec := { name := "decimalInts", fn := fun _ => fun
  | [d1, d2] => { results := [.lit (.bool false)], args := [d1, d2] }
  | _ => none }
def DecimalIntsWrongFalsely : Prop := decimalIntsRow.holds Tryd.pinned (OpenSpec.ofChange decimalIntsWrong)

/-- 'datakitlaw02.DecimalRounds': WHATEVER THE INPUT: true; the input reads as it did. -/
def decimalRoundsSpec : ChangeSpec := { name := "decimalRounds", fn := fun _ => fun
  | [d1, d2, d3] => { results := [.lit (.bool true)], args := [d1, d2, d3] }
  | _ => none }
def decimalRoundsRow : OpenClaim := { program := "ytcnfgcdbjofihaadoor", sum := "3d1cc4d8c2823977953171d5d32a45c0b7256cc2430ffe1c69a6eb11f1a9924a", func := "datakit/datakitlaw02.DecimalRounds", spec := "decimalRounds", inPlace := ["internal/bytealg.IndexByteString", "internal/bytealg.IndexString", "internal/abi.NoEscape", "internal/bytealg.MakeNoZero", "internal/bytealg.abigen_runtime_cmpstring"], named := ["unicode/utf8.first", "unicode/utf8.acceptRanges", "internal/bytealg.MaxLen"], apart := false, laid := [("unicode/utf8.acceptRanges", laid_unicode_utf8_acceptRanges), ("unicode/utf8.first", laid_unicode_utf8_first)] }
def DecimalRoundsSaid : Prop := decimalRoundsRow.holds Tryd.pinned (OpenSpec.ofChange decimalRoundsSpec)

/-- ITS FALSE NEIGHBOUR: 'it returns false'. Refute it at one input. -/
def decimalRoundsWrong : ChangeSpec := { name := "decimalRounds", fn := fun _ => fun
  | [d1, d2, d3] => { results := [.lit (.bool false)], args := [d1, d2, d3] }
  | _ => none }
def DecimalRoundsWrongFalsely : Prop := decimalRoundsRow.holds Tryd.pinned (OpenSpec.ofChange decimalRoundsWrong)

/-- 'datakitlaw02.DecimalProducts': WHATEVER THE INPUT: true; the input reads as it did. -/
def decimalProductsSpec : ChangeSpec := { name := "decimalProducts", fn := fun _ => fun
  | [d1, d2] => { results := [.lit (.bool true)], args := [d1, d2] }
  | _ => none }
def decimalProductsRow : OpenClaim := { program := "ytcnfgcdbjofihaadoor", sum := "3d1cc4d8c2823977953171d5d32a45c0b7256cc2430ffe1c69a6eb11f1a9924a", func := "datakit/datakitlaw02.DecimalProducts", spec := "decimalProducts", inPlace := ["internal/bytealg.IndexByteString", "internal/bytealg.IndexString", "internal/abi.NoEscape", "internal/bytealg.MakeNoZero", "internal/bytealg.abigen_runtime_cmpstring"], named := ["unicode/utf8.first", "unicode/utf8.acceptRanges", "internal/bytealg.MaxLen"], apart := false, laid := [("unicode/utf8.acceptRanges", laid_unicode_utf8_acceptRanges), ("unicode/utf8.first", laid_unicode_utf8_first)] }
def DecimalProductsSaid : Prop := decimalProductsRow.holds Tryd.pinned (OpenSpec.ofChange decimalProductsSpec)

/-- ITS FALSE NEIGHBOUR: 'it returns false'. Refute it at one input. -/
def decimalProductsWrong : ChangeSpec := { name := "decimalProducts", fn := fun _ => fun
  | [d1, d2] => { results := [.lit (.bool false)], args := [d1, d2] }
  | _ => none }
def DecimalProductsWrongFalsely : Prop := decimalProductsRow.holds Tryd.pinned (OpenSpec.ofChange decimalProductsWrong)

/-- 'datakitlaw02.DecimalRing': WHATEVER THE INPUT: true; the input reads as it did. -/
def decimalRingSpec : ChangeSpec := { name := "decimalRing", fn := fun _ => fun
  | [d] => { results := [.lit (.bool true)], args := [d] }
  | _ => none }
def decimalRingRow : OpenClaim := { program := "ytcnfgcdbjofihaadoor", sum := "3d1cc4d8c2823977953171d5d32a45c0b7256cc2430ffe1c69a6eb11f1a9924a", func := "datakit/datakitlaw02.DecimalRing", spec := "decimalRing", inPlace := ["internal/bytealg.IndexByteString", "internal/bytealg.IndexString", "internal/abi.NoEscape", "internal/bytealg.MakeNoZero", "internal/bytealg.abigen_runtime_cmpstring"], named := ["unicode/utf8.first", "unicode/utf8.acceptRanges", "internal/bytealg.MaxLen"], apart := false, laid := [("unicode/utf8.acceptRanges", laid_unicode_utf8_acceptRanges), ("unicode/utf8.first", laid_unicode_utf8_first)] }
def DecimalRingSaid : Prop := decimalRingRow.holds Tryd.pinned (OpenSpec.ofChange decimalRingSpec)

/-- ITS FALSE NEIGHBOUR: 'it returns false'. Refute it at one input. -/
def decimalRingWrong : ChangeSpec := { name := "decimalRing", fn := fun _ => fun
  | [d] => { results := [.lit (.bool false)], args := [d] }
  | _ => none }
def DecimalRingWrongFalsely : Prop := decimalRingRow.holds Tryd.pinned (OpenSpec.ofChange decimalRingWrong)

/- THE SECOND FORM. 'bulk': how many values and letters a reading holds, each counted each time it is reached (what is shared counts as often as it is met; a slice's spare places count too). A statement '..UptoSaid' is the law's where the arguments, and the package variables that the reading takes, are together of bulk at most 1048576: NARROWER than '..Said'. Prove '..Said' where nothing that the law and all that it calls make is longer than what came in: it says more and counts as full. Else prove '..UptoSaid'. A law counts once. -/
mutual
def uptoBulk {H : Type} : DataW H → Nat
  | .lit (.string bytes) => bytes.length + 1
  | .lit _ => 1
  | .nil => 1
  | .ptr d => uptoBulk d + 1
  | .slice elems spare => uptoBulkAll elems + uptoBulkAll spare + 1
  | .agg parts => uptoBulkAll parts + 1
  | .iface _ d => uptoBulk d + 1
  | .map entries => uptoBulkEntries entries + 1
  | .held _ => 1
def uptoBulkAll {H : Type} : List (DataW H) → Nat
  | [] => 0
  | d :: r => uptoBulk d + uptoBulkAll r
def uptoBulkEntries {H : Type} : List (Lit × DataW H) → Nat
  | [] => 0
  | x :: r => uptoBulkEntry x + uptoBulkEntries r
def uptoBulkEntry {H : Type} : Lit × DataW H → Nat
  | (.string bytes, d) => bytes.length + uptoBulk d + 1
  | (_, d) => uptoBulk d + 1
 end
def uptoSmall : (H : Type) → List (DataW H) → Bool := fun _ ds => decide (uptoBulkAll ds ≤ 1048576)
def OpenSpec.upto (s : _root_.Go.ChangeSpec) : _root_.Go.OpenSpec := { _root_.Go.OpenSpec.ofChange s with cond := some uptoSmall }

/-- 'datakitlaw02.DecimalMakes', WHERE WHAT IT READS IS OF BULK AT MOST 1048576: true; the input reads as it did. -/
def decimalMakesUptoRow : OpenClaim := { program := "ytcnfgcdbjofihaadoor", sum := "3d1cc4d8c2823977953171d5d32a45c0b7256cc2430ffe1c69a6eb11f1a9924a", func := "datakit/datakitlaw02.DecimalMakes", spec := "decimalMakes", inPlace := ["internal/bytealg.IndexByteString", "internal/bytealg.IndexString", "internal/abi.NoEscape", "internal/bytealg.MakeNoZero", "internal/bytealg.abigen_runtime_cmpstring"], named := ["unicode/utf8.first", "unicode/utf8.acceptRanges", "internal/bytealg.MaxLen"], apart := false, laid := [("unicode/utf8.acceptRanges", laid_unicode_utf8_acceptRanges), ("unicode/utf8.first", laid_unicode_utf8_first)], narrowed := true }
def DecimalMakesUptoSaid : Prop := decimalMakesUptoRow.holds Tryd.pinned (OpenSpec.upto decimalMakesSpec)

/-- 'datakitlaw02.DecimalTexts', WHERE WHAT IT READS IS OF BULK AT MOST 1048576: true; the input reads as it did. -/
def decimalTextsUptoRow : OpenClaim := { program := "ytcnfgcdbjofihaadoor", sum := "3d1cc4d8c2823977953171d5d32a45c0b7256cc2430ffe1c69a6eb11f1a9924a", func := "datakit/datakitlaw02.DecimalTexts", spec := "decimalTexts", inPlace := ["internal/bytealg.IndexByteString", "internal/bytealg.IndexString", "internal/abi.NoEscape", "internal/bytealg.MakeNoZero", "internal/bytealg.abigen_runtime_cmpstring"], named := ["unicode/utf8.first", "unicode/utf8.acceptRanges", "internal/bytealg.MaxLen"], apart := false, laid := [("unicode/utf8.acceptRanges", laid_unicode_utf8_acceptRanges), ("unicode/utf8.first", laid_unicode_utf8_first)], narrowed := true }
def DecimalTextsUptoSaid : Prop := decimalTextsUptoRow.holds Tryd.pinned (OpenSpec.upto decimalTextsSpec)

/-- 'datakitlaw02.DecimalParses', WHERE WHAT IT READS IS OF BULK AT MOST 1048576: true; the input reads as it did. -/
def decimalParsesUptoRow : OpenClaim := { program := "ytcnfgcdbjofihaadoor", sum := "3d1cc4d8c2823977953171d5d32a45c0b7256cc2430ffe1c69a6eb11f1a9924a", func := "datakit/datakitlaw02.DecimalParses", spec := "decimalParses", inPlace := ["internal/bytealg.IndexByteString", "internal/bytealg.IndexString", "internal/abi.NoEscape", "internal/bytealg.MakeNoZero", "internal/bytealg.abigen_runtime_cmpstring"], named := ["unicode/utf8.first", "unicode/utf8.acceptRanges", "internal/bytealg.MaxLen"], apart := false, laid := [("unicode/utf8.acceptRanges", laid_unicode_utf8_acceptRanges), ("unicode/utf8.first", laid_unicode_utf8_first)], narrowed := true }
def DecimalParsesUptoSaid : Prop := decimalParsesUptoRow.holds Tryd.pinned (OpenSpec.upto decimalParsesSpec)

/-- 'datakitlaw02.DecimalOrder', WHERE WHAT IT READS IS OF BULK AT MOST 1048576: true; the input reads as it did. -/
def decimalOrderUptoRow : OpenClaim := { program := "ytcnfgcdbjofihaadoor", sum := "3d1cc4d8c2823977953171d5d32a45c0b7256cc2430ffe1c69a6eb11f1a9924a", func := "datakit/datakitlaw02.DecimalOrder", spec := "decimalOrder", inPlace := ["internal/bytealg.IndexByteString", "internal/bytealg.IndexString", "internal/abi.NoEscape", "internal/bytealg.MakeNoZero", "internal/bytealg.abigen_runtime_cmpstring"], named := ["unicode/utf8.first", "unicode/utf8.acceptRanges", "internal/bytealg.MaxLen"], apart := false, laid := [("unicode/utf8.acceptRanges", laid_unicode_utf8_acceptRanges), ("unicode/utf8.first", laid_unicode_utf8_first)], narrowed := true }
def DecimalOrderUptoSaid : Prop := decimalOrderUptoRow.holds Tryd.pinned (OpenSpec.upto decimalOrderSpec)

/-- 'datakitlaw02.DecimalSums', WHERE WHAT IT READS IS OF BULK AT MOST 1048576: true; the input reads as it did. -/
def decimalSumsUptoRow : OpenClaim := { program := "ytcnfgcdbjofihaadoor", sum := "3d1cc4d8c2823977953171d5d32a45c0b7256cc2430ffe1c69a6eb11f1a9924a", func := "datakit/datakitlaw02.DecimalSums", spec := "decimalSums", inPlace := ["internal/bytealg.IndexByteString", "internal/bytealg.IndexString", "internal/abi.NoEscape", "internal/bytealg.MakeNoZero", "internal/bytealg.abigen_runtime_cmpstring"], named := ["unicode/utf8.first", "unicode/utf8.acceptRanges", "internal/bytealg.MaxLen"], apart := false, laid := [("unicode/utf8.acceptRanges", laid_unicode_utf8_acceptRanges), ("unicode/utf8.first", laid_unicode_utf8_first)], narrowed := true }
def DecimalSumsUptoSaid : Prop := decimalSumsUptoRow.holds Tryd.pinned (OpenSpec.upto decimalSumsSpec)

/-- 'datakitlaw02.DecimalMods', WHERE WHAT IT READS IS OF BULK AT MOST 1048576: true; the input reads as it did. -/
def decimalModsUptoRow : OpenClaim := { program := "ytcnfgcdbjofihaadoor", sum := "3d1cc4d8c2823977953171d5d32a45c0b7256cc2430ffe1c69a6eb11f1a9924a", func := "datakit/datakitlaw02.DecimalMods", spec := "decimalMods", inPlace := ["internal/bytealg.IndexByteString", "internal/bytealg.IndexString", "internal/abi.NoEscape", "internal/bytealg.MakeNoZero", "internal/bytealg.abigen_runtime_cmpstring"], named := ["unicode/utf8.first", "unicode/utf8.acceptRanges", "internal/bytealg.MaxLen"], apart := false, laid := [("unicode/utf8.acceptRanges", laid_unicode_utf8_acceptRanges), ("unicode/utf8.first", laid_unicode_utf8_first)], narrowed := true }
def DecimalModsUptoSaid : Prop := decimalModsUptoRow.holds Tryd.pinned (OpenSpec.upto decimalModsSpec)

/-- 'datakitlaw02.DecimalInts', WHERE WHAT IT READS IS OF BULK AT MOST 1048576: true; the input reads as it did. -/
def decimalIntsUptoRow : OpenClaim := { program := "ytcnfgcdbjofihaadoor", sum := "3d1cc4d8c2823977953171d5d32a45c0b7256cc2430ffe1c69a6eb11f1a9924a", func := "datakit/datakitlaw02.DecimalInts", spec := "decimalInts", inPlace := ["internal/bytealg.IndexByteString", "internal/bytealg.IndexString", "internal/abi.NoEscape", "internal/bytealg.MakeNoZero", "internal/bytealg.abigen_runtime_cmpstring"], named := ["unicode/utf8.first", "unicode/utf8.acceptRanges", "internal/bytealg.MaxLen"], apart := false, laid := [("unicode/utf8.acceptRanges", laid_unicode_utf8_acceptRanges), ("unicode/utf8.first", laid_unicode_utf8_first)], narrowed := true }
def DecimalIntsUptoSaid : Prop := decimalIntsUptoRow.holds Tryd.pinned (OpenSpec.upto decimalIntsSpec)

/-- 'datakitlaw02.DecimalRounds', WHERE WHAT IT READS IS OF BULK AT MOST 1048576: true; the input reads as it did. -/
def decimalRoundsUptoRow : OpenClaim := { program := "ytcnfgcdbjofihaadoor", sum := "3d1cc4d8c2823977953171d5d32a45c0b7256cc2430ffe1c69a6eb11f1a9924a", func := "datakit/datakitlaw02.DecimalRounds", spec := "decimalRounds", inPlace := ["internal/bytealg.IndexByteString", "internal/bytealg.IndexString", "internal/abi.NoEscape", "internal/bytealg.MakeNoZero", "internal/bytealg.abigen_runtime_cmpstring"], named := ["unicode/utf8.first", "unicode/utf8.acceptRanges", "internal/bytealg.MaxLen"], apart := false, laid := [("unicode/utf8.acceptRanges", laid_unicode_utf8_acceptRanges), ("unicode/utf8.first", laid_unicode_utf8_first)], narrowed := true }
def DecimalRoundsUptoSaid : Prop := decimalRoundsUptoRow.holds Tryd.pinned (OpenSpec.upto decimalRoundsSpec)

/-- 'datakitlaw02.DecimalProducts', WHERE WHAT IT READS IS OF BULK AT MOST 1048576: true; the input reads as it did. -/
def decimalProductsUptoRow : OpenClaim := { program := "ytcnfgcdbjofihaadoor", sum := "3d1cc4d8c2823977953171d5d32a45c0b7256cc2430ffe1c69a6eb11f1a9924a", func := "datakit/datakitlaw02.DecimalProducts", spec := "decimalProducts", inPlace := ["internal/bytealg.IndexByteString", "internal/bytealg.IndexString", "internal/abi.NoEscape", "internal/bytealg.MakeNoZero", "internal/bytealg.abigen_runtime_cmpstring"], named := ["unicode/utf8.first", "unicode/utf8.acceptRanges", "internal/bytealg.MaxLen"], apart := false, laid := [("unicode/utf8.acceptRanges", laid_unicode_utf8_acceptRanges), ("unicode/utf8.first", laid_unicode_utf8_first)], narrowed := true }
def DecimalProductsUptoSaid : Prop := decimalProductsUptoRow.holds Tryd.pinned (OpenSpec.upto decimalProductsSpec)

/-- 'datakitlaw02.DecimalRing', WHERE WHAT IT READS IS OF BULK AT MOST 1048576: true; the input reads as it did. -/
def decimalRingUptoRow : OpenClaim := { program := "ytcnfgcdbjofihaadoor", sum := "3d1cc4d8c2823977953171d5d32a45c0b7256cc2430ffe1c69a6eb11f1a9924a", func := "datakit/datakitlaw02.DecimalRing", spec := "decimalRing", inPlace := ["internal/bytealg.IndexByteString", "internal/bytealg.IndexString", "internal/abi.NoEscape", "internal/bytealg.MakeNoZero", "internal/bytealg.abigen_runtime_cmpstring"], named := ["unicode/utf8.first", "unicode/utf8.acceptRanges", "internal/bytealg.MaxLen"], apart := false, laid := [("unicode/utf8.acceptRanges", laid_unicode_utf8_acceptRanges), ("unicode/utf8.first", laid_unicode_utf8_first)], narrowed := true }
def DecimalRingUptoSaid : Prop := decimalRingUptoRow.holds Tryd.pinned (OpenSpec.upto decimalRingSpec)

end Rows
end Go.Proofs.YtcnfgcdbjofihaaDoor
