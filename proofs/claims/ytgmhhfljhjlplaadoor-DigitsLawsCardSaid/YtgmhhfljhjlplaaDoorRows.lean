/-
  NARROWER THAN 'FOR EVERY INPUT', by the rows' own cells (each row's printed sentence says how): DigitsProducts: laid · DigitsQuotients: laid · DigitsSums: laid · DigitsLaws: laid · DigitsReads: laid · DigitsInts: laid · DigitsShifts: laid.
  DERIVED. THE GIVEN ROWS OF THIS SEAT. 7 by the template 'for every input the law returns true; each argument reads behind the call as it read before'; 0 by the template 'total and deterministic' (their statements: YtgmhhfljhjlplaaDoorTotals.lean).
  GIVEN WITH THE SEED: the statements are not yours to turn. If you find one false, say at which input.
  Laid BY PROGRAM, IN A SANDBOX (cutbox-rows.mjs): the forced cells as the released guide's own fill.sh prints them over the translation d31dfadc6876c906… (all of the seat's roots in one cut). By AI agents, Wed Nov 11 2026. No macro, syntax, notation, axiom, sorry.
-/
import Derived.Test.YtgmhhfljhjlplaaDoorChecked
import GoSem.PinnedTables
import GoSem.Claim
import GoSem.ClaimJoined
import GoSem.ClaimMapViews
import Derived.JoinedTies
import Derived.KernelRfl
namespace Go.Proofs.YtgmhhfljhjlplaaDoor
/- THE CELL 'sum', in the pinned program and in every row, IS THE sha256 OF THE DUMP (.gsa) THAT YtgmhhfljhjlplaaDoorProg.lean LOADS. Nothing in Lean hashes anything: it is a label: what it is worth is what the hold of that sum in a sandbox is worth. -/
noncomputable def Tryd.pinned : Pinned := { name := "ytgmhhfljhjlplaadoor", sum := "d31dfadc6876c90669374466dd200ca07f9c0247941128468e5b1521ef3fba47", checked := Tryd.checked }
namespace Rows
def none {H : Type} : Left H := { results := [], args := [] }

/- WHAT THE LISTED PACKAGE-LEVEL VARIABLES READ AS WHEN THE CALL BEGINS. Each datum BY PROGRAM (the guide's laid-datum.mjs) off the statement by which the dump's own 'gosem.cut.vars' lays the variable. In a bare row this is a premise. The card (YtgmhhfljhjlplaaDoorCards.lean) ties it to the program's text. -/
def laid_unicode_utf8_acceptRanges {H : Type} : DataW H := .agg [.agg [.lit (.int .u8 128), .lit (.int .u8 191)], .agg [.lit (.int .u8 160), .lit (.int .u8 191)], .agg [.lit (.int .u8 128), .lit (.int .u8 159)], .agg [.lit (.int .u8 144), .lit (.int .u8 191)], .agg [.lit (.int .u8 128), .lit (.int .u8 143)], .agg [.lit (.int .u8 0), .lit (.int .u8 0)], .agg [.lit (.int .u8 0), .lit (.int .u8 0)], .agg [.lit (.int .u8 0), .lit (.int .u8 0)], .agg [.lit (.int .u8 0), .lit (.int .u8 0)], .agg [.lit (.int .u8 0), .lit (.int .u8 0)], .agg [.lit (.int .u8 0), .lit (.int .u8 0)], .agg [.lit (.int .u8 0), .lit (.int .u8 0)], .agg [.lit (.int .u8 0), .lit (.int .u8 0)], .agg [.lit (.int .u8 0), .lit (.int .u8 0)], .agg [.lit (.int .u8 0), .lit (.int .u8 0)], .agg [.lit (.int .u8 0), .lit (.int .u8 0)]]
/-- One of Go's own tables, pinned by name: the form's constant. -/
def laid_unicode_utf8_first : DataW Unit := Go.Pinned.utf8First

/-- 'datakitlaw01.DigitsProducts': WHATEVER THE INPUT: true; the input reads as it did. -/
def digitsProductsSpec : ChangeSpec := { name := "digitsProducts", fn := fun _ => fun
  | [d1, d2] => { results := [.lit (.bool true)], args := [d1, d2] }
  | _ => none }
def digitsProductsRow : OpenClaim := { program := "ytgmhhfljhjlplaadoor", sum := "d31dfadc6876c90669374466dd200ca07f9c0247941128468e5b1521ef3fba47", func := "datakit/datakitlaw01.DigitsProducts", spec := "digitsProducts", inPlace := ["internal/bytealg.IndexByteString", "internal/bytealg.IndexString", "internal/bytealg.abigen_runtime_cmpstring"], named := ["unicode/utf8.first", "unicode/utf8.acceptRanges", "internal/bytealg.MaxLen"], apart := false, laid := [("unicode/utf8.acceptRanges", laid_unicode_utf8_acceptRanges), ("unicode/utf8.first", laid_unicode_utf8_first)] }
def DigitsProductsSaid : Prop := digitsProductsRow.holds Tryd.pinned (OpenSpec.ofChange digitsProductsSpec)

/-- ITS FALSE NEIGHBOUR: 'it returns false'. Refute it at one input. -/
def digitsProductsWrong : ChangeSpec := { name := "digitsProducts", fn := fun _ => fun
  | [d1, d2] => { results := [.lit (.bool false)], args := [d1, d2] }
  | _ => none }
def DigitsProductsWrongFalsely : Prop := digitsProductsRow.holds Tryd.pinned (OpenSpec.ofChange digitsProductsWrong)

/-- 'datakitlaw01.DigitsQuotients': WHATEVER THE INPUT: true; the input reads as it did. -/
def digitsQuotientsSpec : ChangeSpec := { name := "digitsQuotients", fn := fun _ => fun
  | [d1, d2] => { results := [.lit (.bool true)], args := [d1, d2] }
  | _ => none }
def digitsQuotientsRow : OpenClaim := { program := "ytgmhhfljhjlplaadoor", sum := "d31dfadc6876c90669374466dd200ca07f9c0247941128468e5b1521ef3fba47", func := "datakit/datakitlaw01.DigitsQuotients", spec := "digitsQuotients", inPlace := ["internal/bytealg.IndexByteString", "internal/bytealg.IndexString", "internal/bytealg.abigen_runtime_cmpstring"], named := ["unicode/utf8.first", "unicode/utf8.acceptRanges", "internal/bytealg.MaxLen"], apart := false, laid := [("unicode/utf8.acceptRanges", laid_unicode_utf8_acceptRanges), ("unicode/utf8.first", laid_unicode_utf8_first)] }
def DigitsQuotientsSaid : Prop := digitsQuotientsRow.holds Tryd.pinned (OpenSpec.ofChange digitsQuotientsSpec)

/-- ITS FALSE NEIGHBOUR: 'it returns false'. Refute it at one input. -/
def digitsQuotientsWrong : ChangeSpec := { name := "digitsQuotients", fn := fun _ => fun
  | [d1, d2] => { results := [.lit (.bool false)], args := [d1, d2] }
  | _ => none }
def DigitsQuotientsWrongFalsely : Prop := digitsQuotientsRow.holds Tryd.pinned (OpenSpec.ofChange digitsQuotientsWrong)

/-- 'datakitlaw01.DigitsSums': WHATEVER THE INPUT: true; the input reads as it did. -/
def digitsSumsSpec : ChangeSpec := { name := "digitsSums", fn := fun _ => fun
  | [d1, d2] => { results := [.lit (.bool true)], args := [d1, d2] }
  | _ => none }
def digitsSumsRow : OpenClaim := { program := "ytgmhhfljhjlplaadoor", sum := "d31dfadc6876c90669374466dd200ca07f9c0247941128468e5b1521ef3fba47", func := "datakit/datakitlaw01.DigitsSums", spec := "digitsSums", inPlace := ["internal/bytealg.IndexByteString", "internal/bytealg.IndexString", "internal/bytealg.abigen_runtime_cmpstring"], named := ["unicode/utf8.first", "unicode/utf8.acceptRanges", "internal/bytealg.MaxLen"], apart := false, laid := [("unicode/utf8.acceptRanges", laid_unicode_utf8_acceptRanges), ("unicode/utf8.first", laid_unicode_utf8_first)] }
def DigitsSumsSaid : Prop := digitsSumsRow.holds Tryd.pinned (OpenSpec.ofChange digitsSumsSpec)

/-- ITS FALSE NEIGHBOUR: 'it returns false'. Refute it at one input. -/
def digitsSumsWrong : ChangeSpec := { name := "digitsSums", fn := fun _ => fun
  | [d1, d2] => { results := [.lit (.bool false)], args := [d1, d2] }
  | _ => none }
def DigitsSumsWrongFalsely : Prop := digitsSumsRow.holds Tryd.pinned (OpenSpec.ofChange digitsSumsWrong)

/-- 'datakitlaw01.DigitsLaws': WHATEVER THE INPUT: true; the input reads as it did. -/
def digitsLawsSpec : ChangeSpec := { name := "digitsLaws", fn := fun _ => fun
  | [d] => { results := [.lit (.bool true)], args := [d] }
  | _ => none }
def digitsLawsRow : OpenClaim := { program := "ytgmhhfljhjlplaadoor", sum := "d31dfadc6876c90669374466dd200ca07f9c0247941128468e5b1521ef3fba47", func := "datakit/datakitlaw01.DigitsLaws", spec := "digitsLaws", inPlace := ["internal/bytealg.IndexByteString", "internal/bytealg.IndexString", "internal/bytealg.abigen_runtime_cmpstring"], named := ["unicode/utf8.first", "unicode/utf8.acceptRanges", "internal/bytealg.MaxLen"], apart := false, laid := [("unicode/utf8.acceptRanges", laid_unicode_utf8_acceptRanges), ("unicode/utf8.first", laid_unicode_utf8_first)] }
def DigitsLawsSaid : Prop := digitsLawsRow.holds Tryd.pinned (OpenSpec.ofChange digitsLawsSpec)

/-- ITS FALSE NEIGHBOUR: 'it returns false'. Refute it at one input. -/
def digitsLawsWrong : ChangeSpec := { name := "digitsLaws", fn := fun _ => fun
  | [d] => { results := [.lit (.bool false)], args := [d] }
  | _ => none }
def DigitsLawsWrongFalsely : Prop := digitsLawsRow.holds Tryd.pinned (OpenSpec.ofChange digitsLawsWrong)

/-- 'datakitlaw01.DigitsReads': WHATEVER THE INPUT: true; the input reads as it did. -/
def digitsReadsSpec : ChangeSpec := { name := "digitsReads", fn := fun _ => fun
  | [d] => { results := [.lit (.bool true)], args := [d] }
  | _ => none }
def digitsReadsRow : OpenClaim := { program := "ytgmhhfljhjlplaadoor", sum := "d31dfadc6876c90669374466dd200ca07f9c0247941128468e5b1521ef3fba47", func := "datakit/datakitlaw01.DigitsReads", spec := "digitsReads", inPlace := ["internal/bytealg.IndexByteString", "internal/bytealg.IndexString", "internal/bytealg.abigen_runtime_cmpstring"], named := ["unicode/utf8.first", "unicode/utf8.acceptRanges", "internal/bytealg.MaxLen"], apart := false, laid := [("unicode/utf8.acceptRanges", laid_unicode_utf8_acceptRanges), ("unicode/utf8.first", laid_unicode_utf8_first)] }
def DigitsReadsSaid : Prop := digitsReadsRow.holds Tryd.pinned (OpenSpec.ofChange digitsReadsSpec)

/-- ITS FALSE NEIGHBOUR: 'it returns false'. Refute it at one input. -/
def digitsReadsWrong : ChangeSpec := { name := "digitsReads", fn := fun _ => fun
  | [d] => { results := [.lit (.bool false)], args := [d] }
  | _ => none }
def DigitsReadsWrongFalsely : Prop := digitsReadsRow.holds Tryd.pinned (OpenSpec.ofChange digitsReadsWrong)

/-- 'datakitlaw01.DigitsInts': WHATEVER THE INPUT: true; the input reads as it did. -/
def digitsIntsSpec : ChangeSpec := { name := "digitsInts", fn := fun _ => fun
  | [d] => { results := [.lit (.bool true)], args := [d] }
  | _ => none }
def digitsIntsRow : OpenClaim := { program := "ytgmhhfljhjlplaadoor", sum := "d31dfadc6876c90669374466dd200ca07f9c0247941128468e5b1521ef3fba47", func := "datakit/datakitlaw01.DigitsInts", spec := "digitsInts", inPlace := ["internal/bytealg.IndexByteString", "internal/bytealg.IndexString", "internal/bytealg.abigen_runtime_cmpstring"], named := ["unicode/utf8.first", "unicode/utf8.acceptRanges", "internal/bytealg.MaxLen"], apart := false, laid := [("unicode/utf8.acceptRanges", laid_unicode_utf8_acceptRanges), ("unicode/utf8.first", laid_unicode_utf8_first)] }
def DigitsIntsSaid : Prop := digitsIntsRow.holds Tryd.pinned (OpenSpec.ofChange digitsIntsSpec)

/-- ITS FALSE NEIGHBOUR: 'it returns false'. Refute it at one input. -/
def digitsIntsWrong : ChangeSpec := { name := "digitsInts", fn := fun _ => fun
  | [d] => { results := [.lit (.bool false)], args := [d] }
  | _ => none }
def DigitsIntsWrongFalsely : Prop := digitsIntsRow.holds Tryd.pinned (OpenSpec.ofChange digitsIntsWrong)

/-- 'datakitlaw01.DigitsShifts': WHATEVER THE INPUT: true; the input reads as it did. -/
def digitsShiftsSpec : ChangeSpec := { name := "digitsShifts", fn := fun _ => fun
  | [d1, d2] => { results := [.lit (.bool true)], args := [d1, d2] }
  | _ => none }
def digitsShiftsRow : OpenClaim := { program := "ytgmhhfljhjlplaadoor", sum := "d31dfadc6876c90669374466dd200ca07f9c0247941128468e5b1521ef3fba47", func := "datakit/datakitlaw01.DigitsShifts", spec := "digitsShifts", inPlace := ["internal/bytealg.IndexByteString", "internal/bytealg.IndexString", "internal/bytealg.abigen_runtime_cmpstring", "internal/abi.NoEscape", "internal/bytealg.MakeNoZero"], named := ["unicode/utf8.first", "unicode/utf8.acceptRanges", "internal/bytealg.MaxLen"], apart := false, laid := [("unicode/utf8.acceptRanges", laid_unicode_utf8_acceptRanges), ("unicode/utf8.first", laid_unicode_utf8_first)] }
def DigitsShiftsSaid : Prop := digitsShiftsRow.holds Tryd.pinned (OpenSpec.ofChange digitsShiftsSpec)

/-- ITS FALSE NEIGHBOUR: 'it returns false'. Refute it at one input. -/
def digitsShiftsWrong : ChangeSpec := { name := "digitsShifts", fn := fun _ => fun
  | [d1, d2] => { results := [.lit (.bool false)], args := [d1, d2] }
  | _ => none }
def DigitsShiftsWrongFalsely : Prop := digitsShiftsRow.holds Tryd.pinned (OpenSpec.ofChange digitsShiftsWrong)

/- THE SECOND FORM. 'bulk': how many values and letters a reading holds, each counted each time it is reached (what is shared counts as often as it is met; a slice's spare places count too). A statement '..UptoSaid' is the law's where the arguments, and the package variables that the reading takes, are together of bulk at most 1048576: NARROWER than '..Said'. Prove '..Said' where nothing that the law and all that it calls make is longer than what came in: it says more and counts as full. Else prove '..UptoSaid'. A law counts once. -/
mutual
def uptoBulk {H : Type} : DataW H → Nat
  | .lit (.string bytes) => bytes.length + 1
  | .lit _ => 1
  | .nil => 1
  | .ptr d => uptoBulk d + 1
  | .slice elems spare => uptoBulkAll elems + uptoBulkAll spare + 1
  | .agg parts => uptoBulkAll parts + 1
  | .iface _ d => uptoBulk d + 1
  | .map entries => uptoBulkEntries entries + 1
  | .held _ => 1
def uptoBulkAll {H : Type} : List (DataW H) → Nat
  | [] => 0
  | d :: r => uptoBulk d + uptoBulkAll r
def uptoBulkEntries {H : Type} : List (Lit × DataW H) → Nat
  | [] => 0
  | x :: r => uptoBulkEntry x + uptoBulkEntries r
def uptoBulkEntry {H : Type} : Lit × DataW H → Nat
  | (.string bytes, d) => bytes.length + uptoBulk d + 1
  | (_, d) => uptoBulk d + 1
 end
def uptoSmall : (H : Type) → List (DataW H) → Bool := fun _ ds => decide (uptoBulkAll ds ≤ 1048576)
def OpenSpec.upto (s : _root_.Go.ChangeSpec) : _root_.Go.OpenSpec := { _root_.Go.OpenSpec.ofChange s with cond := some uptoSmall }

/-- 'datakitlaw01.DigitsProducts', WHERE WHAT IT READS IS OF BULK AT MOST 1048576: true; the input reads as it did. -/
def digitsProductsUptoRow : OpenClaim := { program := "ytgmhhfljhjlplaadoor", sum := "d31dfadc6876c90669374466dd200ca07f9c0247941128468e5b1521ef3fba47", func := "datakit/datakitlaw01.DigitsProducts", spec := "digitsProducts", inPlace := ["internal/bytealg.IndexByteString", "internal/bytealg.IndexString", "internal/bytealg.abigen_runtime_cmpstring"], named := ["unicode/utf8.first", "unicode/utf8.acceptRanges", "internal/bytealg.MaxLen"], apart := false, laid := [("unicode/utf8.acceptRanges", laid_unicode_utf8_acceptRanges), ("unicode/utf8.first", laid_unicode_utf8_first)], narrowed := true }
def DigitsProductsUptoSaid : Prop := digitsProductsUptoRow.holds Tryd.pinned (OpenSpec.upto digitsProductsSpec)

/-- 'datakitlaw01.DigitsQuotients', WHERE WHAT IT READS IS OF BULK AT MOST 1048576: true; the input reads as it did. -/
def digitsQuotientsUptoRow : OpenClaim := { program := "ytgmhhfljhjlplaadoor", sum := "d31dfadc6876c90669374466dd200ca07f9c0247941128468e5b1521ef3fba47", func := "datakit/datakitlaw01.DigitsQuotients", spec := "digitsQuotients", inPlace := ["internal/bytealg.IndexByteString", "internal/bytealg.IndexString", "internal/bytealg.abigen_runtime_cmpstring"], named := ["unicode/utf8.first", "unicode/utf8.acceptRanges", "internal/bytealg.MaxLen"], apart := false, laid := [("unicode/utf8.acceptRanges", laid_unicode_utf8_acceptRanges), ("unicode/utf8.first", laid_unicode_utf8_first)], narrowed := true }
def DigitsQuotientsUptoSaid : Prop := digitsQuotientsUptoRow.holds Tryd.pinned (OpenSpec.upto digitsQuotientsSpec)

/-- 'datakitlaw01.DigitsSums', WHERE WHAT IT READS IS OF BULK AT MOST 1048576: true; the input reads as it did. -/
def digitsSumsUptoRow : OpenClaim := { program := "ytgmhhfljhjlplaadoor", sum := "d31dfadc6876c90669374466dd200ca07f9c0247941128468e5b1521ef3fba47", func := "datakit/datakitlaw01.DigitsSums", spec := "digitsSums", inPlace := ["internal/bytealg.IndexByteString", "internal/bytealg.IndexString", "internal/bytealg.abigen_runtime_cmpstring"], named := ["unicode/utf8.first", "unicode/utf8.acceptRanges", "internal/bytealg.MaxLen"], apart := false, laid := [("unicode/utf8.acceptRanges", laid_unicode_utf8_acceptRanges), ("unicode/utf8.first", laid_unicode_utf8_first)], narrowed := true }
def DigitsSumsUptoSaid : Prop := digitsSumsUptoRow.holds Tryd.pinned (OpenSpec.upto digitsSumsSpec)

/-- 'datakitlaw01.DigitsLaws', WHERE WHAT IT READS IS OF BULK AT MOST 1048576: true; the input reads as it did. -/
def digitsLawsUptoRow : OpenClaim := { program := "ytgmhhfljhjlplaadoor", sum := "d31dfadc6876c90669374466dd200ca07f9c0247941128468e5b1521ef3fba47", func := "datakit/datakitlaw01.DigitsLaws", spec := "digitsLaws", inPlace := ["internal/bytealg.IndexByteString", "internal/bytealg.IndexString", "internal/bytealg.abigen_runtime_cmpstring"], named := ["unicode/utf8.first", "unicode/utf8.acceptRanges", "internal/bytealg.MaxLen"], apart := false, laid := [("unicode/utf8.acceptRanges", laid_unicode_utf8_acceptRanges), ("unicode/utf8.first", laid_unicode_utf8_first)], narrowed := true }
def DigitsLawsUptoSaid : Prop := digitsLawsUptoRow.holds Tryd.pinned (OpenSpec.upto digitsLawsSpec)

/-- 'datakitlaw01.DigitsReads', WHERE WHAT IT READS IS OF BULK AT MOST 1048576: true; the input reads as it did. -/
def digitsReadsUptoRow : OpenClaim := { program := "ytgmhhfljhjlplaadoor", sum := "d31dfadc6876c90669374466dd200ca07f9c0247941128468e5b1521ef3fba47", func := "datakit/datakitlaw01.DigitsReads", spec := "digitsReads", inPlace := ["internal/bytealg.IndexByteString", "internal/bytealg.IndexString", "internal/bytealg.abigen_runtime_cmpstring"], named := ["unicode/utf8.first", "unicode/utf8.acceptRanges", "internal/bytealg.MaxLen"], apart := false, laid := [("unicode/utf8.acceptRanges", laid_unicode_utf8_acceptRanges), ("unicode/utf8.first", laid_unicode_utf8_first)], narrowed := true }
def DigitsReadsUptoSaid : Prop := digitsReadsUptoRow.holds Tryd.pinned (OpenSpec.upto digitsReadsSpec)

/-- 'datakitlaw01.DigitsInts', WHERE WHAT IT READS IS OF BULK AT MOST 1048576: true; the input reads as it did. -/
def digitsIntsUptoRow : OpenClaim := { program := "ytgmhhfljhjlplaadoor", sum := "d31dfadc6876c90669374466dd200ca07f9c0247941128468e5b1521ef3fba47", func := "datakit/datakitlaw01.DigitsInts", spec := "digitsInts", inPlace := ["internal/bytealg.IndexByteString", "internal/bytealg.IndexString", "internal/bytealg.abigen_runtime_cmpstring"], named := ["unicode/utf8.first", "unicode/utf8.acceptRanges", "internal/bytealg.MaxLen"], apart := false, laid := [("unicode/utf8.acceptRanges", laid_unicode_utf8_acceptRanges), ("unicode/utf8.first", laid_unicode_utf8_first)], narrowed := true }
def DigitsIntsUptoSaid : Prop := digitsIntsUptoRow.holds Tryd.pinned (OpenSpec.upto digitsIntsSpec)

/-- 'datakitlaw01.DigitsShifts', WHERE WHAT IT READS IS OF BULK AT MOST 1048576: true; the input reads as it did. -/
def digitsShiftsUptoRow : OpenClaim := { program := "ytgmhhfljhjlplaadoor", sum := "d31dfadc6876c90669374466dd200ca07f9c0247941128468e5b1521ef3fba47", func := "datakit/datakitlaw01.DigitsShifts", spec := "digitsShifts", inPlace := ["internal/bytealg.IndexByteString", "internal/bytealg.IndexString", "internal/bytealg.abigen_runtime_cmpstring", "internal/abi.NoEscape", "internal/bytealg.MakeNoZero"], named := ["unicode/utf8.first", "unicode/utf8.acceptRanges", "internal/bytealg.MaxLen"], apart := false, laid := [("unicode/utf8.acceptRanges", laid_unicode_utf8_acceptRanges), ("unicode/utf8.first", laid_unicode_utf8_first)], narrowed := true }
def DigitsShiftsUptoSaid : Prop := digitsShiftsUptoRow.holds Tryd.pinned (OpenSpec.upto digitsShiftsSpec)

end Rows
end Go.Proofs.YtgmhhfljhjlplaaDoor
