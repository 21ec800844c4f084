/-
  NARROWER THAN 'FOR EVERY INPUT', by the rows' own cells (each row's printed sentence says how): EventOf: loops, laid · EventBack: loops, laid · EventWhere: loops, laid · EventBuilds: loops, laid · EventNone: loops, laid · EventChecks: loops, laid · EventTakes: loops, laid.
  DERIVED. THE GIVEN ROWS OF THIS SEAT. 7 by the template 'for every input the law returns true; each argument reads behind the call as it read before'; 0 by the template 'total and deterministic' (their statements: YtpcbhneaaibfiaaDoorTotals.lean).
  GIVEN WITH THE SEED: the statements are not yours to turn. If you find one false, say at which input.
  Laid BY PROGRAM, IN A SANDBOX (cutbox-rows.mjs): the forced cells as the released guide's own fill.sh prints them over the translation b200fdb9c13eff08… (all of the seat's roots in one cut). By AI agents, Wed Nov 11 2026. No macro, syntax, notation, axiom, sorry.
-/
import Derived.Test.YtpcbhneaaibfiaaDoorChecked
import GoSem.PinnedTables
import GoSem.Claim
import GoSem.ClaimJoined
import GoSem.ClaimMapViews
import Derived.JoinedTies
import Derived.KernelRfl
namespace Go.Proofs.YtpcbhneaaibfiaaDoor
/- THE CELL 'sum', in the pinned program and in every row, IS THE sha256 OF THE DUMP (.gsa) THAT YtpcbhneaaibfiaaDoorProg.lean LOADS. Nothing in Lean hashes anything: it is a label: what it is worth is what the hold of that sum in a sandbox is worth. -/
noncomputable def Tryd.pinned : Pinned := { name := "ytpcbhneaaibfiaadoor", sum := "b200fdb9c13eff082a369923b40b644b017370de43c0762c31df2a3892599536", checked := Tryd.checked }
namespace Rows
def none {H : Type} : Left H := { results := [], args := [] }

/- WHAT THE LISTED PACKAGE-LEVEL VARIABLES READ AS WHEN THE CALL BEGINS. Each datum BY PROGRAM (the guide's laid-datum.mjs) off the statement by which the dump's own 'gosem.cut.vars' lays the variable. In a bare row this is a premise. The card (YtpcbhneaaibfiaaDoorCards.lean) ties it to the program's text. -/
def laid_unicode_utf8_acceptRanges {H : Type} : DataW H := .agg [.agg [.lit (.int .u8 128), .lit (.int .u8 191)], .agg [.lit (.int .u8 160), .lit (.int .u8 191)], .agg [.lit (.int .u8 128), .lit (.int .u8 159)], .agg [.lit (.int .u8 144), .lit (.int .u8 191)], .agg [.lit (.int .u8 128), .lit (.int .u8 143)], .agg [.lit (.int .u8 0), .lit (.int .u8 0)], .agg [.lit (.int .u8 0), .lit (.int .u8 0)], .agg [.lit (.int .u8 0), .lit (.int .u8 0)], .agg [.lit (.int .u8 0), .lit (.int .u8 0)], .agg [.lit (.int .u8 0), .lit (.int .u8 0)], .agg [.lit (.int .u8 0), .lit (.int .u8 0)], .agg [.lit (.int .u8 0), .lit (.int .u8 0)], .agg [.lit (.int .u8 0), .lit (.int .u8 0)], .agg [.lit (.int .u8 0), .lit (.int .u8 0)], .agg [.lit (.int .u8 0), .lit (.int .u8 0)], .agg [.lit (.int .u8 0), .lit (.int .u8 0)]]
/-- One of Go's own tables, pinned by name: the form's constant. -/
def laid_unicode_utf8_first : DataW Unit := Go.Pinned.utf8First

/-- 'datakitlaw14.EventOf': WHATEVER THE INPUT: true; the input reads as it did. -/
def eventOfSpec : ChangeSpec := { name := "eventOf", fn := fun _ => fun
  | [d] => { results := [.lit (.bool true)], args := [d] }
  | _ => none }
def eventOfRow : OpenClaim := { program := "ytpcbhneaaibfiaadoor", sum := "b200fdb9c13eff082a369923b40b644b017370de43c0762c31df2a3892599536", func := "datakit/datakitlaw14.EventOf", spec := "eventOf", inPlace := ["internal/bytealg.IndexByteString", "internal/bytealg.IndexString"], recurses := true, named := ["unicode/utf8.first", "unicode/utf8.acceptRanges", "internal/bytealg.MaxLen"], loops := true, apart := false, laid := [("unicode/utf8.acceptRanges", laid_unicode_utf8_acceptRanges), ("unicode/utf8.first", laid_unicode_utf8_first)] }
def EventOfSaid : Prop := eventOfRow.holds Tryd.pinned (OpenSpec.ofChange eventOfSpec)

/-- ITS FALSE NEIGHBOUR: 'it returns false'. Refute it at one input. -/
def eventOfWrong : ChangeSpec := { name := "eventOf", fn := fun _ => fun
  | [d] => { results := [.lit (.bool false)], args := [d] }
  | _ => none }
def EventOfWrongFalsely : Prop := eventOfRow.holds Tryd.pinned (OpenSpec.ofChange eventOfWrong)

/-- 'datakitlaw14.EventBack': WHATEVER THE INPUT: true; the input reads as it did. -/
def eventBackSpec : ChangeSpec := { name := "eventBack", fn := fun _ => fun
  | [d1, d2] => { results := [.lit (.bool true)], args := [d1, d2] }
  | _ => none }
def eventBackRow : OpenClaim := { program := "ytpcbhneaaibfiaadoor", sum := "b200fdb9c13eff082a369923b40b644b017370de43c0762c31df2a3892599536", func := "datakit/datakitlaw14.EventBack", spec := "eventBack", inPlace := ["internal/bytealg.IndexByteString", "internal/bytealg.IndexString"], recurses := true, named := ["unicode/utf8.first", "unicode/utf8.acceptRanges", "internal/bytealg.MaxLen"], loops := true, apart := false, laid := [("unicode/utf8.acceptRanges", laid_unicode_utf8_acceptRanges), ("unicode/utf8.first", laid_unicode_utf8_first)] }
def EventBackSaid : Prop := eventBackRow.holds Tryd.pinned (OpenSpec.ofChange eventBackSpec)

/-- ITS FALSE NEIGHBOUR: 'it returns false'. Refute it at one input. -/
def eventBackWrong : ChangeSpec := { name := "eventBack", fn := fun _ => fun
  | [d1, d2] => { results := [.lit (.bool false)], args := [d1, d2] }
  | _ => none }
def EventBackWrongFalsely : Prop := eventBackRow.holds Tryd.pinned (OpenSpec.ofChange eventBackWrong)

/-- 'datakitlaw14.EventWhere': WHATEVER THE INPUT: true; the input reads as it did. -/
def eventWhereSpec : ChangeSpec := { name := "eventWhere", fn := fun _ => fun
  | [d1, d2] => { results := [.lit (.bool true)], args := [d1, d2] }
  | _ => none }
def eventWhereRow : OpenClaim := { program := "ytpcbhneaaibfiaadoor", sum := "b200fdb9c13eff082a369923b40b644b017370de43c0762c31df2a3892599536", func := "datakit/datakitlaw14.EventWhere", spec := "eventWhere", inPlace := ["internal/bytealg.IndexByteString", "internal/bytealg.IndexString"], recurses := true, named := ["unicode/utf8.first", "unicode/utf8.acceptRanges", "internal/bytealg.MaxLen"], loops := true, apart := false, laid := [("unicode/utf8.acceptRanges", laid_unicode_utf8_acceptRanges), ("unicode/utf8.first", laid_unicode_utf8_first)] }
def EventWhereSaid : Prop := eventWhereRow.holds Tryd.pinned (OpenSpec.ofChange eventWhereSpec)

/-- ITS FALSE NEIGHBOUR: 'it returns false'. Refute it at one input. -/
def eventWhereWrong : ChangeSpec := { name := "eventWhere", fn := fun _ => fun
  | [d1, d2] => { results := [.lit (.bool false)], args := [d1, d2] }
  | _ => none }
def EventWhereWrongFalsely : Prop := eventWhereRow.holds Tryd.pinned (OpenSpec.ofChange eventWhereWrong)

/-- 'datakitlaw14.EventBuilds': WHATEVER THE INPUT: true; the input reads as it did. -/
def eventBuildsSpec : ChangeSpec := { name := "eventBuilds", fn := fun _ => fun
  | [d] => { results := [.lit (.bool true)], args := [d] }
  | _ => none }
def eventBuildsRow : OpenClaim := { program := "ytpcbhneaaibfiaadoor", sum := "b200fdb9c13eff082a369923b40b644b017370de43c0762c31df2a3892599536", func := "datakit/datakitlaw14.EventBuilds", spec := "eventBuilds", inPlace := ["internal/bytealg.IndexByteString", "internal/bytealg.IndexString"], recurses := true, named := ["unicode/utf8.first", "unicode/utf8.acceptRanges", "internal/bytealg.MaxLen"], loops := true, apart := false, laid := [("unicode/utf8.acceptRanges", laid_unicode_utf8_acceptRanges), ("unicode/utf8.first", laid_unicode_utf8_first)] }
def EventBuildsSaid : Prop := eventBuildsRow.holds Tryd.pinned (OpenSpec.ofChange eventBuildsSpec)

/-- ITS FALSE NEIGHBOUR: 'it returns false'. Refute it at one input. -/
def eventBuildsWrong : ChangeSpec := { name := "eventBuilds", fn := fun _ => fun
  | [d] => { results := [.lit (.bool false)], args := [d] }
  | _ => none }
def EventBuildsWrongFalsely : Prop := eventBuildsRow.holds Tryd.pinned (OpenSpec.ofChange eventBuildsWrong)

/-- 'datakitlaw14.EventNone': WHATEVER THE INPUT: true; the input reads as it did. -/
def eventNoneSpec : ChangeSpec := { name := "eventNone", fn := fun _ => fun
  | [d] => { results := [.lit (.bool true)], args := [d] }
  | _ => none }
def eventNoneRow : OpenClaim := { program := "ytpcbhneaaibfiaadoor", sum := "b200fdb9c13eff082a369923b40b644b017370de43c0762c31df2a3892599536", func := "datakit/datakitlaw14.EventNone", spec := "eventNone", inPlace := ["internal/bytealg.IndexByteString", "internal/bytealg.IndexString"], recurses := true, named := ["unicode/utf8.first", "unicode/utf8.acceptRanges", "internal/bytealg.MaxLen"], loops := true, apart := false, laid := [("unicode/utf8.acceptRanges", laid_unicode_utf8_acceptRanges), ("unicode/utf8.first", laid_unicode_utf8_first)] }
def EventNoneSaid : Prop := eventNoneRow.holds Tryd.pinned (OpenSpec.ofChange eventNoneSpec)

/-- ITS FALSE NEIGHBOUR: 'it returns false'. Refute it at one input. -/
def eventNoneWrong : ChangeSpec := { name := "eventNone", fn := fun _ => fun
  | [d] => { results := [.lit (.bool false)], args := [d] }
  | _ => none }
def EventNoneWrongFalsely : Prop := eventNoneRow.holds Tryd.pinned (OpenSpec.ofChange eventNoneWrong)

/-- 'datakitlaw14.EventChecks': WHATEVER THE INPUT: true; the input reads as it did. -/
def eventChecksSpec : ChangeSpec := { name := "eventChecks", fn := fun _ => fun
  | [d] => { results := [.lit (.bool true)], args := [d] }
  | _ => none }
def eventChecksRow : OpenClaim := { program := "ytpcbhneaaibfiaadoor", sum := "b200fdb9c13eff082a369923b40b644b017370de43c0762c31df2a3892599536", func := "datakit/datakitlaw14.EventChecks", spec := "eventChecks", inPlace := ["internal/bytealg.IndexByteString", "internal/bytealg.IndexString"], recurses := true, named := ["unicode/utf8.first", "unicode/utf8.acceptRanges", "internal/bytealg.MaxLen"], loops := true, apart := false, laid := [("unicode/utf8.acceptRanges", laid_unicode_utf8_acceptRanges), ("unicode/utf8.first", laid_unicode_utf8_first)] }
def EventChecksSaid : Prop := eventChecksRow.holds Tryd.pinned (OpenSpec.ofChange eventChecksSpec)

/-- ITS FALSE NEIGHBOUR: 'it returns false'. Refute it at one input. -/
def eventChecksWrong : ChangeSpec := { name := "eventChecks", fn := fun _ => fun
  | [d] => { results := [.lit (.bool false)], args := [d] }
  | _ => none }
def EventChecksWrongFalsely : Prop := eventChecksRow.holds Tryd.pinned (OpenSpec.ofChange eventChecksWrong)

/-- 'datakitlaw14.EventTakes': WHATEVER THE INPUT: true; the input reads as it did. -/
def eventTakesSpec : ChangeSpec := { name := "eventTakes", fn := fun _ => fun
  | [d1, d2] => { results := [.lit (.bool true)], args := [d1, d2] }
  | _ => none }
def eventTakesRow : OpenClaim := { program := "ytpcbhneaaibfiaadoor", sum := "b200fdb9c13eff082a369923b40b644b017370de43c0762c31df2a3892599536", func := "datakit/datakitlaw14.EventTakes", spec := "eventTakes", inPlace := ["internal/bytealg.IndexByteString", "internal/bytealg.IndexString"], recurses := true, named := ["unicode/utf8.first", "unicode/utf8.acceptRanges", "internal/bytealg.MaxLen"], loops := true, apart := false, laid := [("unicode/utf8.acceptRanges", laid_unicode_utf8_acceptRanges), ("unicode/utf8.first", laid_unicode_utf8_first)] }
def EventTakesSaid : Prop := eventTakesRow.holds Tryd.pinned (OpenSpec.ofChange eventTakesSpec)

/-- ITS FALSE NEIGHBOUR: 'it returns false'. Refute it at one input. -/
def eventTakesWrong : ChangeSpec := { name := "eventTakes", fn := fun _ => fun
  | [d1, d2] => { results := [.lit (.bool false)], args := [d1, d2] }
  | _ => none }
def EventTakesWrongFalsely : Prop := eventTakesRow.holds Tryd.pinned (OpenSpec.ofChange eventTakesWrong)

/- THE SECOND FORM. 'bulk': how many values and letters a reading holds, each counted each time it is reached (what is shared counts as often as it is met; a slice's spare places count too). A statement '..UptoSaid' is the law's where the arguments, and the package variables that the reading takes, are together of bulk at most 1048576: NARROWER than '..Said'. Prove '..Said' where nothing that the law and all that it calls make is longer than what came in: it says more and counts as full. Else prove '..UptoSaid'. A law counts once. -/
mutual
def uptoBulk {H : Type} : DataW H → Nat
  | .lit (.string bytes) => bytes.length + 1
  | .lit _ => 1
  | .nil => 1
  | .ptr d => uptoBulk d + 1
  | .slice elems spare => uptoBulkAll elems + uptoBulkAll spare + 1
  | .agg parts => uptoBulkAll parts + 1
  | .iface _ d => uptoBulk d + 1
  | .map entries => uptoBulkEntries entries + 1
  | .held _ => 1
def uptoBulkAll {H : Type} : List (DataW H) → Nat
  | [] => 0
  | d :: r => uptoBulk d + uptoBulkAll r
def uptoBulkEntries {H : Type} : List (Lit × DataW H) → Nat
  | [] => 0
  | x :: r => uptoBulkEntry x + uptoBulkEntries r
def uptoBulkEntry {H : Type} : Lit × DataW H → Nat
  | (.string bytes, d) => bytes.length + uptoBulk d + 1
  | (_, d) => uptoBulk d + 1
 end
def uptoSmall : (H : Type) → List (DataW H) → Bool := fun _ ds => decide (uptoBulkAll ds ≤ 1048576)
def OpenSpec.upto (s : _root_.Go.ChangeSpec) : _root_.Go.OpenSpec := { _root_.Go.OpenSpec.ofChange s with cond := some uptoSmall }

/-- 'datakitlaw14.EventOf', WHERE WHAT IT READS IS OF BULK AT MOST 1048576: true; the input reads as it did. -/
def eventOfUptoRow : OpenClaim := { program := "ytpcbhneaaibfiaadoor", sum := "b200fdb9c13eff082a369923b40b644b017370de43c0762c31df2a3892599536", func := "datakit/datakitlaw14.EventOf", spec := "eventOf", inPlace := ["internal/bytealg.IndexByteString", "internal/bytealg.IndexString"], recurses := true, named := ["unicode/utf8.first", "unicode/utf8.acceptRanges", "internal/bytealg.MaxLen"], loops := true, apart := false, laid := [("unicode/utf8.acceptRanges", laid_unicode_utf8_acceptRanges), ("unicode/utf8.first", laid_unicode_utf8_first)], narrowed := true }
def EventOfUptoSaid : Prop := eventOfUptoRow.holds Tryd.pinned (OpenSpec.upto eventOfSpec)

/-- 'datakitlaw14.EventBack', WHERE WHAT IT READS IS OF BULK AT MOST 1048576: true; the input reads as it did. -/
def eventBackUptoRow : OpenClaim := { program := "ytpcbhneaaibfiaadoor", sum := "b200fdb9c13eff082a369923b40b644b017370de43c0762c31df2a3892599536", func := "datakit/datakitlaw14.EventBack", spec := "eventBack", inPlace := ["internal/bytealg.IndexByteString", "internal/bytealg.IndexString"], recurses := true, named := ["unicode/utf8.first", "unicode/utf8.acceptRanges", "internal/bytealg.MaxLen"], loops := true, apart := false, laid := [("unicode/utf8.acceptRanges", laid_unicode_utf8_acceptRanges), ("unicode/utf8.first", laid_unicode_utf8_first)], narrowed := true }
def EventBackUptoSaid : Prop := eventBackUptoRow.holds Tryd.pinned (OpenSpec.upto eventBackSpec)

/-- 'datakitlaw14.EventWhere', WHERE WHAT IT READS IS OF BULK AT MOST 1048576: true; the input reads as it did. -/
def eventWhereUptoRow : OpenClaim := { program := "ytpcbhneaaibfiaadoor", sum := "b200fdb9c13eff082a369923b40b644b017370de43c0762c31df2a3892599536", func := "datakit/datakitlaw14.EventWhere", spec := "eventWhere", inPlace := ["internal/bytealg.IndexByteString", "internal/bytealg.IndexString"], recurses := true, named := ["unicode/utf8.first", "unicode/utf8.acceptRanges", "internal/bytealg.MaxLen"], loops := true, apart := false, laid := [("unicode/utf8.acceptRanges", laid_unicode_utf8_acceptRanges), ("unicode/utf8.first", laid_unicode_utf8_first)], narrowed := true }
def EventWhereUptoSaid : Prop := eventWhereUptoRow.holds Tryd.pinned (OpenSpec.upto eventWhereSpec)

/-- 'datakitlaw14.EventBuilds', WHERE WHAT IT READS IS OF BULK AT MOST 1048576: true; the input reads as it did. -/
def eventBuildsUptoRow : OpenClaim := { program := "ytpcbhneaaibfiaadoor", sum := "b200fdb9c13eff082a369923b40b644b017370de43c0762c31df2a3892599536", func := "datakit/datakitlaw14.EventBuilds", spec := "eventBuilds", inPlace := ["internal/bytealg.IndexByteString", "internal/bytealg.IndexString"], recurses := true, named := ["unicode/utf8.first", "unicode/utf8.acceptRanges", "internal/bytealg.MaxLen"], loops := true, apart := false, laid := [("unicode/utf8.acceptRanges", laid_unicode_utf8_acceptRanges), ("unicode/utf8.first", laid_unicode_utf8_first)], narrowed := true }
def EventBuildsUptoSaid : Prop := eventBuildsUptoRow.holds Tryd.pinned (OpenSpec.upto eventBuildsSpec)

/-- 'datakitlaw14.EventNone', WHERE WHAT IT READS IS OF BULK AT MOST 1048576: true; the input reads as it did. -/
def eventNoneUptoRow : OpenClaim := { program := "ytpcbhneaaibfiaadoor", sum := "b200fdb9c13eff082a369923b40b644b017370de43c0762c31df2a3892599536", func := "datakit/datakitlaw14.EventNone", spec := "eventNone", inPlace := ["internal/bytealg.IndexByteString", "internal/bytealg.IndexString"], recurses := true, named := ["unicode/utf8.first", "unicode/utf8.acceptRanges", "internal/bytealg.MaxLen"], loops := true, apart := false, laid := [("unicode/utf8.acceptRanges", laid_unicode_utf8_acceptRanges), ("unicode/utf8.first", laid_unicode_utf8_first)], narrowed := true }
def EventNoneUptoSaid : Prop := eventNoneUptoRow.holds Tryd.pinned (OpenSpec.upto eventNoneSpec)

/-- 'datakitlaw14.EventChecks', WHERE WHAT IT READS IS OF BULK AT MOST 1048576: true; the input reads as it did. -/
def eventChecksUptoRow : OpenClaim := { program := "ytpcbhneaaibfiaadoor", sum := "b200fdb9c13eff082a369923b40b644b017370de43c0762c31df2a3892599536", func := "datakit/datakitlaw14.EventChecks", spec := "eventChecks", inPlace := ["internal/bytealg.IndexByteString", "internal/bytealg.IndexString"], recurses := true, named := ["unicode/utf8.first", "unicode/utf8.acceptRanges", "internal/bytealg.MaxLen"], loops := true, apart := false, laid := [("unicode/utf8.acceptRanges", laid_unicode_utf8_acceptRanges), ("unicode/utf8.first", laid_unicode_utf8_first)], narrowed := true }
def EventChecksUptoSaid : Prop := eventChecksUptoRow.holds Tryd.pinned (OpenSpec.upto eventChecksSpec)

/-- 'datakitlaw14.EventTakes', WHERE WHAT IT READS IS OF BULK AT MOST 1048576: true; the input reads as it did. -/
def eventTakesUptoRow : OpenClaim := { program := "ytpcbhneaaibfiaadoor", sum := "b200fdb9c13eff082a369923b40b644b017370de43c0762c31df2a3892599536", func := "datakit/datakitlaw14.EventTakes", spec := "eventTakes", inPlace := ["internal/bytealg.IndexByteString", "internal/bytealg.IndexString"], recurses := true, named := ["unicode/utf8.first", "unicode/utf8.acceptRanges", "internal/bytealg.MaxLen"], loops := true, apart := false, laid := [("unicode/utf8.acceptRanges", laid_unicode_utf8_acceptRanges), ("unicode/utf8.first", laid_unicode_utf8_first)], narrowed := true }
def EventTakesUptoSaid : Prop := eventTakesUptoRow.holds Tryd.pinned (OpenSpec.upto eventTakesSpec)

end Rows
end Go.Proofs.YtpcbhneaaibfiaaDoor
