/-
  No cell of these rows narrows 'for every input' (looked for: loops, veiled, ifaces, maps, wideKeys, modest, calm, conditions, laid).
  DERIVED. THE GIVEN ROWS OF THIS SEAT. 9 by the template 'for every input the law returns true; each argument reads behind the call as it read before'; 0 by the template 'total and deterministic' (their statements: YthbjkibclbgjoaaTotals.lean).
  GIVEN WITH THE SEED: the statements are not yours to turn. If you find one false, say at which input.
  Laid BY PROGRAM, IN A SANDBOX (cutbox-rows.mjs): the forced cells as the released guide's own fill.sh prints them over the translation 774ca96a89a7f9ad… (all of the seat's roots in one cut). By AI agents, Wed Nov 11 2026. No macro, syntax, notation, axiom, sorry.
-/
import Derived.Test.YthbjkibclbgjoaaChecked
import GoSem.Claim
import GoSem.ClaimJoined
import GoSem.ClaimMapViews
import Derived.JoinedTies
import Derived.KernelRfl
namespace Go.Proofs.Ythbjkibclbgjoaa
/- THE CELL 'sum', in the pinned program and in every row, IS THE sha256 OF THE DUMP (.gsa) THAT YthbjkibclbgjoaaProg.lean LOADS. Nothing in Lean hashes anything: it is a label: what it is worth is what the hold of that sum in a sandbox is worth. -/
noncomputable def Try.pinned : Pinned := { name := "ythbjkibclbgjoaa", sum := "774ca96a89a7f9ad76465599888a69493d2d965054d0e1b60518c28cf183c7af", checked := Try.checked }
namespace Rows
def none {H : Type} : Left H := { results := [], args := [] }

/-- 'datakitlaw05.MomentTexts': WHATEVER THE INPUT: true; the input reads as it did. -/
def momentTextsSpec : ChangeSpec := { name := "momentTexts", fn := fun _ => fun
  | [d] => { results := [.lit (.bool true)], args := [d] }
  | _ => none }
def momentTextsRow : OpenClaim := { program := "ythbjkibclbgjoaa", sum := "774ca96a89a7f9ad76465599888a69493d2d965054d0e1b60518c28cf183c7af", func := "datakit/datakitlaw05.MomentTexts", spec := "momentTexts", apart := false }
def MomentTextsSaid : Prop := momentTextsRow.holds Try.pinned (OpenSpec.ofChange momentTextsSpec)

/-- ITS FALSE NEIGHBOUR: 'it returns false'. Refute it at one input. -/
def momentTextsWrong : ChangeSpec := { name := "momentTexts", fn := fun _ => fun
  | [d] => { results := [.lit (.bool false)], args := [d] }
  | _ => none }
def MomentTextsWrongFalsely : Prop := momentTextsRow.holds Try.pinned (OpenSpec.ofChange momentTextsWrong)

/-- 'datakitlaw05.MomentParses': WHATEVER THE INPUT: true; the input reads as it did. -/
def momentParsesSpec : ChangeSpec := { name := "momentParses", fn := fun _ => fun
  | [d] => { results := [.lit (.bool true)], args := [d] }
  | _ => none }
def momentParsesRow : OpenClaim := { program := "ythbjkibclbgjoaa", sum := "774ca96a89a7f9ad76465599888a69493d2d965054d0e1b60518c28cf183c7af", func := "datakit/datakitlaw05.MomentParses", spec := "momentParses", apart := false }
def MomentParsesSaid : Prop := momentParsesRow.holds Try.pinned (OpenSpec.ofChange momentParsesSpec)

/-- ITS FALSE NEIGHBOUR: 'it returns false'. Refute it at one input. -/
def momentParsesWrong : ChangeSpec := { name := "momentParses", fn := fun _ => fun
  | [d] => { results := [.lit (.bool false)], args := [d] }
  | _ => none }
def MomentParsesWrongFalsely : Prop := momentParsesRow.holds Try.pinned (OpenSpec.ofChange momentParsesWrong)

/-- 'datakitlaw05.MomentBack': WHATEVER THE INPUT: true; the input reads as it did. -/
def momentBackSpec : ChangeSpec := { name := "momentBack", fn := fun _ => fun
  | [d1, d2] => { results := [.lit (.bool true)], args := [d1, d2] }
  | _ => none }
def momentBackRow : OpenClaim := { program := "ythbjkibclbgjoaa", sum := "774ca96a89a7f9ad76465599888a69493d2d965054d0e1b60518c28cf183c7af", func := "datakit/datakitlaw05.MomentBack", spec := "momentBack", apart := false }
def MomentBackSaid : Prop := momentBackRow.holds Try.pinned (OpenSpec.ofChange momentBackSpec)

/-- ITS FALSE NEIGHBOUR: 'it returns false'. Refute it at one input. -/
def momentBackWrong : ChangeSpec := { name := "momentBack", fn := fun _ => fun
  | [d1, d2] => { results := [.lit (.bool false)], args := [d1, d2] }
  | _ => none }
def MomentBackWrongFalsely : Prop := momentBackRow.holds Try.pinned (OpenSpec.ofChange momentBackWrong)

/-- 'datakitlaw05.MomentBetween': WHATEVER THE INPUT: true; the input reads as it did. -/
def momentBetweenSpec : ChangeSpec := { name := "momentBetween", fn := fun _ => fun
  | [d1, d2] => { results := [.lit (.bool true)], args := [d1, d2] }
  | _ => none }
def momentBetweenRow : OpenClaim := { program := "ythbjkibclbgjoaa", sum := "774ca96a89a7f9ad76465599888a69493d2d965054d0e1b60518c28cf183c7af", func := "datakit/datakitlaw05.MomentBetween", spec := "momentBetween", apart := false }
def MomentBetweenSaid : Prop := momentBetweenRow.holds Try.pinned (OpenSpec.ofChange momentBetweenSpec)

/-- ITS FALSE NEIGHBOUR: 'it returns false'. Refute it at one input. -/
def momentBetweenWrong : ChangeSpec := { name := "momentBetween", fn := fun _ => fun
  | [d1, d2] => { results := [.lit (.bool false)], args := [d1, d2] }
  | _ => none }
def MomentBetweenWrongFalsely : Prop := momentBetweenRow.holds Try.pinned (OpenSpec.ofChange momentBetweenWrong)

/-- 'datakitlaw05.MomentZones': WHATEVER THE INPUT: true; the input reads as it did. -/
def momentZonesSpec : ChangeSpec := { name := "momentZones", fn := fun _ => fun
  | [d1, d2] => { results := [.lit (.bool true)], args := [d1, d2] }
  | _ => none }
def momentZonesRow : OpenClaim := { program := "ythbjkibclbgjoaa", sum := "774ca96a89a7f9ad76465599888a69493d2d965054d0e1b60518c28cf183c7af", func := "datakit/datakitlaw05.MomentZones", spec := "momentZones", apart := false }
def MomentZonesSaid : Prop := momentZonesRow.holds Try.pinned (OpenSpec.ofChange momentZonesSpec)

/-- ITS FALSE NEIGHBOUR: 'it returns false'. Refute it at one input. -/
def momentZonesWrong : ChangeSpec := { name := "momentZones", fn := fun _ => fun
  | [d1, d2] => { results := [.lit (.bool false)], args := [d1, d2] }
  | _ => none }
def MomentZonesWrongFalsely : Prop := momentZonesRow.holds Try.pinned (OpenSpec.ofChange momentZonesWrong)

/-- 'datakitlaw05.MomentShifts': WHATEVER THE INPUT: true; the input reads as it did. -/
def momentShiftsSpec : ChangeSpec := { name := "momentShifts", fn := fun _ => fun
  | [d1, d2, d3] => { results := [.lit (.bool true)], args := [d1, d2, d3] }
  | _ => none }
def momentShiftsRow : OpenClaim := { program := "ythbjkibclbgjoaa", sum := "774ca96a89a7f9ad76465599888a69493d2d965054d0e1b60518c28cf183c7af", func := "datakit/datakitlaw05.MomentShifts", spec := "momentShifts", apart := false }
def MomentShiftsSaid : Prop := momentShiftsRow.holds Try.pinned (OpenSpec.ofChange momentShiftsSpec)

/-- ITS FALSE NEIGHBOUR: 'it returns false'. Refute it at one input. -/
def momentShiftsWrong : ChangeSpec := { name := "momentShifts", fn := fun _ => fun
  | [d1, d2, d3] => { results := [.lit (.bool false)], args := [d1, d2, d3] }
  | _ => none }
def MomentShiftsWrongFalsely : Prop := momentShiftsRow.holds Try.pinned (OpenSpec.ofChange momentShiftsWrong)

/-- 'datakitlaw05.MomentMoves': WHATEVER THE INPUT: true; the input reads as it did. -/
def momentMovesSpec : ChangeSpec := { name := "momentMoves", fn := fun _ => fun
  | [d1, d2, d3, d4] => { results := [.lit (.bool true)], args := [d1, d2, d3, d4] }
  | _ => none }
def momentMovesRow : OpenClaim := { program := "ythbjkibclbgjoaa", sum := "774ca96a89a7f9ad76465599888a69493d2d965054d0e1b60518c28cf183c7af", func := "datakit/datakitlaw05.MomentMoves", spec := "momentMoves", apart := false }
def MomentMovesSaid : Prop := momentMovesRow.holds Try.pinned (OpenSpec.ofChange momentMovesSpec)

/-- ITS FALSE NEIGHBOUR: 'it returns false'. Refute it at one input. -/
def momentMovesWrong : ChangeSpec := { name := "momentMoves", fn := fun _ => fun
  | [d1, d2, d3, d4] => { results := [.lit (.bool false)], args := [d1, d2, d3, d4] }
  | _ => none }
def MomentMovesWrongFalsely : Prop := momentMovesRow.holds Try.pinned (OpenSpec.ofChange momentMovesWrong)

/-- 'datakitlaw05.MomentCompares': WHATEVER THE INPUT: true; the input reads as it did. -/
def momentComparesSpec : ChangeSpec := { name := "momentCompares", fn := fun _ => fun
  | [d1, d2] => { results := [.lit (.bool true)], args := [d1, d2] }
  | _ => none }
def momentComparesRow : OpenClaim := { program := "ythbjkibclbgjoaa", sum := "774ca96a89a7f9ad76465599888a69493d2d965054d0e1b60518c28cf183c7af", func := "datakit/datakitlaw05.MomentCompares", spec := "momentCompares", apart := false }
def MomentComparesSaid : Prop := momentComparesRow.holds Try.pinned (OpenSpec.ofChange momentComparesSpec)

/-- ITS FALSE NEIGHBOUR: 'it returns false'. Refute it at one input. -/
def momentComparesWrong : ChangeSpec := { name := "momentCompares", fn := fun _ => fun
  | [d1, d2] => { results := [.lit (.bool false)], args := [d1, d2] }
  | _ => none }
def MomentComparesWrongFalsely : Prop := momentComparesRow.holds Try.pinned (OpenSpec.ofChange momentComparesWrong)

/-- 'datakitlaw05.MomentOrder': WHATEVER THE INPUT: true; the input reads as it did. -/
def momentOrderSpec : ChangeSpec := { name := "momentOrder", fn := fun _ => fun
  | [d1, d2, d3, d4] => { results := [.lit (.bool true)], args := [d1, d2, d3, d4] }
  | _ => none }
def momentOrderRow : OpenClaim := { program := "ythbjkibclbgjoaa", sum := "774ca96a89a7f9ad76465599888a69493d2d965054d0e1b60518c28cf183c7af", func := "datakit/datakitlaw05.MomentOrder", spec := "momentOrder", apart := false }
def MomentOrderSaid : Prop := momentOrderRow.holds Try.pinned (OpenSpec.ofChange momentOrderSpec)

/-- ITS FALSE NEIGHBOUR: 'it returns false'. Refute it at one input. -/
def momentOrderWrong : ChangeSpec := { name := "momentOrder", fn := fun _ => fun
  | [d1, d2, d3, d4] => { results := [.lit (.bool false)], args := [d1, d2, d3, d4] }
  | _ => none }
def MomentOrderWrongFalsely : Prop := momentOrderRow.holds Try.pinned (OpenSpec.ofChange momentOrderWrong)

/- THE SECOND FORM. 'bulk': how many values and letters a reading holds, each counted each time it is reached (what is shared counts as often as it is met; a slice's spare places count too). A statement '..UptoSaid' is the law's where the arguments, and the package variables that the reading takes, are together of bulk at most 1048576: NARROWER than '..Said'. Prove '..Said' where nothing that the law and all that it calls make is longer than what came in: it says more and counts as full. Else prove '..UptoSaid'. A law counts once. -/
mutual
def uptoBulk {H : Type} : DataW H → Nat
  | .lit (.string bytes) => bytes.length + 1
  | .lit _ => 1
  | .nil => 1
  | .ptr d => uptoBulk d + 1
  | .slice elems spare => uptoBulkAll elems + uptoBulkAll spare + 1
  | .agg parts => uptoBulkAll parts + 1
  | .iface _ d => uptoBulk d + 1
  | .map entries => uptoBulkEntries entries + 1
  | .held _ => 1
def uptoBulkAll {H : Type} : List (DataW H) → Nat
  | [] => 0
  | d :: r => uptoBulk d + uptoBulkAll r
def uptoBulkEntries {H : Type} : List (Lit × DataW H) → Nat
  | [] => 0
  | x :: r => uptoBulkEntry x + uptoBulkEntries r
def uptoBulkEntry {H : Type} : Lit × DataW H → Nat
  | (.string bytes, d) => bytes.length + uptoBulk d + 1
  | (_, d) => uptoBulk d + 1
 end
def uptoSmall : (H : Type) → List (DataW H) → Bool := fun _ ds => decide (uptoBulkAll ds ≤ 1048576)
def OpenSpec.upto (s : _root_.Go.ChangeSpec) : _root_.Go.OpenSpec := { _root_.Go.OpenSpec.ofChange s with cond := some uptoSmall }

/-- 'datakitlaw05.MomentTexts', WHERE WHAT IT READS IS OF BULK AT MOST 1048576: true; the input reads as it did. -/
def momentTextsUptoRow : OpenClaim := { program := "ythbjkibclbgjoaa", sum := "774ca96a89a7f9ad76465599888a69493d2d965054d0e1b60518c28cf183c7af", func := "datakit/datakitlaw05.MomentTexts", spec := "momentTexts", apart := false, narrowed := true }
def MomentTextsUptoSaid : Prop := momentTextsUptoRow.holds Try.pinned (OpenSpec.upto momentTextsSpec)

/-- 'datakitlaw05.MomentParses', WHERE WHAT IT READS IS OF BULK AT MOST 1048576: true; the input reads as it did. -/
def momentParsesUptoRow : OpenClaim := { program := "ythbjkibclbgjoaa", sum := "774ca96a89a7f9ad76465599888a69493d2d965054d0e1b60518c28cf183c7af", func := "datakit/datakitlaw05.MomentParses", spec := "momentParses", apart := false, narrowed := true }
def MomentParsesUptoSaid : Prop := momentParsesUptoRow.holds Try.pinned (OpenSpec.upto momentParsesSpec)

/-- 'datakitlaw05.MomentBack', WHERE WHAT IT READS IS OF BULK AT MOST 1048576: true; the input reads as it did. -/
def momentBackUptoRow : OpenClaim := { program := "ythbjkibclbgjoaa", sum := "774ca96a89a7f9ad76465599888a69493d2d965054d0e1b60518c28cf183c7af", func := "datakit/datakitlaw05.MomentBack", spec := "momentBack", apart := false, narrowed := true }
def MomentBackUptoSaid : Prop := momentBackUptoRow.holds Try.pinned (OpenSpec.upto momentBackSpec)

/-- 'datakitlaw05.MomentBetween', WHERE WHAT IT READS IS OF BULK AT MOST 1048576: true; the input reads as it did. -/
def momentBetweenUptoRow : OpenClaim := { program := "ythbjkibclbgjoaa", sum := "774ca96a89a7f9ad76465599888a69493d2d965054d0e1b60518c28cf183c7af", func := "datakit/datakitlaw05.MomentBetween", spec := "momentBetween", apart := false, narrowed := true }
def MomentBetweenUptoSaid : Prop := momentBetweenUptoRow.holds Try.pinned (OpenSpec.upto momentBetweenSpec)

/-- 'datakitlaw05.MomentZones', WHERE WHAT IT READS IS OF BULK AT MOST 1048576: true; the input reads as it did. -/
def momentZonesUptoRow : OpenClaim := { program := "ythbjkibclbgjoaa", sum := "774ca96a89a7f9ad76465599888a69493d2d965054d0e1b60518c28cf183c7af", func := "datakit/datakitlaw05.MomentZones", spec := "momentZones", apart := false, narrowed := true }
def MomentZonesUptoSaid : Prop := momentZonesUptoRow.holds Try.pinned (OpenSpec.upto momentZonesSpec)

/-- 'datakitlaw05.MomentShifts', WHERE WHAT IT READS IS OF BULK AT MOST 1048576: true; the input reads as it did. -/
def momentShiftsUptoRow : OpenClaim := { program := "ythbjkibclbgjoaa", sum := "774ca96a89a7f9ad76465599888a69493d2d965054d0e1b60518c28cf183c7af", func := "datakit/datakitlaw05.MomentShifts", spec := "momentShifts", apart := false, narrowed := true }
def MomentShiftsUptoSaid : Prop := momentShiftsUptoRow.holds Try.pinned (OpenSpec.upto momentShiftsSpec)

/-- 'datakitlaw05.MomentMoves', WHERE WHAT IT READS IS OF BULK AT MOST 1048576: true; the input reads as it did. -/
def momentMovesUptoRow : OpenClaim := { program := "ythbjkibclbgjoaa", sum := "774ca96a89a7f9ad76465599888a69493d2d965054d0e1b60518c28cf183c7af", func := "datakit/datakitlaw05.MomentMoves", spec := "momentMoves", apart := false, narrowed := true }
def MomentMovesUptoSaid : Prop := momentMovesUptoRow.holds Try.pinned (OpenSpec.upto momentMovesSpec)

/-- 'datakitlaw05.MomentCompares', WHERE WHAT IT READS IS OF BULK AT MOST 1048576: true; the input reads as it did. -/
def momentComparesUptoRow : OpenClaim := { program := "ythbjkibclbgjoaa", sum := "774ca96a89a7f9ad76465599888a69493d2d965054d0e1b60518c28cf183c7af", func := "datakit/datakitlaw05.MomentCompares", spec := "momentCompares", apart := false, narrowed := true }
def MomentComparesUptoSaid : Prop := momentComparesUptoRow.holds Try.pinned (OpenSpec.upto momentComparesSpec)

/-- 'datakitlaw05.MomentOrder', WHERE WHAT IT READS IS OF BULK AT MOST 1048576: true; the input reads as it did. -/
def momentOrderUptoRow : OpenClaim := { program := "ythbjkibclbgjoaa", sum := "774ca96a89a7f9ad76465599888a69493d2d965054d0e1b60518c28cf183c7af", func := "datakit/datakitlaw05.MomentOrder", spec := "momentOrder", apart := false, narrowed := true }
def MomentOrderUptoSaid : Prop := momentOrderUptoRow.holds Try.pinned (OpenSpec.upto momentOrderSpec)

end Rows
end Go.Proofs.Ythbjkibclbgjoaa
