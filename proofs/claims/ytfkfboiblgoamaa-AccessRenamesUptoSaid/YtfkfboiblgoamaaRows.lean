/-
  NARROWER THAN 'FOR EVERY INPUT', by the rows' own cells (each row's printed sentence says how): AccessWalks: loops · AccessPaths: loops · AccessGets: loops · AccessRenames: loops · AccessRemoves: loops.
  DERIVED. THE GIVEN ROWS OF THIS SEAT. 5 by the template 'for every input the law returns true; each argument reads behind the call as it read before'; 0 by the template 'total and deterministic' (their statements: YtfkfboiblgoamaaTotals.lean).
  GIVEN WITH THE SEED: the statements are not yours to turn. If you find one false, say at which input.
  Laid BY PROGRAM, IN A SANDBOX (cutbox-rows.mjs): the forced cells as the released guide's own fill.sh prints them over the translation 1b44f8985d7ae1de… (all of the seat's roots in one cut). By AI agents, Wed Nov 11 2026. No macro, syntax, notation, axiom, sorry.
-/
import Derived.Test.YtfkfboiblgoamaaChecked
import GoSem.Claim
import GoSem.ClaimJoined
import GoSem.ClaimMapViews
import Derived.JoinedTies
import Derived.KernelRfl
namespace Go.Proofs.Ytfkfboiblgoamaa
/- THE CELL 'sum', in the pinned program and in every row, IS THE sha256 OF THE DUMP (.gsa) THAT YtfkfboiblgoamaaProg.lean LOADS. Nothing in Lean hashes anything: it is a label: what it is worth is what the hold of that sum in a sandbox is worth. -/
noncomputable def Try.pinned : Pinned := { name := "ytfkfboiblgoamaa", sum := "1b44f8985d7ae1de2b97b0e92aa0dda789e395ffd64fdb77c13a3cfbe255f76c", checked := Try.checked }
namespace Rows
def none {H : Type} : Left H := { results := [], args := [] }

/-- 'datakitlaw09.AccessWalks': WHATEVER THE INPUT: true; the input reads as it did. -/
def accessWalksSpec : ChangeSpec := { name := "accessWalks", fn := fun _ => fun
  | [d1, d2] => { results := [.lit (.bool true)], args := [d1, d2] }
  | _ => none }
def accessWalksRow : OpenClaim := { program := "ytfkfboiblgoamaa", sum := "1b44f8985d7ae1de2b97b0e92aa0dda789e395ffd64fdb77c13a3cfbe255f76c", func := "datakit/datakitlaw09.AccessWalks", spec := "accessWalks", unfollowed := true, recurses := true, loops := true, apart := false }
def AccessWalksSaid : Prop := accessWalksRow.holds Try.pinned (OpenSpec.ofChange accessWalksSpec)

/-- ITS FALSE NEIGHBOUR: 'it returns false'. Refute it at one input. -/
def accessWalksWrong : ChangeSpec := { name := "accessWalks", fn := fun _ => fun
  | [d1, d2] => { results := [.lit (.bool false)], args := [d1, d2] }
  | _ => none }
def AccessWalksWrongFalsely : Prop := accessWalksRow.holds Try.pinned (OpenSpec.ofChange accessWalksWrong)

/-- 'datakitlaw09.AccessPaths': WHATEVER THE INPUT: true; the input reads as it did. -/
def accessPathsSpec : ChangeSpec := { name := "accessPaths", fn := fun _ => fun
  | [d] => { results := [.lit (.bool true)], args := [d] }
  | _ => none }
def accessPathsRow : OpenClaim := { program := "ytfkfboiblgoamaa", sum := "1b44f8985d7ae1de2b97b0e92aa0dda789e395ffd64fdb77c13a3cfbe255f76c", func := "datakit/datakitlaw09.AccessPaths", spec := "accessPaths", unfollowed := true, recurses := true, loops := true, apart := false }
def AccessPathsSaid : Prop := accessPathsRow.holds Try.pinned (OpenSpec.ofChange accessPathsSpec)

/-- ITS FALSE NEIGHBOUR: 'it returns false'. Refute it at one input. -/
def accessPathsWrong : ChangeSpec := { name := "accessPaths", fn := fun _ => fun
  | [d] => { results := [.lit (.bool false)], args := [d] }
  | _ => none }
def AccessPathsWrongFalsely : Prop := accessPathsRow.holds Try.pinned (OpenSpec.ofChange accessPathsWrong)

/-- 'datakitlaw09.AccessGets': WHATEVER THE INPUT: true; the input reads as it did. -/
def accessGetsSpec : ChangeSpec := { name := "accessGets", fn := fun _ => fun
  | [d1, d2] => { results := [.lit (.bool true)], args := [d1, d2] }
  | _ => none }
def accessGetsRow : OpenClaim := { program := "ytfkfboiblgoamaa", sum := "1b44f8985d7ae1de2b97b0e92aa0dda789e395ffd64fdb77c13a3cfbe255f76c", func := "datakit/datakitlaw09.AccessGets", spec := "accessGets", recurses := true, loops := true, apart := false }
def AccessGetsSaid : Prop := accessGetsRow.holds Try.pinned (OpenSpec.ofChange accessGetsSpec)

/-- ITS FALSE NEIGHBOUR: 'it returns false'. Refute it at one input. -/
def accessGetsWrong : ChangeSpec := { name := "accessGets", fn := fun _ => fun
  | [d1, d2] => { results := [.lit (.bool false)], args := [d1, d2] }
  | _ => none }
def AccessGetsWrongFalsely : Prop := accessGetsRow.holds Try.pinned (OpenSpec.ofChange accessGetsWrong)

/-- 'datakitlaw09.AccessRenames': WHATEVER THE INPUT: true; the input reads as it did. -/
def accessRenamesSpec : ChangeSpec := { name := "accessRenames", fn := fun _ => fun
  | [d1, d2, d3] => { results := [.lit (.bool true)], args := [d1, d2, d3] }
  | _ => none }
def accessRenamesRow : OpenClaim := { program := "ytfkfboiblgoamaa", sum := "1b44f8985d7ae1de2b97b0e92aa0dda789e395ffd64fdb77c13a3cfbe255f76c", func := "datakit/datakitlaw09.AccessRenames", spec := "accessRenames", unfollowed := true, recurses := true, loops := true, apart := false }
def AccessRenamesSaid : Prop := accessRenamesRow.holds Try.pinned (OpenSpec.ofChange accessRenamesSpec)

/-- ITS FALSE NEIGHBOUR: 'it returns false'. Refute it at one input. -/
def accessRenamesWrong : ChangeSpec := { name := "accessRenames", fn := fun _ => fun
  | [d1, d2, d3] => { results := [.lit (.bool false)], args := [d1, d2, d3] }
  | _ => none }
def AccessRenamesWrongFalsely : Prop := accessRenamesRow.holds Try.pinned (OpenSpec.ofChange accessRenamesWrong)

/-- 'datakitlaw09.AccessRemoves': WHATEVER THE INPUT: true; the input reads as it did. -/
def accessRemovesSpec : ChangeSpec := { name := "accessRemoves", fn := fun _ => fun
  | [d1, d2] => { results := [.lit (.bool true)], args := [d1, d2] }
  | _ => none }
def accessRemovesRow : OpenClaim := { program := "ytfkfboiblgoamaa", sum := "1b44f8985d7ae1de2b97b0e92aa0dda789e395ffd64fdb77c13a3cfbe255f76c", func := "datakit/datakitlaw09.AccessRemoves", spec := "accessRemoves", unfollowed := true, recurses := true, loops := true, apart := false }
def AccessRemovesSaid : Prop := accessRemovesRow.holds Try.pinned (OpenSpec.ofChange accessRemovesSpec)

/-- ITS FALSE NEIGHBOUR: 'it returns false'. Refute it at one input. -/
def accessRemovesWrong : ChangeSpec := { name := "accessRemoves", fn := fun _ => fun
  | [d1, d2] => { results := [.lit (.bool false)], args := [d1, d2] }
  | _ => none }
def AccessRemovesWrongFalsely : Prop := accessRemovesRow.holds Try.pinned (OpenSpec.ofChange accessRemovesWrong)

/- THE SECOND FORM. 'bulk': how many values and letters a reading holds, each counted each time it is reached (what is shared counts as often as it is met; a slice's spare places count too). A statement '..UptoSaid' is the law's where the arguments, and the package variables that the reading takes, are together of bulk at most 1048576: NARROWER than '..Said'. Prove '..Said' where nothing that the law and all that it calls make is longer than what came in: it says more and counts as full. Else prove '..UptoSaid'. A law counts once. -/
mutual
def uptoBulk {H : Type} : DataW H → Nat
  | .lit (.string bytes) => bytes.length + 1
  | .lit _ => 1
  | .nil => 1
  | .ptr d => uptoBulk d + 1
  | .slice elems spare => uptoBulkAll elems + uptoBulkAll spare + 1
  | .agg parts => uptoBulkAll parts + 1
  | .iface _ d => uptoBulk d + 1
  | .map entries => uptoBulkEntries entries + 1
  | .held _ => 1
def uptoBulkAll {H : Type} : List (DataW H) → Nat
  | [] => 0
  | d :: r => uptoBulk d + uptoBulkAll r
def uptoBulkEntries {H : Type} : List (Lit × DataW H) → Nat
  | [] => 0
  | x :: r => uptoBulkEntry x + uptoBulkEntries r
def uptoBulkEntry {H : Type} : Lit × DataW H → Nat
  | (.string bytes, d) => bytes.length + uptoBulk d + 1
  | (_, d) => uptoBulk d + 1
 end
def uptoSmall : (H : Type) → List (DataW H) → Bool := fun _ ds => decide (uptoBulkAll ds ≤ 1048576)
def OpenSpec.upto (s : _root_.Go.ChangeSpec) : _root_.Go.OpenSpec := { _root_.Go.OpenSpec.ofChange s with cond := some uptoSmall }

/-- 'datakitlaw09.AccessWalks', WHERE WHAT IT READS IS OF BULK AT MOST 1048576: true; the input reads as it did. -/
def accessWalksUptoRow : OpenClaim := { program := "ytfkfboiblgoamaa", sum := "1b44f8985d7ae1de2b97b0e92aa0dda789e395ffd64fdb77c13a3cfbe255f76c", func := "datakit/datakitlaw09.AccessWalks", spec := "accessWalks", unfollowed := true, recurses := true, loops := true, apart := false, narrowed := true }
def AccessWalksUptoSaid : Prop := accessWalksUptoRow.holds Try.pinned (OpenSpec.upto accessWalksSpec)

/-- 'datakitlaw09.AccessPaths', WHERE WHAT IT READS IS OF BULK AT MOST 1048576: true; the input reads as it did. -/
def accessPathsUptoRow : OpenClaim := { program := "ytfkfboiblgoamaa", sum := "1b44f8985d7ae1de2b97b0e92aa0dda789e395ffd64fdb77c13a3cfbe255f76c", func := "datakit/datakitlaw09.AccessPaths", spec := "accessPaths", unfollowed := true, recurses := true, loops := true, apart := false, narrowed := true }
def AccessPathsUptoSaid : Prop := accessPathsUptoRow.holds Try.pinned (OpenSpec.upto accessPathsSpec)

/-- 'datakitlaw09.AccessGets', WHERE WHAT IT READS IS OF BULK AT MOST 1048576: true; the input reads as it did. -/
def accessGetsUptoRow : OpenClaim := { program := "ytfkfboiblgoamaa", sum := "1b44f8985d7ae1de2b97b0e92aa0dda789e395ffd64fdb77c13a3cfbe255f76c", func := "datakit/datakitlaw09.AccessGets", spec := "accessGets", recurses := true, loops := true, apart := false, narrowed := true }
def AccessGetsUptoSaid : Prop := accessGetsUptoRow.holds Try.pinned (OpenSpec.upto accessGetsSpec)

/-- 'datakitlaw09.AccessRenames', WHERE WHAT IT READS IS OF BULK AT MOST 1048576: true; the input reads as it did. -/
def accessRenamesUptoRow : OpenClaim := { program := "ytfkfboiblgoamaa", sum := "1b44f8985d7ae1de2b97b0e92aa0dda789e395ffd64fdb77c13a3cfbe255f76c", func := "datakit/datakitlaw09.AccessRenames", spec := "accessRenames", unfollowed := true, recurses := true, loops := true, apart := false, narrowed := true }
def AccessRenamesUptoSaid : Prop := accessRenamesUptoRow.holds Try.pinned (OpenSpec.upto accessRenamesSpec)

/-- 'datakitlaw09.AccessRemoves', WHERE WHAT IT READS IS OF BULK AT MOST 1048576: true; the input reads as it did. -/
def accessRemovesUptoRow : OpenClaim := { program := "ytfkfboiblgoamaa", sum := "1b44f8985d7ae1de2b97b0e92aa0dda789e395ffd64fdb77c13a3cfbe255f76c", func := "datakit/datakitlaw09.AccessRemoves", spec := "accessRemoves", unfollowed := true, recurses := true, loops := true, apart := false, narrowed := true }
def AccessRemovesUptoSaid : Prop := accessRemovesUptoRow.holds Try.pinned (OpenSpec.upto accessRemovesSpec)

end Rows
end Go.Proofs.Ytfkfboiblgoamaa
