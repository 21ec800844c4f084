/-
  DERIVED. GIVEN WITH THE SEED: THE CARDS: each row of YtfkfboiblgoamaaDoorRows.lean that lists a variable, with what it lists TIED to the program's text (the seventh form; the later family's looks); each row that meets fmt, with fmt's text TOLD by the authors' own Lean function (tested against real Go, not proved from fmt's source: count such statements apart). THE CARD IS WHAT COUNTS. Prove the row's statement (the work); the ties are given (YtfkfboiblgoamaaDoorTie.lean); close each card by the builder's one call (the guide's Derived/Test/ToyasCard.lean, 'card_holds'). Laid BY PROGRAM, IN A SANDBOX (cutbox-door.mjs). By AI agents, Wed Nov 11 2026. No macro, syntax, notation, axiom, sorry.
-/
import Derived.Test.YtfkfboiblgoamaaDoorRows
import GoSem.ClaimSeven
namespace Go.Proofs.YtfkfboiblgoamaaDoor
namespace Rows

/-- THE TIED CARD OF 'datakitlaw09.AccessSets'. -/
def accessSetsCard : Claim7 := { stood := { row := accessSetsRow, standIns := [], harness := (true, "ef3dd0ea72573ce0ab467eb4fa7a021ac02e4f5f8f7098dc39b1185dc0072fc0"), looks := false }, kinds := [], alts := [], laidByText := true, laidKinds := [.data, .pinned], laidTests := true, laidLooks := .later }
def AccessSetsCardSaid : Prop := Claim7.holds Tryd.pinned (.plain (OpenSpec.ofChange accessSetsSpec)) accessSetsCard

/-- THE TIED CARD OF 'datakitlaw09.AccessInserts'. -/
def accessInsertsCard : Claim7 := { stood := { row := accessInsertsRow, standIns := [], harness := (true, "ef3dd0ea72573ce0ab467eb4fa7a021ac02e4f5f8f7098dc39b1185dc0072fc0"), looks := false }, kinds := [], alts := [], laidByText := true, laidKinds := [.data, .pinned], laidTests := true, laidLooks := .later }
def AccessInsertsCardSaid : Prop := Claim7.holds Tryd.pinned (.plain (OpenSpec.ofChange accessInsertsSpec)) accessInsertsCard

/-- THE TIED CARD OF 'datakitlaw09.AccessSetGet'. -/
def accessSetGetCard : Claim7 := { stood := { row := accessSetGetRow, standIns := [], harness := (true, "ef3dd0ea72573ce0ab467eb4fa7a021ac02e4f5f8f7098dc39b1185dc0072fc0"), looks := false }, kinds := [], alts := [], laidByText := true, laidKinds := [.data, .pinned], laidTests := true, laidLooks := .later }
def AccessSetGetCardSaid : Prop := Claim7.holds Tryd.pinned (.plain (OpenSpec.ofChange accessSetGetSpec)) accessSetGetCard

/-- THE TIED CARD OF 'datakitlaw09.AccessUndoes'. -/
def accessUndoesCard : Claim7 := { stood := { row := accessUndoesRow, standIns := [], harness := (true, "ef3dd0ea72573ce0ab467eb4fa7a021ac02e4f5f8f7098dc39b1185dc0072fc0"), looks := false }, kinds := [], alts := [], laidByText := true, laidKinds := [.data, .pinned], laidTests := true, laidLooks := .later }
def AccessUndoesCardSaid : Prop := Claim7.holds Tryd.pinned (.plain (OpenSpec.ofChange accessUndoesSpec)) accessUndoesCard

/-- THE SECOND FORM's CARD OF 'datakitlaw09.AccessSets'. -/
def accessSetsUptoCard : Claim7 := { stood := { row := accessSetsUptoRow, standIns := [], harness := (true, "ef3dd0ea72573ce0ab467eb4fa7a021ac02e4f5f8f7098dc39b1185dc0072fc0"), looks := false }, kinds := [], alts := [], laidByText := true, laidKinds := [.data, .pinned], laidTests := true, laidLooks := .later }
def AccessSetsUptoCardSaid : Prop := Claim7.holds Tryd.pinned (.plain (OpenSpec.upto accessSetsSpec)) accessSetsUptoCard

/-- THE SECOND FORM's CARD OF 'datakitlaw09.AccessInserts'. -/
def accessInsertsUptoCard : Claim7 := { stood := { row := accessInsertsUptoRow, standIns := [], harness := (true, "ef3dd0ea72573ce0ab467eb4fa7a021ac02e4f5f8f7098dc39b1185dc0072fc0"), looks := false }, kinds := [], alts := [], laidByText := true, laidKinds := [.data, .pinned], laidTests := true, laidLooks := .later }
def AccessInsertsUptoCardSaid : Prop := Claim7.holds Tryd.pinned (.plain (OpenSpec.upto accessInsertsSpec)) accessInsertsUptoCard

/-- THE SECOND FORM's CARD OF 'datakitlaw09.AccessSetGet'. -/
def accessSetGetUptoCard : Claim7 := { stood := { row := accessSetGetUptoRow, standIns := [], harness := (true, "ef3dd0ea72573ce0ab467eb4fa7a021ac02e4f5f8f7098dc39b1185dc0072fc0"), looks := false }, kinds := [], alts := [], laidByText := true, laidKinds := [.data, .pinned], laidTests := true, laidLooks := .later }
def AccessSetGetUptoCardSaid : Prop := Claim7.holds Tryd.pinned (.plain (OpenSpec.upto accessSetGetSpec)) accessSetGetUptoCard

/-- THE SECOND FORM's CARD OF 'datakitlaw09.AccessUndoes'. -/
def accessUndoesUptoCard : Claim7 := { stood := { row := accessUndoesUptoRow, standIns := [], harness := (true, "ef3dd0ea72573ce0ab467eb4fa7a021ac02e4f5f8f7098dc39b1185dc0072fc0"), looks := false }, kinds := [], alts := [], laidByText := true, laidKinds := [.data, .pinned], laidTests := true, laidLooks := .later }
def AccessUndoesUptoCardSaid : Prop := Claim7.holds Tryd.pinned (.plain (OpenSpec.upto accessUndoesSpec)) accessUndoesUptoCard
end Rows
end Go.Proofs.YtfkfboiblgoamaaDoor
