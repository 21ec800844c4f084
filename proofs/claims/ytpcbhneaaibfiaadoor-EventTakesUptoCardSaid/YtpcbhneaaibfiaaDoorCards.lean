/-
  DERIVED. GIVEN WITH THE SEED: THE CARDS: each row of YtpcbhneaaibfiaaDoorRows.lean that lists a variable, with what it lists TIED to the program's text (the seventh form; the later family's looks); each row that meets fmt, with fmt's text TOLD by the authors' own Lean function (tested against real Go, not proved from fmt's source: count such statements apart). THE CARD IS WHAT COUNTS. Prove the row's statement (the work); the ties are given (YtpcbhneaaibfiaaDoorTie.lean); close each card by the builder's one call (the guide's Derived/Test/ToyasCard.lean, 'card_holds'). Laid BY PROGRAM, IN A SANDBOX (cutbox-door.mjs). By AI agents, Wed Nov 11 2026. No macro, syntax, notation, axiom, sorry.
-/
import Derived.Test.YtpcbhneaaibfiaaDoorRows
import GoSem.ClaimSeven
namespace Go.Proofs.YtpcbhneaaibfiaaDoor
namespace Rows

/-- THE TIED CARD OF 'datakitlaw14.EventOf'. -/
def eventOfCard : Claim7 := { stood := { row := eventOfRow, standIns := [], harness := (true, "ce29fc968172cabbdd944ed2dde3daa168c6a9ebfcd7fef535c921bd5d9ca053"), looks := false }, kinds := [], alts := [], laidByText := true, laidKinds := [.data, .pinned], laidTests := true, laidLooks := .later }
def EventOfCardSaid : Prop := Claim7.holds Tryd.pinned (.plain (OpenSpec.ofChange eventOfSpec)) eventOfCard

/-- THE TIED CARD OF 'datakitlaw14.EventBack'. -/
def eventBackCard : Claim7 := { stood := { row := eventBackRow, standIns := [], harness := (true, "ce29fc968172cabbdd944ed2dde3daa168c6a9ebfcd7fef535c921bd5d9ca053"), looks := false }, kinds := [], alts := [], laidByText := true, laidKinds := [.data, .pinned], laidTests := true, laidLooks := .later }
def EventBackCardSaid : Prop := Claim7.holds Tryd.pinned (.plain (OpenSpec.ofChange eventBackSpec)) eventBackCard

/-- THE TIED CARD OF 'datakitlaw14.EventWhere'. -/
def eventWhereCard : Claim7 := { stood := { row := eventWhereRow, standIns := [], harness := (true, "ce29fc968172cabbdd944ed2dde3daa168c6a9ebfcd7fef535c921bd5d9ca053"), looks := false }, kinds := [], alts := [], laidByText := true, laidKinds := [.data, .pinned], laidTests := true, laidLooks := .later }
def EventWhereCardSaid : Prop := Claim7.holds Tryd.pinned (.plain (OpenSpec.ofChange eventWhereSpec)) eventWhereCard

/-- THE TIED CARD OF 'datakitlaw14.EventBuilds'. -/
def eventBuildsCard : Claim7 := { stood := { row := eventBuildsRow, standIns := [], harness := (true, "ce29fc968172cabbdd944ed2dde3daa168c6a9ebfcd7fef535c921bd5d9ca053"), looks := false }, kinds := [], alts := [], laidByText := true, laidKinds := [.data, .pinned], laidTests := true, laidLooks := .later }
def EventBuildsCardSaid : Prop := Claim7.holds Tryd.pinned (.plain (OpenSpec.ofChange eventBuildsSpec)) eventBuildsCard

/-- THE TIED CARD OF 'datakitlaw14.EventNone'. -/
def eventNoneCard : Claim7 := { stood := { row := eventNoneRow, standIns := [], harness := (true, "ce29fc968172cabbdd944ed2dde3daa168c6a9ebfcd7fef535c921bd5d9ca053"), looks := false }, kinds := [], alts := [], laidByText := true, laidKinds := [.data, .pinned], laidTests := true, laidLooks := .later }
def EventNoneCardSaid : Prop := Claim7.holds Tryd.pinned (.plain (OpenSpec.ofChange eventNoneSpec)) eventNoneCard

/-- THE TIED CARD OF 'datakitlaw14.EventChecks'. -/
def eventChecksCard : Claim7 := { stood := { row := eventChecksRow, standIns := [], harness := (true, "ce29fc968172cabbdd944ed2dde3daa168c6a9ebfcd7fef535c921bd5d9ca053"), looks := false }, kinds := [], alts := [], laidByText := true, laidKinds := [.data, .pinned], laidTests := true, laidLooks := .later }
def EventChecksCardSaid : Prop := Claim7.holds Tryd.pinned (.plain (OpenSpec.ofChange eventChecksSpec)) eventChecksCard

/-- THE TIED CARD OF 'datakitlaw14.EventTakes'. -/
def eventTakesCard : Claim7 := { stood := { row := eventTakesRow, standIns := [], harness := (true, "ce29fc968172cabbdd944ed2dde3daa168c6a9ebfcd7fef535c921bd5d9ca053"), looks := false }, kinds := [], alts := [], laidByText := true, laidKinds := [.data, .pinned], laidTests := true, laidLooks := .later }
def EventTakesCardSaid : Prop := Claim7.holds Tryd.pinned (.plain (OpenSpec.ofChange eventTakesSpec)) eventTakesCard

/-- THE SECOND FORM's CARD OF 'datakitlaw14.EventOf'. -/
def eventOfUptoCard : Claim7 := { stood := { row := eventOfUptoRow, standIns := [], harness := (true, "ce29fc968172cabbdd944ed2dde3daa168c6a9ebfcd7fef535c921bd5d9ca053"), looks := false }, kinds := [], alts := [], laidByText := true, laidKinds := [.data, .pinned], laidTests := true, laidLooks := .later }
def EventOfUptoCardSaid : Prop := Claim7.holds Tryd.pinned (.plain (OpenSpec.upto eventOfSpec)) eventOfUptoCard

/-- THE SECOND FORM's CARD OF 'datakitlaw14.EventBack'. -/
def eventBackUptoCard : Claim7 := { stood := { row := eventBackUptoRow, standIns := [], harness := (true, "ce29fc968172cabbdd944ed2dde3daa168c6a9ebfcd7fef535c921bd5d9ca053"), looks := false }, kinds := [], alts := [], laidByText := true, laidKinds := [.data, .pinned], laidTests := true, laidLooks := .later }
def EventBackUptoCardSaid : Prop := Claim7.holds Tryd.pinned (.plain (OpenSpec.upto eventBackSpec)) eventBackUptoCard

/-- THE SECOND FORM's CARD OF 'datakitlaw14.EventWhere'. -/
def eventWhereUptoCard : Claim7 := { stood := { row := eventWhereUptoRow, standIns := [], harness := (true, "ce29fc968172cabbdd944ed2dde3daa168c6a9ebfcd7fef535c921bd5d9ca053"), looks := false }, kinds := [], alts := [], laidByText := true, laidKinds := [.data, .pinned], laidTests := true, laidLooks := .later }
def EventWhereUptoCardSaid : Prop := Claim7.holds Tryd.pinned (.plain (OpenSpec.upto eventWhereSpec)) eventWhereUptoCard

/-- THE SECOND FORM's CARD OF 'datakitlaw14.EventBuilds'. -/
def eventBuildsUptoCard : Claim7 := { stood := { row := eventBuildsUptoRow, standIns := [], harness := (true, "ce29fc968172cabbdd944ed2dde3daa168c6a9ebfcd7fef535c921bd5d9ca053"), looks := false }, kinds := [], alts := [], laidByText := true, laidKinds := [.data, .pinned], laidTests := true, laidLooks := .later }
def EventBuildsUptoCardSaid : Prop := Claim7.holds Tryd.pinned (.plain (OpenSpec.upto eventBuildsSpec)) eventBuildsUptoCard

/-- THE SECOND FORM's CARD OF 'datakitlaw14.EventNone'. -/
def eventNoneUptoCard : Claim7 := { stood := { row := eventNoneUptoRow, standIns := [], harness := (true, "ce29fc968172cabbdd944ed2dde3daa168c6a9ebfcd7fef535c921bd5d9ca053"), looks := false }, kinds := [], alts := [], laidByText := true, laidKinds := [.data, .pinned], laidTests := true, laidLooks := .later }
def EventNoneUptoCardSaid : Prop := Claim7.holds Tryd.pinned (.plain (OpenSpec.upto eventNoneSpec)) eventNoneUptoCard

/-- THE SECOND FORM's CARD OF 'datakitlaw14.EventChecks'. -/
def eventChecksUptoCard : Claim7 := { stood := { row := eventChecksUptoRow, standIns := [], harness := (true, "ce29fc968172cabbdd944ed2dde3daa168c6a9ebfcd7fef535c921bd5d9ca053"), looks := false }, kinds := [], alts := [], laidByText := true, laidKinds := [.data, .pinned], laidTests := true, laidLooks := .later }
def EventChecksUptoCardSaid : Prop := Claim7.holds Tryd.pinned (.plain (OpenSpec.upto eventChecksSpec)) eventChecksUptoCard

/-- THE SECOND FORM's CARD OF 'datakitlaw14.EventTakes'. -/
def eventTakesUptoCard : Claim7 := { stood := { row := eventTakesUptoRow, standIns := [], harness := (true, "ce29fc968172cabbdd944ed2dde3daa168c6a9ebfcd7fef535c921bd5d9ca053"), looks := false }, kinds := [], alts := [], laidByText := true, laidKinds := [.data, .pinned], laidTests := true, laidLooks := .later }
def EventTakesUptoCardSaid : Prop := Claim7.holds Tryd.pinned (.plain (OpenSpec.upto eventTakesSpec)) eventTakesUptoCard
end Rows
end Go.Proofs.YtpcbhneaaibfiaaDoor
