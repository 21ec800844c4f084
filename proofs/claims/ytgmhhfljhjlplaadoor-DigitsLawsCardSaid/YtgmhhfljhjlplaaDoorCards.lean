/-
  DERIVED. GIVEN WITH THE SEED: THE CARDS: each row of YtgmhhfljhjlplaaDoorRows.lean that lists a variable, with what it lists TIED to the program's text (the seventh form; the later family's looks); each row that meets fmt, with fmt's text TOLD by the authors' own Lean function (tested against real Go, not proved from fmt's source: count such statements apart). THE CARD IS WHAT COUNTS. Prove the row's statement (the work); the ties are given (YtgmhhfljhjlplaaDoorTie.lean); close each card by the builder's one call (the guide's Derived/Test/ToyasCard.lean, 'card_holds'). Laid BY PROGRAM, IN A SANDBOX (cutbox-door.mjs). By AI agents, Wed Nov 11 2026. No macro, syntax, notation, axiom, sorry.
-/
import Derived.Test.YtgmhhfljhjlplaaDoorRows
import GoSem.ClaimSeven
namespace Go.Proofs.YtgmhhfljhjlplaaDoor
namespace Rows

/-- THE TIED CARD OF 'datakitlaw01.DigitsProducts'. -/
def digitsProductsCard : Claim7 := { stood := { row := digitsProductsRow, standIns := [], harness := (true, "be0e0ff08af5f77c7558d821bbf88b6083be54e559db1bbe652114612c64f7f4"), looks := false }, kinds := [], alts := [], laidByText := true, laidKinds := [.data, .pinned], laidTests := true, laidLooks := .later }
def DigitsProductsCardSaid : Prop := Claim7.holds Tryd.pinned (.plain (OpenSpec.ofChange digitsProductsSpec)) digitsProductsCard

/-- THE TIED CARD OF 'datakitlaw01.DigitsQuotients'. -/
def digitsQuotientsCard : Claim7 := { stood := { row := digitsQuotientsRow, standIns := [], harness := (true, "be0e0ff08af5f77c7558d821bbf88b6083be54e559db1bbe652114612c64f7f4"), looks := false }, kinds := [], alts := [], laidByText := true, laidKinds := [.data, .pinned], laidTests := true, laidLooks := .later }
def DigitsQuotientsCardSaid : Prop := Claim7.holds Tryd.pinned (.plain (OpenSpec.ofChange digitsQuotientsSpec)) digitsQuotientsCard

/-- THE TIED CARD OF 'datakitlaw01.DigitsSums'. -/
def digitsSumsCard : Claim7 := { stood := { row := digitsSumsRow, standIns := [], harness := (true, "be0e0ff08af5f77c7558d821bbf88b6083be54e559db1bbe652114612c64f7f4"), looks := false }, kinds := [], alts := [], laidByText := true, laidKinds := [.data, .pinned], laidTests := true, laidLooks := .later }
def DigitsSumsCardSaid : Prop := Claim7.holds Tryd.pinned (.plain (OpenSpec.ofChange digitsSumsSpec)) digitsSumsCard

/-- THE TIED CARD OF 'datakitlaw01.DigitsLaws'. -/
def digitsLawsCard : Claim7 := { stood := { row := digitsLawsRow, standIns := [], harness := (true, "be0e0ff08af5f77c7558d821bbf88b6083be54e559db1bbe652114612c64f7f4"), looks := false }, kinds := [], alts := [], laidByText := true, laidKinds := [.data, .pinned], laidTests := true, laidLooks := .later }
def DigitsLawsCardSaid : Prop := Claim7.holds Tryd.pinned (.plain (OpenSpec.ofChange digitsLawsSpec)) digitsLawsCard

/-- THE TIED CARD OF 'datakitlaw01.DigitsReads'. -/
def digitsReadsCard : Claim7 := { stood := { row := digitsReadsRow, standIns := [], harness := (true, "be0e0ff08af5f77c7558d821bbf88b6083be54e559db1bbe652114612c64f7f4"), looks := false }, kinds := [], alts := [], laidByText := true, laidKinds := [.data, .pinned], laidTests := true, laidLooks := .later }
def DigitsReadsCardSaid : Prop := Claim7.holds Tryd.pinned (.plain (OpenSpec.ofChange digitsReadsSpec)) digitsReadsCard

/-- THE TIED CARD OF 'datakitlaw01.DigitsInts'. -/
def digitsIntsCard : Claim7 := { stood := { row := digitsIntsRow, standIns := [], harness := (true, "be0e0ff08af5f77c7558d821bbf88b6083be54e559db1bbe652114612c64f7f4"), looks := false }, kinds := [], alts := [], laidByText := true, laidKinds := [.data, .pinned], laidTests := true, laidLooks := .later }
def DigitsIntsCardSaid : Prop := Claim7.holds Tryd.pinned (.plain (OpenSpec.ofChange digitsIntsSpec)) digitsIntsCard

/-- THE TIED CARD OF 'datakitlaw01.DigitsShifts'. -/
def digitsShiftsCard : Claim7 := { stood := { row := digitsShiftsRow, standIns := [], harness := (true, "be0e0ff08af5f77c7558d821bbf88b6083be54e559db1bbe652114612c64f7f4"), looks := false }, kinds := [], alts := [], laidByText := true, laidKinds := [.data, .pinned], laidTests := true, laidLooks := .later }
def DigitsShiftsCardSaid : Prop := Claim7.holds Tryd.pinned (.plain (OpenSpec.ofChange digitsShiftsSpec)) digitsShiftsCard

/-- THE SECOND FORM's CARD OF 'datakitlaw01.DigitsProducts'. -/
def digitsProductsUptoCard : Claim7 := { stood := { row := digitsProductsUptoRow, standIns := [], harness := (true, "be0e0ff08af5f77c7558d821bbf88b6083be54e559db1bbe652114612c64f7f4"), looks := false }, kinds := [], alts := [], laidByText := true, laidKinds := [.data, .pinned], laidTests := true, laidLooks := .later }
def DigitsProductsUptoCardSaid : Prop := Claim7.holds Tryd.pinned (.plain (OpenSpec.upto digitsProductsSpec)) digitsProductsUptoCard

/-- THE SECOND FORM's CARD OF 'datakitlaw01.DigitsQuotients'. -/
def digitsQuotientsUptoCard : Claim7 := { stood := { row := digitsQuotientsUptoRow, standIns := [], harness := (true, "be0e0ff08af5f77c7558d821bbf88b6083be54e559db1bbe652114612c64f7f4"), looks := false }, kinds := [], alts := [], laidByText := true, laidKinds := [.data, .pinned], laidTests := true, laidLooks := .later }
def DigitsQuotientsUptoCardSaid : Prop := Claim7.holds Tryd.pinned (.plain (OpenSpec.upto digitsQuotientsSpec)) digitsQuotientsUptoCard

/-- THE SECOND FORM's CARD OF 'datakitlaw01.DigitsSums'. -/
def digitsSumsUptoCard : Claim7 := { stood := { row := digitsSumsUptoRow, standIns := [], harness := (true, "be0e0ff08af5f77c7558d821bbf88b6083be54e559db1bbe652114612c64f7f4"), looks := false }, kinds := [], alts := [], laidByText := true, laidKinds := [.data, .pinned], laidTests := true, laidLooks := .later }
def DigitsSumsUptoCardSaid : Prop := Claim7.holds Tryd.pinned (.plain (OpenSpec.upto digitsSumsSpec)) digitsSumsUptoCard

/-- THE SECOND FORM's CARD OF 'datakitlaw01.DigitsLaws'. -/
def digitsLawsUptoCard : Claim7 := { stood := { row := digitsLawsUptoRow, standIns := [], harness := (true, "be0e0ff08af5f77c7558d821bbf88b6083be54e559db1bbe652114612c64f7f4"), looks := false }, kinds := [], alts := [], laidByText := true, laidKinds := [.data, .pinned], laidTests := true, laidLooks := .later }
def DigitsLawsUptoCardSaid : Prop := Claim7.holds Tryd.pinned (.plain (OpenSpec.upto digitsLawsSpec)) digitsLawsUptoCard

/-- THE SECOND FORM's CARD OF 'datakitlaw01.DigitsReads'. -/
def digitsReadsUptoCard : Claim7 := { stood := { row := digitsReadsUptoRow, standIns := [], harness := (true, "be0e0ff08af5f77c7558d821bbf88b6083be54e559db1bbe652114612c64f7f4"), looks := false }, kinds := [], alts := [], laidByText := true, laidKinds := [.data, .pinned], laidTests := true, laidLooks := .later }
def DigitsReadsUptoCardSaid : Prop := Claim7.holds Tryd.pinned (.plain (OpenSpec.upto digitsReadsSpec)) digitsReadsUptoCard

/-- THE SECOND FORM's CARD OF 'datakitlaw01.DigitsInts'. -/
def digitsIntsUptoCard : Claim7 := { stood := { row := digitsIntsUptoRow, standIns := [], harness := (true, "be0e0ff08af5f77c7558d821bbf88b6083be54e559db1bbe652114612c64f7f4"), looks := false }, kinds := [], alts := [], laidByText := true, laidKinds := [.data, .pinned], laidTests := true, laidLooks := .later }
def DigitsIntsUptoCardSaid : Prop := Claim7.holds Tryd.pinned (.plain (OpenSpec.upto digitsIntsSpec)) digitsIntsUptoCard

/-- THE SECOND FORM's CARD OF 'datakitlaw01.DigitsShifts'. -/
def digitsShiftsUptoCard : Claim7 := { stood := { row := digitsShiftsUptoRow, standIns := [], harness := (true, "be0e0ff08af5f77c7558d821bbf88b6083be54e559db1bbe652114612c64f7f4"), looks := false }, kinds := [], alts := [], laidByText := true, laidKinds := [.data, .pinned], laidTests := true, laidLooks := .later }
def DigitsShiftsUptoCardSaid : Prop := Claim7.holds Tryd.pinned (.plain (OpenSpec.upto digitsShiftsSpec)) digitsShiftsUptoCard
end Rows
end Go.Proofs.YtgmhhfljhjlplaaDoor
