/-
  DERIVED. GIVEN WITH THE SEED: THE CARDS: each row of YtkginbfpokbhcaaGreatDoorRows.lean that lists a variable, with what it lists TIED to the program's text (the seventh form; the later family's looks); each row that meets fmt, with fmt's text TOLD by the authors' own Lean function (tested against real Go, not proved from fmt's source: count such statements apart). THE CARD IS WHAT COUNTS. Prove the row's statement (the work); the ties are given (YtkginbfpokbhcaaGreatDoorTie.lean); close each card by the builder's one call (the guide's Derived/Test/ToyasCard.lean, 'card_holds'). Laid BY PROGRAM, IN A SANDBOX (cutbox-door.mjs). By AI agents, Wed Nov 11 2026. No macro, syntax, notation, axiom, sorry.
-/
import Derived.Test.YtkginbfpokbhcaaGreatDoorRows
import GoSem.ClaimSeven
namespace Go.Proofs.YtkginbfpokbhcaaGreatDoor
namespace Rows

/-- THE TIED CARD OF 'dolmenlaw20.WorkStands'. -/
def workStandsCard : Claim7 := { stood := { row := workStandsRow, standIns := [], harness := (true, "1d8eea8e1b54ebe1edd547b2d1562844103a2ad72ac19c12055dffe4f385d582"), looks := true }, kinds := [], alts := [], laidByText := true, laidKinds := [.data, .pinned], laidTests := true, laidLooks := .later }
def WorkStandsCardSaid : Prop := Claim7.holds Tryz.pinned (.plain (OpenSpec.ofChange workStandsSpec)) workStandsCard

/-- THE TIED CARD OF 'dolmenlaw20.WorkHeld'. -/
def workHeldCard : Claim7 := { stood := { row := workHeldRow, standIns := [], harness := (true, "1d8eea8e1b54ebe1edd547b2d1562844103a2ad72ac19c12055dffe4f385d582"), looks := true }, kinds := [], alts := [], laidByText := true, laidKinds := [.data, .pinned], laidTests := true, laidLooks := .later }
def WorkHeldCardSaid : Prop := Claim7.holds Tryz.pinned (.plain (OpenSpec.ofChange workHeldSpec)) workHeldCard

/-- THE TIED CARD OF 'dolmenlaw20.WorkNothing'. -/
def workNothingCard : Claim7 := { stood := { row := workNothingRow, standIns := [], harness := (true, "1d8eea8e1b54ebe1edd547b2d1562844103a2ad72ac19c12055dffe4f385d582"), looks := true }, kinds := [], alts := [], laidByText := true, laidKinds := [.data, .pinned], laidTests := true, laidLooks := .later }
def WorkNothingCardSaid : Prop := Claim7.holds Tryz.pinned (.plain (OpenSpec.ofChange workNothingSpec)) workNothingCard

/-- THE TIED CARD OF 'dolmenlaw16.PairDiffs'. -/
def pairDiffsCard : Claim7 := { stood := { row := pairDiffsRow, standIns := [], harness := (true, "1d8eea8e1b54ebe1edd547b2d1562844103a2ad72ac19c12055dffe4f385d582"), looks := true }, kinds := [], alts := [], laidByText := true, laidKinds := [.data, .pinned], laidTests := true, laidLooks := .later }
def PairDiffsCardSaid : Prop := Claim7.holds Tryz.pinned (.plain (OpenSpec.ofChange pairDiffsSpec)) pairDiffsCard

/-- THE TIED CARD OF 'dolmenlaw16.PairMoves'. -/
def pairMovesCard : Claim7 := { stood := { row := pairMovesRow, standIns := [], harness := (true, "1d8eea8e1b54ebe1edd547b2d1562844103a2ad72ac19c12055dffe4f385d582"), looks := true }, kinds := [], alts := [], laidByText := true, laidKinds := [.data, .pinned], laidTests := true, laidLooks := .later }
def PairMovesCardSaid : Prop := Claim7.holds Tryz.pinned (.plain (OpenSpec.ofChange pairMovesSpec)) pairMovesCard

/-- THE TIED CARD OF 'dolmenlaw16.PairMakes'. -/
def pairMakesCard : Claim7 := { stood := { row := pairMakesRow, standIns := [], harness := (true, "1d8eea8e1b54ebe1edd547b2d1562844103a2ad72ac19c12055dffe4f385d582"), looks := true }, kinds := [], alts := [], laidByText := true, laidKinds := [.data, .pinned], laidTests := true, laidLooks := .later }
def PairMakesCardSaid : Prop := Claim7.holds Tryz.pinned (.plain (OpenSpec.ofChange pairMakesSpec)) pairMakesCard

/-- THE TIED CARD OF 'dolmenlaw20.WorkSame'. -/
def workSameCard : Claim7 := { stood := { row := workSameRow, standIns := [], harness := (true, "1d8eea8e1b54ebe1edd547b2d1562844103a2ad72ac19c12055dffe4f385d582"), looks := true }, kinds := [], alts := [], laidByText := true, laidKinds := [.data, .pinned], laidTests := true, laidLooks := .later }
def WorkSameCardSaid : Prop := Claim7.holds Tryz.pinned (.plain (OpenSpec.ofChange workSameSpec)) workSameCard

/-- THE SECOND FORM's CARD OF 'dolmenlaw20.WorkStands'. -/
def workStandsUptoCard : Claim7 := { stood := { row := workStandsUptoRow, standIns := [], harness := (true, "1d8eea8e1b54ebe1edd547b2d1562844103a2ad72ac19c12055dffe4f385d582"), looks := true }, kinds := [], alts := [], laidByText := true, laidKinds := [.data, .pinned], laidTests := true, laidLooks := .later }
def WorkStandsUptoCardSaid : Prop := Claim7.holds Tryz.pinned (.plain (OpenSpec.upto workStandsSpec)) workStandsUptoCard

/-- THE SECOND FORM's CARD OF 'dolmenlaw20.WorkHeld'. -/
def workHeldUptoCard : Claim7 := { stood := { row := workHeldUptoRow, standIns := [], harness := (true, "1d8eea8e1b54ebe1edd547b2d1562844103a2ad72ac19c12055dffe4f385d582"), looks := true }, kinds := [], alts := [], laidByText := true, laidKinds := [.data, .pinned], laidTests := true, laidLooks := .later }
def WorkHeldUptoCardSaid : Prop := Claim7.holds Tryz.pinned (.plain (OpenSpec.upto workHeldSpec)) workHeldUptoCard

/-- THE SECOND FORM's CARD OF 'dolmenlaw20.WorkNothing'. -/
def workNothingUptoCard : Claim7 := { stood := { row := workNothingUptoRow, standIns := [], harness := (true, "1d8eea8e1b54ebe1edd547b2d1562844103a2ad72ac19c12055dffe4f385d582"), looks := true }, kinds := [], alts := [], laidByText := true, laidKinds := [.data, .pinned], laidTests := true, laidLooks := .later }
def WorkNothingUptoCardSaid : Prop := Claim7.holds Tryz.pinned (.plain (OpenSpec.upto workNothingSpec)) workNothingUptoCard

/-- THE SECOND FORM's CARD OF 'dolmenlaw16.PairDiffs'. -/
def pairDiffsUptoCard : Claim7 := { stood := { row := pairDiffsUptoRow, standIns := [], harness := (true, "1d8eea8e1b54ebe1edd547b2d1562844103a2ad72ac19c12055dffe4f385d582"), looks := true }, kinds := [], alts := [], laidByText := true, laidKinds := [.data, .pinned], laidTests := true, laidLooks := .later }
def PairDiffsUptoCardSaid : Prop := Claim7.holds Tryz.pinned (.plain (OpenSpec.upto pairDiffsSpec)) pairDiffsUptoCard

/-- THE SECOND FORM's CARD OF 'dolmenlaw16.PairMoves'. -/
def pairMovesUptoCard : Claim7 := { stood := { row := pairMovesUptoRow, standIns := [], harness := (true, "1d8eea8e1b54ebe1edd547b2d1562844103a2ad72ac19c12055dffe4f385d582"), looks := true }, kinds := [], alts := [], laidByText := true, laidKinds := [.data, .pinned], laidTests := true, laidLooks := .later }
def PairMovesUptoCardSaid : Prop := Claim7.holds Tryz.pinned (.plain (OpenSpec.upto pairMovesSpec)) pairMovesUptoCard

/-- THE SECOND FORM's CARD OF 'dolmenlaw16.PairMakes'. -/
def pairMakesUptoCard : Claim7 := { stood := { row := pairMakesUptoRow, standIns := [], harness := (true, "1d8eea8e1b54ebe1edd547b2d1562844103a2ad72ac19c12055dffe4f385d582"), looks := true }, kinds := [], alts := [], laidByText := true, laidKinds := [.data, .pinned], laidTests := true, laidLooks := .later }
def PairMakesUptoCardSaid : Prop := Claim7.holds Tryz.pinned (.plain (OpenSpec.upto pairMakesSpec)) pairMakesUptoCard

/-- THE SECOND FORM's CARD OF 'dolmenlaw20.WorkSame'. -/
def workSameUptoCard : Claim7 := { stood := { row := workSameUptoRow, standIns := [], harness := (true, "1d8eea8e1b54ebe1edd547b2d1562844103a2ad72ac19c12055dffe4f385d582"), looks := true }, kinds := [], alts := [], laidByText := true, laidKinds := [.data, .pinned], laidTests := true, laidLooks := .later }
def WorkSameUptoCardSaid : Prop := Claim7.holds Tryz.pinned (.plain (OpenSpec.upto workSameSpec)) workSameUptoCard
end Rows
end Go.Proofs.YtkginbfpokbhcaaGreatDoor
