/-
  DERIVED. GIVEN WITH THE SEED: THE CARDS: each row of YtphnfcgdpdimbaaGreatDoorRows.lean that lists a variable, with what it lists TIED to the program's text (the seventh form; the later family's looks); each row that meets fmt, with fmt's text TOLD by the authors' own Lean function (tested against real Go, not proved from fmt's source: count such statements apart). THE CARD IS WHAT COUNTS. Prove the row's statement (the work); the ties are given (YtphnfcgdpdimbaaGreatDoorTie.lean); close each card by the builder's one call (the guide's Derived/Test/ToyasCard.lean, 'card_holds'). Laid BY PROGRAM, IN A SANDBOX (cutbox-door.mjs). By AI agents, Wed Nov 11 2026. No macro, syntax, notation, axiom, sorry.
-/
import Derived.Test.YtphnfcgdpdimbaaGreatDoorRows
import GoSem.ClaimSeven
namespace Go.Proofs.YtphnfcgdpdimbaaGreatDoor
namespace Rows

/-- THE TIED CARD OF 'dolmenlaw20.WorkSame'. -/
def workSameCard : Claim7 := { stood := { row := workSameRow, standIns := [], harness := (true, "6e498d40e9c22162d8ef8797a229f4865cf62e63a8a44a655d2c501239d72f62"), looks := true }, kinds := [], alts := [], laidByText := true, laidKinds := [.data, .pinned], laidTests := true, laidLooks := .later }
def WorkSameCardSaid : Prop := Claim7.holds Tryz.pinned (.plain (OpenSpec.ofChange workSameSpec)) workSameCard

/-- THE TIED CARD OF 'dolmenlaw16.PairRenames'. -/
def pairRenamesCard : Claim7 := { stood := { row := pairRenamesRow, standIns := [], harness := (true, "6e498d40e9c22162d8ef8797a229f4865cf62e63a8a44a655d2c501239d72f62"), looks := true }, kinds := [], alts := [], laidByText := true, laidKinds := [.data, .pinned], laidTests := true, laidLooks := .later }
def PairRenamesCardSaid : Prop := Claim7.holds Tryz.pinned (.plain (OpenSpec.ofChange pairRenamesSpec)) pairRenamesCard

/-- THE TIED CARD OF 'dolmenlaw16.PairOnce'. -/
def pairOnceCard : Claim7 := { stood := { row := pairOnceRow, standIns := [], harness := (true, "6e498d40e9c22162d8ef8797a229f4865cf62e63a8a44a655d2c501239d72f62"), looks := true }, kinds := [], alts := [], laidByText := true, laidKinds := [.data, .pinned], laidTests := true, laidLooks := .later }
def PairOnceCardSaid : Prop := Claim7.holds Tryz.pinned (.plain (OpenSpec.ofChange pairOnceSpec)) pairOnceCard

/-- THE SECOND FORM's CARD OF 'dolmenlaw20.WorkSame'. -/
def workSameUptoCard : Claim7 := { stood := { row := workSameUptoRow, standIns := [], harness := (true, "6e498d40e9c22162d8ef8797a229f4865cf62e63a8a44a655d2c501239d72f62"), looks := true }, kinds := [], alts := [], laidByText := true, laidKinds := [.data, .pinned], laidTests := true, laidLooks := .later }
def WorkSameUptoCardSaid : Prop := Claim7.holds Tryz.pinned (.plain (OpenSpec.upto workSameSpec)) workSameUptoCard

/-- THE SECOND FORM's CARD OF 'dolmenlaw16.PairRenames'. -/
def pairRenamesUptoCard : Claim7 := { stood := { row := pairRenamesUptoRow, standIns := [], harness := (true, "6e498d40e9c22162d8ef8797a229f4865cf62e63a8a44a655d2c501239d72f62"), looks := true }, kinds := [], alts := [], laidByText := true, laidKinds := [.data, .pinned], laidTests := true, laidLooks := .later }
def PairRenamesUptoCardSaid : Prop := Claim7.holds Tryz.pinned (.plain (OpenSpec.upto pairRenamesSpec)) pairRenamesUptoCard

/-- THE SECOND FORM's CARD OF 'dolmenlaw16.PairOnce'. -/
def pairOnceUptoCard : Claim7 := { stood := { row := pairOnceUptoRow, standIns := [], harness := (true, "6e498d40e9c22162d8ef8797a229f4865cf62e63a8a44a655d2c501239d72f62"), looks := true }, kinds := [], alts := [], laidByText := true, laidKinds := [.data, .pinned], laidTests := true, laidLooks := .later }
def PairOnceUptoCardSaid : Prop := Claim7.holds Tryz.pinned (.plain (OpenSpec.upto pairOnceSpec)) pairOnceUptoCard
end Rows
end Go.Proofs.YtphnfcgdpdimbaaGreatDoor
