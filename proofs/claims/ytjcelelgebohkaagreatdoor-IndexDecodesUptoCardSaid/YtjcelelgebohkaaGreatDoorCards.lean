/-
  DERIVED. GIVEN WITH THE SEED: THE CARDS: each row of YtjcelelgebohkaaGreatDoorRows.lean that lists a variable, with what it lists TIED to the program's text (the seventh form; the later family's looks); each row that meets fmt, with fmt's text TOLD by the authors' own Lean function (tested against real Go, not proved from fmt's source: count such statements apart). THE CARD IS WHAT COUNTS. Prove the row's statement (the work); the ties are given (YtjcelelgebohkaaGreatDoorTie.lean); close each card by the builder's one call (the guide's Derived/Test/ToyasCard.lean, 'card_holds'). Laid BY PROGRAM, IN A SANDBOX (cutbox-door.mjs). By AI agents, Wed Nov 11 2026. No macro, syntax, notation, axiom, sorry.
-/
import Derived.Test.YtjcelelgebohkaaGreatDoorRows
import GoSem.ClaimSeven
namespace Go.Proofs.YtjcelelgebohkaaGreatDoor
namespace Rows

/-- THE TIED CARD OF 'dolmenlaw14.IndexPlays'. -/
def indexPlaysCard : Claim7 := { stood := { row := indexPlaysRow, standIns := [], harness := (true, "7807ead2d9530ca5a54cb897070493501396977079d7d75f5d9e9c27e157cdbf"), looks := false }, kinds := [], alts := [], laidByText := true, laidKinds := [.data, .pinned], laidTests := true, laidLooks := .later }
def IndexPlaysCardSaid : Prop := Claim7.holds Tryz.pinned (.plain (OpenSpec.ofChange indexPlaysSpec)) indexPlaysCard

/-- THE TIED CARD OF 'dolmenlaw14.IndexDecodes'. -/
def indexDecodesCard : Claim7 := { stood := { row := indexDecodesRow, standIns := [], harness := (true, "7807ead2d9530ca5a54cb897070493501396977079d7d75f5d9e9c27e157cdbf"), looks := false }, kinds := [], alts := [], laidByText := true, laidKinds := [.data, .pinned], laidTests := true, laidLooks := .later }
def IndexDecodesCardSaid : Prop := Claim7.holds Tryz.pinned (.plain (OpenSpec.ofChange indexDecodesSpec)) indexDecodesCard

/-- THE TIED CARD OF 'dolmenlaw14.IndexBack'. -/
def indexBackCard : Claim7 := { stood := { row := indexBackRow, standIns := [], harness := (true, "7807ead2d9530ca5a54cb897070493501396977079d7d75f5d9e9c27e157cdbf"), looks := false }, kinds := [], alts := [], laidByText := true, laidKinds := [.data, .pinned], laidTests := true, laidLooks := .later }
def IndexBackCardSaid : Prop := Claim7.holds Tryz.pinned (.plain (OpenSpec.ofChange indexBackSpec)) indexBackCard

/-- THE SECOND FORM's CARD OF 'dolmenlaw14.IndexPlays'. -/
def indexPlaysUptoCard : Claim7 := { stood := { row := indexPlaysUptoRow, standIns := [], harness := (true, "7807ead2d9530ca5a54cb897070493501396977079d7d75f5d9e9c27e157cdbf"), looks := false }, kinds := [], alts := [], laidByText := true, laidKinds := [.data, .pinned], laidTests := true, laidLooks := .later }
def IndexPlaysUptoCardSaid : Prop := Claim7.holds Tryz.pinned (.plain (OpenSpec.upto indexPlaysSpec)) indexPlaysUptoCard

/-- THE SECOND FORM's CARD OF 'dolmenlaw14.IndexDecodes'. -/
def indexDecodesUptoCard : Claim7 := { stood := { row := indexDecodesUptoRow, standIns := [], harness := (true, "7807ead2d9530ca5a54cb897070493501396977079d7d75f5d9e9c27e157cdbf"), looks := false }, kinds := [], alts := [], laidByText := true, laidKinds := [.data, .pinned], laidTests := true, laidLooks := .later }
def IndexDecodesUptoCardSaid : Prop := Claim7.holds Tryz.pinned (.plain (OpenSpec.upto indexDecodesSpec)) indexDecodesUptoCard

/-- THE SECOND FORM's CARD OF 'dolmenlaw14.IndexBack'. -/
def indexBackUptoCard : Claim7 := { stood := { row := indexBackUptoRow, standIns := [], harness := (true, "7807ead2d9530ca5a54cb897070493501396977079d7d75f5d9e9c27e157cdbf"), looks := false }, kinds := [], alts := [], laidByText := true, laidKinds := [.data, .pinned], laidTests := true, laidLooks := .later }
def IndexBackUptoCardSaid : Prop := Claim7.holds Tryz.pinned (.plain (OpenSpec.upto indexBackSpec)) indexBackUptoCard
end Rows
end Go.Proofs.YtjcelelgebohkaaGreatDoor
