/-
  DERIVED. GIVEN WITH THE SEED: THE CARDS: each row of YtifannandfkacaaGreatDoorRows.lean that lists a variable, with what it lists TIED to the program's text (the seventh form; the later family's looks); each row that meets fmt, with fmt's text TOLD by the authors' own Lean function (tested against real Go, not proved from fmt's source: count such statements apart). THE CARD IS WHAT COUNTS. Prove the row's statement (the work); the ties are given (YtifannandfkacaaGreatDoorTie.lean); close each card by the builder's one call (the guide's Derived/Test/ToyasCard.lean, 'card_holds'). Laid BY PROGRAM, IN A SANDBOX (cutbox-door.mjs). By AI agents, Wed Nov 11 2026. No macro, syntax, notation, axiom, sorry.
-/
import Derived.Test.YtifannandfkacaaGreatDoorRows
import GoSem.ClaimSeven
namespace Go.Proofs.YtifannandfkacaaGreatDoor
namespace Rows

/-- THE TIED CARD OF 'dolmenlaw13.TreeUnder'. -/
def treeUnderCard : Claim7 := { stood := { row := treeUnderRow, standIns := [], harness := (true, "95252204f6093ad4884aa5394869b1848aa118e2fb08e78812e88b93c905b0bb"), looks := true }, kinds := [], alts := [], laidByText := true, laidKinds := [.data, .pinned], laidTests := true, laidLooks := .later }
def TreeUnderCardSaid : Prop := Claim7.holds Tryz.pinned (.plain (OpenSpec.ofChange treeUnderSpec)) treeUnderCard

/-- THE TIED CARD OF 'dolmenlaw13.TreeBuilds'. -/
def treeBuildsCard : Claim7 := { stood := { row := treeBuildsRow, standIns := [], harness := (true, "95252204f6093ad4884aa5394869b1848aa118e2fb08e78812e88b93c905b0bb"), looks := true }, kinds := [], alts := [], laidByText := true, laidKinds := [.data, .pinned], laidTests := true, laidLooks := .later }
def TreeBuildsCardSaid : Prop := Claim7.holds Tryz.pinned (.plain (OpenSpec.ofChange treeBuildsSpec)) treeBuildsCard

/-- THE TIED CARD OF 'dolmenlaw13.TreeBack'. -/
def treeBackCard : Claim7 := { stood := { row := treeBackRow, standIns := [], harness := (true, "95252204f6093ad4884aa5394869b1848aa118e2fb08e78812e88b93c905b0bb"), looks := true }, kinds := [], alts := [], laidByText := true, laidKinds := [.data, .pinned], laidTests := true, laidLooks := .later }
def TreeBackCardSaid : Prop := Claim7.holds Tryz.pinned (.plain (OpenSpec.ofChange treeBackSpec)) treeBackCard

/-- THE TIED CARD OF 'dolmenlaw13.TreeOne'. -/
def treeOneCard : Claim7 := { stood := { row := treeOneRow, standIns := [], harness := (true, "95252204f6093ad4884aa5394869b1848aa118e2fb08e78812e88b93c905b0bb"), looks := true }, kinds := [], alts := [], laidByText := true, laidKinds := [.data, .pinned], laidTests := true, laidLooks := .later }
def TreeOneCardSaid : Prop := Claim7.holds Tryz.pinned (.plain (OpenSpec.ofChange treeOneSpec)) treeOneCard

/-- THE SECOND FORM's CARD OF 'dolmenlaw13.TreeUnder'. -/
def treeUnderUptoCard : Claim7 := { stood := { row := treeUnderUptoRow, standIns := [], harness := (true, "95252204f6093ad4884aa5394869b1848aa118e2fb08e78812e88b93c905b0bb"), looks := true }, kinds := [], alts := [], laidByText := true, laidKinds := [.data, .pinned], laidTests := true, laidLooks := .later }
def TreeUnderUptoCardSaid : Prop := Claim7.holds Tryz.pinned (.plain (OpenSpec.upto treeUnderSpec)) treeUnderUptoCard

/-- THE SECOND FORM's CARD OF 'dolmenlaw13.TreeBuilds'. -/
def treeBuildsUptoCard : Claim7 := { stood := { row := treeBuildsUptoRow, standIns := [], harness := (true, "95252204f6093ad4884aa5394869b1848aa118e2fb08e78812e88b93c905b0bb"), looks := true }, kinds := [], alts := [], laidByText := true, laidKinds := [.data, .pinned], laidTests := true, laidLooks := .later }
def TreeBuildsUptoCardSaid : Prop := Claim7.holds Tryz.pinned (.plain (OpenSpec.upto treeBuildsSpec)) treeBuildsUptoCard

/-- THE SECOND FORM's CARD OF 'dolmenlaw13.TreeBack'. -/
def treeBackUptoCard : Claim7 := { stood := { row := treeBackUptoRow, standIns := [], harness := (true, "95252204f6093ad4884aa5394869b1848aa118e2fb08e78812e88b93c905b0bb"), looks := true }, kinds := [], alts := [], laidByText := true, laidKinds := [.data, .pinned], laidTests := true, laidLooks := .later }
def TreeBackUptoCardSaid : Prop := Claim7.holds Tryz.pinned (.plain (OpenSpec.upto treeBackSpec)) treeBackUptoCard

/-- THE SECOND FORM's CARD OF 'dolmenlaw13.TreeOne'. -/
def treeOneUptoCard : Claim7 := { stood := { row := treeOneUptoRow, standIns := [], harness := (true, "95252204f6093ad4884aa5394869b1848aa118e2fb08e78812e88b93c905b0bb"), looks := true }, kinds := [], alts := [], laidByText := true, laidKinds := [.data, .pinned], laidTests := true, laidLooks := .later }
def TreeOneUptoCardSaid : Prop := Claim7.holds Tryz.pinned (.plain (OpenSpec.upto treeOneSpec)) treeOneUptoCard
end Rows
end Go.Proofs.YtifannandfkacaaGreatDoor
