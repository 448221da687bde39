/-
  DERIVED. GIVEN WITH THE SEED: THE CARDS: each row of YtcednfmkiaelnaaGreatDoorRows.lean that lists a variable, with what it lists TIED to the program's text (the seventh form; the later family's looks); each row that meets fmt, with fmt's text TOLD by the authors' own Lean function (tested against real Go, not proved from fmt's source: count such statements apart). THE CARD IS WHAT COUNTS. Prove the row's statement (the work); the ties are given (YtcednfmkiaelnaaGreatDoorTie.lean); close each card by the builder's one call (the guide's Derived/Test/ToyasCard.lean, 'card_holds'). Laid BY PROGRAM, IN A SANDBOX (cutbox-door.mjs). By AI agents, Wed Nov 11 2026. No macro, syntax, notation, axiom, sorry.
-/
import Derived.Test.YtcednfmkiaelnaaGreatDoorRows
import GoSem.ClaimSeven
namespace Go.Proofs.YtcednfmkiaelnaaGreatDoor
namespace Rows

/-- THE TIED CARD OF 'dolmenlaw13.TreeBuilds'. -/
def treeBuildsCard : Claim7 := { stood := { row := treeBuildsRow, standIns := [], harness := (true, "0d8974a05966d73428a65ddf16ef2b03dcb0ce0e2bc898ae6afc7a15d4545311"), looks := true }, kinds := [], alts := [], laidByText := true, laidKinds := [.data, .pinned], laidTests := true, laidLooks := .later }
def TreeBuildsCardSaid : Prop := Claim7.holds Tryz.pinned (.plain (OpenSpec.ofChange treeBuildsSpec)) treeBuildsCard

/-- THE TIED CARD OF 'dolmenlaw21.PlanLists'. -/
def planListsCard : Claim7 := { stood := { row := planListsRow, standIns := [], harness := (true, "0d8974a05966d73428a65ddf16ef2b03dcb0ce0e2bc898ae6afc7a15d4545311"), looks := true }, kinds := [], alts := [], laidByText := true, laidKinds := [.data, .pinned], laidTests := true, laidLooks := .later }
def PlanListsCardSaid : Prop := Claim7.holds Tryz.pinned (.plain (OpenSpec.ofChange planListsSpec)) planListsCard

/-- THE SECOND FORM's CARD OF 'dolmenlaw13.TreeBuilds'. -/
def treeBuildsUptoCard : Claim7 := { stood := { row := treeBuildsUptoRow, standIns := [], harness := (true, "0d8974a05966d73428a65ddf16ef2b03dcb0ce0e2bc898ae6afc7a15d4545311"), looks := true }, kinds := [], alts := [], laidByText := true, laidKinds := [.data, .pinned], laidTests := true, laidLooks := .later }
def TreeBuildsUptoCardSaid : Prop := Claim7.holds Tryz.pinned (.plain (OpenSpec.upto treeBuildsSpec)) treeBuildsUptoCard

/-- THE SECOND FORM's CARD OF 'dolmenlaw21.PlanLists'. -/
def planListsUptoCard : Claim7 := { stood := { row := planListsUptoRow, standIns := [], harness := (true, "0d8974a05966d73428a65ddf16ef2b03dcb0ce0e2bc898ae6afc7a15d4545311"), looks := true }, kinds := [], alts := [], laidByText := true, laidKinds := [.data, .pinned], laidTests := true, laidLooks := .later }
def PlanListsUptoCardSaid : Prop := Claim7.holds Tryz.pinned (.plain (OpenSpec.upto planListsSpec)) planListsUptoCard
end Rows
end Go.Proofs.YtcednfmkiaelnaaGreatDoor
