/-
  DERIVED. GIVEN WITH THE SEED: THE CARDS: each row of YtegehaokfcamfaaDoorRows.lean that lists a variable, with what it lists TIED to the program's text (the seventh form; the later family's looks); each row that meets fmt, with fmt's text TOLD by the authors' own Lean function (tested against real Go, not proved from fmt's source: count such statements apart). THE CARD IS WHAT COUNTS. Prove the row's statement (the work); the ties are given (YtegehaokfcamfaaDoorTie.lean); close each card by the builder's one call (the guide's Derived/Test/ToyasCard.lean, 'card_holds'). Laid BY PROGRAM, IN A SANDBOX (cutbox-door.mjs). By AI agents, Wed Nov 11 2026. No macro, syntax, notation, axiom, sorry.
-/
import Derived.Test.YtegehaokfcamfaaDoorRows
import GoSem.ClaimSeven
namespace Go.Proofs.YtegehaokfcamfaaDoor
namespace Rows

/-- THE TIED CARD OF 'dolmenlaw11.RefsTrims'. -/
def refsTrimsCard : Claim7 := { stood := { row := refsTrimsRow, standIns := [], harness := (true, "29d8e8c0c9cbdca11126b3d6a52dea7db71acc5adc50ba68b3c617746b9c1983"), looks := false }, kinds := [], alts := [], laidByText := true, laidKinds := [.data, .pinned], laidTests := true, laidLooks := .later }
def RefsTrimsCardSaid : Prop := Claim7.holds Tryd.pinned (.plain (OpenSpec.ofChange refsTrimsSpec)) refsTrimsCard

/-- THE SECOND FORM's CARD OF 'dolmenlaw11.RefsTrims'. -/
def refsTrimsUptoCard : Claim7 := { stood := { row := refsTrimsUptoRow, standIns := [], harness := (true, "29d8e8c0c9cbdca11126b3d6a52dea7db71acc5adc50ba68b3c617746b9c1983"), looks := false }, kinds := [], alts := [], laidByText := true, laidKinds := [.data, .pinned], laidTests := true, laidLooks := .later }
def RefsTrimsUptoCardSaid : Prop := Claim7.holds Tryd.pinned (.plain (OpenSpec.upto refsTrimsSpec)) refsTrimsUptoCard
end Rows
end Go.Proofs.YtegehaokfcamfaaDoor
