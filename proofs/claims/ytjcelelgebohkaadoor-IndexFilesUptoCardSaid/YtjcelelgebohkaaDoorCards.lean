/-
  DERIVED. GIVEN WITH THE SEED: THE CARDS: each row of YtjcelelgebohkaaDoorRows.lean that lists a variable, with what it lists TIED to the program's text (the seventh form; the later family's looks); each row that meets fmt, with fmt's text TOLD by the authors' own Lean function (tested against real Go, not proved from fmt's source: count such statements apart). THE CARD IS WHAT COUNTS. Prove the row's statement (the work); the ties are given (YtjcelelgebohkaaDoorTie.lean); close each card by the builder's one call (the guide's Derived/Test/ToyasCard.lean, 'card_holds'). Laid BY PROGRAM, IN A SANDBOX (cutbox-door.mjs). By AI agents, Wed Nov 11 2026. No macro, syntax, notation, axiom, sorry.
-/
import Derived.Test.YtjcelelgebohkaaDoorRows
import GoSem.ClaimSeven
namespace Go.Proofs.YtjcelelgebohkaaDoor
namespace Rows

/-- THE TIED CARD OF 'dolmenlaw14.IndexFiles'. -/
def indexFilesCard : Claim7 := { stood := { row := indexFilesRow, standIns := [], harness := (true, "0556c9a478e96a520de62e4f73b6c2f2fe9e657b749323d24ab7c8361e62a470"), looks := false }, kinds := [], alts := [], laidByText := true, laidKinds := [.data, .pinned], laidTests := true, laidLooks := .later }
def IndexFilesCardSaid : Prop := Claim7.holds Tryd.pinned (.plain (OpenSpec.ofChange indexFilesSpec)) indexFilesCard

/-- THE SECOND FORM's CARD OF 'dolmenlaw14.IndexFiles'. -/
def indexFilesUptoCard : Claim7 := { stood := { row := indexFilesUptoRow, standIns := [], harness := (true, "0556c9a478e96a520de62e4f73b6c2f2fe9e657b749323d24ab7c8361e62a470"), looks := false }, kinds := [], alts := [], laidByText := true, laidKinds := [.data, .pinned], laidTests := true, laidLooks := .later }
def IndexFilesUptoCardSaid : Prop := Claim7.holds Tryd.pinned (.plain (OpenSpec.upto indexFilesSpec)) indexFilesUptoCard
end Rows
end Go.Proofs.YtjcelelgebohkaaDoor
