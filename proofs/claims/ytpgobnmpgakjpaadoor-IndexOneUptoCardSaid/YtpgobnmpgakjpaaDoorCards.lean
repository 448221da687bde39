/-
  DERIVED. GIVEN WITH THE SEED: THE CARDS: each row of YtpgobnmpgakjpaaDoorRows.lean that lists a variable, with what it lists TIED to the program's text (the seventh form; the later family's looks); each row that meets fmt, with fmt's text TOLD by the authors' own Lean function (tested against real Go, not proved from fmt's source: count such statements apart). THE CARD IS WHAT COUNTS. Prove the row's statement (the work); the ties are given (YtpgobnmpgakjpaaDoorTie.lean); close each card by the builder's one call (the guide's Derived/Test/ToyasCard.lean, 'card_holds'). Laid BY PROGRAM, IN A SANDBOX (cutbox-door.mjs). By AI agents, Wed Nov 11 2026. No macro, syntax, notation, axiom, sorry.
-/
import Derived.Test.YtpgobnmpgakjpaaDoorRows
import GoSem.ClaimSeven
namespace Go.Proofs.YtpgobnmpgakjpaaDoor
namespace Rows

/-- THE TIED CARD OF 'dolmenlaw14.IndexOne'. -/
def indexOneCard : Claim7 := { stood := { row := indexOneRow, standIns := [], harness := (true, "499efcc59379284b917695a615ebea3d07d2f54518e30fb0ffa610a210fdbcd9"), looks := false }, kinds := [], alts := [], laidByText := true, laidKinds := [.data, .pinned], laidTests := true, laidLooks := .later }
def IndexOneCardSaid : Prop := Claim7.holds Tryd.pinned (.plain (OpenSpec.ofChange indexOneSpec)) indexOneCard

/-- THE TIED CARD OF 'dolmenlaw14.IndexRacy'. -/
def indexRacyCard : Claim7 := { stood := { row := indexRacyRow, standIns := [], harness := (true, "499efcc59379284b917695a615ebea3d07d2f54518e30fb0ffa610a210fdbcd9"), looks := false }, kinds := [], alts := [], laidByText := true, laidKinds := [.data, .pinned], laidTests := true, laidLooks := .later }
def IndexRacyCardSaid : Prop := Claim7.holds Tryd.pinned (.plain (OpenSpec.ofChange indexRacySpec)) indexRacyCard

/-- THE TIED CARD OF 'dolmenlaw14.IndexFiles'. -/
def indexFilesCard : Claim7 := { stood := { row := indexFilesRow, standIns := [], harness := (true, "499efcc59379284b917695a615ebea3d07d2f54518e30fb0ffa610a210fdbcd9"), looks := false }, kinds := [], alts := [], laidByText := true, laidKinds := [.data, .pinned], laidTests := true, laidLooks := .later }
def IndexFilesCardSaid : Prop := Claim7.holds Tryd.pinned (.plain (OpenSpec.ofChange indexFilesSpec)) indexFilesCard

/-- THE SECOND FORM's CARD OF 'dolmenlaw14.IndexOne'. -/
def indexOneUptoCard : Claim7 := { stood := { row := indexOneUptoRow, standIns := [], harness := (true, "499efcc59379284b917695a615ebea3d07d2f54518e30fb0ffa610a210fdbcd9"), looks := false }, kinds := [], alts := [], laidByText := true, laidKinds := [.data, .pinned], laidTests := true, laidLooks := .later }
def IndexOneUptoCardSaid : Prop := Claim7.holds Tryd.pinned (.plain (OpenSpec.upto indexOneSpec)) indexOneUptoCard

/-- THE SECOND FORM's CARD OF 'dolmenlaw14.IndexRacy'. -/
def indexRacyUptoCard : Claim7 := { stood := { row := indexRacyUptoRow, standIns := [], harness := (true, "499efcc59379284b917695a615ebea3d07d2f54518e30fb0ffa610a210fdbcd9"), looks := false }, kinds := [], alts := [], laidByText := true, laidKinds := [.data, .pinned], laidTests := true, laidLooks := .later }
def IndexRacyUptoCardSaid : Prop := Claim7.holds Tryd.pinned (.plain (OpenSpec.upto indexRacySpec)) indexRacyUptoCard

/-- THE SECOND FORM's CARD OF 'dolmenlaw14.IndexFiles'. -/
def indexFilesUptoCard : Claim7 := { stood := { row := indexFilesUptoRow, standIns := [], harness := (true, "499efcc59379284b917695a615ebea3d07d2f54518e30fb0ffa610a210fdbcd9"), looks := false }, kinds := [], alts := [], laidByText := true, laidKinds := [.data, .pinned], laidTests := true, laidLooks := .later }
def IndexFilesUptoCardSaid : Prop := Claim7.holds Tryd.pinned (.plain (OpenSpec.upto indexFilesSpec)) indexFilesUptoCard
end Rows
end Go.Proofs.YtpgobnmpgakjpaaDoor
