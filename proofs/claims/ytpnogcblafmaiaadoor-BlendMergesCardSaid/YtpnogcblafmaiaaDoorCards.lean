/-
  DERIVED. GIVEN WITH THE SEED: THE CARDS: each row of YtpnogcblafmaiaaDoorRows.lean that lists a variable, with what it lists TIED to the program's text (the seventh form; the later family's looks); each row that meets fmt, with fmt's text TOLD by the authors' own Lean function (tested against real Go, not proved from fmt's source: count such statements apart). THE CARD IS WHAT COUNTS. Prove the row's statement (the work); the ties are given (YtpnogcblafmaiaaDoorTie.lean); close each card by the builder's one call (the guide's Derived/Test/ToyasCard.lean, 'card_holds'). Laid BY PROGRAM, IN A SANDBOX (cutbox-door.mjs). By AI agents, Wed Nov 11 2026. No macro, syntax, notation, axiom, sorry.
-/
import Derived.Test.YtpnogcblafmaiaaDoorRows
import GoSem.ClaimSeven
namespace Go.Proofs.YtpnogcblafmaiaaDoor
namespace Rows

/-- THE TIED CARD OF 'dolmenlaw15.LineDiffs'. -/
def lineDiffsCard : Claim7 := { stood := { row := lineDiffsRow, standIns := [], harness := (true, "48c085ab0a8d340747a43aab8aa73fb4cc713e35a5eac7d36ee7138b05021ccc"), looks := false }, kinds := [], alts := [], laidByText := true, laidKinds := [.data, .pinned], laidTests := true, laidLooks := .later }
def LineDiffsCardSaid : Prop := Claim7.holds Tryd.pinned (.plain (OpenSpec.ofChange lineDiffsSpec)) lineDiffsCard

/-- THE TIED CARD OF 'dolmenlaw15.LineMakes'. -/
def lineMakesCard : Claim7 := { stood := { row := lineMakesRow, standIns := [], harness := (true, "48c085ab0a8d340747a43aab8aa73fb4cc713e35a5eac7d36ee7138b05021ccc"), looks := false }, kinds := [], alts := [], laidByText := true, laidKinds := [.data, .pinned], laidTests := true, laidLooks := .later }
def LineMakesCardSaid : Prop := Claim7.holds Tryd.pinned (.plain (OpenSpec.ofChange lineMakesSpec)) lineMakesCard

/-- THE TIED CARD OF 'dolmenlaw15.LineLeast'. -/
def lineLeastCard : Claim7 := { stood := { row := lineLeastRow, standIns := [], harness := (true, "48c085ab0a8d340747a43aab8aa73fb4cc713e35a5eac7d36ee7138b05021ccc"), looks := false }, kinds := [], alts := [], laidByText := true, laidKinds := [.data, .pinned], laidTests := true, laidLooks := .later }
def LineLeastCardSaid : Prop := Claim7.holds Tryd.pinned (.plain (OpenSpec.ofChange lineLeastSpec)) lineLeastCard

/-- THE TIED CARD OF 'dolmenlaw15.LineAdds'. -/
def lineAddsCard : Claim7 := { stood := { row := lineAddsRow, standIns := [], harness := (true, "48c085ab0a8d340747a43aab8aa73fb4cc713e35a5eac7d36ee7138b05021ccc"), looks := false }, kinds := [], alts := [], laidByText := true, laidKinds := [.data, .pinned], laidTests := true, laidLooks := .later }
def LineAddsCardSaid : Prop := Claim7.holds Tryd.pinned (.plain (OpenSpec.ofChange lineAddsSpec)) lineAddsCard

/-- THE TIED CARD OF 'dolmenlaw15.LineSplits'. -/
def lineSplitsCard : Claim7 := { stood := { row := lineSplitsRow, standIns := [], harness := (true, "48c085ab0a8d340747a43aab8aa73fb4cc713e35a5eac7d36ee7138b05021ccc"), looks := false }, kinds := [], alts := [], laidByText := true, laidKinds := [.data, .pinned], laidTests := true, laidLooks := .later }
def LineSplitsCardSaid : Prop := Claim7.holds Tryd.pinned (.plain (OpenSpec.ofChange lineSplitsSpec)) lineSplitsCard

/-- THE TIED CARD OF 'dolmenlaw17.BlendMerges'. -/
def blendMergesCard : Claim7 := { stood := { row := blendMergesRow, standIns := [], harness := (true, "48c085ab0a8d340747a43aab8aa73fb4cc713e35a5eac7d36ee7138b05021ccc"), looks := false }, kinds := [], alts := [], laidByText := true, laidKinds := [.data, .pinned], laidTests := true, laidLooks := .later }
def BlendMergesCardSaid : Prop := Claim7.holds Tryd.pinned (.plain (OpenSpec.ofChange blendMergesSpec)) blendMergesCard

/-- THE TIED CARD OF 'dolmenlaw17.BlendSides'. -/
def blendSidesCard : Claim7 := { stood := { row := blendSidesRow, standIns := [], harness := (true, "48c085ab0a8d340747a43aab8aa73fb4cc713e35a5eac7d36ee7138b05021ccc"), looks := false }, kinds := [], alts := [], laidByText := true, laidKinds := [.data, .pinned], laidTests := true, laidLooks := .later }
def BlendSidesCardSaid : Prop := Claim7.holds Tryd.pinned (.plain (OpenSpec.ofChange blendSidesSpec)) blendSidesCard

/-- THE TIED CARD OF 'dolmenlaw17.BlendTurns'. -/
def blendTurnsCard : Claim7 := { stood := { row := blendTurnsRow, standIns := [], harness := (true, "48c085ab0a8d340747a43aab8aa73fb4cc713e35a5eac7d36ee7138b05021ccc"), looks := false }, kinds := [], alts := [], laidByText := true, laidKinds := [.data, .pinned], laidTests := true, laidLooks := .later }
def BlendTurnsCardSaid : Prop := Claim7.holds Tryd.pinned (.plain (OpenSpec.ofChange blendTurnsSpec)) blendTurnsCard

/-- THE TIED CARD OF 'dolmenlaw17.BlendApart'. -/
def blendApartCard : Claim7 := { stood := { row := blendApartRow, standIns := [], harness := (true, "48c085ab0a8d340747a43aab8aa73fb4cc713e35a5eac7d36ee7138b05021ccc"), looks := false }, kinds := [], alts := [], laidByText := true, laidKinds := [.data, .pinned], laidTests := true, laidLooks := .later }
def BlendApartCardSaid : Prop := Claim7.holds Tryd.pinned (.plain (OpenSpec.ofChange blendApartSpec)) blendApartCard

/-- THE TIED CARD OF 'dolmenlaw17.BlendMarks'. -/
def blendMarksCard : Claim7 := { stood := { row := blendMarksRow, standIns := [], harness := (true, "48c085ab0a8d340747a43aab8aa73fb4cc713e35a5eac7d36ee7138b05021ccc"), looks := false }, kinds := [], alts := [], laidByText := true, laidKinds := [.data, .pinned], laidTests := true, laidLooks := .later }
def BlendMarksCardSaid : Prop := Claim7.holds Tryd.pinned (.plain (OpenSpec.ofChange blendMarksSpec)) blendMarksCard

/-- THE TIED CARD OF 'dolmenlaw17.BlendNone'. -/
def blendNoneCard : Claim7 := { stood := { row := blendNoneRow, standIns := [], harness := (true, "48c085ab0a8d340747a43aab8aa73fb4cc713e35a5eac7d36ee7138b05021ccc"), looks := false }, kinds := [], alts := [], laidByText := true, laidKinds := [.data, .pinned], laidTests := true, laidLooks := .later }
def BlendNoneCardSaid : Prop := Claim7.holds Tryd.pinned (.plain (OpenSpec.ofChange blendNoneSpec)) blendNoneCard

/-- THE SECOND FORM's CARD OF 'dolmenlaw15.LineDiffs'. -/
def lineDiffsUptoCard : Claim7 := { stood := { row := lineDiffsUptoRow, standIns := [], harness := (true, "48c085ab0a8d340747a43aab8aa73fb4cc713e35a5eac7d36ee7138b05021ccc"), looks := false }, kinds := [], alts := [], laidByText := true, laidKinds := [.data, .pinned], laidTests := true, laidLooks := .later }
def LineDiffsUptoCardSaid : Prop := Claim7.holds Tryd.pinned (.plain (OpenSpec.upto lineDiffsSpec)) lineDiffsUptoCard

/-- THE SECOND FORM's CARD OF 'dolmenlaw15.LineMakes'. -/
def lineMakesUptoCard : Claim7 := { stood := { row := lineMakesUptoRow, standIns := [], harness := (true, "48c085ab0a8d340747a43aab8aa73fb4cc713e35a5eac7d36ee7138b05021ccc"), looks := false }, kinds := [], alts := [], laidByText := true, laidKinds := [.data, .pinned], laidTests := true, laidLooks := .later }
def LineMakesUptoCardSaid : Prop := Claim7.holds Tryd.pinned (.plain (OpenSpec.upto lineMakesSpec)) lineMakesUptoCard

/-- THE SECOND FORM's CARD OF 'dolmenlaw15.LineLeast'. -/
def lineLeastUptoCard : Claim7 := { stood := { row := lineLeastUptoRow, standIns := [], harness := (true, "48c085ab0a8d340747a43aab8aa73fb4cc713e35a5eac7d36ee7138b05021ccc"), looks := false }, kinds := [], alts := [], laidByText := true, laidKinds := [.data, .pinned], laidTests := true, laidLooks := .later }
def LineLeastUptoCardSaid : Prop := Claim7.holds Tryd.pinned (.plain (OpenSpec.upto lineLeastSpec)) lineLeastUptoCard

/-- THE SECOND FORM's CARD OF 'dolmenlaw15.LineAdds'. -/
def lineAddsUptoCard : Claim7 := { stood := { row := lineAddsUptoRow, standIns := [], harness := (true, "48c085ab0a8d340747a43aab8aa73fb4cc713e35a5eac7d36ee7138b05021ccc"), looks := false }, kinds := [], alts := [], laidByText := true, laidKinds := [.data, .pinned], laidTests := true, laidLooks := .later }
def LineAddsUptoCardSaid : Prop := Claim7.holds Tryd.pinned (.plain (OpenSpec.upto lineAddsSpec)) lineAddsUptoCard

/-- THE SECOND FORM's CARD OF 'dolmenlaw15.LineSplits'. -/
def lineSplitsUptoCard : Claim7 := { stood := { row := lineSplitsUptoRow, standIns := [], harness := (true, "48c085ab0a8d340747a43aab8aa73fb4cc713e35a5eac7d36ee7138b05021ccc"), looks := false }, kinds := [], alts := [], laidByText := true, laidKinds := [.data, .pinned], laidTests := true, laidLooks := .later }
def LineSplitsUptoCardSaid : Prop := Claim7.holds Tryd.pinned (.plain (OpenSpec.upto lineSplitsSpec)) lineSplitsUptoCard

/-- THE SECOND FORM's CARD OF 'dolmenlaw17.BlendMerges'. -/
def blendMergesUptoCard : Claim7 := { stood := { row := blendMergesUptoRow, standIns := [], harness := (true, "48c085ab0a8d340747a43aab8aa73fb4cc713e35a5eac7d36ee7138b05021ccc"), looks := false }, kinds := [], alts := [], laidByText := true, laidKinds := [.data, .pinned], laidTests := true, laidLooks := .later }
def BlendMergesUptoCardSaid : Prop := Claim7.holds Tryd.pinned (.plain (OpenSpec.upto blendMergesSpec)) blendMergesUptoCard

/-- THE SECOND FORM's CARD OF 'dolmenlaw17.BlendSides'. -/
def blendSidesUptoCard : Claim7 := { stood := { row := blendSidesUptoRow, standIns := [], harness := (true, "48c085ab0a8d340747a43aab8aa73fb4cc713e35a5eac7d36ee7138b05021ccc"), looks := false }, kinds := [], alts := [], laidByText := true, laidKinds := [.data, .pinned], laidTests := true, laidLooks := .later }
def BlendSidesUptoCardSaid : Prop := Claim7.holds Tryd.pinned (.plain (OpenSpec.upto blendSidesSpec)) blendSidesUptoCard

/-- THE SECOND FORM's CARD OF 'dolmenlaw17.BlendTurns'. -/
def blendTurnsUptoCard : Claim7 := { stood := { row := blendTurnsUptoRow, standIns := [], harness := (true, "48c085ab0a8d340747a43aab8aa73fb4cc713e35a5eac7d36ee7138b05021ccc"), looks := false }, kinds := [], alts := [], laidByText := true, laidKinds := [.data, .pinned], laidTests := true, laidLooks := .later }
def BlendTurnsUptoCardSaid : Prop := Claim7.holds Tryd.pinned (.plain (OpenSpec.upto blendTurnsSpec)) blendTurnsUptoCard

/-- THE SECOND FORM's CARD OF 'dolmenlaw17.BlendApart'. -/
def blendApartUptoCard : Claim7 := { stood := { row := blendApartUptoRow, standIns := [], harness := (true, "48c085ab0a8d340747a43aab8aa73fb4cc713e35a5eac7d36ee7138b05021ccc"), looks := false }, kinds := [], alts := [], laidByText := true, laidKinds := [.data, .pinned], laidTests := true, laidLooks := .later }
def BlendApartUptoCardSaid : Prop := Claim7.holds Tryd.pinned (.plain (OpenSpec.upto blendApartSpec)) blendApartUptoCard

/-- THE SECOND FORM's CARD OF 'dolmenlaw17.BlendMarks'. -/
def blendMarksUptoCard : Claim7 := { stood := { row := blendMarksUptoRow, standIns := [], harness := (true, "48c085ab0a8d340747a43aab8aa73fb4cc713e35a5eac7d36ee7138b05021ccc"), looks := false }, kinds := [], alts := [], laidByText := true, laidKinds := [.data, .pinned], laidTests := true, laidLooks := .later }
def BlendMarksUptoCardSaid : Prop := Claim7.holds Tryd.pinned (.plain (OpenSpec.upto blendMarksSpec)) blendMarksUptoCard

/-- THE SECOND FORM's CARD OF 'dolmenlaw17.BlendNone'. -/
def blendNoneUptoCard : Claim7 := { stood := { row := blendNoneUptoRow, standIns := [], harness := (true, "48c085ab0a8d340747a43aab8aa73fb4cc713e35a5eac7d36ee7138b05021ccc"), looks := false }, kinds := [], alts := [], laidByText := true, laidKinds := [.data, .pinned], laidTests := true, laidLooks := .later }
def BlendNoneUptoCardSaid : Prop := Claim7.holds Tryd.pinned (.plain (OpenSpec.upto blendNoneSpec)) blendNoneUptoCard
end Rows
end Go.Proofs.YtpnogcblafmaiaaDoor
