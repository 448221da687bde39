/-
  DERIVED. GIVEN WITH THE SEED: THE CARDS: each row of YtmpjkjpfdkmhlaaDoorRows.lean that lists a variable, with what it lists TIED to the program's text (the seventh form; the later family's looks); each row that meets fmt, with fmt's text TOLD by the authors' own Lean function (tested against real Go, not proved from fmt's source: count such statements apart). THE CARD IS WHAT COUNTS. Prove the row's statement (the work); the ties are given (YtmpjkjpfdkmhlaaDoorTie.lean); close each card by the builder's one call (the guide's Derived/Test/ToyasCard.lean, 'card_holds'). Laid BY PROGRAM, IN A SANDBOX (cutbox-door.mjs). By AI agents, Wed Nov 11 2026. No macro, syntax, notation, axiom, sorry.
-/
import Derived.Test.YtmpjkjpfdkmhlaaDoorRows
import GoSem.ClaimSeven
namespace Go.Proofs.YtmpjkjpfdkmhlaaDoor
namespace Rows

/-- THE TIED CARD OF 'dolmenlaw11.RefsLeads'. -/
def refsLeadsCard : Claim7 := { stood := { row := refsLeadsRow, standIns := [], harness := (true, "979336d536712ad4d9f65c0b246694e4c59a76647b240474f572ce0c84fc9298"), looks := false }, kinds := [], alts := [], laidByText := true, laidKinds := [.data, .pinned], laidTests := true, laidLooks := .later }
def RefsLeadsCardSaid : Prop := Claim7.holds Tryd.pinned (.plain (OpenSpec.ofChange refsLeadsSpec)) refsLeadsCard

/-- THE TIED CARD OF 'dolmenlaw11.RefsFollow'. -/
def refsFollowCard : Claim7 := { stood := { row := refsFollowRow, standIns := [], harness := (true, "979336d536712ad4d9f65c0b246694e4c59a76647b240474f572ce0c84fc9298"), looks := false }, kinds := [], alts := [], laidByText := true, laidKinds := [.data, .pinned], laidTests := true, laidLooks := .later }
def RefsFollowCardSaid : Prop := Claim7.holds Tryd.pinned (.plain (OpenSpec.ofChange refsFollowSpec)) refsFollowCard

/-- THE SECOND FORM's CARD OF 'dolmenlaw11.RefsLeads'. -/
def refsLeadsUptoCard : Claim7 := { stood := { row := refsLeadsUptoRow, standIns := [], harness := (true, "979336d536712ad4d9f65c0b246694e4c59a76647b240474f572ce0c84fc9298"), looks := false }, kinds := [], alts := [], laidByText := true, laidKinds := [.data, .pinned], laidTests := true, laidLooks := .later }
def RefsLeadsUptoCardSaid : Prop := Claim7.holds Tryd.pinned (.plain (OpenSpec.upto refsLeadsSpec)) refsLeadsUptoCard

/-- THE SECOND FORM's CARD OF 'dolmenlaw11.RefsFollow'. -/
def refsFollowUptoCard : Claim7 := { stood := { row := refsFollowUptoRow, standIns := [], harness := (true, "979336d536712ad4d9f65c0b246694e4c59a76647b240474f572ce0c84fc9298"), looks := false }, kinds := [], alts := [], laidByText := true, laidKinds := [.data, .pinned], laidTests := true, laidLooks := .later }
def RefsFollowUptoCardSaid : Prop := Claim7.holds Tryd.pinned (.plain (OpenSpec.upto refsFollowSpec)) refsFollowUptoCard
end Rows
end Go.Proofs.YtmpjkjpfdkmhlaaDoor
