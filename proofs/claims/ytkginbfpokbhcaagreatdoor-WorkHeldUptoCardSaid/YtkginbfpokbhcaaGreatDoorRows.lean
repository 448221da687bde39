/-
  NARROWER THAN 'FOR EVERY INPUT', by the rows' own cells (each row's printed sentence says how): WorkStands: laid · WorkHeld: laid · WorkNothing: laid · PairDiffs: laid · PairMoves: laid · PairMakes: laid · WorkSame: laid.
  DERIVED. THE GIVEN ROWS OF THIS SEAT. 7 by the template 'for every input the law returns true; each argument reads behind the call as it read before'; 0 by the template 'total and deterministic' (their statements: YtkginbfpokbhcaaGreatDoorTotals.lean).
  GIVEN WITH THE SEED: the statements are not yours to turn. If you find one false, say at which input.
  Laid BY PROGRAM, IN A SANDBOX (cutbox-rows.mjs): the forced cells as the released guide's own fill.sh prints them over the translation 17881ed21c1d4d2a… (all of the seat's roots in one cut). By AI agents, Wed Nov 11 2026. No macro, syntax, notation, axiom, sorry.
-/
import Derived.Test.YtkginbfpokbhcaaGreatDoorChecked
import GoSem.PinnedTables
import GoSem.Claim
import GoSem.ClaimJoined
import GoSem.ClaimMapViews
import Derived.JoinedTies
import Derived.KernelRfl
namespace Go.Proofs.YtkginbfpokbhcaaGreatDoor
/- THE CELL 'sum', in the pinned program and in every row, IS THE sha256 OF THE DUMP (.gsa) THAT YtkginbfpokbhcaaGreatDoorProg.lean LOADS. Nothing in Lean hashes anything: it is a label: what it is worth is what the hold of that sum in a sandbox is worth. -/
noncomputable def Tryz.pinned : Pinned := { name := "ytkginbfpokbhcaagreatdoor", sum := "17881ed21c1d4d2ada8d3f48f5b54b118f72f109c702930ffc7c1fb5f6b8bf72", checked := Tryz.checked }
namespace Rows
def none {H : Type} : Left H := { results := [], args := [] }

/- WHAT THE LISTED PACKAGE-LEVEL VARIABLES READ AS WHEN THE CALL BEGINS. Each datum BY PROGRAM (the guide's laid-datum.mjs) off the statement by which the dump's own 'gosem.cut.vars' lays the variable. In a bare row this is a premise. The card (YtkginbfpokbhcaaGreatDoorCards.lean) ties it to the program's text. -/
def laid_unicode_utf8_acceptRanges {H : Type} : DataW H := .agg [.agg [.lit (.int .u8 128), .lit (.int .u8 191)], .agg [.lit (.int .u8 160), .lit (.int .u8 191)], .agg [.lit (.int .u8 128), .lit (.int .u8 159)], .agg [.lit (.int .u8 144), .lit (.int .u8 191)], .agg [.lit (.int .u8 128), .lit (.int .u8 143)], .agg [.lit (.int .u8 0), .lit (.int .u8 0)], .agg [.lit (.int .u8 0), .lit (.int .u8 0)], .agg [.lit (.int .u8 0), .lit (.int .u8 0)], .agg [.lit (.int .u8 0), .lit (.int .u8 0)], .agg [.lit (.int .u8 0), .lit (.int .u8 0)], .agg [.lit (.int .u8 0), .lit (.int .u8 0)], .agg [.lit (.int .u8 0), .lit (.int .u8 0)], .agg [.lit (.int .u8 0), .lit (.int .u8 0)], .agg [.lit (.int .u8 0), .lit (.int .u8 0)], .agg [.lit (.int .u8 0), .lit (.int .u8 0)], .agg [.lit (.int .u8 0), .lit (.int .u8 0)]]
/-- One of Go's own tables, pinned by name: the form's constant. -/
def laid_unicode_utf8_first : DataW Unit := Go.Pinned.utf8First

/-- 'dolmenlaw20.WorkStands': WHATEVER THE INPUT: true; the input reads as it did. -/
def workStandsSpec : ChangeSpec := { name := "workStands", fn := fun _ => fun
  | [d1, d2] => { results := [.lit (.bool true)], args := [d1, d2] }
  | _ => none }
def workStandsRow : OpenClaim := { program := "ytkginbfpokbhcaagreatdoor", sum := "17881ed21c1d4d2ada8d3f48f5b54b118f72f109c702930ffc7c1fb5f6b8bf72", func := "dolmen/dolmenlaw20.WorkStands", spec := "workStands", inPlace := ["internal/bytealg.IndexByteString", "internal/bytealg.CountString", "internal/bytealg.IndexString", "sync/atomic.AddInt64"], unfollowed := true, recurses := true, named := ["unicode/utf8.first", "unicode/utf8.acceptRanges", "internal/bytealg.MaxLen"], plainKeys := false, apart := false, laid := [("unicode/utf8.acceptRanges", laid_unicode_utf8_acceptRanges), ("unicode/utf8.first", laid_unicode_utf8_first)] }
def WorkStandsSaid : Prop := workStandsRow.holds Tryz.pinned (OpenSpec.ofChange workStandsSpec)

/-- ITS FALSE NEIGHBOUR: 'it returns false'. Refute it at one input. -/
def workStandsWrong : ChangeSpec := { name := "workStands", fn := fun _ => fun
  | [d1, d2] => { results := [.lit (.bool false)], args := [d1, d2] }
  | _ => none }
def WorkStandsWrongFalsely : Prop := workStandsRow.holds Tryz.pinned (OpenSpec.ofChange workStandsWrong)

/-- 'dolmenlaw20.WorkHeld': WHATEVER THE INPUT: true; the input reads as it did. -/
def workHeldSpec : ChangeSpec := { name := "workHeld", fn := fun _ => fun
  | [d] => { results := [.lit (.bool true)], args := [d] }
  | _ => none }
def workHeldRow : OpenClaim := { program := "ytkginbfpokbhcaagreatdoor", sum := "17881ed21c1d4d2ada8d3f48f5b54b118f72f109c702930ffc7c1fb5f6b8bf72", func := "dolmen/dolmenlaw20.WorkHeld", spec := "workHeld", inPlace := ["internal/bytealg.IndexByteString", "internal/bytealg.CountString", "internal/bytealg.IndexString", "sync/atomic.AddInt64"], unfollowed := true, recurses := true, named := ["unicode/utf8.first", "unicode/utf8.acceptRanges", "internal/bytealg.MaxLen"], plainKeys := false, apart := false, laid := [("unicode/utf8.acceptRanges", laid_unicode_utf8_acceptRanges), ("unicode/utf8.first", laid_unicode_utf8_first)] }
def WorkHeldSaid : Prop := workHeldRow.holds Tryz.pinned (OpenSpec.ofChange workHeldSpec)

/-- ITS FALSE NEIGHBOUR: 'it returns false'. Refute it at one input. -/
def workHeldWrong : ChangeSpec := { name := "workHeld", fn := fun _ => fun
  | [d] => { results := [.lit (.bool false)], args := [d] }
  | _ => none }
def WorkHeldWrongFalsely : Prop := workHeldRow.holds Tryz.pinned (OpenSpec.ofChange workHeldWrong)

/-- 'dolmenlaw20.WorkNothing': WHATEVER THE INPUT: true; the input reads as it did. -/
def workNothingSpec : ChangeSpec := { name := "workNothing", fn := fun _ => fun
  | [d] => { results := [.lit (.bool true)], args := [d] }
  | _ => none }
def workNothingRow : OpenClaim := { program := "ytkginbfpokbhcaagreatdoor", sum := "17881ed21c1d4d2ada8d3f48f5b54b118f72f109c702930ffc7c1fb5f6b8bf72", func := "dolmen/dolmenlaw20.WorkNothing", spec := "workNothing", inPlace := ["internal/bytealg.IndexByteString", "internal/bytealg.CountString", "internal/bytealg.IndexString", "sync/atomic.AddInt64"], unfollowed := true, recurses := true, named := ["unicode/utf8.first", "unicode/utf8.acceptRanges", "internal/bytealg.MaxLen"], plainKeys := false, apart := false, laid := [("unicode/utf8.acceptRanges", laid_unicode_utf8_acceptRanges), ("unicode/utf8.first", laid_unicode_utf8_first)] }
def WorkNothingSaid : Prop := workNothingRow.holds Tryz.pinned (OpenSpec.ofChange workNothingSpec)

/-- ITS FALSE NEIGHBOUR: 'it returns false'. Refute it at one input. -/
def workNothingWrong : ChangeSpec := { name := "workNothing", fn := fun _ => fun
  | [d] => { results := [.lit (.bool false)], args := [d] }
  | _ => none }
def WorkNothingWrongFalsely : Prop := workNothingRow.holds Tryz.pinned (OpenSpec.ofChange workNothingWrong)

/-- 'dolmenlaw16.PairDiffs': WHATEVER THE INPUT: true; the input reads as it did. -/
def pairDiffsSpec : ChangeSpec := { name := "pairDiffs", fn := fun _ => fun
  | [d1, d2] => { results := [.lit (.bool true)], args := [d1, d2] }
  | _ => none }
def pairDiffsRow : OpenClaim := { program := "ytkginbfpokbhcaagreatdoor", sum := "17881ed21c1d4d2ada8d3f48f5b54b118f72f109c702930ffc7c1fb5f6b8bf72", func := "dolmen/dolmenlaw16.PairDiffs", spec := "pairDiffs", inPlace := ["internal/bytealg.IndexByteString", "internal/bytealg.CountString", "internal/bytealg.IndexString"], unfollowed := true, recurses := true, named := ["unicode/utf8.first", "unicode/utf8.acceptRanges", "internal/bytealg.MaxLen"], plainKeys := false, apart := false, laid := [("unicode/utf8.acceptRanges", laid_unicode_utf8_acceptRanges), ("unicode/utf8.first", laid_unicode_utf8_first)] }
def PairDiffsSaid : Prop := pairDiffsRow.holds Tryz.pinned (OpenSpec.ofChange pairDiffsSpec)

/-- ITS FALSE NEIGHBOUR: 'it returns false'. Refute it at one input. -/
def pairDiffsWrong : ChangeSpec := { name := "pairDiffs", fn := fun _ => fun
  | [d1, d2] => { results := [.lit (.bool false)], args := [d1, d2] }
  | _ => none }
def PairDiffsWrongFalsely : Prop := pairDiffsRow.holds Tryz.pinned (OpenSpec.ofChange pairDiffsWrong)

/-- 'dolmenlaw16.PairMoves': WHATEVER THE INPUT: true; the input reads as it did. -/
def pairMovesSpec : ChangeSpec := { name := "pairMoves", fn := fun _ => fun
  | [d1, d2, d3] => { results := [.lit (.bool true)], args := [d1, d2, d3] }
  | _ => none }
def pairMovesRow : OpenClaim := { program := "ytkginbfpokbhcaagreatdoor", sum := "17881ed21c1d4d2ada8d3f48f5b54b118f72f109c702930ffc7c1fb5f6b8bf72", func := "dolmen/dolmenlaw16.PairMoves", spec := "pairMoves", inPlace := ["internal/bytealg.IndexByteString", "internal/bytealg.CountString", "internal/bytealg.IndexString"], unfollowed := true, recurses := true, named := ["unicode/utf8.first", "unicode/utf8.acceptRanges", "internal/bytealg.MaxLen"], plainKeys := false, apart := false, laid := [("unicode/utf8.acceptRanges", laid_unicode_utf8_acceptRanges), ("unicode/utf8.first", laid_unicode_utf8_first)] }
def PairMovesSaid : Prop := pairMovesRow.holds Tryz.pinned (OpenSpec.ofChange pairMovesSpec)

/-- ITS FALSE NEIGHBOUR: 'it returns false'. Refute it at one input. -/
def pairMovesWrong : ChangeSpec := { name := "pairMoves", fn := fun _ => fun
  | [d1, d2, d3] => { results := [.lit (.bool false)], args := [d1, d2, d3] }
  | _ => none }
def PairMovesWrongFalsely : Prop := pairMovesRow.holds Tryz.pinned (OpenSpec.ofChange pairMovesWrong)

/-- 'dolmenlaw16.PairMakes': WHATEVER THE INPUT: true; the input reads as it did. -/
def pairMakesSpec : ChangeSpec := { name := "pairMakes", fn := fun _ => fun
  | [d1, d2] => { results := [.lit (.bool true)], args := [d1, d2] }
  | _ => none }
def pairMakesRow : OpenClaim := { program := "ytkginbfpokbhcaagreatdoor", sum := "17881ed21c1d4d2ada8d3f48f5b54b118f72f109c702930ffc7c1fb5f6b8bf72", func := "dolmen/dolmenlaw16.PairMakes", spec := "pairMakes", inPlace := ["internal/bytealg.IndexByteString", "internal/bytealg.CountString", "internal/bytealg.IndexString"], unfollowed := true, recurses := true, named := ["unicode/utf8.first", "unicode/utf8.acceptRanges", "internal/bytealg.MaxLen"], plainKeys := false, apart := false, laid := [("unicode/utf8.acceptRanges", laid_unicode_utf8_acceptRanges), ("unicode/utf8.first", laid_unicode_utf8_first)] }
def PairMakesSaid : Prop := pairMakesRow.holds Tryz.pinned (OpenSpec.ofChange pairMakesSpec)

/-- ITS FALSE NEIGHBOUR: 'it returns false'. Refute it at one input. -/
def pairMakesWrong : ChangeSpec := { name := "pairMakes", fn := fun _ => fun
  | [d1, d2] => { results := [.lit (.bool false)], args := [d1, d2] }
  | _ => none }
def PairMakesWrongFalsely : Prop := pairMakesRow.holds Tryz.pinned (OpenSpec.ofChange pairMakesWrong)

/-- 'dolmenlaw20.WorkSame': WHATEVER THE INPUT: true; the input reads as it did. -/
def workSameSpec : ChangeSpec := { name := "workSame", fn := fun _ => fun
  | [d1, d2, d3] => { results := [.lit (.bool true)], args := [d1, d2, d3] }
  | _ => none }
def workSameRow : OpenClaim := { program := "ytkginbfpokbhcaagreatdoor", sum := "17881ed21c1d4d2ada8d3f48f5b54b118f72f109c702930ffc7c1fb5f6b8bf72", func := "dolmen/dolmenlaw20.WorkSame", spec := "workSame", inPlace := ["internal/bytealg.IndexByteString", "internal/bytealg.CountString", "internal/bytealg.IndexString", "sync/atomic.AddInt64"], unfollowed := true, recurses := true, named := ["unicode/utf8.first", "unicode/utf8.acceptRanges", "internal/bytealg.MaxLen"], plainKeys := false, apart := false, laid := [("unicode/utf8.acceptRanges", laid_unicode_utf8_acceptRanges), ("unicode/utf8.first", laid_unicode_utf8_first)] }
def WorkSameSaid : Prop := workSameRow.holds Tryz.pinned (OpenSpec.ofChange workSameSpec)

/-- ITS FALSE NEIGHBOUR: 'it returns false'. Refute it at one input. -/
def workSameWrong : ChangeSpec := { name := "workSame", fn := fun _ => fun
  | [d1, d2, d3] => { results := [.lit (.bool false)], args := [d1, d2, d3] }
  | _ => none }
def WorkSameWrongFalsely : Prop := workSameRow.holds Tryz.pinned (OpenSpec.ofChange workSameWrong)

/- THE SECOND FORM. 'bulk': how many values and letters a reading holds, each counted each time it is reached (what is shared counts as often as it is met; a slice's spare places count too). A statement '..UptoSaid' is the law's where the arguments, and the package variables that the reading takes, are together of bulk at most 1048576: NARROWER than '..Said'. Prove '..Said' where nothing that the law and all that it calls make is longer than what came in: it says more and counts as full. Else prove '..UptoSaid'. A law counts once. -/
mutual
def uptoBulk {H : Type} : DataW H → Nat
  | .lit (.string bytes) => bytes.length + 1
  | .lit _ => 1
  | .nil => 1
  | .ptr d => uptoBulk d + 1
  | .slice elems spare => uptoBulkAll elems + uptoBulkAll spare + 1
  | .agg parts => uptoBulkAll parts + 1
  | .iface _ d => uptoBulk d + 1
  | .map entries => uptoBulkEntries entries + 1
  | .held _ => 1
def uptoBulkAll {H : Type} : List (DataW H) → Nat
  | [] => 0
  | d :: r => uptoBulk d + uptoBulkAll r
def uptoBulkEntries {H : Type} : List (Lit × DataW H) → Nat
  | [] => 0
  | x :: r => uptoBulkEntry x + uptoBulkEntries r
def uptoBulkEntry {H : Type} : Lit × DataW H → Nat
  | (.string bytes, d) => bytes.length + uptoBulk d + 1
  | (_, d) => uptoBulk d + 1
 end
def uptoSmall : (H : Type) → List (DataW H) → Bool := fun _ ds => decide (uptoBulkAll ds ≤ 1048576)
def OpenSpec.upto (s : _root_.Go.ChangeSpec) : _root_.Go.OpenSpec := { _root_.Go.OpenSpec.ofChange s with cond := some uptoSmall }

/-- 'dolmenlaw20.WorkStands', WHERE WHAT IT READS IS OF BULK AT MOST 1048576: true; the input reads as it did. -/
def workStandsUptoRow : OpenClaim := { program := "ytkginbfpokbhcaagreatdoor", sum := "17881ed21c1d4d2ada8d3f48f5b54b118f72f109c702930ffc7c1fb5f6b8bf72", func := "dolmen/dolmenlaw20.WorkStands", spec := "workStands", inPlace := ["internal/bytealg.IndexByteString", "internal/bytealg.CountString", "internal/bytealg.IndexString", "sync/atomic.AddInt64"], unfollowed := true, recurses := true, named := ["unicode/utf8.first", "unicode/utf8.acceptRanges", "internal/bytealg.MaxLen"], plainKeys := false, apart := false, laid := [("unicode/utf8.acceptRanges", laid_unicode_utf8_acceptRanges), ("unicode/utf8.first", laid_unicode_utf8_first)], narrowed := true }
def WorkStandsUptoSaid : Prop := workStandsUptoRow.holds Tryz.pinned (OpenSpec.upto workStandsSpec)

/-- 'dolmenlaw20.WorkHeld', WHERE WHAT IT READS IS OF BULK AT MOST 1048576: true; the input reads as it did. -/
def workHeldUptoRow : OpenClaim := { program := "ytkginbfpokbhcaagreatdoor", sum := "17881ed21c1d4d2ada8d3f48f5b54b118f72f109c702930ffc7c1fb5f6b8bf72", func := "dolmen/dolmenlaw20.WorkHeld", spec := "workHeld", inPlace := ["internal/bytealg.IndexByteString", "internal/bytealg.CountString", "internal/bytealg.IndexString", "sync/atomic.AddInt64"], unfollowed := true, recurses := true, named := ["unicode/utf8.first", "unicode/utf8.acceptRanges", "internal/bytealg.MaxLen"], plainKeys := false, apart := false, laid := [("unicode/utf8.acceptRanges", laid_unicode_utf8_acceptRanges), ("unicode/utf8.first", laid_unicode_utf8_first)], narrowed := true }
def WorkHeldUptoSaid : Prop := workHeldUptoRow.holds Tryz.pinned (OpenSpec.upto workHeldSpec)

/-- 'dolmenlaw20.WorkNothing', WHERE WHAT IT READS IS OF BULK AT MOST 1048576: true; the input reads as it did. -/
def workNothingUptoRow : OpenClaim := { program := "ytkginbfpokbhcaagreatdoor", sum := "17881ed21c1d4d2ada8d3f48f5b54b118f72f109c702930ffc7c1fb5f6b8bf72", func := "dolmen/dolmenlaw20.WorkNothing", spec := "workNothing", inPlace := ["internal/bytealg.IndexByteString", "internal/bytealg.CountString", "internal/bytealg.IndexString", "sync/atomic.AddInt64"], unfollowed := true, recurses := true, named := ["unicode/utf8.first", "unicode/utf8.acceptRanges", "internal/bytealg.MaxLen"], plainKeys := false, apart := false, laid := [("unicode/utf8.acceptRanges", laid_unicode_utf8_acceptRanges), ("unicode/utf8.first", laid_unicode_utf8_first)], narrowed := true }
def WorkNothingUptoSaid : Prop := workNothingUptoRow.holds Tryz.pinned (OpenSpec.upto workNothingSpec)

/-- 'dolmenlaw16.PairDiffs', WHERE WHAT IT READS IS OF BULK AT MOST 1048576: true; the input reads as it did. -/
def pairDiffsUptoRow : OpenClaim := { program := "ytkginbfpokbhcaagreatdoor", sum := "17881ed21c1d4d2ada8d3f48f5b54b118f72f109c702930ffc7c1fb5f6b8bf72", func := "dolmen/dolmenlaw16.PairDiffs", spec := "pairDiffs", inPlace := ["internal/bytealg.IndexByteString", "internal/bytealg.CountString", "internal/bytealg.IndexString"], unfollowed := true, recurses := true, named := ["unicode/utf8.first", "unicode/utf8.acceptRanges", "internal/bytealg.MaxLen"], plainKeys := false, apart := false, laid := [("unicode/utf8.acceptRanges", laid_unicode_utf8_acceptRanges), ("unicode/utf8.first", laid_unicode_utf8_first)], narrowed := true }
def PairDiffsUptoSaid : Prop := pairDiffsUptoRow.holds Tryz.pinned (OpenSpec.upto pairDiffsSpec)

/-- 'dolmenlaw16.PairMoves', WHERE WHAT IT READS IS OF BULK AT MOST 1048576: true; the input reads as it did. -/
def pairMovesUptoRow : OpenClaim := { program := "ytkginbfpokbhcaagreatdoor", sum := "17881ed21c1d4d2ada8d3f48f5b54b118f72f109c702930ffc7c1fb5f6b8bf72", func := "dolmen/dolmenlaw16.PairMoves", spec := "pairMoves", inPlace := ["internal/bytealg.IndexByteString", "internal/bytealg.CountString", "internal/bytealg.IndexString"], unfollowed := true, recurses := true, named := ["unicode/utf8.first", "unicode/utf8.acceptRanges", "internal/bytealg.MaxLen"], plainKeys := false, apart := false, laid := [("unicode/utf8.acceptRanges", laid_unicode_utf8_acceptRanges), ("unicode/utf8.first", laid_unicode_utf8_first)], narrowed := true }
def PairMovesUptoSaid : Prop := pairMovesUptoRow.holds Tryz.pinned (OpenSpec.upto pairMovesSpec)

/-- 'dolmenlaw16.PairMakes', WHERE WHAT IT READS IS OF BULK AT MOST 1048576: true; the input reads as it did. -/
def pairMakesUptoRow : OpenClaim := { program := "ytkginbfpokbhcaagreatdoor", sum := "17881ed21c1d4d2ada8d3f48f5b54b118f72f109c702930ffc7c1fb5f6b8bf72", func := "dolmen/dolmenlaw16.PairMakes", spec := "pairMakes", inPlace := ["internal/bytealg.IndexByteString", "internal/bytealg.CountString", "internal/bytealg.IndexString"], unfollowed := true, recurses := true, named := ["unicode/utf8.first", "unicode/utf8.acceptRanges", "internal/bytealg.MaxLen"], plainKeys := false, apart := false, laid := [("unicode/utf8.acceptRanges", laid_unicode_utf8_acceptRanges), ("unicode/utf8.first", laid_unicode_utf8_first)], narrowed := true }
def PairMakesUptoSaid : Prop := pairMakesUptoRow.holds Tryz.pinned (OpenSpec.upto pairMakesSpec)

/-- 'dolmenlaw20.WorkSame', WHERE WHAT IT READS IS OF BULK AT MOST 1048576: true; the input reads as it did. -/
def workSameUptoRow : OpenClaim := { program := "ytkginbfpokbhcaagreatdoor", sum := "17881ed21c1d4d2ada8d3f48f5b54b118f72f109c702930ffc7c1fb5f6b8bf72", func := "dolmen/dolmenlaw20.WorkSame", spec := "workSame", inPlace := ["internal/bytealg.IndexByteString", "internal/bytealg.CountString", "internal/bytealg.IndexString", "sync/atomic.AddInt64"], unfollowed := true, recurses := true, named := ["unicode/utf8.first", "unicode/utf8.acceptRanges", "internal/bytealg.MaxLen"], plainKeys := false, apart := false, laid := [("unicode/utf8.acceptRanges", laid_unicode_utf8_acceptRanges), ("unicode/utf8.first", laid_unicode_utf8_first)], narrowed := true }
def WorkSameUptoSaid : Prop := workSameUptoRow.holds Tryz.pinned (OpenSpec.upto workSameSpec)

end Rows
end Go.Proofs.YtkginbfpokbhcaaGreatDoor
