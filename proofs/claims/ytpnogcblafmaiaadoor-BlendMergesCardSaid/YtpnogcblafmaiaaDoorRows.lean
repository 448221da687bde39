/-
  NARROWER THAN 'FOR EVERY INPUT', by the rows' own cells (each row's printed sentence says how): LineDiffs: laid · LineMakes: laid · LineLeast: laid · LineAdds: laid · LineSplits: laid · BlendMerges: laid · BlendSides: laid · BlendTurns: laid · BlendApart: laid · BlendMarks: laid · BlendNone: laid.
  DERIVED. THE GIVEN ROWS OF THIS SEAT. 11 by the template 'for every input the law returns true; each argument reads behind the call as it read before'; 0 by the template 'total and deterministic' (their statements: YtpnogcblafmaiaaDoorTotals.lean).
  GIVEN WITH THE SEED: the statements are not yours to turn. If you find one false, say at which input.
  Laid BY PROGRAM, IN A SANDBOX (cutbox-rows.mjs): the forced cells as the released guide's own fill.sh prints them over the translation ab26e51701a55250… (all of the seat's roots in one cut). By AI agents, Wed Nov 11 2026. No macro, syntax, notation, axiom, sorry.
-/
import Derived.Test.YtpnogcblafmaiaaDoorChecked
import GoSem.PinnedTables
import GoSem.Claim
import GoSem.ClaimJoined
import GoSem.ClaimMapViews
import Derived.JoinedTies
import Derived.KernelRfl
namespace Go.Proofs.YtpnogcblafmaiaaDoor
/- THE CELL 'sum', in the pinned program and in every row, IS THE sha256 OF THE DUMP (.gsa) THAT YtpnogcblafmaiaaDoorProg.lean LOADS. Nothing in Lean hashes anything: it is a label: what it is worth is what the hold of that sum in a sandbox is worth. -/
noncomputable def Tryd.pinned : Pinned := { name := "ytpnogcblafmaiaadoor", sum := "ab26e51701a55250e44879b3e7b6c55f8f06d72f918cda2a84b765dbbf702a0c", checked := Tryd.checked }
namespace Rows
def none {H : Type} : Left H := { results := [], args := [] }

/- WHAT THE LISTED PACKAGE-LEVEL VARIABLES READ AS WHEN THE CALL BEGINS. Each datum BY PROGRAM (the guide's laid-datum.mjs) off the statement by which the dump's own 'gosem.cut.vars' lays the variable. In a bare row this is a premise. The card (YtpnogcblafmaiaaDoorCards.lean) ties it to the program's text. -/
def laid_unicode_utf8_acceptRanges {H : Type} : DataW H := .agg [.agg [.lit (.int .u8 128), .lit (.int .u8 191)], .agg [.lit (.int .u8 160), .lit (.int .u8 191)], .agg [.lit (.int .u8 128), .lit (.int .u8 159)], .agg [.lit (.int .u8 144), .lit (.int .u8 191)], .agg [.lit (.int .u8 128), .lit (.int .u8 143)], .agg [.lit (.int .u8 0), .lit (.int .u8 0)], .agg [.lit (.int .u8 0), .lit (.int .u8 0)], .agg [.lit (.int .u8 0), .lit (.int .u8 0)], .agg [.lit (.int .u8 0), .lit (.int .u8 0)], .agg [.lit (.int .u8 0), .lit (.int .u8 0)], .agg [.lit (.int .u8 0), .lit (.int .u8 0)], .agg [.lit (.int .u8 0), .lit (.int .u8 0)], .agg [.lit (.int .u8 0), .lit (.int .u8 0)], .agg [.lit (.int .u8 0), .lit (.int .u8 0)], .agg [.lit (.int .u8 0), .lit (.int .u8 0)], .agg [.lit (.int .u8 0), .lit (.int .u8 0)]]
/-- One of Go's own tables, pinned by name: the form's constant. -/
def laid_unicode_utf8_first : DataW Unit := Go.Pinned.utf8First

/-- 'dolmenlaw15.LineDiffs': WHATEVER THE INPUT: true; the input reads as it did. -/
def lineDiffsSpec : ChangeSpec := { name := "lineDiffs", fn := fun _ => fun
  | [d1, d2] => { results := [.lit (.bool true)], args := [d1, d2] }
  | _ => none }
def lineDiffsRow : OpenClaim := { program := "ytpnogcblafmaiaadoor", sum := "ab26e51701a55250e44879b3e7b6c55f8f06d72f918cda2a84b765dbbf702a0c", func := "dolmen/dolmenlaw15.LineDiffs", spec := "lineDiffs", inPlace := ["internal/bytealg.CountString", "internal/bytealg.IndexByteString", "internal/bytealg.IndexString"], unfollowed := true, recurses := true, named := ["unicode/utf8.first", "unicode/utf8.acceptRanges", "internal/bytealg.MaxLen"], apart := false, laid := [("unicode/utf8.acceptRanges", laid_unicode_utf8_acceptRanges), ("unicode/utf8.first", laid_unicode_utf8_first)] }
def LineDiffsSaid : Prop := lineDiffsRow.holds Tryd.pinned (OpenSpec.ofChange lineDiffsSpec)

/-- ITS FALSE NEIGHBOUR: 'it returns false'. Refute it at one input. -/
def lineDiffsWrong : ChangeSpec := { name := "lineDiffs", fn := fun _ => fun
  | [d1, d2] => { results := [.lit (.bool false)], args := [d1, d2] }
  | _ => none }
def LineDiffsWrongFalsely : Prop := lineDiffsRow.holds Tryd.pinned (OpenSpec.ofChange lineDiffsWrong)

/-- 'dolmenlaw15.LineMakes': WHATEVER THE INPUT: true; the input reads as it did. -/
def lineMakesSpec : ChangeSpec := { name := "lineMakes", fn := fun _ => fun
  | [d1, d2] => { results := [.lit (.bool true)], args := [d1, d2] }
  | _ => none }
def lineMakesRow : OpenClaim := { program := "ytpnogcblafmaiaadoor", sum := "ab26e51701a55250e44879b3e7b6c55f8f06d72f918cda2a84b765dbbf702a0c", func := "dolmen/dolmenlaw15.LineMakes", spec := "lineMakes", inPlace := ["internal/bytealg.CountString", "internal/bytealg.IndexByteString", "internal/bytealg.IndexString"], unfollowed := true, recurses := true, named := ["unicode/utf8.first", "unicode/utf8.acceptRanges", "internal/bytealg.MaxLen"], apart := false, laid := [("unicode/utf8.acceptRanges", laid_unicode_utf8_acceptRanges), ("unicode/utf8.first", laid_unicode_utf8_first)] }
def LineMakesSaid : Prop := lineMakesRow.holds Tryd.pinned (OpenSpec.ofChange lineMakesSpec)

/-- ITS FALSE NEIGHBOUR: 'it returns false'. Refute it at one input. -/
def lineMakesWrong : ChangeSpec := { name := "lineMakes", fn := fun _ => fun
  | [d1, d2] => { results := [.lit (.bool false)], args := [d1, d2] }
  | _ => none }
def LineMakesWrongFalsely : Prop := lineMakesRow.holds Tryd.pinned (OpenSpec.ofChange lineMakesWrong)

/-- 'dolmenlaw15.LineLeast': WHATEVER THE INPUT: true; the input reads as it did. -/
def lineLeastSpec : ChangeSpec := { name := "lineLeast", fn := fun _ => fun
  | [d1, d2] => { results := [.lit (.bool true)], args := [d1, d2] }
  | _ => none }
def lineLeastRow : OpenClaim := { program := "ytpnogcblafmaiaadoor", sum := "ab26e51701a55250e44879b3e7b6c55f8f06d72f918cda2a84b765dbbf702a0c", func := "dolmen/dolmenlaw15.LineLeast", spec := "lineLeast", inPlace := ["internal/bytealg.CountString", "internal/bytealg.IndexByteString", "internal/bytealg.IndexString"], unfollowed := true, recurses := true, named := ["unicode/utf8.first", "unicode/utf8.acceptRanges", "internal/bytealg.MaxLen"], apart := false, laid := [("unicode/utf8.acceptRanges", laid_unicode_utf8_acceptRanges), ("unicode/utf8.first", laid_unicode_utf8_first)] }
def LineLeastSaid : Prop := lineLeastRow.holds Tryd.pinned (OpenSpec.ofChange lineLeastSpec)

/-- ITS FALSE NEIGHBOUR: 'it returns false'. Refute it at one input. -/
def lineLeastWrong : ChangeSpec := { name := "lineLeast", fn := fun _ => fun
  | [d1, d2] => { results := [.lit (.bool false)], args := [d1, d2] }
  | _ => none }
def LineLeastWrongFalsely : Prop := lineLeastRow.holds Tryd.pinned (OpenSpec.ofChange lineLeastWrong)

/-- 'dolmenlaw15.LineAdds': WHATEVER THE INPUT: true; the input reads as it did. -/
def lineAddsSpec : ChangeSpec := { name := "lineAdds", fn := fun _ => fun
  | [d1, d2] => { results := [.lit (.bool true)], args := [d1, d2] }
  | _ => none }
def lineAddsRow : OpenClaim := { program := "ytpnogcblafmaiaadoor", sum := "ab26e51701a55250e44879b3e7b6c55f8f06d72f918cda2a84b765dbbf702a0c", func := "dolmen/dolmenlaw15.LineAdds", spec := "lineAdds", inPlace := ["internal/bytealg.CountString", "internal/bytealg.IndexByteString", "internal/bytealg.IndexString"], unfollowed := true, recurses := true, named := ["unicode/utf8.first", "unicode/utf8.acceptRanges", "internal/bytealg.MaxLen"], apart := false, laid := [("unicode/utf8.acceptRanges", laid_unicode_utf8_acceptRanges), ("unicode/utf8.first", laid_unicode_utf8_first)] }
def LineAddsSaid : Prop := lineAddsRow.holds Tryd.pinned (OpenSpec.ofChange lineAddsSpec)

/-- ITS FALSE NEIGHBOUR: 'it returns false'. Refute it at one input. -/
def lineAddsWrong : ChangeSpec := { name := "lineAdds", fn := fun _ => fun
  | [d1, d2] => { results := [.lit (.bool false)], args := [d1, d2] }
  | _ => none }
def LineAddsWrongFalsely : Prop := lineAddsRow.holds Tryd.pinned (OpenSpec.ofChange lineAddsWrong)

/-- 'dolmenlaw15.LineSplits': WHATEVER THE INPUT: true; the input reads as it did. -/
def lineSplitsSpec : ChangeSpec := { name := "lineSplits", fn := fun _ => fun
  | [d1, d2] => { results := [.lit (.bool true)], args := [d1, d2] }
  | _ => none }
def lineSplitsRow : OpenClaim := { program := "ytpnogcblafmaiaadoor", sum := "ab26e51701a55250e44879b3e7b6c55f8f06d72f918cda2a84b765dbbf702a0c", func := "dolmen/dolmenlaw15.LineSplits", spec := "lineSplits", inPlace := ["internal/bytealg.CountString", "internal/bytealg.IndexByteString", "internal/bytealg.IndexString", "internal/abi.NoEscape", "internal/bytealg.MakeNoZero"], unfollowed := true, recurses := true, named := ["unicode/utf8.first", "unicode/utf8.acceptRanges", "internal/bytealg.MaxLen"], apart := false, laid := [("unicode/utf8.acceptRanges", laid_unicode_utf8_acceptRanges), ("unicode/utf8.first", laid_unicode_utf8_first)] }
def LineSplitsSaid : Prop := lineSplitsRow.holds Tryd.pinned (OpenSpec.ofChange lineSplitsSpec)

/-- ITS FALSE NEIGHBOUR: 'it returns false'. Refute it at one input. -/
def lineSplitsWrong : ChangeSpec := { name := "lineSplits", fn := fun _ => fun
  | [d1, d2] => { results := [.lit (.bool false)], args := [d1, d2] }
  | _ => none }
def LineSplitsWrongFalsely : Prop := lineSplitsRow.holds Tryd.pinned (OpenSpec.ofChange lineSplitsWrong)

/-- 'dolmenlaw17.BlendMerges': WHATEVER THE INPUT: true; the input reads as it did. -/
def blendMergesSpec : ChangeSpec := { name := "blendMerges", fn := fun _ => fun
  | [d1, d2, d3] => { results := [.lit (.bool true)], args := [d1, d2, d3] }
  | _ => none }
def blendMergesRow : OpenClaim := { program := "ytpnogcblafmaiaadoor", sum := "ab26e51701a55250e44879b3e7b6c55f8f06d72f918cda2a84b765dbbf702a0c", func := "dolmen/dolmenlaw17.BlendMerges", spec := "blendMerges", inPlace := ["internal/bytealg.CountString", "internal/bytealg.IndexByteString", "internal/bytealg.IndexString", "internal/abi.NoEscape", "internal/bytealg.MakeNoZero"], unfollowed := true, recurses := true, named := ["unicode/utf8.first", "unicode/utf8.acceptRanges", "internal/bytealg.MaxLen"], apart := false, laid := [("unicode/utf8.acceptRanges", laid_unicode_utf8_acceptRanges), ("unicode/utf8.first", laid_unicode_utf8_first)] }
def BlendMergesSaid : Prop := blendMergesRow.holds Tryd.pinned (OpenSpec.ofChange blendMergesSpec)

/-- ITS FALSE NEIGHBOUR: 'it returns false'. Refute it at one input. -/
def blendMergesWrong : ChangeSpec := { name := "blendMerges", fn := fun _ => fun
  | [d1, d2, d3] => { results := [.lit (.bool false)], args := [d1, d2, d3] }
  | _ => none }
def BlendMergesWrongFalsely : Prop := blendMergesRow.holds Tryd.pinned (OpenSpec.ofChange blendMergesWrong)

/-- 'dolmenlaw17.BlendSides': WHATEVER THE INPUT: true; the input reads as it did. -/
def blendSidesSpec : ChangeSpec := { name := "blendSides", fn := fun _ => fun
  | [d1, d2] => { results := [.lit (.bool true)], args := [d1, d2] }
  | _ => none }
def blendSidesRow : OpenClaim := { program := "ytpnogcblafmaiaadoor", sum := "ab26e51701a55250e44879b3e7b6c55f8f06d72f918cda2a84b765dbbf702a0c", func := "dolmen/dolmenlaw17.BlendSides", spec := "blendSides", inPlace := ["internal/bytealg.CountString", "internal/bytealg.IndexByteString", "internal/bytealg.IndexString", "internal/abi.NoEscape", "internal/bytealg.MakeNoZero"], unfollowed := true, recurses := true, named := ["unicode/utf8.first", "unicode/utf8.acceptRanges", "internal/bytealg.MaxLen"], apart := false, laid := [("unicode/utf8.acceptRanges", laid_unicode_utf8_acceptRanges), ("unicode/utf8.first", laid_unicode_utf8_first)] }
def BlendSidesSaid : Prop := blendSidesRow.holds Tryd.pinned (OpenSpec.ofChange blendSidesSpec)

/-- ITS FALSE NEIGHBOUR: 'it returns false'. Refute it at one input. -/
def blendSidesWrong : ChangeSpec := { name := "blendSides", fn := fun _ => fun
  | [d1, d2] => { results := [.lit (.bool false)], args := [d1, d2] }
  | _ => none }
def BlendSidesWrongFalsely : Prop := blendSidesRow.holds Tryd.pinned (OpenSpec.ofChange blendSidesWrong)

/-- 'dolmenlaw17.BlendTurns': WHATEVER THE INPUT: true; the input reads as it did. -/
def blendTurnsSpec : ChangeSpec := { name := "blendTurns", fn := fun _ => fun
  | [d1, d2, d3] => { results := [.lit (.bool true)], args := [d1, d2, d3] }
  | _ => none }
def blendTurnsRow : OpenClaim := { program := "ytpnogcblafmaiaadoor", sum := "ab26e51701a55250e44879b3e7b6c55f8f06d72f918cda2a84b765dbbf702a0c", func := "dolmen/dolmenlaw17.BlendTurns", spec := "blendTurns", inPlace := ["internal/bytealg.CountString", "internal/bytealg.IndexByteString", "internal/bytealg.IndexString", "internal/abi.NoEscape", "internal/bytealg.MakeNoZero"], unfollowed := true, recurses := true, named := ["unicode/utf8.first", "unicode/utf8.acceptRanges", "internal/bytealg.MaxLen"], apart := false, laid := [("unicode/utf8.acceptRanges", laid_unicode_utf8_acceptRanges), ("unicode/utf8.first", laid_unicode_utf8_first)] }
def BlendTurnsSaid : Prop := blendTurnsRow.holds Tryd.pinned (OpenSpec.ofChange blendTurnsSpec)

/-- ITS FALSE NEIGHBOUR: 'it returns false'. Refute it at one input. -/
def blendTurnsWrong : ChangeSpec := { name := "blendTurns", fn := fun _ => fun
  | [d1, d2, d3] => { results := [.lit (.bool false)], args := [d1, d2, d3] }
  | _ => none }
def BlendTurnsWrongFalsely : Prop := blendTurnsRow.holds Tryd.pinned (OpenSpec.ofChange blendTurnsWrong)

/-- 'dolmenlaw17.BlendApart': WHATEVER THE INPUT: true; the input reads as it did. -/
def blendApartSpec : ChangeSpec := { name := "blendApart", fn := fun _ => fun
  | [d1, d2, d3, d4] => { results := [.lit (.bool true)], args := [d1, d2, d3, d4] }
  | _ => none }
def blendApartRow : OpenClaim := { program := "ytpnogcblafmaiaadoor", sum := "ab26e51701a55250e44879b3e7b6c55f8f06d72f918cda2a84b765dbbf702a0c", func := "dolmen/dolmenlaw17.BlendApart", spec := "blendApart", inPlace := ["internal/bytealg.CountString", "internal/bytealg.IndexByteString", "internal/bytealg.IndexString", "internal/abi.NoEscape", "internal/bytealg.MakeNoZero"], unfollowed := true, recurses := true, named := ["unicode/utf8.first", "unicode/utf8.acceptRanges", "internal/bytealg.MaxLen"], apart := false, laid := [("unicode/utf8.acceptRanges", laid_unicode_utf8_acceptRanges), ("unicode/utf8.first", laid_unicode_utf8_first)] }
def BlendApartSaid : Prop := blendApartRow.holds Tryd.pinned (OpenSpec.ofChange blendApartSpec)

/-- ITS FALSE NEIGHBOUR: 'it returns false'. Refute it at one input. -/
def blendApartWrong : ChangeSpec := { name := "blendApart", fn := fun _ => fun
  | [d1, d2, d3, d4] => { results := [.lit (.bool false)], args := [d1, d2, d3, d4] }
  | _ => none }
def BlendApartWrongFalsely : Prop := blendApartRow.holds Tryd.pinned (OpenSpec.ofChange blendApartWrong)

/-- 'dolmenlaw17.BlendMarks': WHATEVER THE INPUT: true; the input reads as it did. -/
def blendMarksSpec : ChangeSpec := { name := "blendMarks", fn := fun _ => fun
  | [d1, d2, d3] => { results := [.lit (.bool true)], args := [d1, d2, d3] }
  | _ => none }
def blendMarksRow : OpenClaim := { program := "ytpnogcblafmaiaadoor", sum := "ab26e51701a55250e44879b3e7b6c55f8f06d72f918cda2a84b765dbbf702a0c", func := "dolmen/dolmenlaw17.BlendMarks", spec := "blendMarks", inPlace := ["internal/bytealg.CountString", "internal/bytealg.IndexByteString", "internal/bytealg.IndexString", "internal/abi.NoEscape", "internal/bytealg.MakeNoZero"], unfollowed := true, recurses := true, named := ["unicode/utf8.first", "unicode/utf8.acceptRanges", "internal/bytealg.MaxLen"], apart := false, laid := [("unicode/utf8.acceptRanges", laid_unicode_utf8_acceptRanges), ("unicode/utf8.first", laid_unicode_utf8_first)] }
def BlendMarksSaid : Prop := blendMarksRow.holds Tryd.pinned (OpenSpec.ofChange blendMarksSpec)

/-- ITS FALSE NEIGHBOUR: 'it returns false'. Refute it at one input. -/
def blendMarksWrong : ChangeSpec := { name := "blendMarks", fn := fun _ => fun
  | [d1, d2, d3] => { results := [.lit (.bool false)], args := [d1, d2, d3] }
  | _ => none }
def BlendMarksWrongFalsely : Prop := blendMarksRow.holds Tryd.pinned (OpenSpec.ofChange blendMarksWrong)

/-- 'dolmenlaw17.BlendNone': WHATEVER THE INPUT: true; the input reads as it did. -/
def blendNoneSpec : ChangeSpec := { name := "blendNone", fn := fun _ => fun
  | [d1, d2] => { results := [.lit (.bool true)], args := [d1, d2] }
  | _ => none }
def blendNoneRow : OpenClaim := { program := "ytpnogcblafmaiaadoor", sum := "ab26e51701a55250e44879b3e7b6c55f8f06d72f918cda2a84b765dbbf702a0c", func := "dolmen/dolmenlaw17.BlendNone", spec := "blendNone", inPlace := ["internal/bytealg.CountString", "internal/bytealg.IndexByteString", "internal/bytealg.IndexString", "internal/abi.NoEscape", "internal/bytealg.MakeNoZero"], unfollowed := true, recurses := true, named := ["unicode/utf8.first", "unicode/utf8.acceptRanges", "internal/bytealg.MaxLen"], apart := false, laid := [("unicode/utf8.acceptRanges", laid_unicode_utf8_acceptRanges), ("unicode/utf8.first", laid_unicode_utf8_first)] }
def BlendNoneSaid : Prop := blendNoneRow.holds Tryd.pinned (OpenSpec.ofChange blendNoneSpec)

/-- ITS FALSE NEIGHBOUR: 'it returns false'. Refute it at one input. -/
def blendNoneWrong : ChangeSpec := { name := "blendNone", fn := fun _ => fun
  | [d1, d2] => { results := [.lit (.bool false)], args := [d1, d2] }
  | _ => none }
def BlendNoneWrongFalsely : Prop := blendNoneRow.holds Tryd.pinned (OpenSpec.ofChange blendNoneWrong)

/- THE SECOND FORM. 'bulk': how many values and letters a reading holds, each counted each time it is reached (what is shared counts as often as it is met; a slice's spare places count too). A statement '..UptoSaid' is the law's where the arguments, and the package variables that the reading takes, are together of bulk at most 1048576: NARROWER than '..Said'. Prove '..Said' where nothing that the law and all that it calls make is longer than what came in: it says more and counts as full. Else prove '..UptoSaid'. A law counts once. -/
mutual
def uptoBulk {H : Type} : DataW H → Nat
  | .lit (.string bytes) => bytes.length + 1
  | .lit _ => 1
  | .nil => 1
  | .ptr d => uptoBulk d + 1
  | .slice elems spare => uptoBulkAll elems + uptoBulkAll spare + 1
  | .agg parts => uptoBulkAll parts + 1
  | .iface _ d => uptoBulk d + 1
  | .map entries => uptoBulkEntries entries + 1
  | .held _ => 1
def uptoBulkAll {H : Type} : List (DataW H) → Nat
  | [] => 0
  | d :: r => uptoBulk d + uptoBulkAll r
def uptoBulkEntries {H : Type} : List (Lit × DataW H) → Nat
  | [] => 0
  | x :: r => uptoBulkEntry x + uptoBulkEntries r
def uptoBulkEntry {H : Type} : Lit × DataW H → Nat
  | (.string bytes, d) => bytes.length + uptoBulk d + 1
  | (_, d) => uptoBulk d + 1
 end
def uptoSmall : (H : Type) → List (DataW H) → Bool := fun _ ds => decide (uptoBulkAll ds ≤ 1048576)
def OpenSpec.upto (s : _root_.Go.ChangeSpec) : _root_.Go.OpenSpec := { _root_.Go.OpenSpec.ofChange s with cond := some uptoSmall }

/-- 'dolmenlaw15.LineDiffs', WHERE WHAT IT READS IS OF BULK AT MOST 1048576: true; the input reads as it did. -/
def lineDiffsUptoRow : OpenClaim := { program := "ytpnogcblafmaiaadoor", sum := "ab26e51701a55250e44879b3e7b6c55f8f06d72f918cda2a84b765dbbf702a0c", func := "dolmen/dolmenlaw15.LineDiffs", spec := "lineDiffs", inPlace := ["internal/bytealg.CountString", "internal/bytealg.IndexByteString", "internal/bytealg.IndexString"], unfollowed := true, recurses := true, named := ["unicode/utf8.first", "unicode/utf8.acceptRanges", "internal/bytealg.MaxLen"], apart := false, laid := [("unicode/utf8.acceptRanges", laid_unicode_utf8_acceptRanges), ("unicode/utf8.first", laid_unicode_utf8_first)], narrowed := true }
def LineDiffsUptoSaid : Prop := lineDiffsUptoRow.holds Tryd.pinned (OpenSpec.upto lineDiffsSpec)

/-- 'dolmenlaw15.LineMakes', WHERE WHAT IT READS IS OF BULK AT MOST 1048576: true; the input reads as it did. -/
def lineMakesUptoRow : OpenClaim := { program := "ytpnogcblafmaiaadoor", sum := "ab26e51701a55250e44879b3e7b6c55f8f06d72f918cda2a84b765dbbf702a0c", func := "dolmen/dolmenlaw15.LineMakes", spec := "lineMakes", inPlace := ["internal/bytealg.CountString", "internal/bytealg.IndexByteString", "internal/bytealg.IndexString"], unfollowed := true, recurses := true, named := ["unicode/utf8.first", "unicode/utf8.acceptRanges", "internal/bytealg.MaxLen"], apart := false, laid := [("unicode/utf8.acceptRanges", laid_unicode_utf8_acceptRanges), ("unicode/utf8.first", laid_unicode_utf8_first)], narrowed := true }
def LineMakesUptoSaid : Prop := lineMakesUptoRow.holds Tryd.pinned (OpenSpec.upto lineMakesSpec)

/-- 'dolmenlaw15.LineLeast', WHERE WHAT IT READS IS OF BULK AT MOST 1048576: true; the input reads as it did. -/
def lineLeastUptoRow : OpenClaim := { program := "ytpnogcblafmaiaadoor", sum := "ab26e51701a55250e44879b3e7b6c55f8f06d72f918cda2a84b765dbbf702a0c", func := "dolmen/dolmenlaw15.LineLeast", spec := "lineLeast", inPlace := ["internal/bytealg.CountString", "internal/bytealg.IndexByteString", "internal/bytealg.IndexString"], unfollowed := true, recurses := true, named := ["unicode/utf8.first", "unicode/utf8.acceptRanges", "internal/bytealg.MaxLen"], apart := false, laid := [("unicode/utf8.acceptRanges", laid_unicode_utf8_acceptRanges), ("unicode/utf8.first", laid_unicode_utf8_first)], narrowed := true }
def LineLeastUptoSaid : Prop := lineLeastUptoRow.holds Tryd.pinned (OpenSpec.upto lineLeastSpec)

/-- 'dolmenlaw15.LineAdds', WHERE WHAT IT READS IS OF BULK AT MOST 1048576: true; the input reads as it did. -/
def lineAddsUptoRow : OpenClaim := { program := "ytpnogcblafmaiaadoor", sum := "ab26e51701a55250e44879b3e7b6c55f8f06d72f918cda2a84b765dbbf702a0c", func := "dolmen/dolmenlaw15.LineAdds", spec := "lineAdds", inPlace := ["internal/bytealg.CountString", "internal/bytealg.IndexByteString", "internal/bytealg.IndexString"], unfollowed := true, recurses := true, named := ["unicode/utf8.first", "unicode/utf8.acceptRanges", "internal/bytealg.MaxLen"], apart := false, laid := [("unicode/utf8.acceptRanges", laid_unicode_utf8_acceptRanges), ("unicode/utf8.first", laid_unicode_utf8_first)], narrowed := true }
def LineAddsUptoSaid : Prop := lineAddsUptoRow.holds Tryd.pinned (OpenSpec.upto lineAddsSpec)

/-- 'dolmenlaw15.LineSplits', WHERE WHAT IT READS IS OF BULK AT MOST 1048576: true; the input reads as it did. -/
def lineSplitsUptoRow : OpenClaim := { program := "ytpnogcblafmaiaadoor", sum := "ab26e51701a55250e44879b3e7b6c55f8f06d72f918cda2a84b765dbbf702a0c", func := "dolmen/dolmenlaw15.LineSplits", spec := "lineSplits", inPlace := ["internal/bytealg.CountString", "internal/bytealg.IndexByteString", "internal/bytealg.IndexString", "internal/abi.NoEscape", "internal/bytealg.MakeNoZero"], unfollowed := true, recurses := true, named := ["unicode/utf8.first", "unicode/utf8.acceptRanges", "internal/bytealg.MaxLen"], apart := false, laid := [("unicode/utf8.acceptRanges", laid_unicode_utf8_acceptRanges), ("unicode/utf8.first", laid_unicode_utf8_first)], narrowed := true }
def LineSplitsUptoSaid : Prop := lineSplitsUptoRow.holds Tryd.pinned (OpenSpec.upto lineSplitsSpec)

/-- 'dolmenlaw17.BlendMerges', WHERE WHAT IT READS IS OF BULK AT MOST 1048576: true; the input reads as it did. -/
def blendMergesUptoRow : OpenClaim := { program := "ytpnogcblafmaiaadoor", sum := "ab26e51701a55250e44879b3e7b6c55f8f06d72f918cda2a84b765dbbf702a0c", func := "dolmen/dolmenlaw17.BlendMerges", spec := "blendMerges", inPlace := ["internal/bytealg.CountString", "internal/bytealg.IndexByteString", "internal/bytealg.IndexString", "internal/abi.NoEscape", "internal/bytealg.MakeNoZero"], unfollowed := true, recurses := true, named := ["unicode/utf8.first", "unicode/utf8.acceptRanges", "internal/bytealg.MaxLen"], apart := false, laid := [("unicode/utf8.acceptRanges", laid_unicode_utf8_acceptRanges), ("unicode/utf8.first", laid_unicode_utf8_first)], narrowed := true }
def BlendMergesUptoSaid : Prop := blendMergesUptoRow.holds Tryd.pinned (OpenSpec.upto blendMergesSpec)

/-- 'dolmenlaw17.BlendSides', WHERE WHAT IT READS IS OF BULK AT MOST 1048576: true; the input reads as it did. -/
def blendSidesUptoRow : OpenClaim := { program := "ytpnogcblafmaiaadoor", sum := "ab26e51701a55250e44879b3e7b6c55f8f06d72f918cda2a84b765dbbf702a0c", func := "dolmen/dolmenlaw17.BlendSides", spec := "blendSides", inPlace := ["internal/bytealg.CountString", "internal/bytealg.IndexByteString", "internal/bytealg.IndexString", "internal/abi.NoEscape", "internal/bytealg.MakeNoZero"], unfollowed := true, recurses := true, named := ["unicode/utf8.first", "unicode/utf8.acceptRanges", "internal/bytealg.MaxLen"], apart := false, laid := [("unicode/utf8.acceptRanges", laid_unicode_utf8_acceptRanges), ("unicode/utf8.first", laid_unicode_utf8_first)], narrowed := true }
def BlendSidesUptoSaid : Prop := blendSidesUptoRow.holds Tryd.pinned (OpenSpec.upto blendSidesSpec)

/-- 'dolmenlaw17.BlendTurns', WHERE WHAT IT READS IS OF BULK AT MOST 1048576: true; the input reads as it did. -/
def blendTurnsUptoRow : OpenClaim := { program := "ytpnogcblafmaiaadoor", sum := "ab26e51701a55250e44879b3e7b6c55f8f06d72f918cda2a84b765dbbf702a0c", func := "dolmen/dolmenlaw17.BlendTurns", spec := "blendTurns", inPlace := ["internal/bytealg.CountString", "internal/bytealg.IndexByteString", "internal/bytealg.IndexString", "internal/abi.NoEscape", "internal/bytealg.MakeNoZero"], unfollowed := true, recurses := true, named := ["unicode/utf8.first", "unicode/utf8.acceptRanges", "internal/bytealg.MaxLen"], apart := false, laid := [("unicode/utf8.acceptRanges", laid_unicode_utf8_acceptRanges), ("unicode/utf8.first", laid_unicode_utf8_first)], narrowed := true }
def BlendTurnsUptoSaid : Prop := blendTurnsUptoRow.holds Tryd.pinned (OpenSpec.upto blendTurnsSpec)

/-- 'dolmenlaw17.BlendApart', WHERE WHAT IT READS IS OF BULK AT MOST 1048576: true; the input reads as it did. -/
def blendApartUptoRow : OpenClaim := { program := "ytpnogcblafmaiaadoor", sum := "ab26e51701a55250e44879b3e7b6c55f8f06d72f918cda2a84b765dbbf702a0c", func := "dolmen/dolmenlaw17.BlendApart", spec := "blendApart", inPlace := ["internal/bytealg.CountString", "internal/bytealg.IndexByteString", "internal/bytealg.IndexString", "internal/abi.NoEscape", "internal/bytealg.MakeNoZero"], unfollowed := true, recurses := true, named := ["unicode/utf8.first", "unicode/utf8.acceptRanges", "internal/bytealg.MaxLen"], apart := false, laid := [("unicode/utf8.acceptRanges", laid_unicode_utf8_acceptRanges), ("unicode/utf8.first", laid_unicode_utf8_first)], narrowed := true }
def BlendApartUptoSaid : Prop := blendApartUptoRow.holds Tryd.pinned (OpenSpec.upto blendApartSpec)

/-- 'dolmenlaw17.BlendMarks', WHERE WHAT IT READS IS OF BULK AT MOST 1048576: true; the input reads as it did. -/
def blendMarksUptoRow : OpenClaim := { program := "ytpnogcblafmaiaadoor", sum := "ab26e51701a55250e44879b3e7b6c55f8f06d72f918cda2a84b765dbbf702a0c", func := "dolmen/dolmenlaw17.BlendMarks", spec := "blendMarks", inPlace := ["internal/bytealg.CountString", "internal/bytealg.IndexByteString", "internal/bytealg.IndexString", "internal/abi.NoEscape", "internal/bytealg.MakeNoZero"], unfollowed := true, recurses := true, named := ["unicode/utf8.first", "unicode/utf8.acceptRanges", "internal/bytealg.MaxLen"], apart := false, laid := [("unicode/utf8.acceptRanges", laid_unicode_utf8_acceptRanges), ("unicode/utf8.first", laid_unicode_utf8_first)], narrowed := true }
def BlendMarksUptoSaid : Prop := blendMarksUptoRow.holds Tryd.pinned (OpenSpec.upto blendMarksSpec)

/-- 'dolmenlaw17.BlendNone', WHERE WHAT IT READS IS OF BULK AT MOST 1048576: true; the input reads as it did. -/
def blendNoneUptoRow : OpenClaim := { program := "ytpnogcblafmaiaadoor", sum := "ab26e51701a55250e44879b3e7b6c55f8f06d72f918cda2a84b765dbbf702a0c", func := "dolmen/dolmenlaw17.BlendNone", spec := "blendNone", inPlace := ["internal/bytealg.CountString", "internal/bytealg.IndexByteString", "internal/bytealg.IndexString", "internal/abi.NoEscape", "internal/bytealg.MakeNoZero"], unfollowed := true, recurses := true, named := ["unicode/utf8.first", "unicode/utf8.acceptRanges", "internal/bytealg.MaxLen"], apart := false, laid := [("unicode/utf8.acceptRanges", laid_unicode_utf8_acceptRanges), ("unicode/utf8.first", laid_unicode_utf8_first)], narrowed := true }
def BlendNoneUptoSaid : Prop := blendNoneUptoRow.holds Tryd.pinned (OpenSpec.upto blendNoneSpec)

end Rows
end Go.Proofs.YtpnogcblafmaiaaDoor
