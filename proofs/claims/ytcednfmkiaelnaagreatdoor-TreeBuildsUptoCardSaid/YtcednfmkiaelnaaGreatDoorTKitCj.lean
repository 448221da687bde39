/-
  Texts merged: CardM, Joined. What each law says and asks stands at its head.
-/
import Derived.Test.YtcednfmkiaelnaaGreatDoorTKitW
import Derived.Test.YtcednfmkiaelnaaGreatDoorTKitX
import Derived.LaidMore
import Derived.Lay
import Derived.SevenTiedAt
import Derived.Stop.Joined
import Derived.Shelf.Vars
import Derived.SizedLaws
import Derived.JoinedOf
namespace Go.Proofs.YtcednfmkiaelnaaGreatDoor
open Go.ChangeShapes Go.WideShapes Go.ChangeAt Go.RowKit
section
variable {H : Type} {enc : TypeId × Value → H}
end
theorem maxL_of_shape {w : World} (h : w.ShapedOpen Tryz.prog) : MaxL w :=
 cell_of_shapedOpen_int (g := 0) (t := 3) (zero := #[I 0]) h (of_decide_eq_true (by kernel_rfl)) (by kernel_rfl) rfl (by kernel_rfl) (by kernel_rfl) Tryz.underlying3
def j1 (P : Program) (fn : Func) (s : ChangeSpec) (c : OpenClaim) : Bool := (c.wf (OpenSpec.ofChange s) && laidOutB P && mapsRowed P && fn.params.all (P.readableRec ·) && namedTie P c.named s.vars && (c.stops == []) && (P.stops == []) && (c.knobs == []) && (P.stopKnobs == []))
def j2 (P : Program) (f : FuncId) (c : OpenClaim) : Bool := (c.inPlace == P.inPlace f)
def j3 (P : Program) (f : FuncId) (c : OpenClaim) : Bool := (c.unfollowed == P.unfollowed f)
def j4 (P : Program) (f : FuncId) (c : OpenClaim) : Bool := (c.recurses == P.recurses f)
def j5 (P : Program) (f : FuncId) (c : OpenClaim) : Bool := (c.named == P.varsNamed f)
def j6 (P : Program) (fn : Func) (s : ChangeSpec) (c : OpenClaim) : Bool := ((c.maps == (fn.params.toList ++ s.plain.varTypes P).any (P.mapsRec ·)) && (c.ifaces == (fn.params.toList ++ s.plain.varTypes P).any (P.ifacesRec ·)) && (c.mapsOut == P.mapsAmong fn.resultTypes.toList) &&
   (c.loops == (fn.params.toList ++ s.plain.varTypes P).any (P.loopsFrom ·)) && (c.wideKeys == (fn.params.toList ++ s.plain.varTypes P ++ fn.resultTypes.toList).any (P.wideKeysFrom ·)) &&
   s.vars.all (P.varReadable ·) && fn.resultTypes.all (fun t => P.readableRec t && decide (t < P.types.size)) && (c.ifacesOut == fn.resultTypes.toList.any (P.ifacesRec ·)) && (c.loopsOut == fn.resultTypes.toList.any (P.loopsFrom ·)))
def j7 (P : Program) (fn : Func) (c : OpenClaim) : Bool := ((c.plainKeys == P.plainKeys) && c.shortTexts.isNone && P.stopsHeard && P.mayEnter && (c.lifted == P.liftsFinal) && (P.make == some c.make) && (c.kinds == (if c.domain.isEmpty then [] else fn.params.toList.map fun t => match P.underlying t with | some (.int k) => some k | _ => none)) && (c.pinned == c.pinnedBy))
def j8 (P : Program) (fn : Func) (s : ChangeSpec) (c : OpenClaim) : Bool := ((c.veiled == (fn.params.toList ++ s.plain.varTypes P ++ fn.resultTypes.toList).any (P.veiledRec ·)) && c.veiledFits P fn.params.toList (fn.params.toList ++ s.plain.varTypes P ++ fn.resultTypes.toList))
theorem joined_of {P : Program} {f : FuncId} {fn : Func} {s : ChangeSpec} {c : OpenClaim}
  (h1 : j1 P fn s c = true) (h2 : j2 P f c = true) (h3 : j3 P f c = true) (h4 : j4 P f c = true) (h5 : j5 P f c = true) (h6 : j6 P fn s c = true) (h7 : j7 P fn c = true) (h8 : j8 P fn s c = true) : joinedFacts P f fn s c = true := by
 unfold j1 at h1
 unfold j2 at h2
 unfold j3 at h3
 unfold j4 at h4
 unfold j5 at h5
 unfold j6 at h6
 unfold j7 at h7
 unfold j8 at h8
 simp only [Bool.and_eq_true] at h1 h6 h7 h8
 obtain ⟨⟨⟨⟨⟨⟨⟨⟨a1, a2⟩, a3⟩, a4⟩, a5⟩, a6⟩, a7⟩, a8⟩, a9⟩ := h1
 obtain ⟨⟨⟨⟨⟨⟨⟨⟨b1, b2⟩, b3⟩, b4⟩, b5⟩, b6⟩, b7⟩, b8⟩, b9⟩ := h6
 obtain ⟨⟨⟨⟨⟨⟨⟨c1, c2⟩, c3⟩, c4⟩, c5⟩, c6⟩, c7⟩, c8⟩ := h7
 unfold joinedFacts
 simp only [Bool.and_eq_true]
 exact ⟨⟨⟨⟨⟨⟨⟨⟨⟨⟨⟨⟨⟨⟨⟨⟨⟨⟨⟨⟨⟨⟨⟨⟨⟨⟨⟨⟨⟨⟨⟨a1, a2⟩, a3⟩, a4⟩, a5⟩, a6⟩, a7⟩, a8⟩, a9⟩, h2⟩, h3⟩, h4⟩, h5⟩, b1⟩, b2⟩, b3⟩, b4⟩, b5⟩, b6⟩, b7⟩, b8⟩, b9⟩, c1⟩, c2⟩, c3⟩, c4⟩, c5⟩, c6⟩, c7⟩, c8⟩, h8.1⟩, h8.2⟩
end Go.Proofs.YtcednfmkiaelnaaGreatDoor
