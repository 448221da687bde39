/-
  From a walk to a tied card: the wrap that hands on the world's shape and the listed variables. Plain lemmas.
-/
import Derived.Test.YtphnfcgdpdimbaaGreatDoorQKitW
import Derived.Test.YtphnfcgdpdimbaaGreatDoorQKitX
import Derived.LaidMore
import Derived.Lay
import Derived.SevenTiedAt
import Derived.Stop.Joined
import Derived.Shelf.Vars
import Derived.SizedLaws
namespace Go.Proofs.YtphnfcgdpdimbaaGreatDoor
open Go.ChangeShapes Go.WideShapes Go.ChangeAt Go.RowKit
section
variable {H : Type} {enc : TypeId × Value → H}
end
theorem maxL_of_shape {w : World} (h : w.ShapedOpen Tryz.prog) : MaxL w :=
 cell_of_shapedOpen_int (g := 0) (t := 3) (zero := #[I 0]) h (of_decide_eq_true (by kernel_rfl)) (by kernel_rfl) rfl (by kernel_rfl) (by kernel_rfl) Tryz.underlying3
end Go.Proofs.YtphnfcgdpdimbaaGreatDoor
