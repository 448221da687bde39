/-
  object: of, made, right, lay, same, Check, Encode, Id at a blob. Conditions: the content can be read.
-/
import Derived.Test.YtcednfmkiaelnaaGreatDoorTKitSu
import Derived.Test.YtcednfmkiaelnaaGreatDoorTKitTk
namespace Go.Proofs.YtcednfmkiaelnaaGreatDoor
open Go.RowKit
set_option maxRecDepth 100000 in
theorem equalStr_nil (w : World) : Calls Tryz.prog 79 #[.slice none 0 0, .slice none 0 0] w fun e w' => e = .returned (.bool true) ∧ w' = w := by
 go_enter Tryz.func79, Tryz.ntmps79
 go_wp2
 go_loop [13] (fun i => i = .int .i64 0) (fun _ => 0)
 case atStart => rfl
 case round =>
  subst hrel
  go_wp2
  go_ret
  exact ⟨rfl, rfl⟩
end Go.Proofs.YtcednfmkiaelnaaGreatDoor
