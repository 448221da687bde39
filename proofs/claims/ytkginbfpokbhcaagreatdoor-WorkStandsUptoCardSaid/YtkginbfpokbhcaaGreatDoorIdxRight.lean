/-
  index: Entry.right. Conditions: paths are shorter than 2147483648 bytes; MaxLen holds an int.
-/
import Derived.Test.YtkginbfpokbhcaaGreatDoorIdxDrop
import Derived.Maps.Ext
namespace Go.Proofs.YtkginbfpokbhcaaGreatDoor
open Go.RowKit
open IdxLaw (Ent Key zE Inv inWay inN)

theorem inN_any (n : Int) (w : World) : Calls Tryz.prog 127 #[I n] w fun e w' => e = .returned (.bool (inN n)) ∧ w = w' := by
  go_enter Tryz.func127, Tryz.ntmps127
  go_wp2
  all_goals
    go_ret
    refine ⟨ret_bool ?_, rfl⟩
    unfold inN
    grind

set_option maxRecDepth 100000 in
set_option maxHeartbeats 2000000 in
theorem right_any (x : Ent) (w : World) (hx : x.path.length ≤ 2147483648) (hM : MaxL w) :
    Calls Tryz.prog 72 #[entV x] w fun e w' => e = .returned (.bool (IdxLaw.right x)) ∧ Below w.heap.size w w' := by
  have C1 := Lib.hid (fun W (h : MaxL W) => named_any x.path W hx h)
  have C2 := Lib.hid (fun W => inN_any x.size W)
  have C3 := Lib.hid (fun W => inN_any x.stamp W)
  have HM := Lib.hid (hM.step (balloc (Below.refl _ w) (.cells #[S x.path, I x.stage, S x.id, I x.size, I x.stamp] 54)))
  have hR := Blk.new w 54 #[S x.path, I x.stage, S x.id, I x.size, I x.stamp]
  have HR := Lib.hid hR
  clear hR
  obtain ⟨path, stage, id, size, stamp⟩ := x
  simp only at *
  have hcase : stage = 0 ∨ (stage ≠ 0 ∧ size = 0) ∨ (stage ≠ 0 ∧ size ≠ 0) := by omega
  rcases hcase with rfl | ⟨h0, rfl⟩ | ⟨h0, h1⟩
  all_goals
    go_enter Tryz.func72, Tryz.ntmps72
    go_wp2_with (first
      | (go_at_call 38; refine (C1.out _ HM.out).mono ?_; rintro e w2 ⟨rfl, b2⟩; have B2 := Lib.hid (bstep (balloc (Below.refl _ w) _) b2); have hc2 := (HR.out.step b2).cell; clear b2)
      | (go_at_call 127; first | ((with_reducible refine (C2.out _).mono ?_); rintro e w' ⟨rfl, rfl⟩) | ((with_reducible refine (C3.out _).mono ?_); rintro e w' ⟨rfl, rfl⟩)))
  all_goals
    go_ret
    refine ⟨ret_bool ?_, B2.out⟩
    clear B2 hc2 C1 C2 C3 HM HR
    unfold IdxLaw.right IdxLaw.bare
    grind
end Go.Proofs.YtkginbfpokbhcaaGreatDoor
