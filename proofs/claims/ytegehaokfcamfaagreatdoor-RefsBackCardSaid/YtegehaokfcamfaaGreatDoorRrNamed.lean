/-
  dolmenref11.Named, value: they answer, and only read. No condition.
-/
import Derived.Test.YtegehaokfcamfaaGreatDoorRefsVal
import Derived.Deep.CutRange
namespace Go.Proofs.YtegehaokfcamfaaGreatDoor
open Go.RowKit

/-- some truth value, some number: what a reference answers that nobody asks of -/
def AnyB (e : Ending) : Prop := ∃ b, e = .returned (.bool b)
theorem AnyB.mk (b : Bool) : AnyB (.returned (.bool b)) := ⟨b, rfl⟩
def AnyI (e : Ending) : Prop := ∃ i : Int, e = .returned (I i)
theorem AnyI.mk (i : Int) : AnyI (.returned (I i)) := ⟨i, rfl⟩

set_option maxHeartbeats 16000000 in
set_option maxRecDepth 100000 in
theorem rnamed_any (s : List UInt8) (w : World) :
    Calls Tryz.prog 46 #[S s] w fun e w' => AnyB e ∧ w = w' := by
  by_cases h1 : s.length < 1
  · go_enter Tryz.func46, Tryz.ntmps46
    go_wp2
    go_ret
    exact ⟨AnyB.mk _, rfl⟩
  by_cases h2 : 200 < s.length
  · go_enter Tryz.func46, Tryz.ntmps46
    go_wp2
    go_ret
    exact ⟨AnyB.mk _, rfl⟩
  go_enter Tryz.func46, Tryz.ntmps46
  go_upto_if 37 with fail
  all_goals try (go_wp2; go_ret; exact ⟨AnyB.mk false, rfl⟩; done)
  go_cut [2, 3] from 6 to 37 (fun _ n W => n = .int .i64 s.length ∧ W = w)
  case first =>
    go_wp2
    all_goals first
      | (go_ret; exact ⟨AnyB.mk false, rfl⟩)
      | (go_meet
         case rel => exact ⟨rfl, rfl⟩)
  case rest =>
    obtain ⟨rfl, rfl⟩ := hcut
    go_wp2
    go_loopw [4] (fun i wr => ∃ k : Nat, i = .int .i64 k ∧ Hid (k ≤ s.length) ∧ wr = wc) (fun i _ => s.length - (intOf i).toNat)
    case atStart => exact ⟨0, rfl, Lib.hid (Nat.zero_le _), rfl⟩
    case round =>
      obtain ⟨k, rfl, hk, rfl⟩ := hrel
      by_cases hlt : k < s.length
      · go_upto_region 8 with fail
        go_cut [5, 71] from 38 to 89 (fun c b W => (∃ x : Int, c = .int .u8 x) ∧ (∃ t : Bool, b = .bool t) ∧ W = wr)
        case first =>
          go_wp2
          all_goals
            go_meet
            case rel => exact ⟨⟨_, rfl⟩, ⟨_, rfl⟩, rfl⟩
        case rest =>
          obtain ⟨⟨x, rfl⟩, ⟨t, rfl⟩, rfl⟩ := hcut
          go_wp2
          all_goals first
            | (go_ret; exact ⟨AnyB.mk false, rfl⟩)
            | (go_roundw
               case rel => exact ⟨k + 1, by go_num, Lib.hid hlt, trivial⟩
               case measure => simp [intOf]; omega)
      · obtain rfl : k = s.length := Nat.le_antisymm hk.out (Nat.le_of_not_lt hlt)
        go_wp2
        go_ret
        exact ⟨AnyB.mk _, rfl⟩
end Go.Proofs.YtegehaokfcamfaaGreatDoor
