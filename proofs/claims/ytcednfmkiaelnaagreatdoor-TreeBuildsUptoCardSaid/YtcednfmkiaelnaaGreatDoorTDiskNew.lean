/-
  disk.New. Condition: none.
-/
import Derived.Test.YtcednfmkiaelnaaGreatDoorTKitD
namespace Go.Proofs.YtcednfmkiaelnaaGreatDoor
open Go.RowKit
theorem Tryz.infoDisk : (Tryz.prog.info? 118).map (fun i => (i.zero, i.size, i.bytes)) = some (some (.agg #[.int .i64 0, .map none, .int .i64 0, .int .i64 0, .int .i64 0, .bool false]), 6, 48) := by kernel_rfl
set_option maxHeartbeats 1000000 in
set_option maxRecDepth 100000 in
theorem dnew_ok (z : Int) (w : World) (h0 : 0 ≤ z) (h1 : z ≤ 1099511627776) :
  Calls Tryz.prog 26 #[I z] w fun e w' => ∃ p m, e = .returned (.tuple #[.pointer (some ⟨p, 0, none⟩), I 0]) ∧ w.heap.size ≤ p ∧ w.heap.size ≤ m ∧ DiskAt w' p m 0 z [] ∧ Below w.heap.size w w' := by
 obtain ⟨i0, hi0, hz0, hz1, hz2⟩ := info_parts Tryz.infoDisk
 have hmm := @run_makeMap Tryz.prog
 have d1 : decide (z < 0) = false := by simp; omega
 have d2 : decide (1099511627776 < z) = false := by simp; omega
 have HM := Lib.hid (MapL.made diskC w)
 clear h0 h1
 go_enter Tryz.func26, Tryz.ntmps26
 go_wp2
 go_ret2
 have B1 := balloc (Below.refl _ w) (.map #[] 0)
 have B2 := balloc B1 (.cells #[I z, .map (some w.heap.size), I z, I 0, I (-1), .bool false] 118)
 refine ⟨_, w.heap.size, rfl, by simp, Nat.le_refl _, ⟨⟨0, ?_⟩, ?_, by simp, by simp, by simp⟩, B2⟩
 ·have h := Blk.new (w.alloc (.map #[] 0)) 118 #[I z, .map (some w.heap.size), I z, I 0, I (-1), .bool false]
  rw [World.size_alloc] at h
  have e : z - ((costs [] : Nat) : Int) = z := by simp [costs]
  rw [e]
  exact h
 ·exact HM.out.alloc _
end Go.Proofs.YtcednfmkiaelnaaGreatDoor
