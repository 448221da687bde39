/-
  dolmenref04.Dump, dolmenref10.Open of a disk on which nothing lies.
-/
import Derived.Test.YtifannandfkacaaGreatDoorTKitH
namespace Go.Proofs.YtifannandfkacaaGreatDoor
open Go.RowKit
def RStAt (w : World) (q r : Nat) : Prop := Blk w q 134 #[.pointer (some ⟨r, 0, none⟩)]
set_option maxRecDepth 100000 in
set_option maxHeartbeats 1000000 in
theorem rdump_nil (w : World) (r : Nat) (cap : Int) (h : RdAt w r cap []) :
  Calls Tryz.prog 63 #[.pointer (some ⟨r, 0, none⟩)] w fun e w' => e = .returned (.slice none 0 0) ∧ w' = w := by
 obtain ⟨A, n, c, done, hB, hc, hS, _⟩ := h
 obtain rfl : 0 = n := rds_count hS.sl
 have rB := hB.cell
 clear hB hS hc
 go_enter Tryz.func63, Tryz.ntmps63
 go_wp2
 go_loopw [3, 4] (fun sv iv wr => sv = .slice none 0 0 ∧ iv = .int .i64 0 ∧ wr = w) (fun _ _ _ => 0)
 case atStart => exact ⟨rfl, rfl, rfl⟩
 case round =>
  obtain ⟨rfl, rfl, hwr⟩ := hrel
  subst hwr
  go_wp2
  go_ret
  exact ⟨rfl, rfl⟩
set_option maxRecDepth 100000 in
set_option maxHeartbeats 1000000 in
theorem rsopen_nil (w : World) (r : Nat) (cap : Int) (h : RdAt w r cap []) :
  Calls Tryz.prog 38 #[.pointer (some ⟨r, 0, none⟩)] w fun e w' => ∃ q : Nat, e = .returned (.tuple #[.pointer (some ⟨q, 0, none⟩), I 0]) ∧ RStAt w' q r ∧ w.heap.size ≤ q ∧ Below w.heap.size w w' := by
 have CD := Lib.hid (rdump_nil w r cap h)
 clear h
 go_enter Tryz.func38, Tryz.ntmps38
 go_wp2_with fail
 refine CD.out.mono ?_
 rintro e w1 ⟨rfl, hw1⟩
 have hw2 := hw1.symm
 subst hw2
 clear CD
 go_wp2
 go_loopw [5] (fun iv wr => iv = .int .i64 0 ∧ wr = w) (fun _ _ => 0)
 case atStart => exact ⟨rfl, rfl⟩
 case round =>
  obtain ⟨rfl, hwr⟩ := hrel
  subst hwr
  go_wp2
  go_ret2
  exact ⟨_, rfl, Blk.new _ _ _, Nat.le_refl _, balloc (Below.refl _ _) _⟩
end Go.Proofs.YtifannandfkacaaGreatDoor
