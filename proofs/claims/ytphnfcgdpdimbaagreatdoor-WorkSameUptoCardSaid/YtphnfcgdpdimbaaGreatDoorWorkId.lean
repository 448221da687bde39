/-
  object.Id at a blob, work.Id. Conditions: the content can be read, no more than 1000000000.
-/
import Derived.Test.YtphnfcgdpdimbaaGreatDoorObjEnc
namespace Go.Proofs.YtphnfcgdpdimbaaGreatDoor
open Go.RowKit

/-- a content's id -/
def widL (l : List UInt8) : List UInt8 := if l.length ≤ 1048576 then sumL ([1] ++ l) else []
def widE (l : List UInt8) : Int := if l.length ≤ 1048576 then 0 else 1
set_option maxRecDepth 100000 in
set_option maxHeartbeats 1000000 in
theorem objId_blob (A : Option Addr) (n c : Nat) (l : List UInt8) (w : World) (hA : Sl w 1 A n (u8s l)) (hn : n ≤ 1000000000) :
    Calls Tryz.prog 42 #[.agg (blobA A n c)] w fun e w' => e = .returned (.tuple #[S (widL l), I (widE l)]) ∧ Below w.heap.size w w' := by
  have hl : l.length = n := u8s_len hA
  obtain ⟨w1, hw1⟩ : ∃ w1, w1 = w.alloc (.cells (blobA A n c) 110) := ⟨_, rfl⟩
  have b1 : Below w.heap.size w w1 := by rw [hw1]; exact balloc (Below.refl _ w) _
  have B1 := Lib.hid b1
  by_cases hok : n ≤ 1048576
  · have C1 := Lib.hid (objEnc_ok A n c l w1 (hA.below b1) hok)
    have E1 : Hid (widL l = sumL ([1] ++ l)) := Lib.hid (by unfold widL; rw [hl, if_pos hok])
    have E2 : Hid (widE l = 0) := Lib.hid (by unfold widE; rw [hl, if_pos hok])
    clear hA b1 hl
    go_enter Tryz.func42, Tryz.ntmps42
    go_wp2_with fail
    simp only [← hw1]
    refine C1.out.mono ?_
    rintro e w2 ⟨A', c', rfl, hO⟩
    have C2 := Lib.hid (sum_any w2 A' (1 + n) c' ([1] ++ l) (hO.slT.weak (fun _ _ _ => trivial)) (by omega))
    have B2 := Lib.hid (bstep B1.out hO.2)
    clear hO hw1 C1
    go_wp2_with fail
    refine C2.out.mono ?_
    rintro e w3 ⟨rfl, b3⟩
    have B3 := Lib.hid (bstep B2.out b3)
    clear b3 C2
    go_wp2
    go_ret2
    exact ⟨by rw [E1.out, E2.out]; rfl, B3.out⟩
  · have C1 := Lib.hid (objEnc_no A n c l w1 (hA.below b1) hok)
    have E1 : Hid (widL l = []) := Lib.hid (by unfold widL; rw [hl, if_neg hok])
    have E2 : Hid (widE l = 1) := Lib.hid (by unfold widE; rw [hl, if_neg hok])
    clear hA b1 hl
    go_enter Tryz.func42, Tryz.ntmps42
    go_wp2_with fail
    simp only [← hw1]
    refine C1.out.mono ?_
    rintro e w2 ⟨rfl, b2⟩
    have B2 := Lib.hid (bstep B1.out b2)
    clear b2 hw1 C1
    go_wp2
    go_ret2
    exact ⟨by rw [E1.out, E2.out]; rfl, B2.out⟩
set_option maxRecDepth 100000 in
theorem wid_any (A : Option Addr) (n c : Nat) (l : List UInt8) (w : World) (hA : Sl w 1 A n (u8s l)) (hn : n ≤ 1000000000) :
    Calls Tryz.prog 10 #[.slice A n c] w fun e w' => e = .returned (S (widL l)) ∧ Below w.heap.size w w' := by
  have C1 := Lib.hid (objId_blob A n c l w hA hn)
  clear hA
  go_enter Tryz.func10, Tryz.ntmps10
  go_wp2_with fail
  refine C1.out.mono ?_
  rintro e w2 ⟨rfl, b2⟩
  have B2 := Lib.hid b2
  clear b2 C1
  go_wp2
  go_ret
  exact ⟨rfl, B2.out⟩
theorem widL_len {l : List UInt8} (h : l.length ≤ 1048576) : (widL l).length = 32 := by unfold widL; rw [if_pos h]; exact sumL_len _
end Go.Proofs.YtphnfcgdpdimbaaGreatDoor
