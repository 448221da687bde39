/-
  dolmenlaw13.both of nothing: two stores on which nothing lies. No condition.
-/
import Derived.Test.YtifannandfkacaaGreatDoorTDiskNew
import Derived.Test.YtifannandfkacaaGreatDoorTKitSt
import Derived.Test.YtifannandfkacaaGreatDoorTRpNil
namespace Go.Proofs.YtifannandfkacaaGreatDoor
open Go.RowKit
set_option maxRecDepth 100000 in
set_option maxHeartbeats 4000000 in
theorem both13_nil (w : World) :
  Calls Tryz.prog 20 #[.slice none 0 0] w fun e w' => ∃ q t p pk m, e = .returned (.tuple #[.pointer (some ⟨q, 0, none⟩), .pointer (some ⟨t, 0, none⟩)]) ∧ StoreAt w' q p pk ∧ DiskAt w' p m 0 1099511627776 [] ∧ w.heap.size ≤ p ∧ w.heap.size ≤ m ∧ w.heap.size ≤ q ∧ Below w.heap.size w w' := by
 have C1 := Lib.hid (dnew_ok 1099511627776 w (by decide) (by decide))
 have C3 := Lib.hid (fun V => rdnew_ok 1099511627776 V (by decide) (by decide))
 go_enter Tryz.func20, Tryz.ntmps20
 go_wp2_with fail
 refine C1.out.mono ?_
 rintro e w1 ⟨p, m, rfl, hp1, hm1, hD1, b1⟩
 have C2 := Lib.hid (sopen_any w1 p m 0 1099511627776 [] hD1 (by decide) (by simp) rfl)
 have B1 := Lib.hid b1
 have HD1 := Lib.hid hD1
 have Hpm : Hid (w.heap.size ≤ p ∧ w.heap.size ≤ m) := Lib.hid ⟨hp1, hm1⟩
 clear C1 b1 hD1 hp1 hm1
 go_wp2_with fail
 refine C2.out.mono ?_
 rintro e w2 ⟨q, pk, rfl, hq2, _, hS2, b2⟩
 have B2 := Lib.hid (bstep B1.out b2)
 have HD2 := Lib.hid (HD1.out.step b2)
 have HS2 := Lib.hid hS2
 have Hq : Hid (w.heap.size ≤ q) := Lib.hid (Nat.le_trans B1.out.size hq2)
 clear C2 hq2 hS2 b2
 go_wp2_with fail
 refine (C3.out _).mono ?_
 rintro e w3 ⟨r, rfl, _, hR3, b3⟩
 have B3 := Lib.hid (bstep B2.out b3)
 have HD3 := Lib.hid (HD2.out.step b3)
 have HS3 := Lib.hid (HS2.out.step b3)
 have C4 := Lib.hid (rsopen_nil w3 r 1099511627776 hR3)
 clear C3 hR3 b3
 go_wp2_with fail
 refine C4.out.mono ?_
 rintro e w4 ⟨t, rfl, _, _, b4⟩
 have B4 := Lib.hid (bstep B3.out b4)
 have HD4 := Lib.hid (HD3.out.step b4)
 have HS4 := Lib.hid (HS3.out.step b4)
 clear C4 b4
 go_wp2
 refine wp_loop_rounds 1 ?_
 rw [rounds_succ]
 go_wp2
 go_ret2
 exact ⟨q, t, p, pk, m, rfl, HS4.out, HD4.out, Hpm.out.1, Hpm.out.2, Hq.out, B4.out⟩
end Go.Proofs.YtifannandfkacaaGreatDoor
