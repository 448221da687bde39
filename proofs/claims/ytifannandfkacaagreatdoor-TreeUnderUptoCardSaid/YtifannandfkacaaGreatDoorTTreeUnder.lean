/-
  dolmenlaw13.TreeUnder: the law's walk. Conditions: no text is longer than 1048576; MaxLen holds an int.
-/
import Derived.Test.YtifannandfkacaaGreatDoorTKitTf
namespace Go.Proofs.YtifannandfkacaaGreatDoor
open Go.RowKit
open PathLaw (Bs under)
set_option maxRecDepth 100000 in
set_option maxHeartbeats 8000000 in
theorem treeUnder_law (a b c : Bs) (w : World) (ha : a.length ≤ 1048576) (hb : b.length ≤ 1048576) (hc : c.length ≤ 1048576) (hM : MaxL w) :
  Calls Tryz.prog 3 #[S a, S b, S c] w fun e w' => e = .returned (.bool true) ∧ Below w.heap.size w w' := by
 have C1 := Lib.hid (awake13_any w hM)
 have hU : ∀ (p d : Bs) (V : World), d.length ≤ 1048576 → Calls Tryz.prog 8 #[S p, S d] V fun e w' => e = .returned (.bool (under p d)) ∧ V = w' := fun p d V h => under_any p d V (by omega)
 have CAB := Lib.hid (fun V => hU a b V hb)
 have CBC := Lib.hid (fun V => hU b c V hc)
 have CAC := Lib.hid (fun V => hU a c V hc)
 have CAA := Lib.hid (fun V => hU a a V ha)
 have CBA := Lib.hid (fun V => hU b a V ha)
 have l1 : Hid (under a b = true → under b c = true → under a c = true) := Lib.hid PathLaw.under_trans
 rw [PathLaw.under_irrefl] at CAA
 have l2 : Hid (under a b = true → under b a = false) := Lib.hid (fun h => by
  rw [Bool.eq_false_iff]
  intro h2
  have h3 := PathLaw.under_trans h h2
  rw [PathLaw.under_irrefl] at h3
  cases h3)
 have l3 : Hid (under a b = true → decide (b.length < a.length) = true) := Lib.hid (fun h => decide_eq_true (PathLaw.under_len h))
 clear hU ha hb hc hM
 go_enter Tryz.func3, Tryz.ntmps3
 go_wp2_with fail
 refine C1.out.mono ?_
 rintro e w1 ⟨rfl, b1⟩
 have B1 := Lib.hid b1
 clear b1 C1
 go_wp2_with fail
 refine (CAB.out _).mono ?_
 rintro e w2 ⟨rfl, rfl⟩
 go_wp2_with fail
 refine (CBC.out _).mono ?_
 rintro e w3 ⟨rfl, rfl⟩
 rcases hx : under a b with _ | _
 ·clear hx
  rcases hy : under b c with _ | _
  all_goals
   clear hy
   go_wp2_with fail
   refine (CAA.out _).mono ?_
   rintro e w4 ⟨rfl, rfl⟩
   go_wp2
   go_ret
   exact ⟨by first | rfl | (rw [h3]; rfl), B1.out⟩
 ·have h2 := l2.out hx
  have h3 := l3.out hx
  rw [h2] at CBA
  rcases hy : under b c with _ | _
  ·clear hx hy h2
   go_wp2_with fail
   refine (CAA.out _).mono ?_
   rintro e w4 ⟨rfl, rfl⟩
   go_wp2_with fail
   refine (CBA.out _).mono ?_
   rintro e w4 ⟨rfl, rfl⟩
   go_wp2
   go_ret
   exact ⟨by first | rfl | (rw [h3]; rfl), B1.out⟩
  ·have h1 := l1.out hx hy
   rw [h1] at CAC
   clear hx hy h2 h1
   go_wp2_with fail
   refine (CAC.out _).mono ?_
   rintro e w4 ⟨rfl, rfl⟩
   go_wp2_with fail
   refine (CAA.out _).mono ?_
   rintro e w4 ⟨rfl, rfl⟩
   go_wp2_with fail
   refine (CBA.out _).mono ?_
   rintro e w4 ⟨rfl, rfl⟩
   go_wp2
   go_ret
   exact ⟨by first | rfl | (rw [h3]; rfl), B1.out⟩
end Go.Proofs.YtifannandfkacaaGreatDoor
