/-
  dolmenref13.Build. Conditions: the files can be read; no path is longer than 2147483648.
-/
import Derived.Test.YtcednfmkiaelnaaGreatDoorTRBuild
import Derived.Test.YtcednfmkiaelnaaGreatDoorTRCheck13
import Derived.Test.YtcednfmkiaelnaaGreatDoorTKitTe
namespace Go.Proofs.YtcednfmkiaelnaaGreatDoor
open Go.RowKit
open TreeLaw
open PathLaw (Bs)
theorem rbuild_any : ∀ K : Nat, RBuildC K
 | 0 => fun _ _ _ _ _ _ _ _ _ _ _ h => absurd h (by omega)
 | K + 1 => rbuild_succ K (rbuild_any K)
set_option maxRecDepth 100000 in
set_option maxHeartbeats 4000000 in
theorem rBuild_any (w : World) (A : Option Addr) (n c : Nat) (l : List Fil) (hA : Sl w 2 A n (fls l)) (hn : n ≤ 1048576) (hP : ∀ f ∈ l, f.1.length ≤ 2147483648) :
  Calls Tryz.prog 8 #[.slice A n c] w fun e w' => ((CheckP l ∧ ∃ A' c' hs, e = .returned (.tuple #[.slice A' (treesL l).length c', S (rootL l), I 0]) ∧ SlT (fun _ => True) 38 w' 1 A' (treesL l).length (hs.map Hd.v) ∧ RowsAt w' hs (treesL l)) ∨ (¬ CheckP l ∧ e = .returned (.tuple #[.slice none 0 0, S [], I 1]))) ∧ Below w.heap.size w w' := by
 have HA := Lib.hid hA
 have C1 := Lib.hid (rcheck13_any A n c l w hA hn hP)
 clear hA hP
 go_enter Tryz.func8, Tryz.ntmps8
 go_wp2_with fail
 refine C1.out.mono ?_
 rintro e w1 ⟨z, rfl, hz, b1⟩
 have B1 := Lib.hid b1
 clear C1 b1
 rcases hz with ⟨rfl, hc⟩ | ⟨rfl, hc⟩
 ·have hc1 := wgt_le hc
  have hc2 := hc.2.2.2
  have C2 := Lib.hid (rbuild_any 151 l A n c w1 w1 none 0 0 [] [] (by decide) (fineB_of hc) (short_of hc) (SlB.of_sl (HA.out.below B1.out)) (Ow.nil_ (Below.refl _ _)) ⟨rfl, fun i h raw h1 => by simp at h1⟩ (by simp only [List.length_nil]; omega))
  have Hc := Lib.hid hc
  clear hc hc1 hc2
  go_wp2_with fail
  refine C2.out.mono ?_
  rintro e w3 ⟨A', n', c', hs, rfl, hO, hR, _⟩
  have e1 : (buildL 151 l []).1 = rootL l := rfl
  have e2 : (buildL 151 l []).2 = treesL l := rfl
  rw [e2] at hR
  rw [e1]
  have hn' : n' = (treesL l).length := by
   have h1 := hO.len
   have h2 := hR.1
   simp only [List.length_map, Nat.mul_one] at h1
   omega
  subst hn'
  have HO := Lib.hid hO
  have HR := Lib.hid hR
  have HB : Hid (Below w.heap.size w w3) := Lib.hid (bstep B1.out hO.2)
  clear hO hR C2 e1 e2
  go_wp2
  go_ret3
  exact ⟨.inl ⟨Hc.out, A', c', hs, rfl, HO.out.slT.weak (fun _ _ _ => trivial), HR.out⟩, HB.out⟩
 ·go_wp2
  go_ret3
  exact ⟨.inr ⟨hc, rfl⟩, B1.out⟩
end Go.Proofs.YtcednfmkiaelnaaGreatDoor
