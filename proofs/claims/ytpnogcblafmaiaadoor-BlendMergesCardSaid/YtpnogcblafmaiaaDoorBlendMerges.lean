/-
  dolmenlaw17.BlendMerges returns true. Conditions: slices read as lists; internal/bytealg.MaxLen holds an int.
-/
import Derived.Test.YtpnogcblafmaiaaDoorBlendLaws
import Derived.Test.YtpnogcblafmaiaaDoorRefMerge
namespace Go.Proofs.YtpnogcblafmaiaaDoor
open Go.RowKit

set_option maxRecDepth 100000 in
theorem blendMerges_far (A0 A1 A2 : Option Addr) (n0 n1 n2 c0 c1 c2 : Nat) (w : World) (hM : MaxL w) (h : 600 < n0 ∨ 600 < n1 ∨ 600 < n2) :
    Calls Tryd.prog 8 #[.slice A0 n0 c0, .slice A1 n1 c1, .slice A2 n2 c2] w fun e w' => e = .returned (.bool true) ∧ Below w.heap.size w w' := by
  go_enter Tryd.func8, Tryd.ntmps8
  go_wp2_with fail
  refine (awake17_any _ hM).mono ?_
  rintro e w1 ⟨rfl, b1⟩
  go_wp2_with fail
  refine (few_no A0 A1 A2 n0 n1 n2 c0 c1 c2 _ h).mono ?_
  rintro e w2 ⟨rfl, b2⟩
  go_wp2
  go_ret
  exact ⟨rfl, bstep b1 b2⟩
set_option maxHeartbeats 2000000 in
set_option maxRecDepth 100000 in
theorem blendMerges_near (A0 A1 A2 : Option Addr) (n0 n1 n2 c0 c1 c2 : Nat) (b o t : List UInt8) (w : World) (hA0 : Sl w 1 A0 n0 (u8s b)) (hA1 : Sl w 1 A1 n1 (u8s o)) (hA2 : Sl w 1 A2 n2 (u8s t)) (hc0 : n0 ≤ c0) (hc1 : n1 ≤ c1) (hc2 : n2 ≤ c2) (h0 : n0 ≤ 600) (h1 : n1 ≤ 600) (h2 : n2 ≤ 600) (hM : MaxL w) :
    Calls Tryd.prog 8 #[.slice A0 n0 c0, .slice A1 n1 c1, .slice A2 n2 c2] w fun e w' => e = .returned (.bool true) ∧ Below w.heap.size w w' := by
  obtain ⟨r, f, hm⟩ : ∃ r f, BlendLaw.merge b o t = (r, f) := ⟨_, _, rfl⟩
  obtain ⟨n, hn⟩ : ∃ n, r.length = n := ⟨_, rfl⟩
  have HA0 := Lib.hid hA0
  have HA1 := Lib.hid hA1
  have HA2 := Lib.hid hA2
  have Hm := Lib.hid hm
  have Hn := Lib.hid hn
  clear hA0 hA1 hA2 hm hn
  go_enter Tryd.func8, Tryd.ntmps8
  go_wp2_with fail
  refine (awake17_any _ hM).mono ?_
  rintro e w1 ⟨rfl, b1⟩
  have B1 := Lib.hid b1
  clear b1
  go_wp2_with fail
  refine (few_yes A0 A1 A2 n0 n1 n2 c0 c1 c2 _ h0 h1 h2).mono ?_
  rintro e w2 ⟨rfl, b2⟩
  have B2 := Lib.hid (bstep B1.out b2)
  clear b2 B1
  go_wp2_with fail
  refine (merge_to A0 n0 c0 b A1 n1 c1 o A2 n2 c2 t r f n _ (HA0.out.below B2.out) (HA1.out.below B2.out) (HA2.out.below B2.out) (by omega) (by omega) (by omega) (hM.step B2.out) Hm.out Hn.out).mono ?_
  rintro e w3 ⟨A3, c3, rfl, hS3, b3⟩
  have B3 := Lib.hid (bstep B2.out b3)
  have HS3 := Lib.hid hS3
  clear b3 hS3 B2
  go_wp2_with fail
  have hR := refMerge_any A0 n0 c0 b A1 n1 c1 o A2 n2 c2 t _ (HA0.out.below B3.out) (HA1.out.below B3.out) (HA2.out.below B3.out) hc0 hc1 hc2 h0 h1 h2
  rw [Hm.out] at hR
  refine hR.mono ?_
  rintro e w4 ⟨A4, n4, c4, rfl, hS4, b4⟩
  have B4 := Lib.hid (bstep B3.out b4)
  have k3 := conv_any (c := c3) (HS3.out.below b4) w4 (Below.refl _ _)
  have k4 := conv_any (c := c4) hS4 w4 (Below.refl _ _)
  clear b4 hS4 B3 HS3 hR
  cases f
  all_goals
    go_wp2
    go_ret
    exact ⟨rfl, B4.out⟩
theorem blendMerges_law (A0 : Option Addr) (n0 c0 : Nat) (b : List UInt8) (A1 : Option Addr) (n1 c1 : Nat) (o : List UInt8) (A2 : Option Addr) (n2 c2 : Nat) (t : List UInt8) (w : World) (hA0 : Sl w 1 A0 n0 (u8s b)) (hc0 : n0 ≤ c0) (_hr0 : c0 ≤ 140737488351232) (hA1 : Sl w 1 A1 n1 (u8s o)) (hc1 : n1 ≤ c1) (_hr1 : c1 ≤ 140737488351232)
    (hA2 : Sl w 1 A2 n2 (u8s t)) (hc2 : n2 ≤ c2) (_hr2 : c2 ≤ 140737488351232) (hM : MaxL w) :
    Calls Tryd.prog 8 #[.slice A0 n0 c0, .slice A1 n1 c1, .slice A2 n2 c2] w fun e w' => e = .returned (.bool true) ∧ Below w.heap.size w w' := by
  by_cases h : 600 < n0 ∨ 600 < n1 ∨ 600 < n2
  · exact blendMerges_far A0 A1 A2 n0 n1 n2 c0 c1 c2 w hM h
  · exact blendMerges_near A0 A1 A2 n0 n1 n2 c0 c1 c2 b o t w hA0 hA1 hA2 hc0 hc1 hc2 (by omega) (by omega) (by omega) hM
end Go.Proofs.YtpnogcblafmaiaaDoor
