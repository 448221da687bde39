/-
  dolmenlaw15.LineSplits returns true. Conditions: slices read as lists, of few bytes; internal/bytealg.MaxLen holds an int.
-/
import Derived.Test.YtpnogcblafmaiaaDoorLineAwake
import Derived.Test.YtpnogcblafmaiaaDoorLineJoin
import Derived.Deep.RegionLaw
namespace Go.Proofs.YtpnogcblafmaiaaDoor
open Go.RowKit
open LinesLaw (lns)

theorem sameTexts_eq (A A' : Option Addr) (n n' c c' : Nat) (ss : List (List UInt8)) (w : World) (hA : Sl w 1 A n (strs ss)) (hA' : Sl w 1 A' n' (strs ss))
    (hn : n ≤ 9223372036854775807) :
    Calls Tryd.prog 21 #[.slice A n c, .slice A' n' c'] w fun e w' => e = .returned (.bool true) ∧ Below w.heap.size w w' :=
  (sameTexts_any A A' n n' c c' ss ss w hA hA' hn).mono fun e w' ⟨he, m, hw⟩ => ⟨by rw [he, decide_eq_true rfl], by rw [hw]; exact below_drewN (Below.refl _ _) _⟩

theorem conv_any {w : World} {A : Option Addr} {n c : Nat} {b : List UInt8} (h : Sl w 1 A n (u8s b)) : ∀ W : World, Below w.heap.size w W → (convert 34 9 (.slice A n c)).run Tryd.prog W = .ok (S b) W :=
  fun W hb => run_conv_str (P := Tryd.prog) W 34 9 5 A n c b Tryd.underlying34 Tryd.underlying5 Tryd.underlying9 (h.below hb)

set_option maxHeartbeats 8000000 in
set_option maxRecDepth 100000 in
theorem lineSplits_law (A : Option Addr) (n c : Nat) (b : List UInt8) (A' : Option Addr) (n' c' : Nat) (ss : List (List UInt8)) (bb : List UInt8) (w : World) (hA : Sl w 1 A n (u8s b)) (hc : n ≤ c) (hA' : Sl w 1 A' n' (strs ss)) (hc' : n' ≤ c')
    (hn : n ≤ 1048576) (hn' : n' ≤ 1048576) (hfl : ss.flatten = bb) (hbb : bb.length ≤ 1048576) (hM : MaxL w) :
    Calls Tryd.prog 7 #[.slice A n c, .slice A' n' c'] w fun e w' => e = .returned (.bool true) ∧ Below w.heap.size w w' := by
  have HA := Lib.hid hA
  have HA' := Lib.hid hA'
  have Hfl := Lib.hid hfl
  have hlb : b.length = n := by simpa using hA.len
  have Hlb := Lib.hid hlb
  clear hA hA' hfl hlb
  go_enter Tryd.func7, Tryd.ntmps7
  go_wp2_with fail
  refine (awake15_any _ hM).mono ?_
  rintro e w1 ⟨rfl, b1⟩
  have B1 := Lib.hid b1
  have SA := Lib.hid (HA.out.below b1)
  have SB := Lib.hid (HA'.out.below b1)
  have hM1 := hM.step b1
  clear b1 HA HA'
  go_wp2_with fail
  refine (split_any A n c b _ SA.out (by omega) hM1).mono ?_
  rintro e2 w2 ⟨A2, m2, c2, rfl, hmc, hmn, hS2, b2⟩
  have B2 := Lib.hid (bstep B1.out b2)
  have SA2 := Lib.hid (SA.out.below b2)
  have SB2 := Lib.hid (SB.out.below b2)
  have HS2 := Lib.hid hS2
  clear b2 SA SB hS2 B1 hM1 hM
  go_wp2
  go_loop [7] (fun i => ∃ k : Nat, k ≤ m2 ∧ i = .int .i64 k) (fun i => m2 - (intOf i).toNat)
  case atStart => exact ⟨0, Nat.zero_le _, rfl⟩
  case round =>
    obtain ⟨k, hk, rfl⟩ := hrel
    by_cases hlt : k < m2
    · obtain ⟨b1, off, s, rfl, hs, hc⟩ := HS2.out.str hlt
      have hne : s.isEmpty = false := by have := LinesLaw.lns_mem b s (List.mem_of_getElem? hs); simpa using this
      clear hs
      go_wp2
      go_round
      case rel => exact ⟨k + 1, by omega, by go_num⟩
      case measure => simp [intOf]; omega
    · obtain rfl : k = m2 := by omega
      go_wp2
      have conv0 := conv_any (c := c) SA2.out
      have bz : Below w2.heap.size w2 w2 := Below.refl _ _
      have bd : Below w2.heap.size w2 w2.drew := bz.drew
      go_region_law (first
          | (go_simp; go_at_call 24; refine (refSplit_any A n c b _ SA2.out.drew hc (by omega)).mono ?_; rintro e3 w3 ⟨A3, m3, c3, rfl, hm3, hO3⟩; have q3 : Below w2.heap.size w2 w3 := bstep bz.drew hO3.2)
          | (go_simp; go_at_call 21; refine (sameTexts_eq A2 A3 k m3 c2 c3 (lns b) _ (HS2.out.below q3) hO3.sl (by omega)).mono ?_; rintro e4 w4 ⟨rfl, hb4⟩; have q4 : Below w2.heap.size w2 w4 := bstep q3 hb4)
          | (go_simp; go_at_call_of 25 (Value.slice A' n' c'); refine (lineJoin_any A' n' c' ss bb _ (SB2.out.below q4) Hfl.out hc' (by omega) (by omega)).mono ?_; rintro e5 w5 ⟨A5, c5, rfl, hc5, hS5, hb5⟩; have q5 : Below w2.heap.size w2 w5 := bstep q4 hb5; have conv5 := conv_any (c := c5) hS5; have z5 : Below w5.heap.size w5 w5 := Below.refl _ _)
          | (go_simp; go_at_call 26; refine (refJoin_any A' n' c' ss bb _ (SB2.out.below q5) Hfl.out (by omega) (by omega)).mono ?_; rintro e6 w6 ⟨A6, c6, rfl, hO6⟩; have q6 : Below w2.heap.size w2 w6 := bstep q5 hO6.2; have z56 : Below w5.heap.size w5 w6 := hO6.2; have conv6 := conv_any (c := c6) hO6.sl; have z6 : Below w6.heap.size w6 w6 := Below.refl _ _)
          | (go_simp; go_at_call 25; refine (lineJoin_any A2 k c2 (lns b) b _ (HS2.out.below q6) (LinesLaw.lns_flat b) hmc (by omega) (by rw [Hlb.out]; omega)).mono ?_; rintro e7 w7 ⟨A7, c7, rfl, hc7, hS7, hb7⟩; have q7 : Below w2.heap.size w2 w7 := bstep q6 hb7; have conv7 := conv_any (c := c7) hS7; have z7 : Below w7.heap.size w7 w7 := Below.refl _ _))
      all_goals
        clear conv0
        go_wp2
        go_ret
        exact ⟨rfl, bstep B2.out q7⟩
end Go.Proofs.YtpnogcblafmaiaaDoor
