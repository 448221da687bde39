/-
  dolmenlaw15.LineDiffs returns true. Conditions: slices read as lists; internal/bytealg.MaxLen holds an int.
-/
import Derived.Test.YtpnogcblafmaiaaDoorLineAwake
import Derived.Test.YtpnogcblafmaiaaDoorRefSim
namespace Go.Proofs.YtpnogcblafmaiaaDoor
open Go.RowKit
open LineLaw (Hk)

namespace LineLaw
theorem ok_few {α : Type} {a b : List α} : ∀ {l : List Hk} {i j : Nat} {f : Bool}, Ok a b i j f l → l.length + i + j ≤ a.length + b.length
  | [], _, _, _, h => by obtain ⟨h1, h2, _⟩ := h; simp; omega
  | x :: l, i, j, f, h => by
    obtain ⟨h1, h2, h3, h4, h5, h6, h7, _, _, _, h8⟩ := h
    have := ok_few h8
    simp; omega
theorem few_hunks (a b : List (List UInt8)) : (diff a b).length ≤ a.length + b.length := by have := ok_few (diff_ok a b); omega
end LineLaw

set_option maxHeartbeats 2000000 in
set_option maxRecDepth 100000 in
theorem lineDiffs_far (A A' : Option Addr) (n n' c c' : Nat) (w : World) (hM : MaxL w) (h : 300 < n ∨ 300 < n') :
    Calls Tryd.prog 3 #[.slice A n c, .slice A' n' c'] w fun e w' => e = .returned (.bool true) ∧ Below w.heap.size w w' := by
  by_cases h1 : 300 < n
  · go_enter Tryd.func3, Tryd.ntmps3
    go_wp2_with fail
    refine (awake15_any _ hM).mono ?_
    rintro e w1 ⟨rfl, b1⟩
    go_wp2
    go_ret
    exact ⟨rfl, b1⟩
  · have h2 : 300 < n' := by omega
    go_enter Tryd.func3, Tryd.ntmps3
    go_wp2_with fail
    refine (awake15_any _ hM).mono ?_
    rintro e w1 ⟨rfl, b1⟩
    go_wp2
    go_ret
    exact ⟨rfl, b1⟩

set_option maxHeartbeats 4000000 in
set_option maxRecDepth 100000 in
theorem lineDiffs_near (A A' : Option Addr) (n n' c c' : Nat) (ss ss' : List (List UInt8)) (w : World) (hA : Sl w 1 A n (strs ss)) (hA' : Sl w 1 A' n' (strs ss')) (hc : n ≤ c) (hc' : n' ≤ c') (hn : n ≤ 300) (hn' : n' ≤ 300) (hM : MaxL w) :
    Calls Tryd.prog 3 #[.slice A n c, .slice A' n' c'] w fun e w' => e = .returned (.bool true) ∧ Below w.heap.size w w' := by
  have HA := Lib.hid hA
  have HA' := Lib.hid hA'
  have hmul : n * n' ≤ 1048576 := by have := Nat.mul_le_mul hn hn'; omega
  obtain ⟨l, hll⟩ : ∃ l, LineLaw.diff ss ss' = l := ⟨_, rfl⟩
  obtain ⟨sim, hsim⟩ : ∃ sim, LineLaw.similar ss ss' = sim := ⟨_, rfl⟩
  have Hll := Lib.hid hll
  have Hsim := Lib.hid hsim
  clear hA hA' hll hsim
  have hne1 : ¬ 300 < n := by omega
  have hne2 : ¬ 300 < n' := by omega
  go_enter Tryd.func3, Tryd.ntmps3
  go_wp2_with fail
  refine (awake15_any _ hM).mono ?_
  rintro e w1 ⟨rfl, b1⟩
  have B1 := Lib.hid b1
  have SA := Lib.hid (HA.out.below b1)
  have SB := Lib.hid (HA'.out.below b1)
  clear b1 HA HA'
  go_wp2_with fail
  refine (diff_any A A' n n' c c' ss ss' _ SA.out SB.out hc hc' hmul (by omega) (by omega)).mono ?_
  rintro e2 w2 ⟨A2, m2, c2, rfl, hO⟩
  rw [Hll.out] at hO
  have hS2 := Lib.hid hO.sl
  have B2 := Lib.hid (bstep B1.out hO.2)
  have SA2 := Lib.hid (SA.out.below hO.2)
  have SB2 := Lib.hid (SB.out.below hO.2)
  have hlm := hks_count hO.sl
  have hfew := hO.cap
  have hm2 : m2 ≤ 1000 := by
    have h1 := LineLaw.few_hunks ss ss'
    rw [Hll.out, hlm, strs_len SA.out, strs_len SB.out] at h1
    omega
  clear hO B1 SA SB hfew
  go_wp2_with fail
  refine (theirs15_any A2 m2 c2 l _ hS2.out (by omega)).mono ?_
  rintro e3 w3 ⟨A3, c3, rfl, hO3⟩
  have hS3 := Lib.hid hO3.sl
  have B3 := Lib.hid (bstep B2.out hO3.2)
  have SA3 := Lib.hid (SA2.out.below hO3.2)
  have SB3 := Lib.hid (SB2.out.below hO3.2)
  clear hO3 B2 SA2 SB2 hS2
  go_wp2_with fail
  refine (refDiff_any A A' n n' c c' ss ss' _ SA3.out SB3.out hc hc' (by omega) (by omega)).mono ?_
  rintro e4 w4 ⟨A4, m4, c4, rfl, hO4⟩
  rw [Hll.out] at hO4
  have hlm4 := hks_count hO4.sl
  obtain rfl : m4 = m2 := by omega
  have hS4 := Lib.hid hO4.sl
  have hS34 := Lib.hid (hS3.out.below hO4.2)
  have B4 := Lib.hid (bstep B3.out hO4.2)
  have SA4 := Lib.hid (SA3.out.below hO4.2)
  have SB4 := Lib.hid (SB3.out.below hO4.2)
  clear hO4 B3 SA3 SB3 hS3 hlm4 hlm
  go_wp2_with fail
  refine (refSame_eq A3 A4 m4 c3 c4 l _ hS34.out hS4.out (by omega)).mono ?_
  rintro e5 w5 ⟨rfl, q5, hw5⟩
  have b5 : Below w4.heap.size w4 w5 := by rw [hw5]; exact below_drewN (Below.refl _ _) _
  have B5 := Lib.hid (bstep B4.out b5)
  have SA5 := Lib.hid (SA4.out.below b5)
  have SB5 := Lib.hid (SB4.out.below b5)
  clear hw5 b5 B4 SA4 SB4 hS34 hS4
  go_wp2_with fail
  refine (similar_any A A' n n' c c' ss ss' _ SA5.out SB5.out hc hc' hmul (by omega) (by omega)).mono ?_
  rintro e6 w6 ⟨rfl, b6⟩
  rw [Hsim.out]
  have B6 := Lib.hid (bstep B5.out b6)
  have SA6 := Lib.hid (SA5.out.below b6)
  have SB6 := Lib.hid (SB5.out.below b6)
  clear b6 B5 SA5 SB5
  go_wp2_with fail
  refine (refSimilar_any A A' n n' c c' ss ss' _ SA6.out SB6.out hc hc' (by omega) (by omega)).mono ?_
  rintro e7 w7 ⟨rfl, b7⟩
  rw [Hsim.out]
  have B7 := Lib.hid (bstep B6.out b7)
  clear b7 B6 SA6 SB6
  go_wp2
  go_ret
  exact ⟨rfl, B7.out⟩

theorem lineDiffs_law (A : Option Addr) (n c : Nat) (ss : List (List UInt8)) (A' : Option Addr) (n' c' : Nat) (ss' : List (List UInt8)) (w : World) (hA : Sl w 1 A n (strs ss)) (hc : n ≤ c) (hA' : Sl w 1 A' n' (strs ss')) (hc' : n' ≤ c') (hM : MaxL w) :
    Calls Tryd.prog 3 #[.slice A n c, .slice A' n' c'] w fun e w' => e = .returned (.bool true) ∧ Below w.heap.size w w' := by
  by_cases h : 300 < n ∨ 300 < n'
  · exact lineDiffs_far A A' n n' c c' w hM h
  · exact lineDiffs_near A A' n n' c c' ss ss' w hA hA' hc hc' (by omega) (by omega) hM
end Go.Proofs.YtpnogcblafmaiaaDoor
