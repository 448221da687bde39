/-
  dolmenlaw15.LineLeast returns true. Conditions: slices read as lists; internal/bytealg.MaxLen holds an int.
-/
import Derived.Test.YtpnogcblafmaiaaDoorLineAwake
import Derived.Test.YtpnogcblafmaiaaDoorLineAdds
import Derived.Test.YtpnogcblafmaiaaDoorLineCommon
namespace Go.Proofs.YtpnogcblafmaiaaDoor
open Go.RowKit
open LineLaw (Hk)

set_option maxHeartbeats 2000000 in
set_option maxRecDepth 100000 in
theorem lineLeast_far (A A' : Option Addr) (n n' c c' : Nat) (w : World) (hM : MaxL w) (h : 300 < n ∨ 300 < n') :
    Calls Tryd.prog 5 #[.slice A n c, .slice A' n' c'] w fun e w' => e = .returned (.bool true) ∧ Below w.heap.size w w' := by
  by_cases h1 : 300 < n
  · go_enter Tryd.func5, Tryd.ntmps5
    go_wp2_with fail
    refine (awake15_any _ hM).mono ?_
    rintro e w1 ⟨rfl, b1⟩
    go_wp2
    go_ret
    exact ⟨rfl, b1⟩
  · have h2 : 300 < n' := by omega
    go_enter Tryd.func5, Tryd.ntmps5
    go_wp2_with fail
    refine (awake15_any _ hM).mono ?_
    rintro e w1 ⟨rfl, b1⟩
    go_wp2
    go_ret
    exact ⟨rfl, b1⟩

set_option maxHeartbeats 4000000 in
set_option maxRecDepth 100000 in
theorem lineLeast_near (A A' : Option Addr) (n n' c c' : Nat) (ss ss' : List (List UInt8)) (w : World) (hA : Sl w 1 A n (strs ss)) (hA' : Sl w 1 A' n' (strs ss')) (hc : n ≤ c) (hc' : n' ≤ c') (hn : n ≤ 300) (hn' : n' ≤ 300) (hM : MaxL w) :
    Calls Tryd.prog 5 #[.slice A n c, .slice A' n' c'] w fun e w' => e = .returned (.bool true) ∧ Below w.heap.size w w' := by
  have hl := Lib.hid (strs_len hA)
  have hl' := Lib.hid (strs_len hA')
  have HA := Lib.hid hA
  have HA' := Lib.hid hA'
  have hmul : n * n' ≤ 1048576 := by have := Nat.mul_le_mul hn hn'; omega
  have hmul' : n' * n ≤ 1048576 := by have := Nat.mul_le_mul hn' hn; omega
  have hmul2 : n * n ≤ 1048576 := by have := Nat.mul_le_mul hn hn; omega
  have hd := LineLaw.diff_gone ss ss'
  have hm := LineLaw.ok_mem (LineLaw.diff_ok ss ss')
  rw [hl.out] at hd
  rw [hl.out, hl'.out] at hm
  obtain ⟨l, hll⟩ : ∃ l, LineLaw.diff ss ss' = l := ⟨_, rfl⟩
  have hfull := LineLaw.similar_full ss ss'
  have hrange := LineLaw.similar_range ss ss'
  have hcomm := Lib.hid (LineLaw.similar_comm ss ss')
  rw [hll] at hd hm hfull
  obtain ⟨sim, hsim⟩ : ∃ sim, LineLaw.similar ss ss' = sim := ⟨_, rfl⟩
  rw [hsim] at hfull hrange hcomm
  obtain ⟨LL, hLL⟩ : ∃ LL, LineLaw.L ss ss' = LL := ⟨_, rfl⟩
  have hLn := LineLaw.L_le_left ss ss'
  rw [hl.out, hLL] at hLn
  rw [hLL] at hd
  have Hd := Lib.hid hd
  have Hm := Lib.hid hm
  have Hfull := Lib.hid hfull
  have Hll := Lib.hid hll
  have Hsim := Lib.hid hsim
  have HLL := Lib.hid hLL
  have Hgt := Lib.hid (fun k => LineLaw.gone_take (l := l) (fun x hx => (hm x hx).1) k)
  clear hA hA' hd hm hfull hll hsim hLL
  have hne1 : ¬ 300 < n := by omega
  have hne2 : ¬ 300 < n' := by omega
  go_enter Tryd.func5, Tryd.ntmps5
  go_wp2_with fail
  refine (awake15_any _ hM).mono ?_
  rintro e w1 ⟨rfl, b1⟩
  have B1 := Lib.hid b1
  have SA := Lib.hid (HA.out.below b1)
  have SB := Lib.hid (HA'.out.below b1)
  clear b1 HA HA'
  go_wp2_with fail
  refine (diff_any A A' n n' c c' ss ss' _ SA.out SB.out hc hc' hmul (by omega) (by omega)).mono ?_
  rintro e2 w2 ⟨A2, m2, c2, rfl, hO⟩
  rw [Hll.out] at hO
  have hS := Lib.hid hO.sl
  have B2 := Lib.hid (bstep B1.out hO.2)
  have SA2 := Lib.hid (SA.out.below hO.2)
  have SB2 := Lib.hid (SB.out.below hO.2)
  have hlm := Lib.hid (hks_count hO.sl)
  have hcap := hO.cap
  simp only [maxLen] at hcap
  clear hO B1 SA SB
  go_wp2_with fail
  go_loopw [6, 8] (fun s6 s8 wr => ∃ (k q : Nat), k ≤ m2 ∧ s8 = .int .i64 k ∧ s6 = .int .i64 (LineLaw.gone (l.take k)) ∧ wr = w2.drewN q) (fun _ s8 _ => m2 - (intOf s8).toNat)
  case atStart => exact ⟨0, 0, Nat.zero_le _, rfl, by simp [LineLaw.gone], rfl⟩
  case round =>
    obtain ⟨k, q, hk, rfl, rfl, rfl⟩ := hrel
    by_cases hlt : k < m2
    · obtain ⟨b, off, x, rfl, hb, hx, c0, c1, cb0, cb1⟩ := hS.out.hunk hlt
      have hxm := Hm.out x (List.mem_of_getElem? hx)
      have hst := LineLaw.gone_step hx
      have hg1 := Hgt.out k
      have hg2 := Hgt.out (k + 1)
      have hdd := Hd.out
      obtain ⟨G, hG⟩ : ∃ G, LineLaw.gone (l.take k) = G := ⟨_, rfl⟩
      rw [hG] at hst hg1 ⊢
      rw [hst] at hg2
      have Hst := Lib.hid hst
      have e1 : IntKind.i64.wrap (G + (x.a1 : Int)) = G + (x.a1 : Int) := IntWalk.i64_in _ (by omega)
      have e2 : IntKind.i64.wrap (G + (x.a1 : Int) - (x.a0 : Int)) = G + (x.a1 : Int) - (x.a0 : Int) := IntWalk.i64_in _ (by omega)
      clear hx hst hG hdd hg1 hg2 cb0 cb1
      go_wp2
      go_quiet (fail)
      clear e1 e2
      go_wp2
      go_roundw
      case rel => exact ⟨k + 1, _, by omega, by go_num, by rw [Hst.out]; congr 1; omega, rfl⟩
      case measure => simp [intOf]; omega
    · have hall : l.take k = l := List.take_of_length_le (by rw [hlm.out]; omega)
      have hdd := Hd.out
      rw [hall, hdd]
      have SA3 := Lib.hid (SA2.out.drewN q)
      have SB3 := Lib.hid (SB2.out.drewN q)
      have B3 := Lib.hid (below_drewN B2.out q)
      generalize w2.drewN q = w3 at *
      have q1 : (n : Int) - ((n : Int) - LL) = LL := by omega
      clear hall hdd
      go_wp2_with fail
      refine (similar_any A A' n n' c c' ss ss' _ SA3.out SB3.out hc hc' hmul (by omega) (by omega)).mono ?_
      rintro e4 w4 ⟨rfl, b4⟩
      rw [Hsim.out]
      have SA4 := Lib.hid (SA3.out.below b4)
      have SB4 := Lib.hid (SB3.out.below b4)
      have B4 := Lib.hid (bstep B3.out b4)
      clear b4 SA3 SB3 B3
      go_wp2_with fail
      refine (common_any A A' n n' c c' ss ss' _ SA4.out SB4.out (by omega) (by omega)).mono ?_
      rintro e5 w5 ⟨rfl, b5⟩
      rw [HLL.out]
      have SA5 := Lib.hid (SA4.out.below b5)
      have SB5 := Lib.hid (SB4.out.below b5)
      have B5 := Lib.hid (bstep B4.out b5)
      clear b5 SA4 SB4 B4
      go_wp2_with fail
      refine (diff_any A A n n c c ss ss _ SA5.out SA5.out hc hc hmul2 (by omega) (by omega)).mono ?_
      rintro e6 w6 ⟨A6, m6, c6, rfl, hO6⟩
      rw [LineLaw.diff_self] at hO6
      obtain rfl := hO6.no_hunk
      have SA6 := Lib.hid (SA5.out.below hO6.2)
      have SB6 := Lib.hid (SB5.out.below hO6.2)
      have B6 := Lib.hid (bstep B5.out hO6.2)
      clear hO6 SA5 SB5 B5
      go_wp2_with fail
      refine (similar_any A' A n' n c' c ss' ss _ SB6.out SA6.out hc' hc hmul' (by omega) (by omega)).mono ?_
      rintro e7 w7 ⟨rfl, b7⟩
      rw [← hcomm.out]
      have B7 := Lib.hid (bstep B6.out b7)
      clear b7 SA6 SB6 B6
      by_cases h100 : sim = 100
      · obtain rfl : m2 = 0 := by rw [← hlm.out, Hfull.out.1 h100]; rfl
        subst h100
        go_wp2
        go_ret
        exact ⟨rfl, B7.out⟩
      · have hm0 : m2 ≠ 0 := fun h0 => h100 (Hfull.out.2 (List.eq_nil_of_length_eq_zero (by rw [hlm.out]; exact h0)))
        have z1 : (sim == 100) = false := by simpa using h100
        have z2 : ((m2 : Int) == 0) = false := by simp; omega
        go_wp2
        go_ret
        exact ⟨rfl, B7.out⟩

theorem lineLeast_law (A : Option Addr) (n c : Nat) (ss : List (List UInt8)) (A' : Option Addr) (n' c' : Nat) (ss' : List (List UInt8)) (w : World) (hA : Sl w 1 A n (strs ss)) (hc : n ≤ c) (hA' : Sl w 1 A' n' (strs ss')) (hc' : n' ≤ c') (hM : MaxL w) :
    Calls Tryd.prog 5 #[.slice A n c, .slice A' n' c'] w fun e w' => e = .returned (.bool true) ∧ Below w.heap.size w w' := by
  by_cases h : 300 < n ∨ 300 < n'
  · exact lineLeast_far A A' n n' c c' w hM h
  · exact lineLeast_near A A' n n' c c' ss ss' w hA hA' hc hc' (by omega) (by omega) hM
end Go.Proofs.YtpnogcblafmaiaaDoor
