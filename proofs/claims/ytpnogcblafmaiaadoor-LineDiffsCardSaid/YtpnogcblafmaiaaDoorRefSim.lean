/-
  dolmenref15.Similar: how alike lines are, by the document. Conditions: as dolmenref15.Diff's.
-/
import Derived.Test.YtpnogcblafmaiaaDoorRefDiff
namespace Go.Proofs.YtpnogcblafmaiaaDoor
open Go.RowKit
open LineLaw (Hk)

set_option maxHeartbeats 2000000 in
set_option maxRecDepth 100000 in
theorem refSimilar_any (A A' : Option Addr) (n n' c c' : Nat) (ss ss' : List (List UInt8)) (w : World) (hA : Sl w 1 A n (strs ss)) (hA' : Sl w 1 A' n' (strs ss')) (hc : n ≤ c) (hc' : n' ≤ c') (hn : n ≤ 1000) (hn' : n' ≤ 1000) :
    Calls Tryd.prog 20 #[.slice A n c, .slice A' n' c'] w fun e w' => e = .returned (I (LineLaw.similar ss ss')) ∧ Below w.heap.size w w' := by
  have hl := Lib.hid (strs_len hA)
  have hl' := Lib.hid (strs_len hA')
  by_cases h0 : n + n' = 0
  · have hz : ((n : Int) + n' == 0) = true := by simp; omega
    have HR := Lib.hid (show LineLaw.similar ss ss' = 100 by unfold LineLaw.similar; rw [if_pos (by rw [hl.out, hl'.out]; exact h0)])
    go_enter Tryd.func20, Tryd.ntmps20
    go_wp2
    go_ret
    exact ⟨ret_int HR.out.symm, Below.refl _ _⟩
  · have hz : ((n : Int) + n' == 0) = false := by simp; omega
    have hd := LineLaw.diff_gone ss ss'
    have hm := LineLaw.ok_mem (LineLaw.diff_ok ss ss')
    have hL := LineLaw.L_le_left ss ss'
    rw [hl.out] at hd hL
    rw [hl.out, hl'.out] at hm
    have HR := Lib.hid (show LineLaw.similar ss ss' = 200 * (LineLaw.L ss ss' : Int) / ((n : Int) + n') by unfold LineLaw.similar; rw [if_neg (by rw [hl.out, hl'.out]; exact h0), hl.out, hl'.out])
    obtain ⟨LL, hLL⟩ : ∃ LL, LineLaw.L ss ss' = LL := ⟨_, rfl⟩
    rw [hLL] at hd hL HR
    obtain ⟨l, hll⟩ : ∃ l, LineLaw.diff ss ss' = l := ⟨_, rfl⟩
    have hD := Lib.hid (refDiff_any A A' n n' c c' ss ss' w hA hA' hc hc' hn hn')
    rw [hll] at hd hm hD
    have Hd := Lib.hid hd
    have Hm := Lib.hid hm
    have Hgt := Lib.hid (fun k => LineLaw.gone_take (l := l) (fun x hx => (hm x hx).1) k)
    clear hLL hll hd hm hA hA'
    go_enter Tryd.func20, Tryd.ntmps20
    go_wp2_with fail
    refine hD.out.mono ?_
    rintro e1 w1 ⟨A1, m1, c1, rfl, hO⟩
    have hS := Lib.hid hO.sl
    have hB := Lib.hid hO.2
    have hlm := Lib.hid (hks_count hO.sl)
    have hcap := hO.cap
    simp only [maxLen] at hcap
    clear hO hD
    go_wp2_with fail
    go_loopw [5, 7] (fun s5 s7 wr => ∃ (k q : Nat), k ≤ m1 ∧ s7 = .int .i64 k ∧ s5 = .int .i64 ((n : Int) - LineLaw.gone (l.take k)) ∧ wr = w1.drewN q) (fun _ s7 _ => m1 - (intOf s7).toNat)
    case atStart => exact ⟨0, 0, Nat.zero_le _, rfl, by simp [LineLaw.gone], rfl⟩
    case round =>
      obtain ⟨k, q, hk, rfl, rfl, rfl⟩ := hrel
      by_cases hlt : k < m1
      · obtain ⟨b, off, x, rfl, hb, hx, c0, c1', c2, c3⟩ := hS.out.hunk hlt
        have hxm := Hm.out x (List.mem_of_getElem? hx)
        have hst := LineLaw.gone_step hx
        have hg1 := Hgt.out k
        have hg2 := Hgt.out (k + 1)
        have hdd := Hd.out
        obtain ⟨G, hG⟩ : ∃ G, LineLaw.gone (l.take k) = G := ⟨_, rfl⟩
        rw [hG] at hst hg1 ⊢
        rw [hst] at hg2
        have Hst := Lib.hid hst
        have e1 : IntKind.i64.wrap ((x.a1 : Int) - (x.a0 : Int)) = (x.a1 : Int) - (x.a0 : Int) := IntWalk.i64_in _ (by omega)
        have e2 : IntKind.i64.wrap ((n : Int) - G - ((x.a1 : Int) - (x.a0 : Int))) = (n : Int) - G - ((x.a1 : Int) - (x.a0 : Int)) := IntWalk.i64_in _ (by omega)
        clear hx hst hG hdd hg1 hg2 c2 c3
        go_wp2
        go_quiet (fail)
        clear e1 e2
        go_wp2
        go_roundw
        case rel => exact ⟨k + 1, _, by omega, by go_num, by rw [Hst.out]; congr 1; omega, rfl⟩
        case measure => simp [intOf]; omega
      · have hall : l.take k = l := List.take_of_length_le (by rw [hlm.out]; omega)
        have hdd := Hd.out
        rw [hall, hdd]
        have q1 : (n : Int) - ((n : Int) - LL) = LL := by omega
        rw [q1]
        have q2 : (0 : Int) ≤ 200 * LL := by omega
        have q3 : 200 * (LL : Int) ≤ 9223372036854775807 := by omega
        have q4 : (1 : Int) ≤ (n : Int) + n' := by omega
        clear hall hdd q1
        go_wp2
        go_ret
        exact ⟨ret_int HR.out.symm, below_drewN hB.out _⟩
end Go.Proofs.YtpnogcblafmaiaaDoor
