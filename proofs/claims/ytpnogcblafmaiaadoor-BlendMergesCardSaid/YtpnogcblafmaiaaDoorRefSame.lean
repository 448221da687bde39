/-
  dolmenref15.Same and dolmenlaw15.theirs. Conditions: slices read as hunks.
-/
import Derived.Test.YtpnogcblafmaiaaDoorLineSim
namespace Go.Proofs.YtpnogcblafmaiaaDoor
open Go.RowKit
open LineLaw (Hk)

theorem Tryd.infoRHk : (Tryd.prog.info? 45).map (fun i => (i.zero, i.size, i.bytes)) = some (some (.agg #[I 0, I 0, I 0, I 0]), 4, 32) := by kernel_rfl

set_option maxHeartbeats 2000000 in
set_option maxRecDepth 100000 in
theorem refSame_eq (A A' : Option Addr) (m c c' : Nat) (l : List Hk) (w : World) (hA : Sl w 4 A m (hks l)) (hA' : Sl w 4 A' m (hks l)) (hm : m ≤ 9223372036854775807) :
    Calls Tryd.prog 15 #[.slice A m c, .slice A' m c'] w fun e w' => e = .returned (.bool true) ∧ ∃ q, w' = w.drewN q := by
  go_enter Tryd.func15, Tryd.ntmps15
  go_wp2
  go_loopw [5] (fun s5 wr => ∃ (k q : Nat), k ≤ m ∧ s5 = .int .i64 k ∧ wr = w.drewN q) (fun s5 _ => m - (intOf s5).toNat)
  case atStart => exact ⟨0, 0, Nat.zero_le _, rfl, rfl⟩
  case round =>
    obtain ⟨k, q, hk, rfl, rfl⟩ := hrel
    by_cases hlt : k < m
    · obtain ⟨b, off, x, rfl, hb, hx, c0, c1, c2, c3⟩ := hA.hunk hlt
      obtain ⟨b', off', x', rfl, hb', hx', c0', c1', c2', c3'⟩ := hA'.hunk hlt
      obtain rfl : x = x' := Option.some.inj (hx.symm.trans hx')
      clear hx hx'
      go_wp2
      go_quiet (fail)
      go_wp2
      go_roundw
      case rel => exact ⟨k + 1, _, by omega, by go_num, rfl⟩
      case measure => simp [intOf]; omega
    · go_wp2
      go_ret
      exact ⟨rfl, q, rfl⟩

set_option maxHeartbeats 2000000 in
set_option maxRecDepth 100000 in
theorem theirs15_any (A : Option Addr) (m c : Nat) (l : List Hk) (w : World) (hA : Sl w 4 A m (hks l)) (hm : m ≤ 1099511627776) :
    Calls Tryd.prog 16 #[.slice A m c] w fun e w' => ∃ A2 c2, e = .returned (.slice A2 m c2) ∧ Ow w w' 45 4 A2 m c2 (hks l) := by
  obtain ⟨i0, hi0, hi1, hi2, hi3⟩ := info_parts Tryd.infoRHk
  have hlm := Lib.hid (hks_count hA)
  have HA := Lib.hid hA
  clear hA
  go_enter Tryd.func16, Tryd.ntmps16
  go_wp2
  go_loopw [3, 4] (fun s3 s4 wr => ∃ (k : Nat) (B : Option Addr) (cap : Nat), k ≤ m ∧ s4 = .int .i64 k ∧ s3 = .slice B k cap ∧ Ow w wr 45 4 B k cap (hks (l.take k))) (fun _ s4 _ => m - (intOf s4).toNat)
  case atStart => exact ⟨0, none, 0, Nat.zero_le _, rfl, rfl, Ow.nil_ (Below.refl _ _)⟩
  case round =>
    obtain ⟨k, B, cap, hk, rfl, rfl, hO⟩ := hrel
    have HO := Lib.hid hO
    by_cases hlt : k < m
    · obtain ⟨b, off, x, rfl, hb, hx, c0, c1, c2, c3⟩ := (HA.out.below hO.2).hunk hlt
      have Hx := Lib.hid hx
      have hmm : k + 1 ≤ maxLen := by simp only [maxLen]; omega
      have hnn : (k + 1) * 32 ≤ 140737488355328 := by omega
      clear hO hx
      go_wp2
      have hOx := Lib.hid ((HO.out.alloc (.cells #[I x.a0, I x.a1, I x.b0, I x.b1] 45)).drew)
      have hSx := Lib.hid ((sl_hk wr 45 x wr.heap.size rfl).drew)
      go_region_law ((refine step_append_sl _ (by rfl) (.tmp 11) (.tmp 33) _ (by rfl) w 45 i0 _ 4 32 Tryd.underlying25 hi0 hi1 hi2 hi3 rfl (by decide) B k cap _ (by rfl) hOx.out _ 1 1 (hks [x]) (by rfl) hSx.out (one_hks _) hmm hnn ?_; intro A1 c1 w1 hO1 hg1 hat1))
      all_goals
        have HO1 := Lib.hid hO1
        clear hO1 hg1 hat1 hOx hSx
        go_wp2
        go_roundw
        case rel => exact ⟨k + 1, A1, c1, by omega, by go_num, rfl, by rw [List.take_add_one, Hx.out, Option.toList_some, hks_append]; exact HO1.out⟩
        case measure => simp [intOf]; omega
    · obtain rfl : k = m := by omega
      clear hO
      go_wp2
      go_ret
      exact ⟨B, cap, rfl, by have h := HO.out; rwa [List.take_of_length_le (by rw [hlm.out]; exact Nat.le_refl _)] at h⟩
end Go.Proofs.YtpnogcblafmaiaaDoor
