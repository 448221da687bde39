/-
  The laws' id of a byte (dolmenlaw16, dolmenlaw20): 32 of it. No condition.
-/
import Derived.Test.YtkginbfpokbhcaaGreatDoorCode
import Derived.Test.YtkginbfpokbhcaaGreatDoorKitW
import Derived.BigQuiet
namespace Go.Proofs.YtkginbfpokbhcaaGreatDoor
open Go.RowKit

set_option maxRecDepth 100000 in
set_option maxHeartbeats 2000000 in
theorem id16_any (c : UInt8) (w : World) :
    Calls Tryz.prog 60 #[U8 c] w fun e w' => e = .returned (S (List.replicate 32 c)) ∧ Below w.heap.size w w' := by
  obtain ⟨i0, hi0, hi1, hi2, hi3⟩ := info_parts Tryz.infoU8
  go_enter Tryz.func60, Tryz.ntmps60
  go_wp2
  go_loopw [3, 4] (fun o i wr => ∃ (k co : Nat) (Ao : Option Addr), i = .int .i64 k ∧ o = .slice Ao k co ∧ Hid (k ≤ 32) ∧ Hid (Ow w wr 5 1 Ao k co (u8s (List.replicate k c)))) (fun _ i _ => 32 - (intOf i).toNat)
  case atStart => exact ⟨0, 0, none, rfl, rfl, Lib.hid (by omega), Lib.hid (Ow.nil_ (Below.refl _ _))⟩
  case round =>
    obtain ⟨k, co, Ao, rfl, rfl, hk, hO⟩ := hrel
    by_cases hlt : k < 32
    · have q1 : k + 1 ≤ maxLen := by simp only [maxLen]; omega
      have q2 : (k + 1) * 1 ≤ 140737488355328 := by omega
      have hd3 : decide ((k : Int) < 32) = true := by simp; omega
      have HS6 := Lib.hid (sl_one wr 5 (U8 c))
      have HO6 := Lib.hid (hO.out.alloc (.cells #[U8 c] 5))
      go_wp2_with (at_builtin; refine wpList_append_sl _ rfl (.tmp 9) (.tmp 11) _ rfl w 5 i0 _ 1 1 Tryz.underlying34 hi0 hi1 hi2 hi3 rfl (by decide) Ao k co _ rfl HO6.out _ 1 1 [U8 c] rfl HS6.out (one_one rfl) q1 q2 ?_; intro A5 c5 w5 hO5 hg5 hat5; have HO5 := Lib.hid hO5; clear hO5 hg5 hat5)
      go_roundw
      case rel => exact ⟨k + 1, c5, A5, by go_num, rfl, Lib.hid hlt, Lib.hid (by rw [List.replicate_succ']; have := HO5.out; simpa [u8s] using this)⟩
      case measure => simp [intOf]; omega
    · obtain rfl : k = 32 := by have := hk.out; omega
      have hcv := run_conv_str (P := Tryz.prog) wr 34 9 5 Ao 32 co (List.replicate 32 c) Tryz.underlying34 Tryz.underlying5 Tryz.underlying9 hO.out.sl
      generalize hr : List.replicate 32 c = r at *
      have Hr := Lib.hid hr
      clear hr
      go_wp2
      go_ret
      exact ⟨by rw [Hr.out]; rfl, hO.out.2⟩
set_option maxRecDepth 100000 in
set_option maxHeartbeats 2000000 in
theorem id20_any (c : UInt8) (w : World) :
    Calls Tryz.prog 35 #[U8 c] w fun e w' => e = .returned (S (List.replicate 32 c)) ∧ Below w.heap.size w w' := by
  obtain ⟨i0, hi0, hi1, hi2, hi3⟩ := info_parts Tryz.infoU8
  go_enter Tryz.func35, Tryz.ntmps35
  go_wp2
  go_loopw [3, 4] (fun o i wr => ∃ (k co : Nat) (Ao : Option Addr), i = .int .i64 k ∧ o = .slice Ao k co ∧ Hid (k ≤ 32) ∧ Hid (Ow w wr 5 1 Ao k co (u8s (List.replicate k c)))) (fun _ i _ => 32 - (intOf i).toNat)
  case atStart => exact ⟨0, 0, none, rfl, rfl, Lib.hid (by omega), Lib.hid (Ow.nil_ (Below.refl _ _))⟩
  case round =>
    obtain ⟨k, co, Ao, rfl, rfl, hk, hO⟩ := hrel
    by_cases hlt : k < 32
    · have q1 : k + 1 ≤ maxLen := by simp only [maxLen]; omega
      have q2 : (k + 1) * 1 ≤ 140737488355328 := by omega
      have hd3 : decide ((k : Int) < 32) = true := by simp; omega
      have HS6 := Lib.hid (sl_one wr 5 (U8 c))
      have HO6 := Lib.hid (hO.out.alloc (.cells #[U8 c] 5))
      go_wp2_with (at_builtin; refine wpList_append_sl _ rfl (.tmp 9) (.tmp 11) _ rfl w 5 i0 _ 1 1 Tryz.underlying34 hi0 hi1 hi2 hi3 rfl (by decide) Ao k co _ rfl HO6.out _ 1 1 [U8 c] rfl HS6.out (one_one rfl) q1 q2 ?_; intro A5 c5 w5 hO5 hg5 hat5; have HO5 := Lib.hid hO5; clear hO5 hg5 hat5)
      go_roundw
      case rel => exact ⟨k + 1, c5, A5, by go_num, rfl, Lib.hid hlt, Lib.hid (by rw [List.replicate_succ']; have := HO5.out; simpa [u8s] using this)⟩
      case measure => simp [intOf]; omega
    · obtain rfl : k = 32 := by have := hk.out; omega
      have hcv := run_conv_str (P := Tryz.prog) wr 34 9 5 Ao 32 co (List.replicate 32 c) Tryz.underlying34 Tryz.underlying5 Tryz.underlying9 hO.out.sl
      generalize hr : List.replicate 32 c = r at *
      have Hr := Lib.hid hr
      clear hr
      go_wp2
      go_ret
      exact ⟨by rw [Hr.out]; rfl, hO.out.2⟩
end Go.Proofs.YtkginbfpokbhcaaGreatDoor
