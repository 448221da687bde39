/-
  refs.Book.Log's closure, slices.IndexFunc and ContainsFunc over changes. Conditions: the changes read as a list; the closure's variable holds a text.
-/
import Derived.Test.YtegehaokfcamfaaGreatDoorRefsTrim
namespace Go.Proofs.YtegehaokfcamfaaGreatDoor
open Go.RowKit
open RefsLaw (named okc Val Chg Txn there rightV zv rightT okChs goodC Refs Book Inv)

theorem log1_any (x : Chg) (ref : List UInt8) (B : Nat) (w : World) (hB : w.cell? ⟨B, 0, none⟩ = some (S ref)) :
    Calls Tryz.prog 43 #[chV x, .pointer (some ⟨B, 0, none⟩)] w fun e w' => e = .returned (.bool (decide (x.ref = ref))) ∧ Below w.heap.size w w' := by
  have hlt : B < w.heap.size := World.block_lt_of_cell? _ _ hB
  have hne : w.heap.size ≠ B := by omega
  go_enter Tryz.func43, Tryz.ntmps43
  go_wp2
  go_ret
  refine ⟨ret_eq ?_, ?_⟩
  · rw [Bool.eq_iff_iff]
    simp
  · exact balloc (Below.refl _ w) _

set_option maxHeartbeats 1000000 in
set_option maxRecDepth 100000 in
theorem indexFunc_any (A : Option Addr) (n c : Nat) (l : List Chg) (ref : List UInt8) (B : Nat) (w : World) (hA : Sl w 5 A n (chs l)) (hB : w.cell? ⟨B, 0, none⟩ = some (S ref)) (hn : n ≤ 1759218604390) :
    Calls Tryz.prog 66 #[.slice A n c, .func (.func 43) #[] #[.pointer (some ⟨B, 0, none⟩)]] w fun e w' => ∃ r : Int, e = .returned (I r) ∧ decide (0 ≤ r) = l.any (fun x => decide (x.ref = ref)) ∧ Below w.heap.size w w' := by
  have hlt : B < w.heap.size := World.block_lt_of_cell? _ _ hB
  have hlen := Lib.hid (chs_count hA)
  have HA := Lib.hid hA
  have HBc := Lib.hid hB
  clear hA hB
  go_enter Tryz.func66, Tryz.ntmps66
  go_wp2
  go_loopw [8] (fun i wr => ∃ k : Nat, k ≤ n ∧ i = .int .i64 k ∧ Below w.heap.size w wr ∧ Hid ((l.take k).any (fun x => decide (x.ref = ref)) = false)) (fun i _ => n - (intOf i).toNat)
  case atStart => exact ⟨0, Nat.zero_le _, rfl, Below.refl _ _, Lib.hid rfl⟩
  case round =>
    obtain ⟨k, hk, rfl, hb, ha⟩ := hrel
    have Hb := Lib.hid hb
    by_cases hlt' : k < n
    · obtain ⟨b, off, x, rfl, _, hx, x0, x1, x2, x3, x4⟩ := (HA.out.below hb).chg hlt'
      have Hx := Lib.hid hx
      have hcw := (hb.cell (p := ⟨B, 0, none⟩) hlt).trans HBc.out
      clear hx hb
      rcases hd : decide (x.ref = ref) with _ | _
      all_goals
        have C := Lib.hid (log1_any x ref B wr hcw)
        rw [hd] at C
        have Hd := Lib.hid hd
        clear hd hcw
        go_wp2_with (go_at_call 43; refine C.out.mono ?_; rintro e w2 ⟨rfl, b2⟩)
      · go_roundw
        case rel => exact ⟨k + 1, by omega, by go_num, bstep Hb.out b2, Lib.hid (by rw [List.take_add_one, Hx.out, List.any_append, ha.out]; simp; exact of_decide_eq_false Hd.out)⟩
        case measure => simp [intOf]; omega
      · go_ret
        refine ⟨k, rfl, ?_, bstep Hb.out b2⟩
        have h1 : l.any (fun x => decide (x.ref = ref)) = true := List.any_eq_true.2 ⟨x, List.mem_of_getElem? Hx.out, Hd.out⟩
        rw [h1]
        simp
    · obtain rfl : k = n := by omega
      rw [List.take_of_length_le (by rw [hlen.out]; exact Nat.le_refl _)] at ha
      clear hb
      go_wp2
      go_ret
      exact ⟨-1, rfl, by rw [ha.out]; rfl, Hb.out⟩
theorem containsFunc_any (A : Option Addr) (n c : Nat) (l : List Chg) (ref : List UInt8) (B : Nat) (w : World) (hA : Sl w 5 A n (chs l)) (hB : w.cell? ⟨B, 0, none⟩ = some (S ref)) (hn : n ≤ 1759218604390) :
    Calls Tryz.prog 42 #[.slice A n c, .func (.func 43) #[] #[.pointer (some ⟨B, 0, none⟩)]] w fun e w' => e = .returned (.bool (l.any (fun x => decide (x.ref = ref)))) ∧ Below w.heap.size w w' := by
  have C := Lib.hid (indexFunc_any A n c l ref B w hA hB hn)
  clear hA hB
  go_enter Tryz.func42, Tryz.ntmps42
  go_wp2_with (go_at_call 66; refine C.out.mono ?_; rintro e w2 ⟨r, rfl, hr, b2⟩)
  go_ret
  exact ⟨rfl, b2⟩
end Go.Proofs.YtegehaokfcamfaaGreatDoor
