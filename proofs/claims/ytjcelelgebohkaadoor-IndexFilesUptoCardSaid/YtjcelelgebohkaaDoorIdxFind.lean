/-
  tree.Find where no file has the path. Condition: the files read as a list, no more than 1000000.
-/
import Derived.Test.YtjcelelgebohkaaDoorIdxLists
namespace Go.Proofs.YtjcelelgebohkaaDoor
open Go.RowKit
open IdxLaw (Ent)

theorem find1_any (f : Fil) (path : List UInt8) (B : Nat) (w : World) (hB : w.cell? ⟨B, 0, none⟩ = some (S path)) :
    Calls Tryd.prog 22 #[.agg #[S f.1, S f.2], .pointer (some ⟨B, 0, none⟩)] w fun e w' => e = .returned (.bool (decide (f.1 = path))) ∧ Below w.heap.size w w' := by
  have hlt : B < w.heap.size := World.block_lt_of_cell? _ _ hB
  have hne : w.heap.size ≠ B := by omega
  go_enter Tryd.func22, Tryd.ntmps22
  go_wp2
  go_ret
  refine ⟨ret_bool ?_, ?_⟩
  · rw [Bool.eq_iff_iff]
    simp
  · exact balloc (Below.refl _ w) _
set_option maxHeartbeats 1000000 in
set_option maxRecDepth 100000 in
theorem indexFil_no (A : Option Addr) (n c : Nat) (l : List Fil) (path : List UInt8) (B : Nat) (w : World) (hA : Sl w 2 A n (fls l)) (hB : w.cell? ⟨B, 0, none⟩ = some (S path)) (hn : n ≤ 1000000) (hno : ∀ f ∈ l, f.1 ≠ path) :
    Calls Tryd.prog 21 #[.slice A n c, .func (.func 22) #[] #[.pointer (some ⟨B, 0, none⟩)]] w fun e w' => e = .returned (I (-1)) ∧ Below w.heap.size w w' := by
  have hlt : B < w.heap.size := World.block_lt_of_cell? _ _ hB
  have HN := Lib.hid hno
  have HA := Lib.hid hA
  have HBc := Lib.hid hB
  clear hA hB hno
  go_enter Tryd.func21, Tryd.ntmps21
  go_wp2
  go_loopw [5, 8] (fun s5 i wr => ∃ k : Nat, k ≤ n ∧ i = .int .i64 k ∧ Below w.heap.size w wr) (fun _ i _ => n - (intOf i).toNat)
  case atStart => exact ⟨0, Nat.zero_le _, rfl, Below.refl _ _⟩
  case round =>
    obtain ⟨k, hk, rfl, hb⟩ := hrel
    have Hb := Lib.hid hb
    by_cases hlt' : k < n
    · obtain ⟨b, off, x, rfl, _, hx, x0, x1⟩ := (HA.out.below hb).fil hlt'
      have hcw := (hb.cell (p := ⟨B, 0, none⟩) hlt).trans HBc.out
      have hd : decide (x.1 = path) = false := decide_eq_false (HN.out x (List.mem_of_getElem? hx))
      clear hx hb
      have C := find1_any x path B wr hcw
      rw [hd] at C
      have C1 := Lib.hid C
      clear hd hcw C
      go_wp2_with (go_at_call 22; refine C1.out.mono ?_; rintro e w2 ⟨rfl, b2⟩)
      go_roundw
      case rel => exact ⟨k + 1, by omega, by go_num, bstep Hb.out b2⟩
      case measure => simp [intOf]; omega
    · obtain rfl : k = n := by omega
      clear hb
      go_wp2
      go_ret
      exact ⟨rfl, Hb.out⟩
theorem treeFind_no (A : Option Addr) (n c : Nat) (l : List Fil) (path : List UInt8) (w : World) (hA : Sl w 2 A n (fls l)) (hn : n ≤ 1000000) (hno : ∀ f ∈ l, f.1 ≠ path) :
    Calls Tryd.prog 10 #[.slice A n c, S path] w fun e w' => e = .returned (S []) ∧ Below w.heap.size w w' := by
  have hB := (Blk.new w 9 #[S path]).cell 0
  have C := Lib.hid (indexFil_no A n c l path w.heap.size (w.alloc (.cells #[S path] 9)) (hA.alloc _) hB hn hno)
  clear hA hB hno
  go_enter Tryd.func10, Tryd.ntmps10
  go_wp2_with (go_at_call 21; refine C.out.mono ?_; rintro e w2 ⟨rfl, b2⟩; have B2 := Lib.hid (bstep (balloc (Below.refl _ w) _) b2); clear b2)
  go_ret
  exact ⟨rfl, B2.out⟩
end Go.Proofs.YtjcelelgebohkaaDoor
