/-
  tree.Find: the id of a path's first file. Condition: the files read as a list, no more than 1000000000.
-/
import Derived.Test.YtcednfmkiaelnaaGreatDoorTKitD
import Derived.Test.YtcednfmkiaelnaaGreatDoorTKitX
import Derived.Shelf.Abstract
namespace Go.Proofs.YtcednfmkiaelnaaGreatDoor
open Go.RowKit Go.Shelf
open DiffLaw (fid)
set_option maxRecDepth 100000 in
theorem find1F_any (f : Fil) (path : List UInt8) (B : Nat) (w : World) (hB : w.cell? ⟨B, 0, none⟩ = some (S path)) :
  Calls Tryz.prog 38 #[.agg #[S f.1, S f.2], .pointer (some ⟨B, 0, none⟩)] w fun e w' => e = .returned (.bool (decide (f.1 = path))) ∧ Below w.heap.size w w' := by
 have hlt : B < w.heap.size := World.block_lt_of_cell? _ _ hB
 have hne : w.heap.size ≠ B := by omega
 go_enter Tryz.func38, Tryz.ntmps38
 go_wp2
 go_ret
 refine ⟨ret_bool ?_, balloc (Below.refl _ w) _⟩
 rw [Bool.eq_iff_iff]
 simp
theorem fid_idx {l : List Fil} {p : List UInt8} {r : Int} (h : IsIdx l (fun f => decide (f.1 = p)) r) : (r = -1 ∧ fid l p = []) ∨ ∃ k : Nat, r = k ∧ ∃ x, l[k]? = some x ∧ fid l p = x.2 := by
 rcases h with ⟨h1, h2⟩ | ⟨k, h1, x, hx, hf, hb⟩
 ·exact .inl ⟨h1, DiffLaw.fid_none (fun hm => by
   obtain ⟨f, hf, e⟩ := List.mem_map.1 hm
   exact of_decide_eq_false (h2 f hf) e)⟩
 ·refine .inr ⟨k, h1, x, hx, ?_⟩
  have e : l = l.take k ++ x :: l.drop (k + 1) := by
   obtain ⟨h3, h4⟩ := List.getElem?_eq_some_iff.1 hx
   rw [← h4, ← List.drop_eq_getElem_cons h3, List.take_append_drop]
  rw [e, DiffLaw.fid_append _ _ _ (fun hm => by
   obtain ⟨f, hf, e⟩ := List.mem_map.1 hm
   exact of_decide_eq_false (hb f hf) e)]
  unfold DiffLaw.fid
  rw [if_pos (of_decide_eq_true hf)]
set_option maxRecDepth 100000 in
set_option maxHeartbeats 1000000 in
theorem treeFind_any (A : Option Addr) (n c : Nat) (l : List Fil) (path : List UInt8) (w : World) (hA : Sl w 2 A n (fls l)) (hn : n ≤ 1000000000) :
  Calls Tryz.prog 15 #[.slice A n c, S path] w fun e w' => e = .returned (S (fid l path)) ∧ Below w.heap.size w w' := by
 have hB := (Blk.new w 9 #[S path]).cell 0
 have HA := Lib.hid hA
 have C := Lib.hid (indexFnF 38 #[.pointer (some ⟨w.heap.size, 0, none⟩)] (enters_of Tryz.func38 (by kernel_rfl) rfl) (fun f => decide (f.1 = path)) A n c l (w.alloc (.cells #[S path] 9)) (hA.alloc _) hn
  (fun x _ W hb => find1F_any x path w.heap.size W ((hb.cell (p := ⟨w.heap.size, 0, none⟩) (by simp)).trans hB)))
 have hl := fls_count hA
 have Hl := Lib.hid hl
 clear hA hB hl
 go_enter Tryz.func15, Tryz.ntmps15
 go_wp2_with fail
 refine C.out.mono ?_
 rintro e w2 ⟨r, rfl, hr, b2⟩
 have B2 := Lib.hid (bstep (balloc (Below.refl _ w) _) b2)
 rcases fid_idx hr with ⟨rfl, hf⟩ | ⟨k, rfl, x, hx, hf⟩ <;> clear hr b2
 ·have Hf := Lib.hid hf
  clear hf
  go_wp2
  go_ret
  exact ⟨by rw [Hf.out]; rfl, B2.out⟩
 ·have Hf := Lib.hid hf
  have hk : k < n := by rw [← Hl.out]; exact (List.getElem?_eq_some_iff.1 hx).1
  obtain ⟨b, off, y, rfl, _, hy, y0, y1⟩ := (HA.out.below B2.out).fil hk
  obtain rfl : y = x := Option.some.inj (hy.symm.trans hx)
  clear hf hx hy hn
  go_wp2
  go_ret
  exact ⟨by rw [Hf.out]; rfl, B2.out⟩
end Go.Proofs.YtcednfmkiaelnaaGreatDoor
