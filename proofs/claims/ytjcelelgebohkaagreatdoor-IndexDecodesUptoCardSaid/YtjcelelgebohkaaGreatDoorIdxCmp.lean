/-
  cmp.Compare at strings and ints, cmp.Or at two ints; the order of entries. No condition.
-/
import Derived.Test.YtjcelelgebohkaaGreatDoorIdxSet
import Derived.StillTactics
import Derived.Shelf.SlSortCmp.NoneTotal
namespace Go.Proofs.YtjcelelgebohkaaGreatDoor
open Go.RowKit
open IdxLaw (Ent cmpS cmpI cmpE)

set_option maxRecDepth 100000 in
set_option maxHeartbeats 1000000 in
theorem cmpS_any (a b : List UInt8) (w : World) : Calls Tryz.prog 49 #[S a, S b] w fun e w' => e = .returned (I (cmpS a b)) ∧ w' = w := by
  have hways : (Op.bytesLess a b = true ∧ cmpS a b = -1) ∨ (Op.bytesLess a b = false ∧ (a == b) = false ∧ cmpS a b = 1) ∨ (Op.bytesLess a b = false ∧ (a == b) = true ∧ cmpS a b = 0) := by
    rw [Go.Proofs.bytesLess_eq]
    by_cases h1 : a < b
    · exact .inl ⟨by simpa using h1, by unfold cmpS; rw [if_pos h1]⟩
    · by_cases h2 : b < a
      · refine .inr (.inl ⟨by simpa using h1, ?_, by unfold cmpS; rw [if_neg h1, if_pos h2]⟩)
        rw [beq_eq_false_iff_ne]
        rintro rfl
        exact List.lt_irrefl _ h2
      · exact .inr (.inr ⟨by simpa using h1, by rw [beq_iff_eq]; exact List.le_antisymm (List.not_lt.1 h2) (List.not_lt.1 h1), by unfold cmpS; rw [if_neg h1, if_neg h2]⟩)
  rcases hways with ⟨h1, h3⟩ | ⟨h1, h2, h3⟩ | ⟨h1, h2, h3⟩
  all_goals
    rw [h3]
    clear h3
    go_enter Tryz.func49, Tryz.ntmps49
    go_wp2
    go_ret
    exact ⟨rfl, rfl⟩
theorem cmpI_any (a b : Int) (w : World) : Calls Tryz.prog 50 #[I a, I b] w fun e w' => e = .returned (I (cmpI a b)) ∧ w' = w := by
  have C := Tryz.cmp_Compare_int a b w
  have e : Lib.compareInt a b = cmpI a b := by unfold Lib.compareInt cmpI; rfl
  rw [e] at C
  exact C
theorem or_any (A : Option Addr) (x y : Int) (c : Nat) (w : World) (hA : Sl w 1 A 2 [I x, I y]) : Calls Tryz.prog 48 #[.slice A 2 c] w fun e w' => e = .returned (I (if x = 0 then y else x)) ∧ w' = w := by
  obtain ⟨b, off, rfl, hb, hc⟩ := hA.2 (by omega)
  have c0 : w.cell? ⟨b, off, none⟩ = some (I x) := hc 0 (by omega)
  have c1 : w.cell? ⟨b, off + 1, none⟩ = some (I y) := hc 1 (by omega)
  clear hc hA
  by_cases h : x = 0
  · rw [if_pos h]
    subst h
    by_cases hy : y = 0
    all_goals
      first | (subst hy; skip) | skip
      go_enter Tryz.func48, Tryz.ntmps48
      go_wp2
      refine wp_loop_rounds 3 ?_
      rw [rounds_succ]
      go_wp2
      rw [rounds_succ]
      go_wp2
      try (rw [rounds_succ]; go_wp2)
      go_ret
      exact ⟨rfl, rfl⟩
  · rw [if_neg h]
    go_enter Tryz.func48, Tryz.ntmps48
    go_wp2
    refine wp_loop_rounds 1 ?_
    rw [rounds_succ]
    go_wp2
    go_ret
    exact ⟨rfl, rfl⟩

set_option maxRecDepth 100000 in
set_option maxHeartbeats 2000000 in
theorem entries1_any (x y : Ent) (w : World) : Calls Tryz.prog 47 #[entV x, entV y] w fun e w' => e = .returned (I (cmpE x y)) ∧ ∃ q os, w' = Go.Sort.grow (w.drewN q) os := by
  have r0 := ((Blk.new w 36 #[S x.path, I x.stage, S x.id, I x.size, I x.stamp]).alloc (.cells #[S y.path, I y.stage, S y.id, I y.size, I y.stamp] 36)).cell
  have r1 := (Blk.new (w.alloc (.cells #[S x.path, I x.stage, S x.id, I x.size, I x.stamp] 36)) 36 #[S y.path, I y.stage, S y.id, I y.size, I y.stamp]).cell
  simp only [World.size_alloc] at r1
  go_enter Tryz.func47, Tryz.ntmps47
  go_wp2
  have hW0 : ∃ os, (w.alloc (.cells #[S x.path, I x.stage, S x.id, I x.size, I x.stamp] 36)).alloc (.cells #[S y.path, I y.stage, S y.id, I y.size, I y.stamp] 36) = Go.Sort.grow w os := ⟨#[_, _], by rw [Go.Sort.alloc_eq_grow, Go.Sort.alloc_eq_grow, Go.Sort.grow_grow]; rfl⟩
  generalize hW : (w.alloc (.cells #[S x.path, I x.stage, S x.id, I x.size, I x.stamp] 36)).alloc (.cells #[S y.path, I y.stage, S y.id, I y.size, I y.stamp] 36) = W at *
  have HW0 := Lib.hid hW0
  clear hW hW0
  refine wp_region_still_tail 10 (by kernel_rfl) (by kernel_rfl) ?_
  simp only [List.take_succ_cons, List.take_zero, List.drop_succ_cons, List.drop_zero]
  repeat still_step
  still_call (cmpS_any x.path y.path _)
  repeat still_step
  still_call (cmpI_any x.stage y.stage _)
  repeat still_step
  refine wpStill_nil ?_
  have hS := Lib.hid (Blk.new W.drew 3 #[I (cmpS x.path y.path), I (cmpI x.stage y.stage)]).sl
  have C : Hid (Calls Tryz.prog 48 #[.slice (some ⟨W.heap.size, 0, none⟩) 2 2] (W.drew.alloc (.cells #[I (cmpS x.path y.path), I (cmpI x.stage y.stage)] 3)) fun e w' => e = .returned (I (cmpE x y)) ∧ w' = W.drew.alloc (.cells #[I (cmpS x.path y.path), I (cmpI x.stage y.stage)] 3)) :=
    Lib.hid (or_any (some ⟨W.heap.size, 0, none⟩) (cmpS x.path y.path) (cmpI x.stage y.stage) 2 (W.drew.alloc (.cells #[I (cmpS x.path y.path), I (cmpI x.stage y.stage)] 3)) hS.out)
  go_wp2_with (go_at_call 48; refine C.out.mono ?_; rintro e w' ⟨rfl, rfl⟩)
  go_ret
  obtain ⟨os, rfl⟩ := HW0.out
  exact ⟨rfl, 1, os ++ #[.cells #[I (cmpS x.path y.path), I (cmpI x.stage y.stage)] 3], by rw [Go.Sort.alloc_eq_grow, Go.Sort.grow_grow]; rfl⟩
end Go.Proofs.YtjcelelgebohkaaGreatDoor
