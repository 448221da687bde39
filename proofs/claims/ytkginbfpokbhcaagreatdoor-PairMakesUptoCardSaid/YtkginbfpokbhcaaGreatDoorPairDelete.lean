/-
  slices.Delete at changes: the one change of a row. Condition: the row's cells lie in memory and may be written.
-/
import Derived.Test.YtkginbfpokbhcaaGreatDoorChanges
import Derived.Test.YtkginbfpokbhcaaGreatDoorKitW
import Derived.Deep.RegionLaw
import Derived.Laws.IdiomCopy
import Derived.Lib.SliceRun
import Derived.Deep.Upon
namespace Go.Proofs.YtkginbfpokbhcaaGreatDoor
open Go.RowKit

theorem Tryz.sizeChg (w : World) : (sizeOf 73).run Tryz.prog w = .ok 3 w := by kernel_rfl
theorem run_clear_cg (w : World) (ty : TypeId) (g c : Nat) (hc : ∀ j, j < 3 → (w.cell? ⟨g, 0 + j, none⟩).isSome = true) (hf : ∀ j, j < 3 → w.frozen? ⟨g, 0 + j, none⟩ = false) :
    (Builtin.clear_ #[63] ty #[.slice (some ⟨g, 0, none⟩) 1 c]).run Tryz.prog w = .ok (.tuple #[]) (w.setCells g 0 [S [], S [], S []]) := by
  have hzc : (Builtin.zeroCells (Value.agg #[S [], S [], S []]).cells 1).toList = [S [], S [], S []] := by kernel_rfl
  have hst := run_storeCells_cells (P := Tryz.prog) g 0 [S [], S [], S []] 0 w (by simpa using hc) (by simpa using hf) (by intro v hv; simp at hv; rcases hv with rfl | rfl | rfl <;> rfl)
  simp only [Nat.add_zero] at hst
  simp [Builtin.clear_, run_underlying Tryz.underlying63, hzc, hst]
theorem fr_setCells (w : World) (g o : Nat) (vs : List Value) : Fr (fun k => k = g) w (w.setCells g o vs) := by
  induction vs generalizing o w with
  | nil => exact Fr.refl _ _
  | cons v r ih => exact ((Fr.refl (fun k => k = g) w).setCell (p := ⟨g, o, none⟩) rfl v).trans (ih _ _)
set_option maxHeartbeats 1000000 in
set_option maxRecDepth 100000 in
theorem delete1_any (g c : Nat) (w : World) (h1 : 1 ≤ c) (hm : c ≤ 9223372036854775807) (hc : ∀ j, j < 3 → (w.cell? ⟨g, 0 + j, none⟩).isSome = true) (hf : ∀ j, j < 3 → w.frozen? ⟨g, 0 + j, none⟩ = false) :
    Calls Tryz.prog 185 #[.slice (some ⟨g, 0, none⟩) 1 c, I 0, I 1] w fun e w' => e = .returned (.slice (some ⟨g, 0, none⟩) 0 c) ∧ Fr (fun k => k = g) w w' := by
  obtain ⟨i0, hi0, hz0, hz1, hz2⟩ := info_parts Tryz.infoChg
  obtain ⟨ad, had⟩ : ∃ ad : Addr, (if c = 1 then some (⟨g, 0, none⟩ : Addr) else some ⟨g, 3, none⟩) = some ad := by split <;> exact ⟨_, rfl⟩
  have Had := Lib.hid had
  have hc0 : ¬ c = 0 := by omega
  clear had
  have hcl : ∀ ty, (Builtin.clear_ #[63] ty #[.slice (some ⟨g, 0, none⟩) 1 c]).run Tryz.prog (w.drew.setCells g 0 []) = .ok (.tuple #[]) (w.drew.setCells g 0 [S [], S [], S []]) := fun ty => run_clear_cg w.drew ty g c hc hf
  have zC := Tryz.sizeChg
  have HC := Lib.hid hc
  clear hc hf
  go_enter Tryz.func185, Tryz.ntmps185
  go_wp2
  go_region_law (refine step_append_room rfl (.tmp 22) (.tmp 25) _ rfl 73 i0 3 Tryz.underlying63 hi0 hz1 g 0 0 c (by simp [Act.eval, Act.put]) ad 0 (c - 1) [] (by simp [Act.eval, Act.put]; exact Had.out) rfl (by simp) (by simp) (by omega) (by simp) ?_)
  go_wp2
  all_goals
    go_ret
    exact ⟨rfl, (Fr.refl (fun k => k = g) w).drew.trans (fr_setCells w.drew g 0 _)⟩
end Go.Proofs.YtkginbfpokbhcaaGreatDoor
