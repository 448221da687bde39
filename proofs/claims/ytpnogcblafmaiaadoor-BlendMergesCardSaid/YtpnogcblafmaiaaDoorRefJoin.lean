/-
  What is known of each operation's value where the document's regions are put together. Plain lemmas.
-/
import Derived.Test.YtpnogcblafmaiaaDoorAnyGuards
import Derived.Test.YtpnogcblafmaiaaDoorBlendTake
import Derived.Test.YtpnogcblafmaiaaDoorRefSorted
namespace Go.Proofs.YtpnogcblafmaiaaDoor
open Go.RowKit

/-- the cells that a region reads -/
def Ten (w : World) (gx ga gb : Nat) (alo ahi blo bhi : Nat) (f0 f1 b0 b1 : Bool) : Prop :=
  w.cell? ⟨gx, 0, none⟩ = some (I alo) ∧ w.cell? ⟨gx, 1, none⟩ = some (I ahi) ∧ w.cell? ⟨gx, 2, none⟩ = some (.slice (some ⟨ga, 0, none⟩) 2 2) ∧ w.cell? ⟨gx + 1, 0, none⟩ = some (I blo) ∧ w.cell? ⟨gx + 1, 1, none⟩ = some (I bhi) ∧ w.cell? ⟨gx + 1, 2, none⟩ = some (.slice (some ⟨gb, 0, none⟩) 2 2) ∧
  w.cell? ⟨ga, 0, none⟩ = some (.bool f0) ∧ w.cell? ⟨ga, 1, none⟩ = some (.bool f1) ∧ w.cell? ⟨gb, 0, none⟩ = some (.bool b0) ∧ w.cell? ⟨gb, 1, none⟩ = some (.bool b1)
theorem Ten.keep {w w' : World} {gx ga gb : Nat} {alo ahi blo bhi : Nat} {f0 f1 b0 b1 : Bool} (h : Ten w gx ga gb alo ahi blo bhi f0 f1 b0 b1) (hz : gx + 1 < w.heap.size ∧ ga < w.heap.size ∧ gb < w.heap.size) (hb : Below w.heap.size w w') : Ten w' gx ga gb alo ahi blo bhi f0 f1 b0 b1 := by
  obtain ⟨h0, h1, h2, h3, h4, h5, h6, h7, h8, h9⟩ := h
  obtain ⟨z0, z1, z2⟩ := hz
  have k : ∀ (g i : Nat), g < w.heap.size → w'.cell? ⟨g, i, none⟩ = w.cell? ⟨g, i, none⟩ := fun g i hg => hb.cell (p := ⟨g, i, none⟩) hg
  refine ⟨?_, ?_, ?_, ?_, ?_, ?_, ?_, ?_, ?_, ?_⟩
  · rw [k gx 0 (by omega)]; exact h0
  · rw [k gx 1 (by omega)]; exact h1
  · rw [k gx 2 (by omega)]; exact h2
  · rw [k (gx + 1) 0 z0]; exact h3
  · rw [k (gx + 1) 1 z0]; exact h4
  · rw [k (gx + 1) 2 z0]; exact h5
  · rw [k ga 0 z1]; exact h6
  · rw [k ga 1 z1]; exact h7
  · rw [k gb 0 z2]; exact h8
  · rw [k gb 1 z2]; exact h9

/-- what is known of each operation's value -/
def joinPhi (w2 gx ga gb alo ahi blo bhi : Nat) (at0 at1 bt0 bt1 : Bool) : Nat → Value → World → Prop
  | 0, v, _ => v = .pointer (some ⟨gx, 0, none⟩)
  | 1, v, _ => v = I alo
  | 2, v, _ => v = .pointer (some ⟨gx + 1, 0, none⟩)
  | 3, v, _ => v = I blo
  | 4, v, _ => v = I (min alo blo : Nat)
  | 5, v, _ => v = .pointer (some ⟨gx, 1, none⟩)
  | 6, v, _ => v = I ahi
  | 7, v, _ => v = .pointer (some ⟨gx + 1, 1, none⟩)
  | 8, v, _ => v = I bhi
  | 9, v, _ => v = I (max ahi bhi : Nat)
  | 10, v, _ => v = .pointer (some ⟨gx, 2, none⟩)
  | 11, v, _ => v = .slice (some ⟨ga, 0, none⟩) 2 2
  | 12, v, _ => v = .pointer (some ⟨ga, 0, none⟩)
  | 13, v, _ => v = .bool at0
  | 14, v, _ => v = .bool at0
  | 15, v, _ => (at0 = false → v = .pointer (some ⟨gx + 1, 2, none⟩))
  | 16, v, _ => (at0 = false → v = .slice (some ⟨gb, 0, none⟩) 2 2)
  | 17, v, _ => (at0 = false → v = .pointer (some ⟨gb, 0, none⟩))
  | 18, v, _ => (at0 = false → v = .bool bt0)
  | 19, v, _ => v = .bool (at0 || bt0)
  | 20, v, _ => v = .pointer (some ⟨gx, 2, none⟩)
  | 21, v, _ => v = .slice (some ⟨ga, 0, none⟩) 2 2
  | 22, v, _ => v = .pointer (some ⟨ga, 1, none⟩)
  | 23, v, _ => v = .bool at1
  | 24, v, _ => v = .bool at1
  | 25, v, _ => (at1 = false → v = .pointer (some ⟨gx + 1, 2, none⟩))
  | 26, v, _ => (at1 = false → v = .slice (some ⟨gb, 0, none⟩) 2 2)
  | 27, v, _ => (at1 = false → v = .pointer (some ⟨gb, 1, none⟩))
  | 28, v, _ => (at1 = false → v = .bool bt1)
  | 29, v, _ => v = .bool (at1 || bt1)
  | 30, v, w => (∃ g, v = .slice (some ⟨g, 0, none⟩) 2 2 ∧ Blk w g 4 #[.bool (at0 || bt0), .bool (at1 || bt1)])
  | 31, v, w => (∃ g, v = .agg #[I (min alo blo : Nat), I (max ahi bhi : Nat), .slice (some ⟨g, 0, none⟩) 2 2] ∧ Blk w g 4 #[.bool (at0 || bt0), .bool (at1 || bt1)])
  | 32, v, w => (∃ g, v = .pointer (some ⟨g, 0, none⟩) ∧ w2 ≤ g ∧ Blk w g 81 #[I 0, I 0, .slice none 0 0])
  | _, _, _ => True
theorem joinPhi_mono {w2 gx ga gb alo ahi blo bhi : Nat} {at0 at1 bt0 bt1 : Bool} : ∀ (j : Nat) (v : Value) (w w' : World), joinPhi w2 gx ga gb alo ahi blo bhi at0 at1 bt0 bt1 j v w → Below w.heap.size w w' → joinPhi w2 gx ga gb alo ahi blo bhi at0 at1 bt0 bt1 j v w' := by
  intro j v w w' h hb
  match j, h with
  | 30, h =>
    obtain ⟨g, h1, h2⟩ := h
    exact ⟨g, h1, h2.step hb⟩
  | 31, h =>
    obtain ⟨g, h1, h2⟩ := h
    exact ⟨g, h1, h2.step hb⟩
  | 32, h =>
    obtain ⟨g, h1, h3, h2⟩ := h
    exact ⟨g, h1, h3, h2.step hb⟩
  | 0, h => exact h
  | 1, h => exact h
  | 2, h => exact h
  | 3, h => exact h
  | 4, h => exact h
  | 5, h => exact h
  | 6, h => exact h
  | 7, h => exact h
  | 8, h => exact h
  | 9, h => exact h
  | 10, h => exact h
  | 11, h => exact h
  | 12, h => exact h
  | 13, h => exact h
  | 14, h => exact h
  | 15, h => exact h
  | 16, h => exact h
  | 17, h => exact h
  | 18, h => exact h
  | 19, h => exact h
  | 20, h => exact h
  | 21, h => exact h
  | 22, h => exact h
  | 23, h => exact h
  | 24, h => exact h
  | 25, h => exact h
  | 26, h => exact h
  | 27, h => exact h
  | 28, h => exact h
  | 29, h => exact h
  | (n + 33), _ => trivial
end Go.Proofs.YtpnogcblafmaiaaDoor
