/-
  The library's variable MaxLen holds an int; strings.Contains, strings.Trim, strings.IndexByte over lists of bytes. Conditions: texts are shorter than 4294967281 bytes.
-/
import Derived.Test.YtkginbfpokbhcaaGreatDoorKitW
import Derived.Test.YtkginbfpokbhcaaGreatDoorShelf
import Derived.Outline
namespace Go.Proofs.YtkginbfpokbhcaaGreatDoor
open Go.RowKit

/-- the library's variable holds an int -/
def MaxL (w : World) : Prop := ∃ m : Int, w.cell? ⟨0, 0, none⟩ = some (I m)
theorem MaxL.lt {w : World} (h : MaxL w) : 0 < w.heap.size := by obtain ⟨m, hm⟩ := h; exact World.block_lt_of_cell? _ _ hm
theorem MaxL.step {w w' : World} (h : MaxL w) (hb : Below w.heap.size w w') : MaxL w' := by
  have hl := h.lt
  obtain ⟨m, hm⟩ := h
  exact ⟨m, (hb.cell (p := ⟨0, 0, none⟩) hl).trans hm⟩

theorem indexByte_any (s : List UInt8) (c : UInt8) (w : World) :
    Calls Tryz.prog 143 #[S s, U8 c] w fun e w' => e = .returned (I (Lib.indexByte s c)) ∧ w = w' := by
  refine (Tryz.strings_IndexByte ⟨s.toArray⟩ (c.toNat : Int) w).mono ?_
  rintro e w' ⟨rfl, rfl⟩
  exact ⟨by simp, rfl⟩
/-- '[]byte(s)' -/
theorem conv_bytes (w : World) (s : List UInt8) : ∃ (c : Nat) (o : Obj), (convert 9 34 (S s)).run Tryz.prog w = .ok (.slice (some ⟨w.heap.size, 0, none⟩) s.length c) (w.drew.alloc o) ∧
    ∀ (i : Nat) (x : UInt8), s[i]? = some x → (w.alloc o).cell? ⟨w.heap.size, i, none⟩ = some (U8 x) := by
  have h := run_bytes_of_string (P := Tryz.prog) w 9 34 5 ⟨s.toArray⟩ Tryz.underlying9 Tryz.underlying34 Tryz.underlying5
  rw [size_mk] at h
  refine ⟨_, _, h, fun i x hi => ?_⟩
  have hl := (List.getElem?_eq_some_iff.1 hi).1
  have hr : (w.drew.alloc (.cells (bytesRow ⟨s.toArray⟩ (grownCap w s.length 0 5)) 5 ((bytesRow ⟨s.toArray⟩ (grownCap w s.length 0 5)).size, (bytesRow ⟨s.toArray⟩ (grownCap w s.length 0 5)).size + 1))).heap[w.heap.size]? = some (.cells (bytesRow ⟨s.toArray⟩ (grownCap w s.length 0 5)) 5 ((bytesRow ⟨s.toArray⟩ (grownCap w s.length 0 5)).size, (bytesRow ⟨s.toArray⟩ (grownCap w s.length 0 5)).size + 1)) := heap_alloc_new w.drew _
  show (w.drew.alloc _).cell? _ = _
  rw [cell_of_row _ _ i _ _ _ hr, bytesRow, Array.getElem?_append_left (by simpa using hl)]
  simp [hi]
end Go.Proofs.YtkginbfpokbhcaaGreatDoor
