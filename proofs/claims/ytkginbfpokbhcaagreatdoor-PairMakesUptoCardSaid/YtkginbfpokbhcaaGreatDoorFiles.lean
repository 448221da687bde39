/-
  Words for lists of files (a path, an id: two texts), in memory. Plain lemmas.
-/
import Derived.Test.YtkginbfpokbhcaaGreatDoorKitW
namespace Go.Proofs.YtkginbfpokbhcaaGreatDoor
open Go.RowKit

abbrev Fil := List UInt8 × List UInt8
def flC (f : Fil) : List Value := [S f.1, S f.2]
def fls (l : List Fil) : List Value := l.flatMap flC
theorem flC_len (l : List Fil) : ∀ x ∈ l, (flC x).length = 2 := fun _ _ => rfl
theorem fls_len (l : List Fil) : (fls l).length = l.length * 2 := flat_len (flC_len l)
theorem fls_append (l k : List Fil) : fls (l ++ k) = fls l ++ fls k := by simp [fls]
theorem one_fls (l : List Fil) : ∀ u ∈ fls l, u.oneCell' = true := by
  intro u hu
  obtain ⟨c, _, hu⟩ := List.mem_flatMap.1 hu
  simp [flC] at hu
  rcases hu with rfl | rfl <;> rfl
theorem fls_at {l : List Fil} {k j : Nat} {c : Fil} (h : l[k]? = some c) (hj : j < 2) : (fls l)[k * 2 + j]? = (flC c)[j]? := flat_at (flC_len l) h hj
theorem fls_count {w : World} {A : Option Addr} {m : Nat} {l : List Fil} (h : Sl w 2 A m (fls l)) : l.length = m := by have := h.1; rw [fls_len] at this; omega
theorem Sl.fil {w : World} {A : Option Addr} {m k : Nat} {l : List Fil} (h : Sl w 2 A m (fls l)) (hk : k < m) : ∃ b off c, A = some ⟨b, off, none⟩ ∧ b < w.heap.size ∧ l[k]? = some c ∧
    w.cell? ⟨b, off + k * 2, none⟩ = some (S c.1) ∧ w.cell? ⟨b, off + k * 2 + 1, none⟩ = some (S c.2) := by
  obtain ⟨b, off, rfl, hb, hc⟩ := h.2 (by omega)
  have hl := fls_count h
  obtain ⟨x, hx⟩ : ∃ x, l[k]? = some x := ⟨l[k]'(by omega), List.getElem?_eq_getElem _⟩
  refine ⟨b, off, x, rfl, hb, hx, ?_, ?_⟩
  · have := (hc (k * 2 + 0) (by omega)).trans (fls_at hx (by omega : 0 < 2)); simpa [flC] using this
  · have := (hc (k * 2 + 1) (by omega)).trans (fls_at hx (by omega : 1 < 2)); simpa [flC, Nat.add_assoc] using this
theorem sl_fil (w : World) (t : TypeId) (x : Fil) : Sl (w.alloc (.cells #[S x.1, S x.2] t)) 2 (some ⟨w.heap.size, 0, none⟩) 1 (fls [x]) := by
  refine ⟨by simp [fls, flC], fun _ => ⟨_, _, rfl, by simp, fun k hk => ?_⟩⟩
  rw [Nat.zero_add]
  simp [fls, flC]
theorem Tryz.infoFil : (Tryz.prog.info? 80).map (fun i => (i.zero, i.size, i.bytes)) = some (some (.agg #[.string ⟨#[]⟩, .string ⟨#[]⟩]), 2, 32) := by kernel_rfl
theorem Tryz.infoRFil : (Tryz.prog.info? 33).map (fun i => (i.zero, i.size, i.bytes)) = some (some (.agg #[.string ⟨#[]⟩, .string ⟨#[]⟩]), 2, 32) := by kernel_rfl
end Go.Proofs.YtkginbfpokbhcaaGreatDoor
