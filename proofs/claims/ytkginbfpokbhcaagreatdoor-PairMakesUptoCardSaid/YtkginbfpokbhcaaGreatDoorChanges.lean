/-
  Words for lists of changes (a path, an old id, a new one: three texts), in memory. Plain lemmas.
-/
import Derived.Test.YtkginbfpokbhcaaGreatDoorKitW
namespace Go.Proofs.YtkginbfpokbhcaaGreatDoor
open Go.RowKit

abbrev Chg3 := List UInt8 × List UInt8 × List UInt8
def cgC (x : Chg3) : List Value := [S x.1, S x.2.1, S x.2.2]
def cgs (l : List Chg3) : List Value := l.flatMap cgC
theorem cgC_len (l : List Chg3) : ∀ x ∈ l, (cgC x).length = 3 := fun _ _ => rfl
theorem cgs_len (l : List Chg3) : (cgs l).length = l.length * 3 := flat_len (cgC_len l)
theorem cgs_append (l k : List Chg3) : cgs (l ++ k) = cgs l ++ cgs k := by simp [cgs]
theorem one_cgs (l : List Chg3) : ∀ u ∈ cgs l, u.oneCell' = true := by
  intro u hu
  obtain ⟨c, _, hu⟩ := List.mem_flatMap.1 hu
  simp [cgC] at hu
  rcases hu with rfl | rfl | rfl <;> rfl
theorem cgs_at {l : List Chg3} {k j : Nat} {c : Chg3} (h : l[k]? = some c) (hj : j < 3) : (cgs l)[k * 3 + j]? = (cgC c)[j]? := flat_at (cgC_len l) h hj
theorem cgs_count {w : World} {A : Option Addr} {m : Nat} {l : List Chg3} (h : Sl w 3 A m (cgs l)) : l.length = m := by have := h.1; rw [cgs_len] at this; omega
theorem Sl.cg {w : World} {A : Option Addr} {m k : Nat} {l : List Chg3} (h : Sl w 3 A m (cgs l)) (hk : k < m) : ∃ b off x, A = some ⟨b, off, none⟩ ∧ b < w.heap.size ∧ l[k]? = some x ∧
    w.cell? ⟨b, off + k * 3, none⟩ = some (S x.1) ∧
    w.cell? ⟨b, off + k * 3 + 1, none⟩ = some (S x.2.1) ∧
    w.cell? ⟨b, off + k * 3 + 2, none⟩ = some (S x.2.2) := by
  obtain ⟨b, off, rfl, hb, hc⟩ := h.2 (by omega)
  have hl := cgs_count h
  obtain ⟨x, hx⟩ : ∃ x, l[k]? = some x := ⟨l[k]'(by omega), List.getElem?_eq_getElem _⟩
  refine ⟨b, off, x, rfl, hb, hx, ?_, ?_, ?_⟩
  · have := (hc (k * 3 + 0) (by omega)).trans (cgs_at hx (by omega : 0 < 3)); simpa [cgC] using this
  · have := (hc (k * 3 + 1) (by omega)).trans (cgs_at hx (by omega : 1 < 3)); simpa [cgC, Nat.add_assoc] using this
  · have := (hc (k * 3 + 2) (by omega)).trans (cgs_at hx (by omega : 2 < 3)); simpa [cgC, Nat.add_assoc] using this
theorem sl_cg (w : World) (t : TypeId) (x : Chg3) : Sl (w.alloc (.cells #[S x.1, S x.2.1, S x.2.2] t)) 3 (some ⟨w.heap.size, 0, none⟩) 1 (cgs [x]) := by
  refine ⟨by simp [cgs, cgC], fun _ => ⟨_, _, rfl, by simp, fun k hk => ?_⟩⟩
  rw [Nat.zero_add]
  simp [cgs, cgC]
theorem Tryz.infoChg : (Tryz.prog.info? 73).map (fun i => (i.zero, i.size, i.bytes)) = some (some (.agg #[.string ⟨#[]⟩, .string ⟨#[]⟩, .string ⟨#[]⟩]), 3, 48) := by kernel_rfl
theorem Tryz.infoRChg : (Tryz.prog.info? 135).map (fun i => (i.zero, i.size, i.bytes)) = some (some (.agg #[.string ⟨#[]⟩, .string ⟨#[]⟩, .string ⟨#[]⟩]), 3, 48) := by kernel_rfl
end Go.Proofs.YtkginbfpokbhcaaGreatDoor
