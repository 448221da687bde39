/-
  Words for insertion sorts: the first part of a slice, a list cut in cells. Plain lemmas.
-/
import Derived.Test.YtkginbfpokbhcaaGreatDoorFiles
import Derived.Test.YtkginbfpokbhcaaGreatDoorInsLaw
import Derived.Test.YtkginbfpokbhcaaGreatDoorKitW
import Derived.BigQuiet
import Derived.Sort.Walk0
namespace Go.Proofs.YtkginbfpokbhcaaGreatDoor
open Go.RowKit

theorem Sl.top9 {w : World} {sz : Nat} {A : Option Addr} {n k : Nat} {xs : List Value} (h : Sl w sz A n xs) (hk : k ≤ n) : Sl w sz A k (xs.take (k * sz)) := by
  have hm : k * sz ≤ n * sz := Nat.mul_le_mul_right _ hk
  refine ⟨by rw [List.length_take, h.1]; omega, fun hn => ?_⟩
  obtain ⟨b, off, e, hb, hc⟩ := h.2 (by omega)
  exact ⟨b, off, e, hb, fun j hj => by rw [hc j (by omega), List.getElem?_take, if_pos hj]⟩
theorem flat_cut {α : Type} {f : α → List Value} {sz : Nat} (hf : ∀ x, (f x).length = sz) : ∀ (l : List α) (k : Nat), (l.flatMap f).drop (k * sz) = (l.drop k).flatMap f ∧ (l.flatMap f).take (k * sz) = (l.take k).flatMap f
  | l, 0 => by simp
  | [], k + 1 => by simp
  | x :: r, k + 1 => by
    obtain ⟨h1, h2⟩ := flat_cut hf r k
    have e : (k + 1) * sz = (f x).length + k * sz := by rw [hf, Nat.succ_mul]; omega
    simp only [List.flatMap_cons, List.drop_succ_cons, List.take_succ_cons]
    rw [e, List.drop_length_add_append, h1, List.take_length_add_append, h2]
    exact ⟨rfl, rfl⟩
theorem strs_append (l k : List (List UInt8)) : strs (l ++ k) = strs l ++ strs k := by simp [strs]
theorem strs_count {w : World} {A : Option Addr} {m : Nat} {l : List (List UInt8)} (h : Sl w 1 A m (strs l)) : l.length = m := by simpa [strs] using h.len
theorem strs_length (l : List (List UInt8)) : (strs l).length = l.length * 1 := by simp [strs]
theorem strs_cut {l : List (List UInt8)} (k : Nat) : (strs l).drop (k * 1) = strs (l.drop k) ∧ (strs l).take (k * 1) = strs (l.take k) := by
  rw [Nat.mul_one]
  exact ⟨List.map_drop.symm, List.map_take.symm⟩
theorem fls_cut {l : List Fil} (k : Nat) : (fls l).drop (k * 2) = fls (l.drop k) ∧ (fls l).take (k * 2) = fls (l.take k) := flat_cut (f := flC) (fun _ => rfl) l k
end Go.Proofs.YtkginbfpokbhcaaGreatDoor
