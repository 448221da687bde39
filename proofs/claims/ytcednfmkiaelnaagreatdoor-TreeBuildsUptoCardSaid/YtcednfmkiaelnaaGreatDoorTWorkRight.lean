/-
  work.Name, worked, right. Conditions: the path is no longer than 2147483648 bytes; the disk lies in memory; MaxLen holds an int.
-/
import Derived.Test.YtcednfmkiaelnaaGreatDoorTKitD
import Derived.Test.YtcednfmkiaelnaaGreatDoorTKitX
import Derived.Test.YtcednfmkiaelnaaGreatDoorShelf
namespace Go.Proofs.YtcednfmkiaelnaaGreatDoor
open Go.RowKit
open PathLaw (named)
theorem idx_none {s : List UInt8} {c : UInt8} : Lib.indexByte s c < 0 ↔ c ∉ s := by
 induction s with
 | nil => simp [Lib.indexByte]
 | cons x l ih =>
  have h1 := Lib.indexByte_ge l c
  unfold Lib.indexByte
  by_cases hx : x = c
  ·subst hx
   simp
  ·rw [if_neg (by simpa using hx), List.mem_cons, not_or]
   by_cases hl : Lib.indexByte l c = -1
   ·rw [if_pos (by simpa using hl)]
    exact ⟨fun _ => ⟨fun e => hx e.symm, ih.1 (by omega)⟩, fun _ => by omega⟩
   ·rw [if_neg (by simpa using hl)]
    exact ⟨fun h => by omega, fun h => absurd (ih.2 h.2) (by omega)⟩
theorem ba_app (a b : List UInt8) : (⟨a.toArray⟩ : ByteArray) ++ ⟨b.toArray⟩ = ⟨(a ++ b).toArray⟩ := by
 apply ByteArray.ext
 rw [ByteArray.data_append]
 simp
end Go.Proofs.YtcednfmkiaelnaaGreatDoor
