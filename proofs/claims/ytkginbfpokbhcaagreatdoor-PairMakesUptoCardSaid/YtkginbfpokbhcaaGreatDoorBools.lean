/-
  A bool is one of two; a part of a text. Plain lemmas.
-/
import Derived.Test.YtkginbfpokbhcaaGreatDoorKitW
namespace Go.Proofs.YtkginbfpokbhcaaGreatDoor
open Go.RowKit

theorem fls_tru (b : Bool) : b = false ∨ b = true := by cases b <;> simp
theorem extract_mk (s : List UInt8) (f k : Nat) : (⟨s.toArray⟩ : ByteArray).extract f k = ⟨((s.drop f).take (k - f)).toArray⟩ := by
  apply ByteArray.ext
  simp [List.extract]
end Go.Proofs.YtkginbfpokbhcaaGreatDoor
