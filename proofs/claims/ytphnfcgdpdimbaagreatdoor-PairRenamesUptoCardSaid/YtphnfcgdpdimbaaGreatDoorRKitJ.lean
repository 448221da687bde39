/-
  The document's index: add (an entry in its place), Set. Conditions: paths are shorter than 2147483648 bytes; no more than 1000000 entries.
-/
import Derived.BigQuiet
import Derived.Test.YtphnfcgdpdimbaaGreatDoorRKitIx
import Derived.Maps.Ext
import Derived.Test.YtphnfcgdpdimbaaGreatDoorRKitW
import Derived.Test.YtphnfcgdpdimbaaGreatDoorRKitX
namespace Go.Proofs.YtphnfcgdpdimbaaGreatDoor
open Go.RowKit
open PathLaw (under)
open IdxLaw (Ent Key ltE)
theorem Sl.top {w : World} {sz : Nat} {A : Option Addr} {n k : Nat} {xs : List Value} (h : Sl w sz A n xs) (hk : k ≤ n) : Sl w sz A k (xs.take (k * sz)) := by
 have hm : k * sz ≤ n * sz := Nat.mul_le_mul_right _ hk
 refine ⟨by rw [List.length_take, h.1]; omega, fun hn => ?_⟩
 obtain ⟨b, off, e, hb, hc⟩ := h.2 (by omega)
 exact ⟨b, off, e, hb, fun j hj => by rw [hc j (by omega), List.getElem?_take, if_pos hj]⟩
end Go.Proofs.YtphnfcgdpdimbaaGreatDoor
