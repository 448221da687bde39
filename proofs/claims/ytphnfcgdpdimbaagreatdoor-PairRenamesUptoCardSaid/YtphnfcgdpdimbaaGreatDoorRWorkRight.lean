/-
  work.Name, worked, right. Conditions: the path is no longer than 2147483648 bytes; the disk lies in memory; MaxLen holds an int.
-/
import Derived.Test.YtphnfcgdpdimbaaGreatDoorRKitD
import Derived.Test.YtphnfcgdpdimbaaGreatDoorShelf
import Derived.Test.YtphnfcgdpdimbaaGreatDoorRKitX
import Derived.Test.YtphnfcgdpdimbaaGreatDoorRKitW
namespace Go.Proofs.YtphnfcgdpdimbaaGreatDoor
open Go.RowKit
open PathLaw (named)
def wname (p : List UInt8) : List UInt8 := [119, 47] ++ p
def workedB (p : List UInt8) : Bool := named p && !Lib.hasSuffix p [126]
theorem ba_app (a b : List UInt8) : (⟨a.toArray⟩ : ByteArray) ++ ⟨b.toArray⟩ = ⟨(a ++ b).toArray⟩ := by
 apply ByteArray.ext
 rw [ByteArray.data_append]
 simp
end Go.Proofs.YtphnfcgdpdimbaaGreatDoor
