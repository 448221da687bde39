/-
  index: entries as cells and values; the map's coding. Plain lemmas.
-/
import Derived.Test.YtphnfcgdpdimbaaGreatDoorQKitW
import Derived.DeepKeys4
namespace Go.Proofs.YtphnfcgdpdimbaaGreatDoor
open Go.RowKit
open IdxLaw (Ent Key)
def kd (l : List Ent) : List (Key × Ent) := l.map (fun e => (e.key, e))
end Go.Proofs.YtphnfcgdpdimbaaGreatDoor
