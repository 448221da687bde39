/-
  Texts merged: IdxMem, IdxDrop. What each law says and asks stands at its head.
-/
import Derived.Test.YtphnfcgdpdimbaaGreatDoorRKitW
import Derived.DeepKeys4
import Derived.Shelf.AbstractIn
import Derived.RegionTactic
import Derived.StillTailTactics
import Derived.WalkSpells
import Derived.Deep.DeepFit
import Derived.Test.YtphnfcgdpdimbaaGreatDoorRKitX
namespace Go.Proofs.YtphnfcgdpdimbaaGreatDoor
open Go.RowKit
open IdxLaw (Ent Key)
def kd (l : List Ent) : List (Key × Ent) := l.map (fun e => (e.key, e))
end Go.Proofs.YtphnfcgdpdimbaaGreatDoor
namespace Go.Proofs.YtphnfcgdpdimbaaGreatDoor
open Go.RowKit
open IdxLaw (Ent Key Inv inWay)
open PathLaw (under)
theorem Fr.grow {E : Nat → Prop} {a w w' : World} {row : Option Nat} (h : Fr E a w) (hg : w.grownBy w' row) (hr : ∀ k, row = some k → a.heap.size ≤ k ∨ E k) : Fr E a w' :=
 ⟨hg.os.trans h.os, hg.tape.trans h.tape, hg.output.trans h.output, Nat.le_trans h.size hg.size, fun k hk he => (hg.block k (Nat.lt_of_lt_of_le hk h.size) (fun e => by
  rcases hr k e.symm with h1 | h1
  ·omega
  ·exact he h1)).trans (h.block k hk he)⟩
section
variable {w w' : World} {p m n : Nat} {l : List Ent}
end
theorem Fr.box {m : Nat} {w W : World} {B : Nat} {t : TypeId} {v : Value} (hf : Fr (fun j => j = m) (w.alloc (.cells #[v] t)) W) (hB : B = w.heap.size) (hm : m < w.heap.size) : W.cell? ⟨B, 0, none⟩ = some v := by
 subst hB
 have h := hf.cell (p := ⟨w.heap.size, 0, none⟩) (by simp) (by show ¬ w.heap.size = m; omega)
 rw [h]
 simp
end Go.Proofs.YtphnfcgdpdimbaaGreatDoor
