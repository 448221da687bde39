/-
  tree.Check at whatever files: where it answers OK, their paths rise and are rightly named, their ids have 32 bytes. Conditions: the files can be read, no more than 1048576; no path is longer than 2147483648; MaxLen holds an int.
-/
import Derived.Test.YtphnfcgdpdimbaaGreatDoorRKitX
import Derived.Test.YtphnfcgdpdimbaaGreatDoorRKitW
import Derived.Laws.RangeString
import Derived.Laws.RangeAny
import Derived.Sort.Walk0
import Derived.BigQuiet
namespace Go.Proofs.YtphnfcgdpdimbaaGreatDoor
open Go.RowKit
open PathLaw (named under)
def dstAll9 (ops : Array Oper) (n : Nat) : Bool := ops.all (fun o => match o.dst with | some d => decide (d < n) | none => true)
theorem dst_lt9 {ops : Array Oper} {n : Nat} (h : dstAll9 ops n = true) (i : Nat) (o : Oper) (d : Nat) (ho : ops[i]? = some o) (hd : o.dst = some d) : d < n := by
 have h1 := Array.all_eq_true_iff_forall_mem.1 h o (Array.mem_of_getElem? ho)
 rw [hd] at h1
 simpa using h1
section
variable {P : Program} (w : World) {ops : Array Oper} {rest : List Oper} {o : Oper} {a : Act} {Q : Exit → Act → World → Prop} {k e : TypeId} {κ α : Type}
end
def known (l : List Fil) (k : Nat) (s : List UInt8) : Option Int := if s ∈ (l.take k).map (·.1) then some 1 else none
end Go.Proofs.YtphnfcgdpdimbaaGreatDoor
