/-
  Words for functions that copy a list of records onto a new one, in a statement that draws its order. Plain lemmas.
-/
import Derived.Test.YtkginbfpokbhcaaGreatDoorKitW
namespace Go.Proofs.YtkginbfpokbhcaaGreatDoor
open Go.RowKit

def CJ (W0 W1 W2 : World) : Nat → World → Prop
  | 0, w => w = W0
  | 1, w => w = W1
  | _, w => w = W2
theorem CJ.step {W0 W1 W2 : World} : ∀ (k : Nat) (w w' : World), CJ W0 W1 W2 k w → w' = w → CJ W0 W1 W2 k w' := by
  rintro k w w' h rfl
  exact h
theorem CJ.bel {B : Nat} {w0 W0 W1 W2 : World} (h0 : Below B w0 W0) (h1 : Below B w0 W1) (h2 : Below B w0 W2) : ∀ (k : Nat) (w : World), CJ W0 W1 W2 k w → Below B w0 w
  | 0, _, h => by cases h; exact h0
  | 1, _, h => by cases h; exact h1
  | (_ + 2), _, h => by cases h; exact h2
def dstAllC2 (ops : Array Oper) (n : Nat) : Bool := ops.all (fun o => match o.dst with | some d => decide (d < n) | none => true)
theorem dst_ltC2 {ops : Array Oper} {n : Nat} (h : dstAllC2 ops n = true) (i : Nat) (o : Oper) (d : Nat) (ho : ops[i]? = some o) (hd : o.dst = some d) : d < n := by
  have h1 := Array.all_eq_true_iff_forall_mem.1 h o (Array.mem_of_getElem? ho)
  rw [hd] at h1
  simpa using h1
end Go.Proofs.YtkginbfpokbhcaaGreatDoor
