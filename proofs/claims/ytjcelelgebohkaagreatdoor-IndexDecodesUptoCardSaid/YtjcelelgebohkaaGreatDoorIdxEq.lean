/-
  Entries compared, the program's and the document's. No condition.
-/
import Derived.Test.YtjcelelgebohkaaGreatDoorIdxMem
namespace Go.Proofs.YtjcelelgebohkaaGreatDoor
open Go.RowKit
open IdxLaw (Ent)

def eqE (a b : Ent) : Bool := decide (a.path = b.path) && (decide (a.stage = b.stage) && (decide (a.id = b.id) && (decide (a.size = b.size) && decide (a.stamp = b.stamp))))
theorem eqE_iff {a b : Ent} : eqE a b = true ↔ a = b := by
  obtain ⟨a1, a2, a3, a4, a5⟩ := a
  obtain ⟨b1, b2, b3, b4, b5⟩ := b
  simp [eqE]
theorem eqE_eq (a b : Ent) : eqE a b = decide (a = b) := by rw [Bool.eq_iff_iff, eqE_iff, decide_eq_true_eq]
theorem eql_ent (w : World) (a b : Ent) : (binOp .eql 36 (entV a) (entV b)).run Tryz.prog w = .ok (.bool (eqE a b)) w := by
  rw [run_eql_struct, run_equalIn_struct w 9999 36 _ _ (by kernel_rfl) (by kernel_rfl)]
  simp only [Program.fieldsOf, Tryz.underlying36]
  by_cases h1 : a.path = b.path <;> by_cases h2 : a.stage = b.stage <;> by_cases h3 : a.id = b.id <;> by_cases h4 : a.size = b.size <;> by_cases h5 : a.stamp = b.stamp <;> simp [go_sem, Op.eqFields, eqE, h1, h2, h3, h4, h5]
theorem neq_ent (w : World) (a b : Ent) : (binOp .neq 36 (entV a) (entV b)).run Tryz.prog w = .ok (.bool (!eqE a b)) w := by
  rw [run_neq_struct, run_equalIn_struct w 9999 36 _ _ (by kernel_rfl) (by kernel_rfl)]
  simp only [Program.fieldsOf, Tryz.underlying36]
  by_cases h1 : a.path = b.path <;> by_cases h2 : a.stage = b.stage <;> by_cases h3 : a.id = b.id <;> by_cases h4 : a.size = b.size <;> by_cases h5 : a.stamp = b.stamp <;> simp [go_sem, Op.eqFields, eqE, h1, h2, h3, h4, h5]
theorem neq_rent (w : World) (a b : Ent) : (binOp .neq 32 (entV a) (entV b)).run Tryz.prog w = .ok (.bool (!eqE a b)) w := by
  rw [run_neq_struct, run_equalIn_struct w 9999 32 _ _ (by kernel_rfl) (by kernel_rfl)]
  simp only [Program.fieldsOf, Tryz.underlying32]
  by_cases h1 : a.path = b.path <;> by_cases h2 : a.stage = b.stage <;> by_cases h3 : a.id = b.id <;> by_cases h4 : a.size = b.size <;> by_cases h5 : a.stamp = b.stamp <;> simp [go_sem, Op.eqFields, eqE, h1, h2, h3, h4, h5]
theorem guard_ent (w : World) (op : BinOp) (x y : Operand) (a b : Ent) : (eqGuard op 36 x y (entV a) (entV b)).run Tryz.prog w = .ok () w := run_eqGuard_agg w op 36 x y _ _ (by kernel_rfl)
theorem guard_rent (w : World) (op : BinOp) (x y : Operand) (a b : Ent) : (eqGuard op 32 x y (entV a) (entV b)).run Tryz.prog w = .ok () w := run_eqGuard_agg w op 32 x y _ _ (by kernel_rfl)
end Go.Proofs.YtjcelelgebohkaaGreatDoor
