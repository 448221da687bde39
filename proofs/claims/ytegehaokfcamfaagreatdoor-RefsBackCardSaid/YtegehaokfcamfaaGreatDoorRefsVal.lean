/-
  refs: values compared; Value.there, Value.right. Condition: the library's variable MaxLen holds an int.
-/
import Derived.Test.YtegehaokfcamfaaGreatDoorRefsNamed
import Derived.Test.YtegehaokfcamfaaGreatDoorKitZ
namespace Go.Proofs.YtegehaokfcamfaaGreatDoor
open Go.RowKit
open RefsLaw (named okc Val Chg Txn there rightV zv)

abbrev vV (v : Val) : Value := .agg #[S v.id, S v.name]
/-- are two values one? -/
def eqV (a b c d : List UInt8) : Bool := decide ((⟨a, b⟩ : Val) = ⟨c, d⟩)
theorem eqV_iff {a b c d : List UInt8} : eqV a b c d = true ↔ (⟨a, b⟩ : Val) = ⟨c, d⟩ := decide_eq_true_iff
theorem eqV_not {a b c d : List UInt8} : eqV a b c d = false ↔ ¬ (⟨a, b⟩ : Val) = ⟨c, d⟩ := decide_eq_false_iff_not
theorem eql_val (w : World) (a b c d : List UInt8) : (binOp .eql 43 (.agg #[S a, S b]) (.agg #[S c, S d])).run Tryz.prog w = .ok (.bool (eqV a b c d)) w := by
  rw [run_eql_struct, run_equalIn_struct w 9999 43 _ _ (by kernel_rfl) (by kernel_rfl)]
  simp only [Program.fieldsOf, Tryz.underlying43]
  by_cases h1 : a = c <;> by_cases h2 : b = d <;> simp [go_sem, Op.eqFields, eqV, h1, h2]
theorem neq_val (w : World) (a b c d : List UInt8) : (binOp .neq 43 (.agg #[S a, S b]) (.agg #[S c, S d])).run Tryz.prog w = .ok (.bool (!eqV a b c d)) w := by
  rw [run_neq_struct, run_equalIn_struct w 9999 43 _ _ (by kernel_rfl) (by kernel_rfl)]
  simp only [Program.fieldsOf, Tryz.underlying43]
  by_cases h1 : a = c <;> by_cases h2 : b = d <;> simp [go_sem, Op.eqFields, eqV, h1, h2]
theorem guard_val (w : World) (op : BinOp) (x y : Operand) (a b c d : List UInt8) : (eqGuard op 43 x y (.agg #[S a, S b]) (.agg #[S c, S d])).run Tryz.prog w = .ok () w := run_eqGuard_agg w op 43 x y _ _ (by kernel_rfl)

theorem there_iff (v : Val) : there v = true ↔ (v.id.length = 32 ∧ v.name = []) ∨ (v.id = [] ∧ named v.name = true) := by
  simp [there]

set_option maxHeartbeats 1000000 in
set_option maxRecDepth 100000 in
theorem there_any (v : Val) (w : World) (hM : MaxL w) :
    Calls Tryz.prog 27 #[vV v] w fun e w' => e = .returned (.bool (there v)) ∧ Below w.heap.size w w' := by
  obtain ⟨id, name⟩ := v
  by_cases h : id = []
  · subst h
    have ht : there ⟨[], name⟩ = named name := by simp [there]
    have Ht := Lib.hid ht
    clear ht
    have hM1 := hM.step (balloc (Below.refl _ w) (.cells #[S [], S name] 43))
    go_enter Tryz.func27, Tryz.ntmps27
    go_wp2_with (go_at_call 30; refine (named_any _ _ hM1).mono ?_; rintro e w1 ⟨rfl, hb⟩)
    go_ret
    exact ⟨ret_eq Ht.out, bstep (balloc (Below.refl _ w) _) hb⟩
  · have ht : there ⟨id, name⟩ = (decide (id.length = 32) && decide (name = [])) := by simp [there, h]
    have Ht := Lib.hid ht
    clear ht
    go_enter Tryz.func27, Tryz.ntmps27
    go_wp2
    all_goals
      go_ret
      refine ⟨ret_eq (Ht.out.trans ?_), balloc (Below.refl _ w) _⟩
      rw [Bool.eq_iff_iff]
      simp
      try (first | omega | exact ⟨by omega, by assumption⟩)
set_option maxHeartbeats 1000000 in
set_option maxRecDepth 100000 in
theorem rightV_any (v : Val) (w : World) (hM : MaxL w) :
    Calls Tryz.prog 53 #[vV v] w fun e w' => e = .returned (.bool (rightV v)) ∧ Below w.heap.size w w' := by
  obtain ⟨id, name⟩ := v
  have hM1 := hM.step (balloc (Below.refl _ w) (.cells #[S id, S name] 43))
  have kE := eql_val
  have kG := guard_val
  rcases hd : eqV id name [] [] with _ | _
  · have ht : rightV ⟨id, name⟩ = there ⟨id, name⟩ := by rw [rightV, zv, decide_eq_false (eqV_not.1 hd)]; rfl
    have Ht := Lib.hid ht
    clear ht
    go_enter Tryz.func53, Tryz.ntmps53
    go_wp2_with (go_at_call 27; refine (there_any ⟨id, name⟩ _ hM1).mono ?_; rintro e w1 ⟨rfl, hb⟩)
    go_ret
    exact ⟨ret_eq Ht.out, bstep (balloc (Below.refl _ w) _) hb⟩
  · have ht : rightV ⟨id, name⟩ = true := by rw [rightV, zv, decide_eq_true (eqV_iff.1 hd)]; rfl
    have Ht := Lib.hid ht
    clear ht
    go_enter Tryz.func53, Tryz.ntmps53
    go_wp2
    go_ret
    exact ⟨ret_eq Ht.out, balloc (Below.refl _ w) _⟩
end Go.Proofs.YtegehaokfcamfaaGreatDoor
