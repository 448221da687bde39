/-
  refs: values compared; Value.there, Value.right. Condition: the library's variable MaxLen holds an int.
-/
import Derived.Test.YtegehaokfcamfaaDoorRefsNamed
import Derived.Test.YtegehaokfcamfaaDoorKitR
namespace Go.Proofs.YtegehaokfcamfaaDoor
open Go.RowKit
open RefsLaw (named okc Val Chg Txn there rightV zv)

abbrev vV (v : Val) : Value := .agg #[S v.id, S v.name]
/-- are two values one? -/
def eqV (a b c d : List UInt8) : Bool := decide ((⟨a, b⟩ : Val) = ⟨c, d⟩)
theorem eqV_iff {a b c d : List UInt8} : eqV a b c d = true ↔ (⟨a, b⟩ : Val) = ⟨c, d⟩ := decide_eq_true_iff
theorem eqV_not {a b c d : List UInt8} : eqV a b c d = false ↔ ¬ (⟨a, b⟩ : Val) = ⟨c, d⟩ := decide_eq_false_iff_not
theorem eql_val (w : World) (a b c d : List UInt8) : (binOp .eql 35 (.agg #[S a, S b]) (.agg #[S c, S d])).run Tryd.prog w = .ok (.bool (eqV a b c d)) w := by
  rw [run_eql_struct, run_equalIn_struct w 9999 35 _ _ (by kernel_rfl) (by kernel_rfl)]
  simp only [Program.fieldsOf, Tryd.underlying35]
  by_cases h1 : a = c <;> by_cases h2 : b = d <;> simp [go_sem, Op.eqFields, eqV, h1, h2]
theorem neq_val (w : World) (a b c d : List UInt8) : (binOp .neq 35 (.agg #[S a, S b]) (.agg #[S c, S d])).run Tryd.prog w = .ok (.bool (!eqV a b c d)) w := by
  rw [run_neq_struct, run_equalIn_struct w 9999 35 _ _ (by kernel_rfl) (by kernel_rfl)]
  simp only [Program.fieldsOf, Tryd.underlying35]
  by_cases h1 : a = c <;> by_cases h2 : b = d <;> simp [go_sem, Op.eqFields, eqV, h1, h2]
theorem guard_val (w : World) (op : BinOp) (x y : Operand) (a b c d : List UInt8) : (eqGuard op 35 x y (.agg #[S a, S b]) (.agg #[S c, S d])).run Tryd.prog w = .ok () w := run_eqGuard_agg w op 35 x y _ _ (by kernel_rfl)

theorem there_iff (v : Val) : there v = true ↔ (v.id.length = 32 ∧ v.name = []) ∨ (v.id = [] ∧ named v.name = true) := by
  simp [there]

set_option maxHeartbeats 1000000 in
set_option maxRecDepth 100000 in
theorem there_any (v : Val) (w : World) (hM : MaxL w) :
    Calls Tryd.prog 28 #[vV v] w fun e w' => e = .returned (.bool (there v)) ∧ Below w.heap.size w w' := by
  obtain ⟨id, name⟩ := v
  by_cases h : id = []
  · subst h
    have ht : there ⟨[], name⟩ = named name := by simp [there]
    have Ht := Lib.hid ht
    clear ht
    have hM1 := hM.step (balloc (Below.refl _ w) (.cells #[S [], S name] 35))
    go_enter Tryd.func28, Tryd.ntmps28
    go_wp2_with (go_at_call 23; refine (named_any _ _ hM1).mono ?_; rintro e w1 ⟨rfl, hb⟩)
    go_ret
    exact ⟨ret_eq Ht.out, bstep (balloc (Below.refl _ w) _) hb⟩
  · have ht : there ⟨id, name⟩ = (decide (id.length = 32) && decide (name = [])) := by simp [there, h]
    have Ht := Lib.hid ht
    clear ht
    go_enter Tryd.func28, Tryd.ntmps28
    go_wp2
    all_goals
      go_ret
      refine ⟨ret_eq (Ht.out.trans ?_), balloc (Below.refl _ w) _⟩
      rw [Bool.eq_iff_iff]
      simp
      try (first | omega | exact ⟨by omega, by assumption⟩)
set_option maxHeartbeats 1000000 in
set_option maxRecDepth 100000 in
theorem rightV_any (v : Val) (w : World) (hM : MaxL w) :
    Calls Tryd.prog 48 #[vV v] w fun e w' => e = .returned (.bool (rightV v)) ∧ Below w.heap.size w w' := by
  obtain ⟨id, name⟩ := v
  have hM1 := hM.step (balloc (Below.refl _ w) (.cells #[S id, S name] 35))
  have kE := eql_val
  have kG := guard_val
  rcases hd : eqV id name [] [] with _ | _
  · have ht : rightV ⟨id, name⟩ = there ⟨id, name⟩ := by rw [rightV, zv, decide_eq_false (eqV_not.1 hd)]; rfl
    have Ht := Lib.hid ht
    clear ht
    go_enter Tryd.func48, Tryd.ntmps48
    go_wp2_with (go_at_call 28; refine (there_any ⟨id, name⟩ _ hM1).mono ?_; rintro e w1 ⟨rfl, hb⟩)
    go_ret
    exact ⟨ret_eq Ht.out, bstep (balloc (Below.refl _ w) _) hb⟩
  · have ht : rightV ⟨id, name⟩ = true := by rw [rightV, zv, decide_eq_true (eqV_iff.1 hd)]; rfl
    have Ht := Lib.hid ht
    clear ht
    go_enter Tryd.func48, Tryd.ntmps48
    go_wp2
    go_ret
    exact ⟨ret_eq Ht.out, balloc (Below.refl _ w) _⟩
end Go.Proofs.YtegehaokfcamfaaDoor
