/-
  dolmenref16.SameChanges, dolmenref13.Same: whether two lists are the same. Condition: both can be read.
-/
import Derived.Test.YtifannandfkacaaGreatDoorTKitX
import Derived.BigQuiet
import Derived.Test.YtifannandfkacaaGreatDoorTKitW
namespace Go.Proofs.YtifannandfkacaaGreatDoor
open Go.RowKit
def rfl13Eq (x y : Fil) : Bool := decide (x.1 = y.1 ∧ x.2 = y.2)
theorem rfl13Eq_iff {x y : Fil} : rfl13Eq x y = true ↔ x = y := by
 unfold rfl13Eq
 rw [decide_eq_true_eq]
 constructor
 ·intro h
  simp only [Prod.ext_iff]
  simp_all
 ·rintro rfl
  simp
theorem rfl13_neq (w : World) (x y : Fil) : (binOp .neq 53 (.agg #[S (x.1), S (x.2)]) (.agg #[S (y.1), S (y.2)])).run Tryz.prog w = .ok (.bool (!rfl13Eq x y)) w := by
 unfold rfl13Eq
 rw [run_neq_struct, run_equalIn_struct w 9999 53 _ _ (by kernel_rfl) (by kernel_rfl)]
 simp only [Program.fieldsOf, Tryz.underlying53]
 by_cases h0 : x.1 = y.1 <;> by_cases h1 : x.2 = y.2 <;> simp [go_sem, Op.eqFields, h0, h1]
theorem rfl13_guard (w : World) (op : BinOp) (a b : Operand) (x y : Fil) : (eqGuard op 53 a b (.agg #[S (x.1), S (x.2)]) (.agg #[S (y.1), S (y.2)])).run Tryz.prog w = .ok () w := run_eqGuard_agg w op 53 a b _ _ (by kernel_rfl)
set_option maxRecDepth 100000 in
set_option maxHeartbeats 4000000 in
theorem sameFiles_any (w : World) (A B : Option Addr) (n m c d : Nat) (xs ys : List Fil) (hA : Sl w 2 A n (fls xs)) (hB : Sl w 2 B m (fls ys)) (hn : n ≤ 1000000000) :
  Calls Tryz.prog 23 #[.slice A n c, .slice B m d] w fun e w' => e = .returned (.bool (decide (xs = ys))) ∧ ∃ j, w' = w.drewN j := by
 have hlx := fls_count hA
 have hly := fls_count hB
 by_cases hne : n = m
 ·subst hne
  have HA := Lib.hid hA
  have HB := Lib.hid hB
  have kE := rfl13_neq
  have kG := rfl13_guard
  have Hlx := Lib.hid hlx
  have Hly := Lib.hid hly
  clear hA hB hlx hly
  go_enter Tryz.func23, Tryz.ntmps23
  go_wp2
  go_loopw [5] (fun i wr => ∃ (k j : Nat), i = .int .i64 k ∧ Hid (k ≤ n) ∧ Hid (xs.take k = ys.take k) ∧ wr = w.drewN j) (fun i _ => n - (intOf i).toNat)
  case atStart => exact ⟨0, 0, rfl, Lib.hid (Nat.zero_le _), Lib.hid (by simp), rfl⟩
  case round =>
   obtain ⟨k, j, rfl, hk, ht, rfl⟩ := hrel
   by_cases hlt : k < n
   ·obtain ⟨b, off, x, rfl, _, hx, x0, x1⟩ := HA.out.fil hlt
    obtain ⟨b', off', y, rfl, _, hy, y0, y1⟩ := HB.out.fil hlt
    cases hq : rfl13Eq x y with
    | true =>
     have Ht : Hid (xs.take (k + 1) = ys.take (k + 1)) := Lib.hid (by rw [List.take_add_one, List.take_add_one, hx, hy, ht.out, rfl13Eq_iff.1 hq])
     clear hx hy
     go_wp2
     go_quiet (fail)
     go_wp2
     go_roundw
     case rel => exact ⟨k + 1, _, by go_num, Lib.hid hlt, Ht, rfl⟩
     case measure => simp [intOf]; omega
    | false =>
     have Hq : Hid (xs ≠ ys) := Lib.hid (fun e => by rw [e] at hx; rw [hy] at hx; cases hx; rw [rfl13Eq_iff.2 rfl] at hq; cases hq)
     clear hx hy
     go_wp2
     go_quiet (fail)
     go_wp2
     go_ret
     exact ⟨ret_bool (decide_eq_false Hq.out).symm, _, World.drewN_drewN _ _ _⟩
   ·obtain rfl : k = n := by have := hk.out; omega
    have Hq : Hid (xs = ys) := Lib.hid (by have h := ht.out; rwa [List.take_of_length_le (by rw [Hlx.out]; exact Nat.le_refl _), List.take_of_length_le (by rw [Hly.out]; exact Nat.le_refl _)] at h)
    go_wp2
    go_ret
    exact ⟨ret_bool (decide_eq_true Hq.out).symm, _, rfl⟩
 ·have hd : decide (xs = ys) = false := decide_eq_false (fun e => hne (by rw [← hlx, ← hly, e]))
  have h5 : ((n : Int) != (m : Int)) = true := by simp; omega
  rw [hd]
  clear hA hB hlx hly hd
  go_enter Tryz.func23, Tryz.ntmps23
  go_wp2
  go_ret
  exact ⟨rfl, 0, rfl⟩
end Go.Proofs.YtifannandfkacaaGreatDoor
