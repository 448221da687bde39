/-
  A number's last sixteen bits; a file of a row that is set anew. Plain lemmas.
-/
import Derived.Test.YtifannandfkacaaGreatDoorTKitX
import Derived.Test.YtifannandfkacaaGreatDoorTKitW
import Derived.IntWalk
namespace Go.Proofs.YtifannandfkacaaGreatDoor
open Go.RowKit
theorem and16 (z : Int) : 0 ≤ bits BinOp.and IntKind.i64 z 65535 ∧ bits BinOp.and IntKind.i64 z 65535 ≤ 65535 := by
 have e : bits BinOp.and IntKind.i64 z 65535 = IntKind.i64.wrap (((BitVec.ofInt 64 z &&& BitVec.ofInt 64 65535).toNat : Nat) : Int) := rfl
 have h1 : (BitVec.ofInt 64 z &&& BitVec.ofInt 64 65535).toNat ≤ 65535 := by
  rw [BitVec.toNat_and]
  exact Nat.le_trans Nat.and_le_right (by decide)
 rw [e, IntWalk.i64_in _ (by omega)]
 omega
theorem fls_setId {l : List Fil} {k : Nat} {x : Fil} (h : l[k]? = some x) (too : List UInt8) : (fls l).set (k * 2 + 1) (S too) = fls (l.set k (x.1, too)) := by
 obtain ⟨h1, h2⟩ := List.getElem?_eq_some_iff.1 h
 have e : l = l.take k ++ x :: l.drop (k + 1) := by rw [← h2, ← List.drop_eq_getElem_cons h1, List.take_append_drop]
 have hk : (l.take k).length = k := by rw [List.length_take]; omega
 have hk2 : (fls (l.take k)).length = k * 2 := by rw [fls_len, hk]
 generalize l.take k = a at e hk hk2
 generalize l.drop (k + 1) = b at e
 subst e
 rw [fls_append, List.set_append_right _ _ (by omega), hk2, Nat.add_sub_cancel_left, List.set_append_right _ _ (by omega), hk, Nat.sub_self, List.set_cons_zero, fls_append]
 rfl
theorem Ow.frozen {w0 w : World} {e : TypeId} {sz n c g : Nat} {xs : List Value} (h : Ow w0 w e sz (some ⟨g, 0, none⟩) n c xs) (i : Nat) : w.frozen? ⟨g, i, none⟩ = false := by
 rcases h.1.2 with ⟨hv, _⟩ | ⟨g', cap, cur, hv, _, hh, _⟩
 ·injection hv with h1
  cases h1
 ·injection hv with h1
  cases h1
  simp [World.frozen?, hh]
end Go.Proofs.YtifannandfkacaaGreatDoor
