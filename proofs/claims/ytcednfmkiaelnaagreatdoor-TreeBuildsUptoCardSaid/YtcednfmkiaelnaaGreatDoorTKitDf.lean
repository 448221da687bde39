/-
  The document's Find of files. Condition: the lists can be read, no more than 500000 files each.
-/
import Derived.Test.YtcednfmkiaelnaaGreatDoorTKitX
import Derived.Test.YtcednfmkiaelnaaGreatDoorTKitW
import Derived.Lib.AppendZerosOnto
import Derived.Lib.SliceRun
import Derived.Outline
namespace Go.Proofs.YtcednfmkiaelnaaGreatDoor
open Go.RowKit
open DiffLaw (fid ofPaths)
set_option maxHeartbeats 1000000 in
set_option maxRecDepth 100000 in
theorem rfind13_any (A : Option Addr) (n c : Nat) (l : List Fil) (p : List UInt8) (w : World) (hA : Sl w 2 A n (fls l)) (hn : n ≤ 1000000000) :
  Calls Tryz.prog 16 #[.slice A n c, S p] w fun e w' => e = .returned (S (fid l p)) ∧ w' = w := by
 have HA := Lib.hid hA
 have Hl := Lib.hid (fls_count hA)
 clear hA
 go_enter Tryz.func16, Tryz.ntmps16
 go_wp2
 go_loop [5] (fun i => ∃ k : Nat, i = .int .i64 k ∧ k ≤ n ∧ Hid (fid l p = fid (l.drop k) p)) (fun i => n - (intOf i).toNat)
 case atStart => exact ⟨0, rfl, Nat.zero_le _, Lib.hid rfl⟩
 case round =>
  obtain ⟨k, rfl, hk, hf⟩ := hrel
  by_cases hlt : k < n
  ·obtain ⟨b, off, x, rfl, _, hx, x0, x1⟩ := HA.out.fil hlt
   obtain ⟨h1, h2⟩ := List.getElem?_eq_some_iff.1 hx
   have hd : l.drop k = x :: l.drop (k + 1) := by rw [List.drop_eq_getElem_cons h1, h2]
   have Hf : Hid (fid l p = if x.1 = p then x.2 else fid (l.drop (k + 1)) p) := Lib.hid (by rw [hf.out, hd]; rfl)
   clear hx h1 h2 hd hf
   cases hq : (x.1 == p) with
   | true =>
    have Hq := Lib.hid (beq_iff_eq.1 hq)
    go_wp2
    go_ret
    exact ⟨by rw [Hf.out, if_pos Hq.out]; rfl, rfl⟩
   | false =>
    have Hq := Lib.hid (beq_eq_false_iff_ne.1 hq)
    go_wp2
    go_round
    case rel => exact ⟨k + 1, by go_num, hlt, Lib.hid (by rw [Hf.out, if_neg Hq.out])⟩
    case measure => simp [intOf]; omega
  ·obtain rfl : k = n := by omega
   have Hf : Hid (fid l p = []) := Lib.hid (by rw [hf.out, List.drop_eq_nil_of_le (by rw [Hl.out]; exact Nat.le_refl _)]; rfl)
   clear hf
   go_wp2
   go_ret
   exact ⟨by rw [Hf.out]; rfl, rfl⟩
end Go.Proofs.YtcednfmkiaelnaaGreatDoor
