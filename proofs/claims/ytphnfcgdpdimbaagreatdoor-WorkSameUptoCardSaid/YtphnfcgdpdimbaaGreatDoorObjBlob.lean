/-
  object: of, made, right, lay, same, Check, Encode, Id at a blob. Conditions: the content can be read.
-/
import Derived.Test.YtphnfcgdpdimbaaGreatDoorSumEnd
import Derived.Test.YtphnfcgdpdimbaaGreatDoorBytes
namespace Go.Proofs.YtphnfcgdpdimbaaGreatDoor
open Go.RowKit

/-- a blob's object -/
abbrev blobA (A : Option Addr) (n c : Nat) : Array Value := #[I 1, .slice A n c, .slice none 0 0, S [], .slice none 0 0, S [], S [], S [], I 0, S []]
set_option maxRecDepth 100000 in
set_option maxHeartbeats 1000000 in
theorem objOf_blob (A : Option Addr) (n c : Nat) (w : World) :
    Calls Tryz.prog 175 #[.agg (blobA A n c)] w fun e w' => e = .returned (.iface 321 (.agg #[.slice A n c])) ∧ Below w.heap.size w w' := by
  go_enter Tryz.func175, Tryz.ntmps175
  go_wp2
  go_ret
  exact ⟨rfl, balloc (balloc (Below.refl _ w) _) _⟩
set_option maxRecDepth 100000 in
set_option maxHeartbeats 1000000 in
theorem objRight_blob (A : Option Addr) (n c : Nat) (w : World) :
    Calls Tryz.prog 373 #[.agg #[.slice A n c]] w fun e w' => e = .returned (.bool (decide (n ≤ 1048576))) ∧ Below w.heap.size w w' := by
  go_enter Tryz.func373, Tryz.ntmps373
  go_wp2
  go_ret
  exact ⟨ret_bool (by rw [Bool.eq_iff_iff]; simp; omega), balloc (Below.refl _ w) _⟩
set_option maxRecDepth 100000 in
set_option maxHeartbeats 1000000 in
theorem objMade_blob (A : Option Addr) (n c : Nat) (w : World) :
    Calls Tryz.prog 236 #[.iface 321 (.agg #[.slice A n c])] w fun e w' => e = .returned (.agg (blobA A n c)) ∧ Below w.heap.size w w' := by
  have kT : ∀ V : World, (Instr.typeAssert (.iface 321 (.agg #[.slice A n c])) 246 321 true).run Tryz.prog V = .ok (.tuple #[.agg #[.slice A n c], .bool true]) V := fun V => by kernel_rfl
  go_enter Tryz.func236, Tryz.ntmps236
  go_wp2
  refine bodyPost_ret (results_cell_row rfl _ _ w.heap.size 110 (blobA A n c) (0, 0) _ rfl ((Blk.new w _ _).alloc _) Tryz.underlying110 rfl (by kernel_rfl)) rfl ⟨rfl, balloc (balloc (Below.refl _ w) _) _⟩
set_option maxRecDepth 100000 in
theorem equalEnt_nil (w : World) : Calls Tryz.prog 289 #[.slice none 0 0, .slice none 0 0] w fun e w' => e = .returned (.bool true) ∧ w' = w := by
  go_enter Tryz.func289, Tryz.ntmps289
  go_wp2
  go_loop [13] (fun i => i = .int .i64 0) (fun _ => 0)
  case atStart => rfl
  case round =>
    subst hrel
    go_wp2
    go_ret
    exact ⟨rfl, rfl⟩
set_option maxRecDepth 100000 in
theorem equalStr_nil (w : World) : Calls Tryz.prog 290 #[.slice none 0 0, .slice none 0 0] w fun e w' => e = .returned (.bool true) ∧ w' = w := by
  go_enter Tryz.func290, Tryz.ntmps290
  go_wp2
  go_loop [13] (fun i => i = .int .i64 0) (fun _ => 0)
  case atStart => rfl
  case round =>
    subst hrel
    go_wp2
    go_ret
    exact ⟨rfl, rfl⟩
set_option maxRecDepth 100000 in
set_option maxHeartbeats 1000000 in
theorem objSame_blob (A : Option Addr) (n c : Nat) (l : List UInt8) (w : World) (hA : Sl w 1 A n (u8s l)) :
    Calls Tryz.prog 235 #[.agg (blobA A n c), .agg (blobA A n c)] w fun e w' => e = .returned (.bool true) ∧ Below w.heap.size w w' := by
  have CE := Lib.hid equalEnt_nil
  have CS := Lib.hid equalStr_nil
  have hcv := fun W => run_conv_str (P := Tryz.prog) W 27 9 5 A n c l Tryz.underlying27 Tryz.underlying5 Tryz.underlying9
  have hv := hcv _ ((hA.alloc (.cells (blobA A n c) 110)).alloc (.cells (blobA A n c) 110))
  clear hcv
  go_enter Tryz.func235, Tryz.ntmps235
  go_wp2_with (first
    | (go_at_call 289; refine (CE.out _).mono ?_; rintro e w' ⟨rfl, rfl⟩)
    | (go_at_call 290; refine (CS.out _).mono ?_; rintro e w' ⟨rfl, rfl⟩))
  go_ret
  exact ⟨rfl, balloc (balloc (Below.refl _ w) _) _⟩
end Go.Proofs.YtphnfcgdpdimbaaGreatDoor
