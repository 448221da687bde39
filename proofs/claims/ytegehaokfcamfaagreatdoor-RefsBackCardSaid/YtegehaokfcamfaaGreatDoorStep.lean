/-
  dolmenlaw11.step: an operation on both books: it answers; both stay books. Conditions: the books lie apart, in new memory; the operation's changes read as a list, below it.
-/
import Derived.Test.YtegehaokfcamfaaGreatDoorBoth
import Derived.Test.YtegehaokfcamfaaGreatDoorKitZ
namespace Go.Proofs.YtegehaokfcamfaaGreatDoor
open Go.RowKit
open RefsLaw (Val Chg Txn rightT Book)

abbrev opV (what : Int) (t : TxG) (right : Bool) (ref : List UInt8) (keep : Int) : Value := .agg #[I what, S t.who, S t.text, I t.stamp, .slice t.A t.n t.c, .bool right, S ref, I keep]
abbrev opCs (what : Int) (t : TxG) (right : Bool) (ref : List UInt8) (keep : Int) : Array Value := #[I what, S t.who, S t.text, I t.stamp, .slice t.A t.n t.c, .bool right, S ref, I keep]
structure OpOk (B : Nat) (w : World) (t : TxG) (ref : List UInt8) (keep : Int) : Prop where
  chg : SlF (fun k => B ≤ k) w 5 t.A t.n (chs t.chs)
  n : t.n ≤ 1759218604390
  refs : ∀ c ∈ t.chs, c.ref.length ≤ maxLen
  ref : ref.length ≤ maxLen
  keep : -9223372036854775808 ≤ keep ∧ keep ≤ 9223372036854775807
/-- what is there behind a step -/
def Stepped (B : Nat) (w : World) (p q z y : Nat) (e : Ending) (w' : World) : Prop := AnyB e ∧ BothAt B w'.heap.size w' p q (z + 1) (y + 1) ∧ Fr (fun k => B ≤ k) w w'

set_option maxHeartbeats 2000000 in
set_option maxRecDepth 100000 in
theorem step_trim (B N p q z y : Nat) (w : World) (what : Int) (t : TxG) (right : Bool) (ref : List UInt8) (keep : Int) (hB : BothAt B N w p q z y) (hz : z ≤ 1000) (hy : y ≤ 1000) (hO : OpOk B w t ref keep)
    (h4 : (bits BinOp.and IntKind.i64 what 7 == 4) = false) (h7 : (bits BinOp.and IntKind.i64 what 7 == 7) = false) (h5 : (bits BinOp.and IntKind.i64 what 7 == 5) = false) (h6 : (bits BinOp.and IntKind.i64 what 7 == 6) = true) :
    Calls Tryz.prog 21 #[.pointer (some ⟨p, 0, none⟩), .pointer (some ⟨q, 0, none⟩), opV what t right ref keep] w (Stepped B w p q z y) := by
  have hq := hB.at_q
  have htop := hB.top
  have q0 := balloc (Below.refl _ w) (.cells (opCs what t right ref keep) 69)
  have HR := Lib.hid (Blk.new w 69 (opCs what t right ref keep))
  have r0 := HR.out.cell
  have C1 := Lib.hid (both_trim B N p q z y keep _ (hB.step q0) hz hO.keep)
  have HK := Lib.hid hO.keep
  clear hB hO
  go_enter Tryz.func21, Tryz.ntmps21
  go_wp2_with (first
    | (go_at_call 17; refine C1.out.mono ?_; rintro e w1 ⟨rfl, hB1, hF1⟩; have r1 := (hF1.blk HR.out (by omega)).cell)
    | (go_at_call 50; refine (both_rtrim B w1.heap.size p q z y keep _ hB1 hy HK.out).mono ?_; rintro e w2 ⟨rfl, hB2, hF2⟩))
  go_ret
  exact ⟨AnyB.mk _, hB2.mono (Nat.le_succ _) (Nat.le_succ _), ((Fr.of_below q0).trans (hF1.weak (fun _ h => h.1))).trans (hF2.weak (fun _ h => h ▸ hq.1))⟩
end Go.Proofs.YtegehaokfcamfaaGreatDoor
