/-
  Texts merged: SumWalk, SumTake, SumAdd, SumEnd. What each law says and asks stands at its head.
-/
import Derived.Test.YtcednfmkiaelnaaGreatDoorTKitX
import Derived.Test.YtcednfmkiaelnaaGreatDoorTKitW
import Derived.Test.YtcednfmkiaelnaaGreatDoorTKitG
import Derived.Deep.QuietTactic
import Derived.BigQuiet
import Derived.IntWalk
import Derived.StillTailTactics
import Derived.Test.YtcednfmkiaelnaaGreatDoorTKitF
namespace Go.Proofs.YtcednfmkiaelnaaGreatDoor
open Go.RowKit
abbrev U32 (x : Nat) : Value := .int .u32 (x : Int)
abbrev U64 (x : Nat) : Value := .int .u64 (x : Int)
theorem wrapN32 (n : Nat) (h : n < 2 ^ 32) : IntKind.u32.wrap (n : Int) = (n : Int) := by
 rw [IntKind.wrap_u32]
 omega
theorem wrapN64 (n : Nat) (h : n < 2 ^ 64) : IntKind.u64.wrap (n : Int) = (n : Int) := by
 show ((n : Int) % 18446744073709551616) = n
 omega
theorem ofInt32 (a : Nat) (ha : a < 4294967296) : (BitVec.ofInt 32 (a : Int)).toNat = a := by
 rw [BitVec.ofInt_natCast, BitVec.toNat_ofNat, Nat.mod_eq_of_lt ha]
theorem ofInt64 (a : Nat) (ha : a < 18446744073709551616) : (BitVec.ofInt 64 (a : Int)).toNat = a := by
 rw [BitVec.ofInt_natCast, BitVec.toNat_ofNat, Nat.mod_eq_of_lt ha]
theorem or32 (a b : Nat) (ha : a < 4294967296) (hb : b < 4294967296) : bits .or .u32 (a : Int) (b : Int) = ((a ||| b : Nat) : Int) := by
 have e : bits .or .u32 (a : Int) (b : Int) = IntKind.u32.wrap (((BitVec.ofInt 32 a ||| BitVec.ofInt 32 b).toNat : Nat) : Int) := rfl
 rw [e, wrapN32 _ (BitVec.isLt _), BitVec.toNat_or, ofInt32 a ha, ofInt32 b hb]
theorem xor32 (a b : Nat) (ha : a < 4294967296) (hb : b < 4294967296) : bits .xor .u32 (a : Int) (b : Int) = ((a ^^^ b : Nat) : Int) := by
 have e : bits .xor .u32 (a : Int) (b : Int) = IntKind.u32.wrap (((BitVec.ofInt 32 a ^^^ BitVec.ofInt 32 b).toNat : Nat) : Int) := rfl
 rw [e, wrapN32 _ (BitVec.isLt _), BitVec.toNat_xor, ofInt32 a ha, ofInt32 b hb]
theorem or64 (a b : Nat) (ha : a < 18446744073709551616) (hb : b < 18446744073709551616) : bits .or .u64 (a : Int) (b : Int) = ((a ||| b : Nat) : Int) := by
 have e : bits .or .u64 (a : Int) (b : Int) = IntKind.u64.wrap (((BitVec.ofInt 64 a ||| BitVec.ofInt 64 b).toNat : Nat) : Int) := rfl
 rw [e, wrapN64 _ (BitVec.isLt _), BitVec.toNat_or, ofInt64 a ha, ofInt64 b hb]
theorem and64 (a b : Nat) (ha : a < 18446744073709551616) (hb : b < 18446744073709551616) : bits .and .u64 (a : Int) (b : Int) = ((a &&& b : Nat) : Int) := by
 have e : bits .and .u64 (a : Int) (b : Int) = IntKind.u64.wrap (((BitVec.ofInt 64 a &&& BitVec.ofInt 64 b).toNat : Nat) : Int) := rfl
 rw [e, wrapN64 _ (BitVec.isLt _), BitVec.toNat_and, ofInt64 a ha, ofInt64 b hb]
set_option maxRecDepth 100000 in
theorem rot_any (x k : Nat) (w : World) (hx : x < 4294967296) (hk : 0 < k) (hk2 : k < 32) :
  Calls Tryz.prog 247 #[U32 x, I k] w fun e w' => e = .returned (U32 (rot32 x k)) ∧ w' = w := by
 have h31 : bits .and .u64 (k : Int) 31 = (k : Int) := by
  have h1 := and64 k 31 (by omega) (by omega)
  rw [show k &&& 31 = k from by rw [show (31 : Nat) = 2 ^ 5 - 1 from rfl, Nat.and_two_pow_sub_one_eq_mod, Nat.mod_eq_of_lt (by omega)]] at h1
  exact h1
 go_enter Tryz.func247, Tryz.ntmps247
 go_wp2
 go_ret
 refine ⟨?_, rfl⟩
 have e1 : (x : Int) * 2 ^ k % 4294967296 = (((x <<< k) % two32 : Nat) : Int) := by
  rw [Nat.shiftLeft_eq, Int.natCast_emod, Int.natCast_mul, Int.natCast_pow]
  rfl
 have e2 : (x : Int) / 2 ^ (32 - k) = ((x >>> (32 - k) : Nat) : Int) := by
  rw [Nat.shiftRight_eq_div_pow, Int.natCast_ediv, Int.natCast_pow]
  rfl
 rw [e1, e2, or32 _ _ (Nat.mod_lt _ (by decide)) (by rw [Nat.shiftRight_eq_div_pow]; exact Nat.lt_of_le_of_lt (Nat.div_le_self _ _) hx)]
 rfl
def numK (l : List UInt8) : Nat → Nat
 | 0 => 0
 | k + 1 => numK l k + (l.getD k 0).toNat * 256 ^ k
theorem numK_lt (l : List UInt8) : ∀ k, numK l k < 256 ^ k
 | 0 => by simp [numK]
 | k + 1 => by
  have h1 := numK_lt l k
  have h2 : (l.getD k 0).toNat ≤ 255 := by have := (l.getD k 0).toNat_lt; omega
  have h3 : (l.getD k 0).toNat * 256 ^ k ≤ 255 * 256 ^ k := Nat.mul_le_mul_right _ h2
  rw [numK, Nat.pow_succ]
  omega
theorem numK_or (l : List UInt8) (k : Nat) : numK l k ||| (l.getD k 0).toNat * 2 ^ (8 * k) = numK l (k + 1) := by
 have h1 := numK_lt l k
 rw [show (256 : Nat) = 2 ^ 8 from rfl, ← Nat.pow_mul] at h1
 have h2 := Nat.two_pow_add_eq_or_of_lt h1 (l.getD k 0).toNat
 rw [Nat.or_comm, Nat.mul_comm, ← h2, numK, show (256 : Nat) = 2 ^ 8 from rfl, ← Nat.pow_mul]
 rw [Nat.mul_comm]
 omega
theorem numK4 (l : List UInt8) : numK l 4 = num4 l 0 := by
 simp only [numK, num4, Nat.zero_add, Nat.reducePow]
 omega
set_option maxRecDepth 100000 in
theorem number4_any (A : Option Addr) (n c : Nat) (l : List UInt8) (w : World) (hA : Sl w 1 A n (u8s l)) (hn : 4 ≤ n) (hn2 : n ≤ 1000000000) :
  Calls Tryz.prog 246 #[.slice A n c, I 4] w fun e w' => e = .returned (U64 (num4 l 0)) ∧ w' = w := by
 have HA := Lib.hid hA
 clear hA
 go_enter Tryz.func246, Tryz.ntmps246
 go_wp2
 go_loop [5, 8] (fun x i => ∃ k : Nat, k ≤ 4 ∧ i = .int .i64 k ∧ x = U64 (numK l k)) (fun _ i => 4 - (intOf i).toNat)
 case atStart => exact ⟨0, by omega, rfl, rfl⟩
 case round =>
  obtain ⟨k, hk, rfl, rfl⟩ := hrel
  by_cases hlt : k < 4
  ·obtain ⟨b, off, x, rfl, hx, hc⟩ := HA.out.byte (show k < n by omega)
   have hxg : l.getD k 0 = x := by simp [hx]
   have hb := x.toNat_lt
   have ho := numK_or l k
   have hl := numK_lt l k
   have hl2 : numK l k < 18446744073709551616 := Nat.lt_of_lt_of_le hl (Nat.le_trans (Nat.pow_le_pow_right (by decide) hk) (by decide))
   have hs : x.toNat * 2 ^ (8 * k) < 18446744073709551616 := by
    have h1 : (2 : Nat) ^ (8 * k) ≤ 2 ^ 24 := Nat.pow_le_pow_right (by decide) (by omega)
    have h2 : x.toNat * 2 ^ (8 * k) ≤ 256 * 2 ^ 24 := Nat.mul_le_mul (by omega) h1
    have h3 : 256 * 2 ^ 24 < 18446744073709551616 := by decide
    omega
   rw [hxg] at ho
   have h64 := or64 (numK l k) (x.toNat * 2 ^ (8 * k)) hl2 hs
   rw [ho] at h64
   have H64 := Lib.hid h64
   have Hs := Lib.hid hs
   have hkk : min (8 * k) 64 = 8 * k := by omega
   clear hx hxg ho hl hl2 hs h64
   go_wp2
   go_round
   case rel =>
    refine ⟨k + 1, hlt, by go_num, ?_⟩
    have e1 : IntKind.u64.wrap ((x.toNat : Int) * 2 ^ (8 * k)) = ((x.toNat * 2 ^ (8 * k) : Nat) : Int) := by
     rw [← wrapN64 _ Hs.out, Int.natCast_mul, Int.natCast_pow]
     rfl
    rw [e1, H64.out]
   case measure => simp [intOf]; omega
  ·obtain rfl : k = 4 := by omega
   go_wp2
   go_ret
   exact ⟨by rw [numK4]; rfl, rfl⟩
theorem leBytes_snoc : ∀ (k x : Nat), leBytes x (k + 1) = leBytes x k ++ [UInt8.ofNat (x / 256 ^ k % 256)]
 | 0, x => by simp [leBytes]
 | k + 1, x => by
  rw [leBytes, leBytes_snoc k (x / 256), leBytes, List.cons_append, Nat.div_div_eq_div_mul, Nat.pow_succ, Nat.mul_comm (256 ^ k)]
set_option maxRecDepth 100000 in
set_option maxHeartbeats 1000000 in
theorem slaid_any (w0 : World) (A : Option Addr) (n c : Nat) (l : List UInt8) (x m : Nat) (w : World) (hO : Ow w0 w 5 1 A n c (u8s l)) (hx : x < 18446744073709551616) (hm : m ≤ 8) (hn : n ≤ 1000000000) :
  Calls Tryz.prog 178 #[.slice A n c, U64 x, I m] w fun e w' => ∃ A' c', e = .returned (.slice A' (n + m) c') ∧ Ow w0 w' 5 1 A' (n + m) c' (u8s (l ++ leBytes x m)) := by
 obtain ⟨i0, hi0, hz0, hz1, hz2⟩ := info_parts Tryz.infoU8
 go_enter Tryz.func178, Tryz.ntmps178
 go_wp2
 go_loopw [0, 1, 8] (fun b z i wr => ∃ (k c1 : Nat) (A1 : Option Addr), k ≤ m ∧ i = .int .i64 k ∧ z = U64 (x / 256 ^ k) ∧ b = .slice A1 (n + k) c1 ∧ Hid (Ow w0 wr 5 1 A1 (n + k) c1 (u8s (l ++ leBytes x k)))) (fun _ _ i _ => m - (intOf i).toNat)
 case atStart => exact ⟨0, c, A, Nat.zero_le _, rfl, by simp, rfl, Lib.hid (by simpa [leBytes] using hO)⟩
 case round =>
  obtain ⟨k, c1, A1, hk, rfl, rfl, rfl, HO⟩ := hrel
  by_cases hlt : k < m
  ·have hz : x / 256 ^ k < 18446744073709551616 := Nat.lt_of_le_of_lt (Nat.div_le_self _ _) hx
   have ew : IntKind.u8.wrap ((x / 256 ^ k : Nat) : Int) = ((UInt8.ofNat (x / 256 ^ k % 256)).toNat : Int) := by
    rw [IntKind.wrap_u8]
    simp
   obtain ⟨y, hy⟩ : ∃ y : Nat, y = x / 256 ^ k := ⟨_, rfl⟩
   have Hy := Lib.hid hy
   rw [← hy] at ew hz ⊢
   have eu : U8 (UInt8.ofNat (y % 256)) = .int .u8 (IntKind.u8.wrap (y : Int)) := by rw [ew]
   have HS6 := Lib.hid (sl_one wr 5 (.int .u8 (IntKind.u8.wrap (y : Int))))
   have HO2 := Lib.hid (HO.out.alloc (.cells #[.int .u8 (IntKind.u8.wrap (y : Int))] 5))
   have q1 := Lib.hid (show n + k + 1 ≤ maxLen by simp only [maxLen]; omega)
   have q2 := Lib.hid (show (n + k + 1) * 1 ≤ 140737488355328 by omega)
   have HE := Lib.hid (show u8s (l ++ leBytes x (k + 1)) = u8s (l ++ leBytes x k) ++ [.int .u8 (IntKind.u8.wrap (y : Int))] by rw [leBytes_snoc, ← hy, ← eu]; simp [u8s])
   have HZ := Lib.hid (show y / 256 = x / 256 ^ (k + 1) by rw [hy, Nat.div_div_eq_div_mul, Nat.pow_succ])
   clear hy ew eu
   go_wp2_with (at_builtin; refine wpList_append_sl _ rfl (.tmp 10) (.tmp 13) _ rfl w0 5 i0 _ 1 1 Tryz.underlying38 hi0 hz0 hz1 hz2 rfl Nat.one_pos A1 (n + k) c1 _ rfl HO2.out _ 1 1 [.int .u8 (IntKind.u8.wrap (y : Int))] rfl HS6.out (by simp [Value.oneCell']) q1.out q2.out ?_; intro A5 c5 w5 hO5 hg5 hat5; have HO5 := Lib.hid hO5; clear hO5 hg5 hat5)
   go_roundw
   case rel => exact ⟨k + 1, c5, A5, hlt, by go_num, by rw [← HZ.out]; simp, by rw [Nat.add_assoc], Lib.hid (by rw [HE.out, ← Nat.add_assoc]; exact HO5.out)⟩
   case measure => simp [intOf]; omega
  ·obtain rfl : k = m := by omega
   go_wp2
   go_ret
   exact ⟨A1, c1, rfl, HO.out⟩
abbrev u32s (l : List Nat) : List Value := l.map U32
theorem u32s_set (s : List Nat) (i x : Nat) (r : List Value) : (u32s s ++ r).toArray.setIfInBounds i (U32 x) = if i < s.length then (u32s (s.set i x) ++ r).toArray else (u32s s ++ r).toArray.setIfInBounds i (U32 x) := by
 split
 ·rename_i h
  simp only [List.setIfInBounds_toArray]
  rw [List.set_append_left _ _ (by simpa using h)]
  simp [u32s, List.map_set]
 ·rfl
theorem u32s_at {s : List Nat} {r : List Value} {i : Nat} (h : i < s.length) : (u32s s ++ r).toArray[i]? = some (U32 (s.getD i 0)) := by
 rw [List.getElem?_toArray, List.getElem?_append_left (by simpa using h), List.getElem?_map, List.getElem?_eq_getElem h, List.getD_eq_getElem?_getD, List.getElem?_eq_getElem h]
 rfl
def firstK (i : Nat) : List Nat := (List.range 8).map fun j => if j < i then (j + 1) * 2654435769 % two32 else 0
theorem firstK_len (i : Nat) : (firstK i).length = 8 := by simp [firstK]
theorem firstK_step {k : Nat} (h : k < 8) : (firstK k).set k ((k + 1) * 2654435769 % two32) = firstK (k + 1) := by
 rcases (by omega : k = 0 ∨ k = 1 ∨ k = 2 ∨ k = 3 ∨ k = 4 ∨ k = 5 ∨ k = 6 ∨ k = 7) with rfl | rfl | rfl | rfl | rfl | rfl | rfl | rfl <;> decide
theorem firstK_all : firstK 8 = firstS := by decide
set_option maxRecDepth 100000 in
set_option maxHeartbeats 1000000 in
theorem first_any (w : World) :
  Calls Tryz.prog 176 #[] w fun e w' => e = .returned (.agg (u32s firstS).toArray) ∧ Below w.heap.size w w' := by
 obtain ⟨g, hg⟩ : ∃ g, g = w.heap.size := ⟨_, rfl⟩
 obtain ⟨w2, hw2⟩ : ∃ w2, w2 = (w.alloc (.cells (u32s (firstK 0)).toArray 272)).alloc (.cells (u32s (firstK 0)).toArray 272) := ⟨_, rfl⟩
 have e0 : Blk w2 g 272 (u32s (firstK 0)).toArray := by rw [hw2, hg]; exact (Blk.new w _ _).alloc _
 have e1 : Blk w2 (g + 1) 272 (u32s (firstK 0)).toArray := by rw [hw2, hg]; have := Blk.new (w.alloc (.cells (u32s (firstK 0)).toArray 272)) 272 (u32s (firstK 0)).toArray; rwa [World.size_alloc] at this
 have b2 : Below w.heap.size w w2 := by rw [hw2]; exact balloc (balloc (Below.refl _ w) _) _
 have E0 := Lib.hid e0
 have E1 := Lib.hid e1
 have B2 := Lib.hid b2
 have Hg := Lib.hid hg
 clear e0 e1 b2
 go_enter Tryz.func176, Tryz.ntmps176
 go_wp2
 rw [show (w.alloc (.cells #[.int .u32 0, .int .u32 0, .int .u32 0, .int .u32 0, .int .u32 0, .int .u32 0, .int .u32 0, .int .u32 0] 272)).alloc (.cells #[.int .u32 0, .int .u32 0, .int .u32 0, .int .u32 0, .int .u32 0, .int .u32 0, .int .u32 0, .int .u32 0] 272) = w2 from hw2.symm]
 simp only [← hg]
 clear hw2 hg
 go_loopw [2, 3] (fun _ i wr => ∃ k : Nat, k ≤ 8 ∧ i = .int .i64 k ∧ Hid (Blk wr g 272 (u32s (firstK 0)).toArray) ∧ Hid (Blk wr (g + 1) 272 (u32s (firstK k)).toArray) ∧ Hid (Below g w wr)) (fun _ i _ => 8 - (intOf i).toNat)
 case atStart => exact ⟨0, by omega, rfl, E0, E1, Lib.hid (by rw [Hg.out]; exact B2.out)⟩
 case round =>
  obtain ⟨k, hk, rfl, H0, H1, HB⟩ := hrel
  by_cases hlt : k < 8
  ·have ef := H1.out.frozen
   have ek : wr.cell? ⟨g + 1, k, none⟩ = some (U32 ((firstK k).getD k 0)) := by
    rw [H1.out.cell k]
    have h1 := u32s_at (s := firstK k) (r := []) (i := k) (by rw [firstK_len]; exact hlt)
    rwa [List.append_nil] at h1
   go_wp2
   go_roundw
   case rel =>
    have em : ((k : Int) + 1) * 2654435769 % 4294967296 = (((k + 1) * 2654435769 % 4294967296 : Nat) : Int) := by omega
    rw [em]
    have h1 := H1.out.set_ k (U32 ((k + 1) * 2654435769 % two32))
    have h2 := u32s_set (firstK k) k ((k + 1) * 2654435769 % two32) []
    rw [List.append_nil, if_pos (by rw [firstK_len]; exact hlt), firstK_step hlt, List.append_nil] at h2
    rw [h2] at h1
    exact ⟨k + 1, hlt, by go_num, Lib.hid (H0.out.far (by show g ≠ g + 1; omega) _), Lib.hid h1, Lib.hid (HB.out.setCell (p := ⟨g + 1, k, none⟩) (Nat.le_succ g) _)⟩
   case measure => simp [intOf]; omega
  ·obtain rfl : k = 8 := by omega
   rw [firstK_all] at H1
   have e1 : firstS = [2654435769, 1013904242, 3668340011, 2027808484, 387276957, 3041712726, 1401181199, 4055616968] := by decide
   have e0 : firstK 0 = [0, 0, 0, 0, 0, 0, 0, 0] := by decide
   have r1 := H1.out.cell
   have r0 := H0.out.cell
   have f0 := H0.out.frozen
   rw [e1] at r1
   rw [e0] at r0
   simp only [u32s, List.map_cons, List.map_nil] at r0 r1
   clear e1 e0
   go_wp2
   have hb := (((((((H0.out.set_ 0 (U32 2654435769)).set_ 1 (U32 1013904242)).set_ 2 (U32 3668340011)).set_ 3 (U32 2027808484)).set_ 4 (U32 387276957)).set_ 5 (U32 3041712726)).set_ 6 (U32 1401181199)).set_ 7 (U32 4055616968)
   refine bodyPost_ret (results_cell_row (d := .array 8 179) rfl _ _ g 272 (u32s firstS).toArray (0, 0) rfl hb Tryz.underlying272 rfl (by kernel_rfl)) rfl ⟨rfl, ?_⟩
   rw [← Hg.out]
   exact (((((((HB.out.setCell (p := ⟨g, 0, none⟩) (Nat.le_refl g) _).setCell (p := ⟨g, 1, none⟩) (Nat.le_refl g) _).setCell (p := ⟨g, 2, none⟩) (Nat.le_refl g) _).setCell (p := ⟨g, 3, none⟩) (Nat.le_refl g) _).setCell (p := ⟨g, 4, none⟩) (Nat.le_refl g) _).setCell (p := ⟨g, 5, none⟩) (Nat.le_refl g) _).setCell (p := ⟨g, 6, none⟩) (Nat.le_refl g) _).setCell (p := ⟨g, 7, none⟩) (Nat.le_refl g) _
def wordK (l : List UInt8) (k : Nat) : List Nat := (List.range 8).map fun j => if j < k then num4 l (4 * j) else 0
theorem wordK_len (l : List UInt8) (k : Nat) : (wordK l k).length = 8 := by simp [wordK]
theorem wordK_step {l : List UInt8} {k : Nat} (h : k < 8) : (wordK l k).set k (num4 l (4 * k)) = wordK l (k + 1) := by
 rcases (by omega : k = 0 ∨ k = 1 ∨ k = 2 ∨ k = 3 ∨ k = 4 ∨ k = 5 ∨ k = 6 ∨ k = 7) with rfl | rfl | rfl | rfl | rfl | rfl | rfl | rfl <;> rfl
theorem wordK_all (l : List UInt8) : wordK l 8 = wordsOf l := rfl
theorem stepW_lt {W : List Nat} {r i : Nat} {s : List Nat} (h : ∀ x ∈ s, x < 4294967296) : ∀ x ∈ stepW W r i s, x < 4294967296 := by
 intro x hx
 rcases List.mem_or_eq_of_mem_set hx with h1 | rfl
 ·exact h x h1
 ·exact Nat.mod_lt _ (by decide)
theorem stepsW_lt {W s : List Nat} (h : ∀ x ∈ s, x < 4294967296) : ∀ k, ∀ x ∈ stepsW W s k, x < 4294967296
 | 0 => h
 | k + 1 => stepW_lt (stepsW_lt h k)
theorem getD_lt {s : List Nat} (h : ∀ x ∈ s, x < 4294967296) (i : Nat) : s.getD i 0 < 4294967296 := by
 rw [List.getD_eq_getElem?_getD]
 rcases hi : s[i]? with _ | x
 ·simp
 ·exact h x (List.mem_of_getElem? hi)
theorem num4_lt (l : List UInt8) (i : Nat) : num4 l i < 4294967296 := by
 have h0 := (l.getD i 0).toNat_lt
 have h1 := (l.getD (i + 1) 0).toNat_lt
 have h2 := (l.getD (i + 2) 0).toNat_lt
 have h3 := (l.getD (i + 3) 0).toNat_lt
 unfold num4
 omega
theorem num4_drop (l : List UInt8) (i : Nat) : num4 (l.drop i) 0 = num4 l i := by
 simp [num4, List.getD_eq_getElem?_getD, List.getElem?_drop]
theorem run_cut_n {P : Program} (w : World) {t e : TypeId} (ht : P.underlying t = some (.slice e)) (hz : ∀ w, (sizeOf e).run P w = .ok 1 w) (A : Option Addr) (n c j : Nat) (z : Int) (hz2 : z = (j : Int)) (h1 : j ≤ n) :
  (Instr.slice t (.slice A n c) (some (.int .i64 z)) none none).run P w = .ok (.slice (cutA A c j 1) (n - j) (c - j)) w := by
 subst hz2
 exact run_cut_l w ht hz A n c .i64 j h1
set_option maxRecDepth 100000 in
set_option maxHeartbeats 2000000 in
theorem stake_any (w : World) (p : Nat) (T : TypeId) (s : List Nat) (rest : List Value) (A : Option Addr) (n c : Nat) (l : List UInt8) (hp : Blk w p T (u32s s ++ rest).toArray) (hs : s.length = 8) (hlt : ∀ x ∈ s, x < 4294967296) (hA : SlT (fun _ => True) 5 w 1 A n (u8s l)) (hn : 32 ≤ n) (hn2 : n ≤ 1000000000) (hnc : n ≤ c) (_hT : T ≠ 5) :
  Calls Tryz.prog 177 #[.pointer (some ⟨p, 0, none⟩), .slice A n c] w fun e w' => e = .returned (.tuple #[]) ∧ Blk w' p T (u32s (takeB s l) ++ rest).toArray ∧ Fr (fun k => k = p) w w' := by
 obtain ⟨g, hg⟩ : ∃ g, g = w.heap.size := ⟨_, rfl⟩
 obtain ⟨w1, hw1⟩ : ∃ w1, w1 = w.alloc (.cells (u32s (wordK l 0)).toArray 271) := ⟨_, rfl⟩
 have e1 : Blk w1 g 271 (u32s (wordK l 0)).toArray := by rw [hw1, hg]; exact Blk.new w _ _
 have b1 : Below w.heap.size w w1 := by rw [hw1]; exact balloc (Below.refl _ w) _
 have HP := Lib.hid hp
 have HA := Lib.hid hA
 have HL := Lib.hid hlt
 have Hs := Lib.hid hs
 have E1 := Lib.hid e1
 have B1 := Lib.hid b1
 have Hg := Lib.hid hg
 clear hp hA hlt hs e1 b1
 go_enter Tryz.func177, Tryz.ntmps177
 go_wp2
 rw [show w.alloc (.cells #[.int .u32 0, .int .u32 0, .int .u32 0, .int .u32 0, .int .u32 0, .int .u32 0, .int .u32 0, .int .u32 0] 271) = w1 from hw1.symm]
 simp only [← hg]
 clear hw1 hg
 go_loopw [5, 9] (fun _ i wr => ∃ k : Nat, k ≤ 8 ∧ i = .int .i64 k ∧ Hid (Blk wr g 271 (u32s (wordK l k)).toArray) ∧ Hid (Below g w wr)) (fun _ i _ => 8 - (intOf i).toNat)
 case atStart => exact ⟨0, by omega, rfl, E1, Lib.hid (by rw [Hg.out]; exact B1.out)⟩
 case round =>
  obtain ⟨k, hk, rfl, H1, HB⟩ := hrel
  by_cases hlt : k < 8
  ·have ef := H1.out.frozen
   have ek : wr.cell? ⟨g, k, none⟩ = some (U32 ((wordK l k).getD k 0)) := by
    rw [H1.out.cell k]
    have h1 := u32s_at (s := wordK l k) (r := []) (i := k) (by rw [wordK_len]; exact hlt)
    rwa [List.append_nil] at h1
   have kc := run_cut_n (P := Tryz.prog) wr Tryz.underlying38 Tryz.sizeU8 A n c (4 * k) (4 * (k : Int)) (by omega) (by omega)
   have hS : Sl wr 1 (cutA A c (4 * k) 1) (n - 4 * k) (u8s (l.drop (4 * k))) := (HA.out.sl.below (by rw [← Hg.out]; exact HB.out)).tail_ (by omega) hnc
   have CN := number4_any (cutA A c (4 * k) 1) (n - 4 * k) (c - 4 * k) (l.drop (4 * k)) wr hS (by omega) (by omega)
   rw [num4_drop] at CN
   have CN' := Lib.hid CN
   have hq := num4_lt l (4 * k)
   clear CN hS
   go_wp2_with (go_at_call 246; refine CN'.out.mono ?_; rintro e w' ⟨rfl, h⟩; obtain rfl := h.symm; clear h)
   go_roundw
   case rel =>
    have h1 := H1.out.set_ k (U32 (num4 l (4 * k)))
    have h2 := u32s_set (wordK l k) k (num4 l (4 * k)) []
    rw [List.append_nil, if_pos (by rw [wordK_len]; exact hlt), wordK_step hlt, List.append_nil] at h2
    rw [h2] at h1
    exact ⟨k + 1, hlt, by go_num, Lib.hid h1, Lib.hid (HB.out.setCell (p := ⟨g, k, none⟩) (Nat.le_refl g) _)⟩
   case measure => simp [intOf]; omega
  ·obtain rfl : k = 8 := by omega
   rw [wordK_all] at H1
   obtain ⟨W, hW⟩ : ∃ W, W = wordsOf l := ⟨_, rfl⟩
   have HW := Lib.hid hW
   rw [← hW] at H1
   have HP2 := Lib.hid (HP.out.step (by rw [← Hg.out]; exact HB.out))
   have HF2 : Hid (Fr (fun k => k = p) w wr) := Lib.hid (.of_below (by rw [← Hg.out]; exact HB.out))
   have hgp : g ≠ p := fun e => by have := HP.out.lt; rw [← e, Hg.out] at this; omega
   have Hgp := Lib.hid hgp
   have HWl : Hid (W.length = 8) := Lib.hid (by rw [hW]; simp [wordsOf])
   have HWb : Hid (∀ x ∈ W, x < 4294967296) := Lib.hid (by rw [hW]; intro x hx; obtain ⟨i, _, rfl⟩ := List.mem_map.1 hx; exact num4_lt l _)
   have H1g := H1
   clear hW hgp H1 HB HA E1 B1
   simp only [Int.cast_ofNat_Int]
   go_wp2
   go_loopw [6, 7, 8, 21, 24] (fun _ _ _ s21 _ wr => ∃ r : Nat, r ≤ 8 ∧ s21 = .int .i64 r ∧ Hid (Blk wr g 271 (u32s W).toArray) ∧ Hid (Blk wr p T (u32s (stepsW W s (8 * r)) ++ rest).toArray) ∧ Hid (Fr (fun k => k = p) w wr)) (fun _ _ _ s21 _ _ => 8 - (intOf s21).toNat)
   case atStart => exact ⟨0, by omega, rfl, H1g, HP2, HF2⟩
   case round =>
    obtain ⟨r, hr, rfl, G1, P1, F1⟩ := hrel
    by_cases hlt : r < 8
    ·have hd22 : decide ((r : Int) < 8) = true := decide_eq_true (by omega)
     go_wp2
     go_loopw [7, 8, 24] (fun _ _ s24 wr => ∃ j : Nat, j ≤ 8 ∧ s24 = .int .i64 j ∧ Hid (Blk wr g 271 (u32s W).toArray) ∧ Hid (Blk wr p T (u32s (stepsW W s (8 * r + j)) ++ rest).toArray) ∧ Hid (Fr (fun k => k = p) w wr)) (fun _ _ s24 _ => 8 - (intOf s24).toNat)
     case atStart => exact ⟨0, by omega, rfl, G1, P1, F1⟩
     case round =>
      obtain ⟨j, hj, rfl, G2, P2, F2⟩ := hrel
      by_cases hlt2 : j < 8
      ·obtain ⟨st, hst⟩ : ∃ st, st = stepsW W s (8 * r + j) := ⟨_, rfl⟩
       have Hst := Lib.hid hst
       have hsl : st.length = 8 := by rw [hst, stepsW_len]; exact Hs.out
       have hsb : ∀ x ∈ st, x < 4294967296 := by rw [hst]; exact stepsW_lt HL.out _
       rw [← hst] at P2
       obtain ⟨m, hm⟩ : ∃ m, m = (j + r) % 8 := ⟨_, rfl⟩
       obtain ⟨m2, hm2⟩ : ∃ m2, m2 = (j + 1) % 8 := ⟨_, rfl⟩
       obtain ⟨a, ha⟩ : ∃ a, a = st.getD j 0 := ⟨_, rfl⟩
       obtain ⟨b, hb⟩ : ∃ b, b = W.getD m 0 := ⟨_, rfl⟩
       obtain ⟨d, hd⟩ : ∃ d, d = st.getD m2 0 := ⟨_, rfl⟩
       have ca : wr.cell? ⟨p, j, none⟩ = some (U32 a) := by rw [P2.out.cell j, u32s_at (by rw [hsl]; exact hlt2), ← ha]
       have cb : wr.cell? ⟨g, m, none⟩ = some (U32 b) := by
        rw [G2.out.cell m]
        have h1 := u32s_at (s := W) (r := []) (i := m) (by rw [HWl.out, hm]; omega)
        rw [List.append_nil] at h1
        rw [h1, ← hb]
       have cd : wr.cell? ⟨p, m2, none⟩ = some (U32 d) := by rw [P2.out.cell m2, u32s_at (by rw [hsl, hm2]; omega), ← hd]
       have cf := P2.out.frozen
       have hal : a < 4294967296 := by rw [ha]; exact getD_lt hsb j
       have hbl : b < 4294967296 := by rw [hb]; exact getD_lt HWb.out m
       have hdl : d < 4294967296 := by rw [hd]; exact getD_lt hsb m2
       have hxl : a ^^^ b < 4294967296 := Nat.xor_lt_two_pow (n := 32) hal hbl
       have hxo := xor32 a b hal hbl
       have CR := rot_any (a ^^^ b) (5 + 3 * j)
       have e1 : IntKind.i64.wrap ((j : Int) + (r : Int)) = (j : Int) + (r : Int) := IntWalk.i64_in _ (by omega)
       have e2 : ((j : Int) + (r : Int)).tmod 8 = (m : Int) := by rw [Int.tmod_eq_emod_of_nonneg (by omega)]; omega
       have e3 : IntKind.i64.wrap (3 * (j : Int)) = 3 * (j : Int) := IntWalk.i64_in _ (by omega)
       have e4 : IntKind.i64.wrap (5 + 3 * (j : Int)) = 5 + 3 * (j : Int) := IntWalk.i64_in _ (by omega)
       have CR' : Hid (∀ W', Calls Tryz.prog 247 #[U32 (a ^^^ b), I (5 + 3 * (j : Int))] W' fun e w' => e = .returned (U32 (rot32 (a ^^^ b) (5 + 3 * j))) ∧ w' = W') := Lib.hid (fun W' => by
        have := CR W' hxl (by omega) (by omega)
        simpa using this)
       have hm8 : (m : Int) < 8 := by omega
       have hm28 : (m2 : Int) < 8 := by omega
       have Hmm := Lib.hid (And.intro hm hm2)
       have Ha := Lib.hid ha
       have Hb := Lib.hid hb
       have Hd := Lib.hid hd
       clear hm hm2 ha hb hd hst CR
       go_wp2
       go_quiet ((go_at_call 247; exact Calls.quiet_of_same (CR'.out _)))
       have e5 : IntKind.i64.wrap ((j : Int) + 1) = (j : Int) + 1 := IntWalk.i64_in _ (by omega)
       have e6 : ((j : Int) + 1).tmod 8 = (m2 : Int) := by rw [Int.tmod_eq_emod_of_nonneg (by omega)]; have := Hmm.out.2; omega
       obtain ⟨X, hX⟩ : ∃ X, X = rot32 (a ^^^ b) (5 + 3 * j) := ⟨_, rfl⟩
       have HX := Lib.hid hX
       rw [← hX]
       clear hX CR' e2 e3 e4 hxo cb
       obtain ⟨wq, hwq⟩ : ∃ wq, wq = wr.drewN nq := ⟨_, rfl⟩
       have P3 : Hid (Blk wq p T (u32s st ++ rest).toArray) := Lib.hid (by rw [hwq]; exact P2.out.drewN nq)
       have G3 : Hid (Blk wq g 271 (u32s W).toArray) := Lib.hid (by rw [hwq]; exact G2.out.drewN nq)
       have F3 : Hid (Fr (fun k => k = p) w wq) := Lib.hid (by rw [hwq]; exact F2.out.drewN nq)
       have da : wq.cell? ⟨p, j, none⟩ = some (U32 a) := by rw [hwq]; exact ca
       have dd : wq.cell? ⟨p, m2, none⟩ = some (U32 d) := by rw [hwq]; exact cd
       have df := P3.out.frozen
       rw [← hwq]
       clear hwq ca cd cf
       go_wp2
       go_still_tail 19, (by kernel_rfl)
       change wpList _ _ _ _ _ wq.drew
       obtain ⟨wz, hwz⟩ : ∃ wz, wz = wq.drew := ⟨_, rfl⟩
       have P4 : Hid (Blk wz p T (u32s st ++ rest).toArray) := Lib.hid (by rw [hwz]; exact P3.out.drew)
       have G4 : Hid (Blk wz g 271 (u32s W).toArray) := Lib.hid (by rw [hwz]; exact G3.out.drew)
       have F4 : Hid (Fr (fun k => k = p) w wz) := Lib.hid (by rw [hwz]; exact F3.out.drew)
       have dz : wz.cell? ⟨p, j, none⟩ = some (U32 a) := by rw [hwz]; exact da
       have zf := P4.out.frozen
       rw [← hwz]
       clear hwz da dd df e1 e5 e6
       go_wp2
       go_roundw
       case rel =>
        have h1 := P4.out.set_ j (U32 ((X + d * 2246822507 + (j + r)) % 4294967296))
        have h2 := u32s_set st j ((X + d * 2246822507 + (j + r)) % 4294967296) rest
        rw [if_pos (by rw [hsl]; exact hlt2)] at h2
        rw [h2] at h1
        have h3 : st.set j ((X + d * 2246822507 + (j + r)) % 4294967296) = stepsW W s (8 * r + (j + 1)) := by
         show _ = stepW W ((8 * r + j) / 8) ((8 * r + j) % 8) (stepsW W s (8 * r + j))
         rw [← Hst.out]
         unfold stepW
         rw [show (8 * r + j) / 8 = r by omega, show (8 * r + j) % 8 = j by omega, HX.out, Ha.out, Hb.out, Hd.out, Hmm.out.1, Hmm.out.2]
        rw [h3] at h1
        have em : ((X : Int) + (d : Int) * 2246822507 + ((j : Int) + (r : Int))) % 4294967296 = (((X + d * 2246822507 + (j + r)) % 4294967296 : Nat) : Int) := by omega
        rw [em]
        exact ⟨j + 1, hlt2, by go_num, Lib.hid (G4.out.far (by exact Hgp.out) _), Lib.hid h1, Lib.hid (F4.out.setCell (p := ⟨p, j, none⟩) rfl _)⟩
       case measure => simp [intOf]; omega
      ·obtain rfl : j = 8 := by omega
       go_wp2
       go_roundw
       case rel => exact ⟨r + 1, hlt, by go_num, G2, Lib.hid (by rw [show 8 * (r + 1) = 8 * r + 8 by omega]; exact P2.out), F2⟩
       case measure => simp [intOf]; omega
    ·obtain rfl : r = 8 := by omega
     go_wp2
     exact ⟨rfl, .tuple #[], results_none rfl _ _ _, rfl, by have h1 := P1.out; rw [HW.out] at h1; exact h1, F1.out⟩
theorem cutA_some {A : Option Addr} {b o c k : Nat} (h : A = some ⟨b, o, none⟩) : ∃ o', cutA A c k 1 = some ⟨b, o', none⟩ := by
 subst h
 unfold cutA
 split
 ·exact ⟨o, rfl⟩
 ·exact ⟨o + k, by simp [Addr.add]⟩
theorem SlT.drop_ {H : Nat → Prop} {e : TypeId} {w : World} {A : Option Addr} {n c k : Nat} {l : List UInt8} (h : SlT H e w 1 A n (u8s l)) (hk : k ≤ n) (hc : n ≤ c) : SlT H e w 1 (cutA A c k 1) (n - k) (u8s (l.drop k)) := by
 refine ⟨Sl.tail_ (f := U8) h.1 hk hc, fun hn => ?_⟩
 obtain ⟨b, o, cs, fr, e1, hH, hb⟩ := h.2 (by omega)
 obtain ⟨o', e2⟩ := cutA_some (c := c) (k := k) e1
 exact ⟨b, o', cs, fr, e2, hH, hb⟩
theorem SlT.take_ {H : Nat → Prop} {e : TypeId} {w : World} {A : Option Addr} {n c k : Nat} {l : List UInt8} (h : SlT H e w 1 A n (u8s l)) (hk : k ≤ n) (hc : n ≤ c) : SlT H e w 1 (cutA A c 0 1) k (u8s (l.take k)) := by
 refine ⟨Sl.head_ (f := U8) h.1 hk hc, fun hn => ?_⟩
 obtain ⟨b, o, cs, fr, e1, hH, hb⟩ := h.2 (by omega)
 obtain ⟨o', e2⟩ := cutA_some (c := c) (k := 0) e1
 exact ⟨b, o', cs, fr, e2, hH, hb⟩
abbrev runT (A : Option Addr) (k c N : Nat) : List Value := [.slice A k c, U64 N, .bool true]
theorem firstS_lit : firstS = [2654435769, 1013904242, 3668340011, 2027808484, 387276957, 3041712726, 1401181199, 4055616968] := by decide
set_option maxRecDepth 100000 in
set_option maxHeartbeats 1000000 in
theorem snew_any (w : World) : Calls Tryz.prog 116 #[] w fun e w' => ∃ p, e = .returned (.pointer (some ⟨p, 0, none⟩)) ∧ w.heap.size ≤ p ∧ Blk w' p 275 (u32s firstS ++ runT none 0 0 0).toArray ∧ Below w.heap.size w w' := by
 have C := first_any w
 rw [firstS_lit] at C ⊢
 simp only [u32s, List.map_cons, List.map_nil, List.cons_append, List.nil_append] at C ⊢
 have C' := Lib.hid C
 clear C
 go_enter Tryz.func116, Tryz.ntmps116
 go_wp2_with (go_at_call 176; refine C'.out.mono ?_; rintro e w1 ⟨rfl, b1⟩; have B1 := Lib.hid b1; clear b1)
 go_ret
 exact ⟨w1.heap.size, rfl, B1.out.size, Blk.new w1 _ _, balloc B1.out _⟩
def lenAt8 (w : World) (p : Nat) : Nat := match w.cell? ⟨p, 8, none⟩ with
 | some (.slice _ n _) => n
 | _ => 0
theorem run_at8 {st : List Nat} {v : Value} {r : List Value} (h : st.length = 8) : (u32s st ++ v :: r).toArray[8]? = some v := by
 rw [List.getElem?_toArray, List.getElem?_append_right (by simp [h])]
 simp [h]
theorem run_at9 {st : List Nat} {v u : Value} {r : List Value} (h : st.length = 8) : (u32s st ++ v :: u :: r).toArray[9]? = some u := by
 rw [List.getElem?_toArray, List.getElem?_append_right (by simp [h])]
 simp [h]
theorem run_at10 {st : List Nat} {v u x : Value} {r : List Value} (h : st.length = 8) : (u32s st ++ v :: u :: x :: r).toArray[10]? = some x := by
 rw [List.getElem?_toArray, List.getElem?_append_right (by simp [h])]
 simp [h]
theorem run_set8 {st : List Nat} {v u : Value} {r : List Value} (h : st.length = 8) : (u32s st ++ v :: r).toArray.setIfInBounds 8 u = (u32s st ++ u :: r).toArray := by
 simp only [List.setIfInBounds_toArray]
 rw [List.set_append_right _ _ (by simp [h])]
 simp [h]
theorem run_set9 {st : List Nat} {v u x : Value} {r : List Value} (h : st.length = 8) : (u32s st ++ v :: x :: r).toArray.setIfInBounds 9 u = (u32s st ++ v :: u :: r).toArray := by
 simp only [List.setIfInBounds_toArray]
 rw [List.set_append_right _ _ (by simp [h])]
 simp [h]
theorem absorb_big {b : List UInt8} (h : 32 ≤ b.length) (s : List Nat) : absorb s b = absorb (takeB s (b.take 32)) (b.drop 32) := by rw [absorb, dif_pos h]
theorem num4_take (l : List UInt8) (i : Nat) (h : i + 3 < 32) : num4 (l.take 32) i = num4 l i := by
 simp only [num4, List.getD_eq_getElem?_getD, List.getElem?_take]
 rw [if_pos (by omega), if_pos (by omega), if_pos (by omega), if_pos (by omega)]
theorem takeB_take (s : List Nat) (l : List UInt8) : takeB s (l.take 32) = takeB s l := by
 unfold takeB
 rw [show wordsOf (l.take 32) = wordsOf l from by
  unfold wordsOf
  refine List.map_congr_left fun i hi => num4_take l (4 * i) ?_
  have := List.mem_range.1 hi
  omega]
theorem takeB_lt {s : List Nat} {b : List UInt8} (h : ∀ x ∈ s, x < 4294967296) : ∀ x ∈ takeB s b, x < 4294967296 := stepsW_lt h _
theorem firstS_lt : ∀ x ∈ firstS, x < 4294967296 := by decide
theorem lenAt8_of {w : World} {p : Nat} {T : TypeId} {st : List Nat} {A : Option Addr} {n c : Nat} {r : List Value} (hs : st.length = 8) (h : Blk w p T (u32s st ++ .slice A n c :: r).toArray) : lenAt8 w p = n := by
 unfold lenAt8
 rw [h.cell 8, run_at8 hs]
structure AddI (w : World) (p n : Nat) (l : List UInt8) (st : List Nat) (A : Option Addr) (k c : Nat) (rs : List UInt8) (W : World) : Prop where
 len : st.length = 8
 lt : ∀ x ∈ st, x < 4294967296
 eq : absorb st rs = absorb firstS l
 blk : Blk W p 275 (u32s st ++ runT A k c n).toArray
 row : SlT (fun _ => True) 5 W 1 A k (u8s rs)
 cap : k ≤ c ∧ c ≤ maxLen
 fr : Fr (fun k => k = p) w W
set_option maxRecDepth 100000 in
set_option maxHeartbeats 2000000 in
theorem sadd_any (w : World) (p : Nat) (A : Option Addr) (n c : Nat) (l : List UInt8) (hp : Blk w p 275 (u32s firstS ++ runT none 0 0 0).toArray) (hA : SlT (fun _ => True) 5 w 1 A n (u8s l)) (hn : n ≤ 1000000000) :
  Calls Tryz.prog 117 #[.pointer (some ⟨p, 0, none⟩), .slice A n c] w fun e w' => e = .returned (.tuple #[]) ∧ Fr (fun k => k = p) w w' ∧ ∃ A' k' c', SlT (fun _ => True) 5 w' 1 A' k' (u8s (absorb firstS l).2) ∧ k' ≤ c' ∧ c' ≤ maxLen ∧ Blk w' p 275 (u32s (absorb firstS l).1 ++ runT A' k' c' n).toArray := by
 obtain ⟨i0, hi0, hz0, hz1, hz2⟩ := info_parts Tryz.infoU8
 have HP := Lib.hid hp
 have HA := Lib.hid hA
 have r8 : w.cell? ⟨p, 8, none⟩ = some (.slice none 0 0) := by rw [hp.cell 8]; exact run_at8 firstS_len
 have r9 : w.cell? ⟨p, 9, none⟩ = some (U64 0) := by rw [hp.cell 9]; exact run_at9 firstS_len
 have r10 : w.cell? ⟨p, 10, none⟩ = some (.bool true) := by rw [hp.cell 10]; exact run_at10 firstS_len
 have rf := hp.frozen
 obtain ⟨w1, hw1⟩ : ∃ w1, w1 = w.setCell ⟨p, 9, none⟩ (U64 n) := ⟨_, rfl⟩
 have p1 : Blk w1 p 275 (u32s firstS ++ runT none 0 0 n).toArray := by
  have h1 := hp.set_ 9 (U64 n)
  rw [run_set9 firstS_len] at h1
  rw [hw1]
  exact h1
 have hA1 : SlT (fun _ => True) 5 w1 1 A n (u8s l) := by rw [hw1]; exact hA.keep ((KeepT.refl _ w).setCell hp (by decide) rfl _)
 have f1 : Fr (fun k => k = p) w w1 := by rw [hw1]; exact (Fr.refl (fun k => k = p) w).setCell rfl _
 have s8 : w1.cell? ⟨p, 8, none⟩ = some (.slice none 0 0) := by rw [p1.cell 8]; exact run_at8 firstS_len
 have HA1 := Lib.hid hA1
 have P1 := Lib.hid p1
 have F1 := Lib.hid f1
 have hnn : IntKind.u64.wrap (n : Int) = (n : Int) := wrapN64 n (by omega)
 have q1 := Lib.hid (show 0 + n ≤ maxLen by simp only [maxLen]; omega)
 have q2 := Lib.hid (show (0 + n) * 1 ≤ 140737488355328 by omega)
 have q3 := Lib.hid (Ow.nil_ (e := 5) (sz := 1) (Below.refl w1.heap.size w1))
 clear hp hA hA1 p1 f1
 go_enter Tryz.func117, Tryz.ntmps117
 subst hw1
 go_wp2_with (at_builtin; refine wpList_append_sl _ rfl (.tmp 32) (.tmp 33) _ rfl (w.setCell ⟨p, 9, none⟩ (U64 n)) 5 i0 _ 1 1 Tryz.underlying38 hi0 hz0 hz1 hz2 rfl Nat.one_pos none 0 0 [] rfl q3.out A n c (u8s l) rfl HA1.out.sl (one_u8s l) q1.out q2.out ?_; intro A5 c5 w5 hO5 hg5 hat5; have HO5 := Lib.hid hO5; clear hO5 hg5 hat5; have e5 := P1.out.step HO5.out.2; have t8 : w5.cell? ⟨p, 8, none⟩ = some (.slice none 0 0) := (by rw [e5.cell 8]; exact run_at8 firstS_len); have tf := e5.frozen; have E5 := Lib.hid e5; clear e5)
 have hcap := HO5.out.cap
 have h6 := E5.out.set_ 8 (.slice A5 (0 + n) c5)
 rw [run_set8 firstS_len] at h6
 have I0 : Hid (AddI w p n l firstS A5 (0 + n) c5 l (w5.setCell ⟨p, 8, none⟩ (.slice A5 (0 + n) c5))) := Lib.hid
  ⟨firstS_len, firstS_lt, rfl, h6, (((HO5.out.slT).weak (fun _ _ _ => trivial)).keep ((KeepT.refl _ w5).setCell E5.out (by decide) rfl _)), hcap, (F1.out.trans (.of_below HO5.out.2)).setCell rfl _⟩
 rw [Nat.zero_add] at I0
 have hn0 := hn
 clear t8 tf hcap h6 E5 HO5 s8 P1 HA1 F1 q1 q2 q3
 go_loopw [37] (fun _ wr => ∃ (st : List Nat) (A1 : Option Addr) (k c1 : Nat) (rs : List UInt8), k ≤ 1000000000 ∧ Hid (AddI w p n l st A1 k c1 rs wr)) (fun _ wr => lenAt8 wr p)
 case atStart => exact ⟨firstS, A5, n, c5, l, hn0, I0⟩
 case round =>
  obtain ⟨st, A1, k, c1, rs, hk, HI⟩ := hrel
  have c8 : wr.cell? ⟨p, 8, none⟩ = some (.slice A1 k c1) := by rw [HI.out.blk.cell 8]; exact run_at8 HI.out.len
  have cf := HI.out.blk.frozen
  by_cases h32 : 32 ≤ k
  ·have kc : ∀ V : World, (Instr.slice 38 (.slice A1 k c1) none (some (.int .i64 32)) none).run Tryz.prog V = .ok (.slice (cutA A1 c1 0 1) 32 c1) V := fun V => run_cut_h (P := Tryz.prog) V Tryz.underlying38 Tryz.sizeU8 A1 k c1 .i64 32 (by have := HI.out.cap; omega)
   have kd : ∀ V : World, (Instr.slice 38 (.slice A1 k c1) (some (.int .i64 32)) none none).run Tryz.prog V = .ok (.slice (cutA A1 c1 32 1) (k - 32) (c1 - 32)) V := fun V => run_cut_l (P := Tryz.prog) V Tryz.underlying38 Tryz.sizeU8 A1 k c1 .i64 32 h32
   have hlen : rs.length = k := u8s_len HI.out.row.sl
   have hbig := absorb_big (by omega : 32 ≤ rs.length) st
   rw [takeB_take] at hbig
   have CT := stake_any wr.drew p 275 st (runT A1 k c1 n) (cutA A1 c1 0 1) 32 c1 (rs.take 32) HI.out.blk.drew HI.out.len HI.out.lt ((HI.out.row.take_ h32 HI.out.cap.1).step (Below.refl _ wr).drew) (by omega) (by omega) (by have := HI.out.cap; omega) (by decide)
   rw [takeB_take] at CT
   have CT' := Lib.hid CT
   have Hbig := Lib.hid hbig
   have Hlen := Lib.hid hlen
   clear CT hbig hlen
   go_wp2
   go_still_tail 8, (by kernel_rfl)
   change wpList _ _ _ _ _ wr.drew
   go_wp2_with fail
   refine CT'.out.mono ?_
   rintro e w2 ⟨rfl, p2, f2'⟩
   have f2 : Fr (fun k => k = p) wr w2 := ((Fr.refl _ wr).drew).trans f2'
   clear f2'
   have kk2 : KeepT 5 wr w2 := KeepT.of_fr f2 (fun j cs fr e => by subst e; exact Blk.type HI.out.blk (by decide) cs fr)
   have d8 : w2.cell? ⟨p, 8, none⟩ = some (.slice A1 k c1) := by rw [p2.cell 8]; exact run_at8 (by rw [takeB_len]; exact HI.out.len)
   have df := p2.frozen
   have P2 := Lib.hid p2
   have F2 : Hid (Fr (fun k => k = p) wr w2) := Lib.hid f2
   have K2 := Lib.hid kk2
   clear p2 f2 kk2 c8 cf CT' kc
   go_wp2
   go_roundw
   case rel =>
    have h8 := P2.out.set_ 8 (.slice (cutA A1 c1 32 1) (k - 32) (c1 - 32))
    rw [run_set8 (by rw [takeB_len]; exact HI.out.len)] at h8
    refine ⟨takeB st rs, _, k - 32, c1 - 32, rs.drop 32, by omega, Lib.hid ⟨by rw [takeB_len]; exact HI.out.len, takeB_lt HI.out.lt, by rw [← Hbig.out]; exact HI.out.eq, h8, ?_, ?_, ?_⟩⟩
    ·exact ((HI.out.row.keep K2.out).drop_ h32 HI.out.cap.1).keep ((KeepT.refl _ w2).setCell P2.out (by decide) rfl _)
    ·have := HI.out.cap; omega
    ·exact (HI.out.fr.trans F2.out).setCell rfl _
   case measure =>
    have h8 := P2.out.set_ 8 (.slice (cutA A1 c1 32 1) (k - 32) (c1 - 32))
    rw [run_set8 (by rw [takeB_len]; exact HI.out.len)] at h8
    rw [lenAt8_of HI.out.len HI.out.blk, lenAt8_of (by rw [takeB_len]; exact HI.out.len) h8]
    omega
  ·go_wp2
   exact ⟨rfl, .tuple #[], results_none rfl _ _ _, rfl, HI.out.fr, by
    have hr : rs.length = k := u8s_len HI.out.row.sl
    have h1 := HI.out.eq
    rw [absorb_small (by omega)] at h1
    refine ⟨A1, k, c1, ?_, HI.out.cap.1, HI.out.cap.2, ?_⟩
    ·rw [← h1]; exact HI.out.row
    ·rw [← h1]; exact HI.out.blk⟩
theorem eight {st : List Nat} (h : st.length = 8) : ∃ a b c d e f g i, st = [a, b, c, d, e, f, g, i] := by
 match st, h with
 | [a, b, c, d, e, f, g, i], _ => exact ⟨a, b, c, d, e, f, g, i, rfl⟩
def lenV : Value → Nat
 | .slice _ n _ => n
 | _ => 0
theorem absorb_lt : ∀ (b : List UInt8) (s : List Nat), (∀ x ∈ s, x < 4294967296) → ∀ x ∈ (absorb s b).1, x < 4294967296 := by
 intro b
 induction h : b.length using Nat.strongRecOn generalizing b with
 | ind n ih =>
  intro s hs
  rw [absorb]
  by_cases h2 : 32 ≤ b.length
  ·rw [dif_pos h2]
   exact ih (b.drop 32).length (by simp; omega) (b.drop 32) rfl _ (takeB_lt hs)
  ·rw [dif_neg h2]
   exact hs
theorem run_index_words {cs : List Nat} (h : cs.length = 8) (i : Nat) (hi : i < 8) (V : World) : (Instr.index 272 (.agg (u32s cs).toArray) (.int .i64 (i : Int))).run Tryz.prog V = .ok (U32 (cs.getD i 0)) V := by
 have h1 : (sizeOf 179).run Tryz.prog V = .ok 1 V := by kernel_rfl
 have h2 : (0 : Int) ≤ i ∧ (i : Int) < 8 := by omega
 have h3 := u32s_at (s := cs) (r := []) (i := i) (by omega)
 rw [List.append_nil] at h3
 simp only [Instr.index, asIntOf, part]
 simp [run_underlying Tryz.underlying272, h1, h2]
 rw [if_pos hi, List.getElem?_eq_getElem (by omega)]
 rfl
structure EndI (w : World) (g : Nat) (st : List Nat) (T : List UInt8) (su : List Nat) (ts : List UInt8) (A : Option Addr) (m c : Nat) (W : World) : Prop where
 len : su.length = 8
 lt : ∀ x ∈ su, x < 4294967296
 eq : absorb su ts = absorb st T
 blk : Blk W g 272 (u32s su).toArray
 row : SlT (fun _ => True) 5 W 1 A m (u8s ts)
 cap : m ≤ c ∧ c ≤ maxLen
 mod : m % 32 = 0
 below : Below w.heap.size w W
set_option maxRecDepth 100000 in
set_option maxHeartbeats 4000000 in
theorem send_any (w : World) (p : Nat) (st : List Nat) (A : Option Addr) (k c N : Nat) (rs : List UInt8) (hp : Blk w p 275 (u32s st ++ runT A k c N).toArray) (hs : st.length = 8) (hlt : ∀ x ∈ st, x < 4294967296) (hA : SlT (fun _ => True) 5 w 1 A k (u8s rs)) (hk : k < 32) (hN : N < 18446744073709551616) :
  Calls Tryz.prog 118 #[.pointer (some ⟨p, 0, none⟩)] w fun e w' => e = .returned (S (((absorb st (rs ++ padOf k N)).1.map (fun x => leBytes x 4)).flatten)) ∧ Below w.heap.size w w' := by
 obtain ⟨i0, hi0, hz0, hz1, hz2⟩ := info_parts Tryz.infoU8
 have r8 : w.cell? ⟨p, 8, none⟩ = some (.slice A k c) := by rw [hp.cell 8]; exact run_at8 hs
 have r9 : w.cell? ⟨p, 9, none⟩ = some (U64 N) := by rw [hp.cell 9]; exact run_at9 hs
 have r10 : w.cell? ⟨p, 10, none⟩ = some (.bool true) := by rw [hp.cell 10]; exact run_at10 hs
 obtain ⟨a0, a1, a2, a3, a4, a5, a6, a7, rfl⟩ := eight hs
 obtain ⟨g, hg⟩ : ∃ g, g = w.heap.size := ⟨_, rfl⟩
 obtain ⟨w1, hw1⟩ : ∃ w1, w1 = w.alloc (.cells #[U32 a0, U32 a1, U32 a2, U32 a3, U32 a4, U32 a5, U32 a6, U32 a7] 272) := ⟨_, rfl⟩
 have e1 : Blk w1 g 272 (u32s [a0, a1, a2, a3, a4, a5, a6, a7]).toArray := by rw [hw1, hg]; exact Blk.new w _ _
 have b1 : Below w.heap.size w w1 := by rw [hw1]; exact balloc (Below.refl _ w) _
 have hp1 := hp.step b1
 have hA1 := hA.step b1
 have c0 : w.cell? ⟨p, 0, none⟩ = some (U32 a0) := hp.cell 0
 have c1 : w.cell? ⟨p, 1, none⟩ = some (U32 a1) := hp.cell 1
 have c2 : w.cell? ⟨p, 2, none⟩ = some (U32 a2) := hp.cell 2
 have c3 : w.cell? ⟨p, 3, none⟩ = some (U32 a3) := hp.cell 3
 have c4 : w.cell? ⟨p, 4, none⟩ = some (U32 a4) := hp.cell 4
 have c5 : w.cell? ⟨p, 5, none⟩ = some (U32 a5) := hp.cell 5
 have c6 : w.cell? ⟨p, 6, none⟩ = some (U32 a6) := hp.cell 6
 have c7 : w.cell? ⟨p, 7, none⟩ = some (U32 a7) := hp.cell 7
 have E1 := Lib.hid e1
 have B1 := Lib.hid b1
 have HP1 := Lib.hid hp1
 have HA1 := Lib.hid hA1
 have HL := Lib.hid hlt
 have Hs := Lib.hid hs
 have hrk : rs.length = k := u8s_len hA.sl
 have Hrk := Lib.hid hrk
 have hpl : p < w.heap.size := hp.lt
 have q0 := own_none w1 5
 rw [show w1.heap.size = w.heap.size + 1 by rw [hw1, World.size_alloc]] at q0
 have q1 := Lib.hid q0
 have HA2 := Lib.hid ((hA1.step (balloc (Below.refl _ w1) (.cells #[] 5))).sl)
 have Hg := Lib.hid hg
 have z1 := Lib.hid (show 0 + k ≤ maxLen by simp only [maxLen]; omega)
 have z2 := Lib.hid (show (0 + k) * 1 ≤ 140737488355328 by omega)
 have z3 := Lib.hid (show k + 1 ≤ maxLen by simp only [maxLen]; omega)
 have z4 := Lib.hid (show (k + 1) * 1 ≤ 140737488355328 by omega)
 have hw0 := Lib.hid hw1
 clear hp hA hlt e1 b1 hp1 hA1 hs hrk q0
 subst hw1
 go_enter Tryz.func118, Tryz.ntmps118
 go_wp2_with (first
  | (at_builtin; refine wpList_append_sl _ rfl (.tmp 23) (.tmp 27) _ rfl _ 5 i0 _ 1 1 Tryz.underlying38 hi0 hz0 hz1 hz2 rfl Nat.one_pos _ 0 0 [] rfl q1.out A k c (u8s rs) rfl HA2.out (one_u8s rs) z1.out z2.out ?_; intro A5 cc5 w5 hO5 hg5 hat5; rw [Nat.zero_add, List.nil_append] at hO5; have HO5 := Lib.hid (hO5.alloc (.cells #[U8 1] 5)); have HS6 := Lib.hid (sl_one w5 5 (U8 1)); clear hO5 hg5 hat5)
  | (at_builtin; refine wpList_append_sl _ rfl (.tmp 29) (.tmp 30) _ rfl _ 5 i0 _ 1 1 Tryz.underlying38 hi0 hz0 hz1 hz2 rfl Nat.one_pos A5 k cc5 _ rfl HO5.out _ 1 1 [U8 1] rfl HS6.out (by simp [Value.oneCell']) z3.out z4.out ?_; intro A6 cc6 w6 hO6 hg6 hat6; have HO6 := Lib.hid hO6; clear hO6 hg6 hat6))
 clear r8 r9 r10 c0 c1 c2 c3 c4 c5 c6 c7 z1 z2 z3 z4 q1 HA2 HO5 HS6
 generalize hW : w.alloc (.cells #[U32 a0, U32 a1, U32 a2, U32 a3, U32 a4, U32 a5, U32 a6, U32 a7] 272) = w1 at *
 rw [← hg]
 clear hW hw0 hg
 have I0 : Hid (Ow w1 w6 5 1 A6 (k + 1) cc6 (u8s (rs ++ [1] ++ List.replicate 0 0))) := Lib.hid (by
  have := HO6.out
  simpa [u8s] using this)
 clear HO6
 go_loopw [4] (fun s4 wr => ∃ (j m c9 : Nat) (A9 : Option Addr), j ≤ padLen k ∧ m ≤ 1000 ∧ s4 = .slice A9 m c9 ∧ Hid (m = k + 1 + j) ∧ Hid (Ow w1 wr 5 1 A9 m c9 (u8s (rs ++ [1] ++ List.replicate j 0)))) (fun s4 _ => 2000 - lenV s4)
 case atStart => exact ⟨0, k + 1, cc6, A6, Nat.zero_le _, by omega, rfl, Lib.hid rfl, I0⟩
 case round =>
  obtain ⟨j, m, c9, A9, hj, hm, rfl, Hm, HO⟩ := hrel
  by_cases hlt : j < padLen k
  ·have hq1 : ((m : Int) % 32 == 24) = false := by
    have h1 := Hm.out
    unfold padLen at hlt
    rw [beq_eq_false_iff_ne]
    omega
   have hq2 : ((m : Int) % 32 != 24) = true := by rw [bne, hq1]; rfl
   have HO2 := Lib.hid (HO.out.alloc (.cells #[U8 0] 5))
   have HS6 := Lib.hid (sl_one wr 5 (U8 0))
   have z1 := Lib.hid (show m + 1 ≤ maxLen by simp only [maxLen]; omega)
   have z2 := Lib.hid (show (m + 1) * 1 ≤ 140737488355328 by omega)
   have Hlt := Lib.hid hlt
   clear hlt
   go_wp2_with (at_builtin; refine wpList_append_sl _ rfl (.tmp 36) (.tmp 37) _ rfl _ 5 i0 _ 1 1 Tryz.underlying38 hi0 hz0 hz1 hz2 rfl Nat.one_pos A9 m c9 _ rfl HO2.out _ 1 1 [U8 0] rfl HS6.out (by simp [Value.oneCell']) z1.out z2.out ?_; intro A6 cc6 w6 hO6 hg6 hat6; have HO6 := Lib.hid hO6; clear hO6 hg6 hat6)
   go_roundw
   case rel => exact ⟨j + 1, m + 1, cc6, A6, Hlt.out, by have h1 := Hm.out; have h2 := Hlt.out; unfold padLen at h2; omega, rfl, Lib.hid (by rw [Hm.out]; omega), Lib.hid (by
    have h1 := HO6.out
    rw [List.replicate_succ', ← List.append_assoc]
    simpa [u8s] using h1)⟩
   case measure => simp [lenV]; omega
  ·obtain rfl : j = padLen k := by omega
   have hq1 : ((m : Int) % 32 == 24) = true := by
    have h1 := Hm.out
    unfold padLen at h1
    rw [beq_iff_eq]
    omega
   have hq2 : ((m : Int) % 32 != 24) = false := by rw [bne, hq1]; rfl
   clear hj hlt
   have r9 : wr.cell? ⟨p, 9, none⟩ = some (U64 N) := by rw [(HP1.out.step HO.out.2).cell 9]; exact run_at9 rfl
   have CL : Calls Tryz.prog 178 #[.slice A9 m c9, U64 N, .int .i64 8] wr fun e w' => ∃ A' c', e = .returned (.slice A' (m + 8) c') ∧ Ow w1 w' 5 1 A' (m + 8) c' (u8s (rs ++ [1] ++ List.replicate (padLen k) 0 ++ leBytes N 8)) := slaid_any w1 A9 m c9 _ N 8 wr HO.out hN (Nat.le_refl _) (by omega)
   have CL' := Lib.hid CL
   clear CL HO
   go_wp2_with (first
    | (go_at_call 178; refine CL'.out.mono ?_; rintro e w7 ⟨A7, c7, rfl, hO7⟩; have HO7 := Lib.hid hO7; clear hO7)
    | (at_builtin; refine wpList_append_zeros _ rfl (.tmp 45) (.const (.int .i64 32)) _ _ rfl w1 5 i0 .i64 Tryz.underlying38 Tryz.underlying3 hi0 hz0 hz1 hz2 A7 (m + 8) c7 _ 32 (by omega) (by omega) (by omega) rfl rfl HO7.out (by omega) ?_; intro A8 c8 w8 hO8; have HO8 := Lib.hid hO8; clear hO8))
   obtain ⟨T, hT⟩ : ∃ T, T = rs ++ padOf k N := ⟨_, rfl⟩
   have HT := Lib.hid hT
   have eT : rs ++ [1] ++ List.replicate (padLen k) 0 ++ leBytes N 8 ++ List.replicate 32 0 = T := by rw [hT]; simp [padOf]
   have hcap := HO8.out.cap
   have h8 := HO8.out
   rw [eT] at h8
   have I8 : Hid (EndI w g [a0, a1, a2, a3, a4, a5, a6, a7] T [a0, a1, a2, a3, a4, a5, a6, a7] T A8 (m + 8 + 32) c8 w8) := Lib.hid
    ⟨rfl, HL.out, rfl, E1.out.step h8.2, (h8.slT.weak (fun _ _ _ => trivial)), hcap, by have := Hm.out; unfold padLen at this; omega, bstep B1.out h8.2⟩
   clear hT eT hcap h8 HO8 HO7 CL' r9 hq1 hq2 Hm HL E1 HA1 HP1 B1
   go_loopw [4] (fun s4 wr => ∃ (m2 c9 : Nat) (A9 : Option Addr) (su : List Nat) (ts : List UInt8), m2 ≤ 2000 ∧ s4 = .slice A9 m2 c9 ∧ Hid (EndI w g [a0, a1, a2, a3, a4, a5, a6, a7] T su ts A9 m2 c9 wr)) (fun s4 _ => lenV s4)
   case atStart => exact ⟨m + 8 + 32, c8, A8, _, T, by omega, rfl, I8⟩
   case round =>
    obtain ⟨m2, c9, A9, su, ts, hm2, rfl, HI⟩ := hrel
    by_cases h0 : 0 < m2
    ·have h32 : 32 ≤ m2 := by have := HI.out.mod; omega
     have kc : ∀ V : World, (Instr.slice 38 (.slice A9 m2 c9) none (some (.int .i64 32)) none).run Tryz.prog V = .ok (.slice (cutA A9 c9 0 1) 32 c9) V := fun V => run_cut_h (P := Tryz.prog) V Tryz.underlying38 Tryz.sizeU8 A9 m2 c9 .i64 32 (by have := HI.out.cap; omega)
     have kd : ∀ V : World, (Instr.slice 38 (.slice A9 m2 c9) (some (.int .i64 32)) none none).run Tryz.prog V = .ok (.slice (cutA A9 c9 32 1) (m2 - 32) (c9 - 32)) V := fun V => run_cut_l (P := Tryz.prog) V Tryz.underlying38 Tryz.sizeU8 A9 m2 c9 .i64 32 h32
     have hbig := absorb_big (by rw [u8s_len HI.out.row.sl]; exact h32 : 32 ≤ ts.length) su
     rw [takeB_take] at hbig
     have CT := stake_any wr g 272 su [] (cutA A9 c9 0 1) 32 c9 (ts.take 32) (by rw [List.append_nil]; exact HI.out.blk) HI.out.len HI.out.lt (HI.out.row.take_ h32 HI.out.cap.1) (by omega) (by omega) (by have := HI.out.cap; omega) (by decide)
     rw [takeB_take, List.append_nil] at CT
     have CT' := Lib.hid CT
     have Hbig := Lib.hid hbig
     have hm0 : decide (0 < m2) = true := decide_eq_true h0
     clear CT hbig
     go_wp2_with (go_at_call 177; refine CT'.out.mono ?_; rintro e w9 ⟨rfl, p9, f9⟩; have P9 := Lib.hid p9; have F9 := Lib.hid f9; clear p9 f9)
     go_roundw
     case rel =>
      refine ⟨m2 - 32, c9 - 32, cutA A9 c9 32 1, takeB su ts, ts.drop 32, by omega, rfl, Lib.hid ⟨by rw [takeB_len]; exact HI.out.len, takeB_lt HI.out.lt, by rw [← Hbig.out]; exact HI.out.eq, P9.out, ?_, ?_, ?_, ?_⟩⟩
      ·exact (HI.out.row.keep (KeepT.of_fr F9.out (fun j cs fr e => by subst e; exact Blk.type HI.out.blk (by decide) cs fr))).drop_ h32 HI.out.cap.1
      ·have := HI.out.cap; omega
      ·have := HI.out.mod; omega
      ·exact HI.out.below.trans (F9.out.below HI.out.below.size (fun j e => by rw [e, Hg.out]; exact Nat.le_refl _))
     case measure => simp [lenV]; omega
    ·have hm0 : decide (0 < m2) = false := decide_eq_false h0
     have hts : ts = [] := List.eq_nil_of_length_eq_zero (by rw [u8s_len HI.out.row.sl]; omega)
     have heq := HI.out.eq
     rw [hts, absorb_small (by decide)] at heq
     have hsu : (absorb [a0, a1, a2, a3, a4, a5, a6, a7] T).1 = su := by rw [← heq]
     have hl := HI.out.len
     have hslt := HI.out.lt
     have HSu := Lib.hid hsu
     have hb := HI.out.blk
     have HBe := Lib.hid HI.out.below
     clear HI heq hts hsu h0
     obtain ⟨b0, b1, b2, b3, b4, b5, b6, b7, rfl⟩ := eight hl
     have HLs0 := Lib.hid hslt
     have l0 := hslt b0 (by simp)
     have l1 := hslt b1 (by simp)
     have l2 := hslt b2 (by simp)
     have l3 := hslt b3 (by simp)
     have l4 := hslt b4 (by simp)
     have l5 := hslt b5 (by simp)
     have l6 := hslt b6 (by simp)
     have l7 := hslt b7 (by simp)
     clear hslt
     have c0 : wr.cell? ⟨g, 0, none⟩ = some (U32 b0) := hb.cell 0
     have c1 : wr.cell? ⟨g, 1, none⟩ = some (U32 b1) := hb.cell 1
     have c2 : wr.cell? ⟨g, 2, none⟩ = some (U32 b2) := hb.cell 2
     have c3 : wr.cell? ⟨g, 3, none⟩ = some (U32 b3) := hb.cell 3
     have c4 : wr.cell? ⟨g, 4, none⟩ = some (U32 b4) := hb.cell 4
     have c5 : wr.cell? ⟨g, 5, none⟩ = some (U32 b5) := hb.cell 5
     have c6 : wr.cell? ⟨g, 6, none⟩ = some (U32 b6) := hb.cell 6
     have c7 : wr.cell? ⟨g, 7, none⟩ = some (U32 b7) := hb.cell 7
     clear hl hb
     go_wp2
     obtain ⟨wb, hwb⟩ : ∃ wb, wb = wr := ⟨_, rfl⟩
     have HWb := Lib.hid hwb
     have HBb : Hid (Below w.heap.size w wb) := Lib.hid (by rw [hwb]; exact HBe.out)
     have J0 : Hid (Ow wb wr 5 1 none 0 0 (u8s [])) := Lib.hid (by rw [hwb]; exact Ow.nil_ (Below.refl _ _))
     clear hwb c0 c1 c2 c3 c4 c5 c6 c7 hm0 I8 I0
     obtain ⟨lst, hlst⟩ : ∃ lst : List Nat, lst = [b0, b1, b2, b3, b4, b5, b6, b7] := ⟨_, rfl⟩
     have Hlst := Lib.hid hlst
     have HLs : Hid (∀ x ∈ lst, x < 4294967296) := Lib.hid (by rw [hlst]; exact HLs0.out)
     clear hlst
     go_loopw [5, 7, 56] (fun s5 _ s56 wr => ∃ (i c1 : Nat) (A1 : Option Addr), i ≤ 8 ∧ s56 = .int .i64 i ∧ s5 = .slice A1 (4 * i) c1 ∧ Hid (Ow wb wr 5 1 A1 (4 * i) c1 (u8s (((lst.take i).map (fun x => leBytes x 4)).flatten)))) (fun _ _ s56 _ => 8 - (intOf s56).toNat)
     case atStart => exact ⟨0, 0, none, by omega, rfl, rfl, Lib.hid (by simpa using J0.out)⟩
     case round =>
      obtain ⟨i, c1, A1, hi, rfl, rfl, HO⟩ := hrel
      by_cases hlt : i < 8
      ·have CLa : Hid (∀ x, x < 4294967296 → Calls Tryz.prog 178 #[.slice A1 (4 * i) c1, U64 x, .int .i64 4] wr fun e w' => ∃ A' c', e = .returned (.slice A' (4 * i + 4) c') ∧ Ow wb w' 5 1 A' (4 * i + 4) c' (u8s ((((lst.take i).map (fun x => leBytes x 4)).flatten) ++ leBytes x 4))) := Lib.hid (fun x hx => slaid_any wb A1 (4 * i) c1 _ x 4 wr HO.out (by omega) (by omega) (by omega))
       have hxi : lst[i]? = some (lst.getD i 0) := by rw [List.getD_eq_getElem?_getD, List.getElem?_eq_getElem (by rw [Hlst.out]; exact hlt)]; rfl
       have kI : ∀ V : World, (Instr.index 272 (.agg #[U32 b0, U32 b1, U32 b2, U32 b3, U32 b4, U32 b5, U32 b6, U32 b7]) (.int .i64 (i : Int))).run Tryz.prog V = .ok (U32 (lst.getD i 0)) V := fun V => by
        have h1 := run_index_words (cs := lst) (by rw [Hlst.out]; rfl) i hlt V
        rw [show (u32s lst).toArray = #[U32 b0, U32 b1, U32 b2, U32 b3, U32 b4, U32 b5, U32 b6, U32 b7] by rw [Hlst.out]; rfl] at h1
        exact h1
       obtain ⟨x, hx⟩ : ∃ x, x = lst.getD i 0 := ⟨_, rfl⟩
       rw [← hx] at kI hxi
       have hxl : x < 4294967296 := HLs.out x (List.mem_of_getElem? hxi)
       have HR : Hid (((lst.take (i + 1)).map (fun x => leBytes x 4)).flatten = (((lst.take i).map (fun x => leBytes x 4)).flatten) ++ leBytes x 4) := Lib.hid (by rw [List.take_add_one, hxi]; simp)
       have CLx := Lib.hid (CLa.out x hxl)
       clear hx hxi CLa HO
       go_wp2_with (go_at_call 178; refine CLx.out.mono ?_; rintro e w7 ⟨A7, c7, rfl, hO7⟩; have HO7 := Lib.hid hO7; clear hO7)
       go_roundw
       case rel => exact ⟨i + 1, c7, A7, hlt, by go_num, by rw [show 4 * (i + 1) = 4 * i + 4 by omega], Lib.hid (by rw [HR.out, show 4 * (i + 1) = 4 * i + 4 by omega]; exact HO7.out)⟩
       case measure => simp [intOf]; omega
      ·obtain rfl : i = 8 := by omega
       rw [List.take_of_length_le (by rw [Hlst.out]; exact Nat.le_refl _)] at HO
       have hcv := run_conv_str (P := Tryz.prog) wr 38 9 5 A1 (4 * 8) c1 _ Tryz.underlying38 Tryz.underlying5 Tryz.underlying9 HO.out.sl
       go_wp2
       go_ret
       refine ⟨by rw [← HT.out, HSu.out, Hlst.out]; rfl, HBb.out.trans (HO.out.2.mono HBb.out.size)⟩
set_option maxRecDepth 100000 in
set_option maxHeartbeats 1000000 in
/-- sum.Sum -/
theorem sum_any (w : World) (A : Option Addr) (n c : Nat) (l : List UInt8) (hA : SlT (fun _ => True) 5 w 1 A n (u8s l)) (hn : n ≤ 1000000000) :
  Calls Tryz.prog 69 #[.slice A n c] w fun e w' => e = .returned (S (sumL l)) ∧ Below w.heap.size w w' := by
 have HA := Lib.hid hA
 have hl : l.length = n := u8s_len hA.sl
 have Hl := Lib.hid hl
 have CN := Lib.hid (snew_any w)
 clear hA hl
 go_enter Tryz.func69, Tryz.ntmps69
 go_wp2_with fail
 refine CN.out.mono ?_
 rintro e w1 ⟨p, rfl, hp, hB, hb⟩
 have Hp := Lib.hid hp
 have HB := Lib.hid hb
 have CA := Lib.hid (sadd_any w1 p A n c l hB (HA.out.step hb) hn)
 clear hp hB hb CN
 go_wp2_with fail
 refine CA.out.mono ?_
 rintro e w2 ⟨rfl, hf, A', k', c', hr, h1, h2, hB2⟩
 have hk : (absorb firstS l).2.length = k' := u8s_len hr.sl
 have hk2 := absorb_rest l firstS
 have CE := Lib.hid (send_any w2 p (absorb firstS l).1 A' k' c' n (absorb firstS l).2 hB2 (by rw [absorb_len, firstS_len]) (absorb_lt l _ firstS_lt) hr (by omega) (by omega))
 have HB2 : Hid (Below w.heap.size w w2) := Lib.hid (HB.out.trans (hf.below HB.out.size (fun j e => by rw [e]; exact Hp.out)))
 have Hk := Lib.hid hk
 clear hf hr h1 h2 hB2 hk hk2 CA
 go_wp2_with fail
 refine CE.out.mono ?_
 rintro e w3 ⟨rfl, b3⟩
 have HB3 := Lib.hid (bstep HB2.out b3)
 clear b3 CE
 go_wp2
 go_ret
 refine ⟨?_, HB3.out⟩
 have e : sumL l = ((absorb (absorb firstS l).1 ((absorb firstS l).2 ++ padOf k' n)).1.map (fun x => leBytes x 4)).flatten := by
  show ((absorb (absorb firstS l).1 ((absorb firstS l).2 ++ padOf (absorb firstS l).2.length (l.length % 18446744073709551616))).1.map (fun x => leBytes x 4)).flatten = _
  rw [Hk.out, Hl.out, Nat.mod_eq_of_lt (by omega)]
 rw [e]
 rfl
end Go.Proofs.YtcednfmkiaelnaaGreatDoor
