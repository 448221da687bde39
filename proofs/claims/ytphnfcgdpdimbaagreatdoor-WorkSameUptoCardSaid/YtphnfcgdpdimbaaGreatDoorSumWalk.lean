/-
  The hash's small functions: a word turned, four bytes as a number, a number as bytes, the first state. Conditions: words are below 2^32.
-/
import Derived.Test.YtphnfcgdpdimbaaGreatDoorKitX
import Derived.Test.YtphnfcgdpdimbaaGreatDoorKitW
import Derived.Test.YtphnfcgdpdimbaaGreatDoorKitG
namespace Go.Proofs.YtphnfcgdpdimbaaGreatDoor
open Go.RowKit

abbrev U32 (x : Nat) : Value := .int .u32 (x : Int)
abbrev U64 (x : Nat) : Value := .int .u64 (x : Int)
theorem wrapN32 (n : Nat) (h : n < 2 ^ 32) : IntKind.u32.wrap (n : Int) = (n : Int) := by
  rw [IntKind.wrap_u32]
  omega
theorem wrapN64 (n : Nat) (h : n < 2 ^ 64) : IntKind.u64.wrap (n : Int) = (n : Int) := by
  show ((n : Int) % 18446744073709551616) = n
  omega
theorem ofInt32 (a : Nat) (ha : a < 4294967296) : (BitVec.ofInt 32 (a : Int)).toNat = a := by
  rw [BitVec.ofInt_natCast, BitVec.toNat_ofNat, Nat.mod_eq_of_lt ha]
theorem ofInt64 (a : Nat) (ha : a < 18446744073709551616) : (BitVec.ofInt 64 (a : Int)).toNat = a := by
  rw [BitVec.ofInt_natCast, BitVec.toNat_ofNat, Nat.mod_eq_of_lt ha]
theorem or32 (a b : Nat) (ha : a < 4294967296) (hb : b < 4294967296) : bits .or .u32 (a : Int) (b : Int) = ((a ||| b : Nat) : Int) := by
  have e : bits .or .u32 (a : Int) (b : Int) = IntKind.u32.wrap (((BitVec.ofInt 32 a ||| BitVec.ofInt 32 b).toNat : Nat) : Int) := rfl
  rw [e, wrapN32 _ (BitVec.isLt _), BitVec.toNat_or, ofInt32 a ha, ofInt32 b hb]
theorem xor32 (a b : Nat) (ha : a < 4294967296) (hb : b < 4294967296) : bits .xor .u32 (a : Int) (b : Int) = ((a ^^^ b : Nat) : Int) := by
  have e : bits .xor .u32 (a : Int) (b : Int) = IntKind.u32.wrap (((BitVec.ofInt 32 a ^^^ BitVec.ofInt 32 b).toNat : Nat) : Int) := rfl
  rw [e, wrapN32 _ (BitVec.isLt _), BitVec.toNat_xor, ofInt32 a ha, ofInt32 b hb]
theorem or64 (a b : Nat) (ha : a < 18446744073709551616) (hb : b < 18446744073709551616) : bits .or .u64 (a : Int) (b : Int) = ((a ||| b : Nat) : Int) := by
  have e : bits .or .u64 (a : Int) (b : Int) = IntKind.u64.wrap (((BitVec.ofInt 64 a ||| BitVec.ofInt 64 b).toNat : Nat) : Int) := rfl
  rw [e, wrapN64 _ (BitVec.isLt _), BitVec.toNat_or, ofInt64 a ha, ofInt64 b hb]
theorem and64 (a b : Nat) (ha : a < 18446744073709551616) (hb : b < 18446744073709551616) : bits .and .u64 (a : Int) (b : Int) = ((a &&& b : Nat) : Int) := by
  have e : bits .and .u64 (a : Int) (b : Int) = IntKind.u64.wrap (((BitVec.ofInt 64 a &&& BitVec.ofInt 64 b).toNat : Nat) : Int) := rfl
  rw [e, wrapN64 _ (BitVec.isLt _), BitVec.toNat_and, ofInt64 a ha, ofInt64 b hb]
set_option maxRecDepth 100000 in
theorem rot_any (x k : Nat) (w : World) (hx : x < 4294967296) (hk : 0 < k) (hk2 : k < 32) :
    Calls Tryz.prog 292 #[U32 x, I k] w fun e w' => e = .returned (U32 (rot32 x k)) ∧ w' = w := by
  have h31 : bits .and .u64 (k : Int) 31 = (k : Int) := by
    have h1 := and64 k 31 (by omega) (by omega)
    rw [show k &&& 31 = k from by rw [show (31 : Nat) = 2 ^ 5 - 1 from rfl, Nat.and_two_pow_sub_one_eq_mod, Nat.mod_eq_of_lt (by omega)]] at h1
    exact h1
  go_enter Tryz.func292, Tryz.ntmps292
  go_wp2
  go_ret
  refine ⟨?_, rfl⟩
  have e1 : (x : Int) * 2 ^ k % 4294967296 = (((x <<< k) % two32 : Nat) : Int) := by
    rw [Nat.shiftLeft_eq, Int.natCast_emod, Int.natCast_mul, Int.natCast_pow]
    rfl
  have e2 : (x : Int) / 2 ^ (32 - k) = ((x >>> (32 - k) : Nat) : Int) := by
    rw [Nat.shiftRight_eq_div_pow, Int.natCast_ediv, Int.natCast_pow]
    rfl
  rw [e1, e2, or32 _ _ (Nat.mod_lt _ (by decide)) (by rw [Nat.shiftRight_eq_div_pow]; exact Nat.lt_of_le_of_lt (Nat.div_le_self _ _) hx)]
  rfl
/-- the number of the first k bytes -/
def numK (l : List UInt8) : Nat → Nat
  | 0 => 0
  | k + 1 => numK l k + (l.getD k 0).toNat * 256 ^ k
theorem numK_lt (l : List UInt8) : ∀ k, numK l k < 256 ^ k
  | 0 => by simp [numK]
  | k + 1 => by
    have h1 := numK_lt l k
    have h2 : (l.getD k 0).toNat ≤ 255 := by have := (l.getD k 0).toNat_lt; omega
    have h3 : (l.getD k 0).toNat * 256 ^ k ≤ 255 * 256 ^ k := Nat.mul_le_mul_right _ h2
    rw [numK, Nat.pow_succ]
    omega
theorem numK_or (l : List UInt8) (k : Nat) : numK l k ||| (l.getD k 0).toNat * 2 ^ (8 * k) = numK l (k + 1) := by
  have h1 := numK_lt l k
  rw [show (256 : Nat) = 2 ^ 8 from rfl, ← Nat.pow_mul] at h1
  have h2 := Nat.two_pow_add_eq_or_of_lt h1 (l.getD k 0).toNat
  rw [Nat.or_comm, Nat.mul_comm, ← h2, numK, show (256 : Nat) = 2 ^ 8 from rfl, ← Nat.pow_mul]
  rw [Nat.mul_comm]
  omega
theorem numK4 (l : List UInt8) : numK l 4 = num4 l 0 := by
  simp only [numK, num4, Nat.zero_add, Nat.reducePow]
  omega
set_option maxRecDepth 100000 in
theorem number4_any (A : Option Addr) (n c : Nat) (l : List UInt8) (w : World) (hA : Sl w 1 A n (u8s l)) (hn : 4 ≤ n) (hn2 : n ≤ 1000000000) :
    Calls Tryz.prog 291 #[.slice A n c, I 4] w fun e w' => e = .returned (U64 (num4 l 0)) ∧ w' = w := by
  have HA := Lib.hid hA
  clear hA
  go_enter Tryz.func291, Tryz.ntmps291
  go_wp2
  go_loop [5, 8] (fun x i => ∃ k : Nat, k ≤ 4 ∧ i = .int .i64 k ∧ x = U64 (numK l k)) (fun _ i => 4 - (intOf i).toNat)
  case atStart => exact ⟨0, by omega, rfl, rfl⟩
  case round =>
    obtain ⟨k, hk, rfl, rfl⟩ := hrel
    by_cases hlt : k < 4
    · obtain ⟨b, off, x, rfl, hx, hc⟩ := HA.out.byte (show k < n by omega)
      have hxg : l.getD k 0 = x := by simp [hx]
      have hb := x.toNat_lt
      have ho := numK_or l k
      have hl := numK_lt l k
      have hl2 : numK l k < 18446744073709551616 := Nat.lt_of_lt_of_le hl (Nat.le_trans (Nat.pow_le_pow_right (by decide) hk) (by decide))
      have hs : x.toNat * 2 ^ (8 * k) < 18446744073709551616 := by
        have h1 : (2 : Nat) ^ (8 * k) ≤ 2 ^ 24 := Nat.pow_le_pow_right (by decide) (by omega)
        have h2 : x.toNat * 2 ^ (8 * k) ≤ 256 * 2 ^ 24 := Nat.mul_le_mul (by omega) h1
        have h3 : 256 * 2 ^ 24 < 18446744073709551616 := by decide
        omega
      rw [hxg] at ho
      have h64 := or64 (numK l k) (x.toNat * 2 ^ (8 * k)) hl2 hs
      rw [ho] at h64
      have H64 := Lib.hid h64
      have Hs := Lib.hid hs
      have hkk : min (8 * k) 64 = 8 * k := by omega
      clear hx hxg ho hl hl2 hs h64
      go_wp2
      go_round
      case rel =>
        refine ⟨k + 1, hlt, by go_num, ?_⟩
        have e1 : IntKind.u64.wrap ((x.toNat : Int) * 2 ^ (8 * k)) = ((x.toNat * 2 ^ (8 * k) : Nat) : Int) := by
          rw [← wrapN64 _ Hs.out, Int.natCast_mul, Int.natCast_pow]
          rfl
        rw [e1, H64.out]
      case measure => simp [intOf]; omega
    · obtain rfl : k = 4 := by omega
      go_wp2
      go_ret
      exact ⟨by rw [numK4]; rfl, rfl⟩
/-- a number's first k bytes -/
theorem leBytes_snoc : ∀ (k x : Nat), leBytes x (k + 1) = leBytes x k ++ [UInt8.ofNat (x / 256 ^ k % 256)]
  | 0, x => by simp [leBytes]
  | k + 1, x => by
    rw [leBytes, leBytes_snoc k (x / 256), leBytes, List.cons_append, Nat.div_div_eq_div_mul, Nat.pow_succ, Nat.mul_comm (256 ^ k)]
set_option maxRecDepth 100000 in
set_option maxHeartbeats 1000000 in
theorem slaid_any (w0 : World) (A : Option Addr) (n c : Nat) (l : List UInt8) (x m : Nat) (w : World) (hO : Ow w0 w 5 1 A n c (u8s l)) (hx : x < 18446744073709551616) (hm : m ≤ 8) (hn : n ≤ 1000000000) :
    Calls Tryz.prog 239 #[.slice A n c, U64 x, I m] w fun e w' => ∃ A' c', e = .returned (.slice A' (n + m) c') ∧ Ow w0 w' 5 1 A' (n + m) c' (u8s (l ++ leBytes x m)) := by
  obtain ⟨i0, hi0, hz0, hz1, hz2⟩ := info_parts Tryz.infoU8
  go_enter Tryz.func239, Tryz.ntmps239
  go_wp2
  go_loopw [0, 1, 8] (fun b z i wr => ∃ (k c1 : Nat) (A1 : Option Addr), k ≤ m ∧ i = .int .i64 k ∧ z = U64 (x / 256 ^ k) ∧ b = .slice A1 (n + k) c1 ∧ Hid (Ow w0 wr 5 1 A1 (n + k) c1 (u8s (l ++ leBytes x k)))) (fun _ _ i _ => m - (intOf i).toNat)
  case atStart => exact ⟨0, c, A, Nat.zero_le _, rfl, by simp, rfl, Lib.hid (by simpa [leBytes] using hO)⟩
  case round =>
    obtain ⟨k, c1, A1, hk, rfl, rfl, rfl, HO⟩ := hrel
    by_cases hlt : k < m
    · have hz : x / 256 ^ k < 18446744073709551616 := Nat.lt_of_le_of_lt (Nat.div_le_self _ _) hx
      have ew : IntKind.u8.wrap ((x / 256 ^ k : Nat) : Int) = ((UInt8.ofNat (x / 256 ^ k % 256)).toNat : Int) := by
        rw [IntKind.wrap_u8]
        simp
      obtain ⟨y, hy⟩ : ∃ y : Nat, y = x / 256 ^ k := ⟨_, rfl⟩
      have Hy := Lib.hid hy
      rw [← hy] at ew hz ⊢
      have eu : U8 (UInt8.ofNat (y % 256)) = .int .u8 (IntKind.u8.wrap (y : Int)) := by rw [ew]
      have HS6 := Lib.hid (sl_one wr 5 (.int .u8 (IntKind.u8.wrap (y : Int))))
      have HO2 := Lib.hid (HO.out.alloc (.cells #[.int .u8 (IntKind.u8.wrap (y : Int))] 5))
      have q1 := Lib.hid (show n + k + 1 ≤ maxLen by simp only [maxLen]; omega)
      have q2 := Lib.hid (show (n + k + 1) * 1 ≤ 140737488355328 by omega)
      have HE := Lib.hid (show u8s (l ++ leBytes x (k + 1)) = u8s (l ++ leBytes x k) ++ [.int .u8 (IntKind.u8.wrap (y : Int))] by rw [leBytes_snoc, ← hy, ← eu]; simp [u8s])
      have HZ := Lib.hid (show y / 256 = x / 256 ^ (k + 1) by rw [hy, Nat.div_div_eq_div_mul, Nat.pow_succ])
      clear hy ew eu
      go_wp2_with (at_builtin; refine wpList_append_sl _ rfl (.tmp 10) (.tmp 13) _ rfl w0 5 i0 _ 1 1 Tryz.underlying27 hi0 hz0 hz1 hz2 rfl Nat.one_pos A1 (n + k) c1 _ rfl HO2.out _ 1 1 [.int .u8 (IntKind.u8.wrap (y : Int))] rfl HS6.out (by simp [Value.oneCell']) q1.out q2.out ?_; intro A5 c5 w5 hO5 hg5 hat5; have HO5 := Lib.hid hO5; clear hO5 hg5 hat5)
      go_roundw
      case rel => exact ⟨k + 1, c5, A5, hlt, by go_num, by rw [← HZ.out]; simp, by rw [Nat.add_assoc], Lib.hid (by rw [HE.out, ← Nat.add_assoc]; exact HO5.out)⟩
      case measure => simp [intOf]; omega
    · obtain rfl : k = m := by omega
      go_wp2
      go_ret
      exact ⟨A1, c1, rfl, HO.out⟩
/-- words as cells -/
abbrev u32s (l : List Nat) : List Value := l.map U32
theorem u32s_set (s : List Nat) (i x : Nat) (r : List Value) : (u32s s ++ r).toArray.setIfInBounds i (U32 x) = if i < s.length then (u32s (s.set i x) ++ r).toArray else (u32s s ++ r).toArray.setIfInBounds i (U32 x) := by
  split
  · rename_i h
    simp only [List.setIfInBounds_toArray]
    rw [List.set_append_left _ _ (by simpa using h)]
    simp [u32s, List.map_set]
  · rfl
theorem u32s_at {s : List Nat} {r : List Value} {i : Nat} (h : i < s.length) : (u32s s ++ r).toArray[i]? = some (U32 (s.getD i 0)) := by
  rw [List.getElem?_toArray, List.getElem?_append_left (by simpa using h), List.getElem?_map, List.getElem?_eq_getElem h, List.getD_eq_getElem?_getD, List.getElem?_eq_getElem h]
  rfl
/-- the first i words of the first state, then nothing -/
def firstK (i : Nat) : List Nat := (List.range 8).map fun j => if j < i then (j + 1) * 2654435769 % two32 else 0
theorem firstK_len (i : Nat) : (firstK i).length = 8 := by simp [firstK]
theorem firstK_step {k : Nat} (h : k < 8) : (firstK k).set k ((k + 1) * 2654435769 % two32) = firstK (k + 1) := by
  rcases (by omega : k = 0 ∨ k = 1 ∨ k = 2 ∨ k = 3 ∨ k = 4 ∨ k = 5 ∨ k = 6 ∨ k = 7) with rfl | rfl | rfl | rfl | rfl | rfl | rfl | rfl <;> decide
theorem firstK_all : firstK 8 = firstS := by decide
set_option maxRecDepth 100000 in
set_option maxHeartbeats 1000000 in
theorem first_any (w : World) :
    Calls Tryz.prog 237 #[] w fun e w' => e = .returned (.agg (u32s firstS).toArray) ∧ Below w.heap.size w w' := by
  obtain ⟨g, hg⟩ : ∃ g, g = w.heap.size := ⟨_, rfl⟩
  obtain ⟨w2, hw2⟩ : ∃ w2, w2 = (w.alloc (.cells (u32s (firstK 0)).toArray 329)).alloc (.cells (u32s (firstK 0)).toArray 329) := ⟨_, rfl⟩
  have e0 : Blk w2 g 329 (u32s (firstK 0)).toArray := by rw [hw2, hg]; exact (Blk.new w _ _).alloc _
  have e1 : Blk w2 (g + 1) 329 (u32s (firstK 0)).toArray := by rw [hw2, hg]; have := Blk.new (w.alloc (.cells (u32s (firstK 0)).toArray 329)) 329 (u32s (firstK 0)).toArray; rwa [World.size_alloc] at this
  have b2 : Below w.heap.size w w2 := by rw [hw2]; exact balloc (balloc (Below.refl _ w) _) _
  have E0 := Lib.hid e0
  have E1 := Lib.hid e1
  have B2 := Lib.hid b2
  have Hg := Lib.hid hg
  clear e0 e1 b2
  go_enter Tryz.func237, Tryz.ntmps237
  go_wp2
  rw [show (w.alloc (.cells #[.int .u32 0, .int .u32 0, .int .u32 0, .int .u32 0, .int .u32 0, .int .u32 0, .int .u32 0, .int .u32 0] 329)).alloc (.cells #[.int .u32 0, .int .u32 0, .int .u32 0, .int .u32 0, .int .u32 0, .int .u32 0, .int .u32 0, .int .u32 0] 329) = w2 from hw2.symm]
  simp only [← hg]
  clear hw2 hg
  go_loopw [2, 3] (fun _ i wr => ∃ k : Nat, k ≤ 8 ∧ i = .int .i64 k ∧ Hid (Blk wr g 329 (u32s (firstK 0)).toArray) ∧ Hid (Blk wr (g + 1) 329 (u32s (firstK k)).toArray) ∧ Hid (Below g w wr)) (fun _ i _ => 8 - (intOf i).toNat)
  case atStart => exact ⟨0, by omega, rfl, E0, E1, Lib.hid (by rw [Hg.out]; exact B2.out)⟩
  case round =>
    obtain ⟨k, hk, rfl, H0, H1, HB⟩ := hrel
    by_cases hlt : k < 8
    · have ef := H1.out.frozen
      have ek : wr.cell? ⟨g + 1, k, none⟩ = some (U32 ((firstK k).getD k 0)) := by
        rw [H1.out.cell k]
        have h1 := u32s_at (s := firstK k) (r := []) (i := k) (by rw [firstK_len]; exact hlt)
        rwa [List.append_nil] at h1
      go_wp2
      go_roundw
      case rel =>
        have em : ((k : Int) + 1) * 2654435769 % 4294967296 = (((k + 1) * 2654435769 % 4294967296 : Nat) : Int) := by omega
        rw [em]
        have h1 := H1.out.set_ k (U32 ((k + 1) * 2654435769 % two32))
        have h2 := u32s_set (firstK k) k ((k + 1) * 2654435769 % two32) []
        rw [List.append_nil, if_pos (by rw [firstK_len]; exact hlt), firstK_step hlt, List.append_nil] at h2
        rw [h2] at h1
        exact ⟨k + 1, hlt, by go_num, Lib.hid (H0.out.far (by show g ≠ g + 1; omega) _), Lib.hid h1, Lib.hid (HB.out.setCell (p := ⟨g + 1, k, none⟩) (Nat.le_succ g) _)⟩
      case measure => simp [intOf]; omega
    · obtain rfl : k = 8 := by omega
      rw [firstK_all] at H1
      have e1 : firstS = [2654435769, 1013904242, 3668340011, 2027808484, 387276957, 3041712726, 1401181199, 4055616968] := by decide
      have e0 : firstK 0 = [0, 0, 0, 0, 0, 0, 0, 0] := by decide
      have r1 := H1.out.cell
      have r0 := H0.out.cell
      have f0 := H0.out.frozen
      rw [e1] at r1
      rw [e0] at r0
      simp only [u32s, List.map_cons, List.map_nil] at r0 r1
      clear e1 e0
      go_wp2
      have hb := (((((((H0.out.set_ 0 (U32 2654435769)).set_ 1 (U32 1013904242)).set_ 2 (U32 3668340011)).set_ 3 (U32 2027808484)).set_ 4 (U32 387276957)).set_ 5 (U32 3041712726)).set_ 6 (U32 1401181199)).set_ 7 (U32 4055616968)
      refine bodyPost_ret (results_cell_row (d := .array 8 263) rfl _ _ g 329 (u32s firstS).toArray (0, 0) rfl hb Tryz.underlying329 rfl (by kernel_rfl)) rfl ⟨rfl, ?_⟩
      rw [← Hg.out]
      exact (((((((HB.out.setCell (p := ⟨g, 0, none⟩) (Nat.le_refl g) _).setCell (p := ⟨g, 1, none⟩) (Nat.le_refl g) _).setCell (p := ⟨g, 2, none⟩) (Nat.le_refl g) _).setCell (p := ⟨g, 3, none⟩) (Nat.le_refl g) _).setCell (p := ⟨g, 4, none⟩) (Nat.le_refl g) _).setCell (p := ⟨g, 5, none⟩) (Nat.le_refl g) _).setCell (p := ⟨g, 6, none⟩) (Nat.le_refl g) _).setCell (p := ⟨g, 7, none⟩) (Nat.le_refl g) _
end Go.Proofs.YtphnfcgdpdimbaaGreatDoor
