/-
  Texts merged: Take, Bytes. What each law says and asks stands at its head.
-/
import Derived.Test.YtphnfcgdpdimbaaGreatDoorRKitG
import Derived.Test.YtphnfcgdpdimbaaGreatDoorRKitW
import Derived.Deep.RegionHeld3
namespace Go.Proofs.YtphnfcgdpdimbaaGreatDoor
open Go.RowKit
def RetTake (w : World) (l : List UInt8) (e : Ending) (w' : World) : Prop :=
 (∃ v rest A m c, takeNum l = some (v, rest) ∧ e = .returned (.tuple #[I (v : Nat), .slice A m c, I 0]) ∧ Ow w w' 5 1 A m c (u8s rest)) ∨
 (takeNum l = none ∧ e = .returned (.tuple #[I 0, .slice none 0 0, I 2]) ∧ Below w.heap.size w w')
theorem and127_fin : ∀ m : Fin 256, bits BinOp.and IntKind.u8 ((m.val : Nat) : Int) 127 = ((m.val % 128 : Nat) : Int) := by decide +kernel
theorem and127 (x : UInt8) : bits BinOp.and IntKind.u8 (x.toNat : Int) 127 = ((x.toNat % 128 : Nat) : Int) := and127_fin ⟨x.toNat, x.toNat_lt⟩
theorem wrap_u64 (a : Nat) (h : a < 18446744073709551616) : IntKind.u64.wrap (a : Int) = (a : Int) := by
 simp only [IntKind.wrap, IntKind.signed, IntKind.bits]
 simp
 omega
theorem pow128 (k : Nat) : 128 ^ k = 2 ^ (7 * k) := by rw [Nat.pow_mul]
theorem or_disjoint (a d k : Nat) (h : a < 2 ^ k) : a ||| d * 2 ^ k = a + d * 2 ^ k := by
 have e := Nat.two_pow_add_eq_or_of_lt h d
 rw [Nat.mul_comm d, Nat.or_comm, ← e, Nat.add_comm]
theorem or_u64 (a b : Nat) (ha : a < 18446744073709551616) (hb : b < 18446744073709551616) : bits BinOp.or IntKind.u64 (a : Int) (b : Int) = ((a ||| b : Nat) : Int) := by
 have h1 : (BitVec.ofInt 64 (a : Int)).toNat = a := by rw [BitVec.ofInt_natCast, BitVec.toNat_ofNat]; exact Nat.mod_eq_of_lt (by simpa using ha)
 have h2 : (BitVec.ofInt 64 (b : Int)).toNat = b := by rw [BitVec.ofInt_natCast, BitVec.toNat_ofNat]; exact Nat.mod_eq_of_lt (by simpa using hb)
 show IntKind.u64.wrap ((BitVec.ofInt 64 (a : Int) ||| BitVec.ofInt 64 (b : Int)).toNat : Int) = _
 rw [BitVec.toNat_or, h1, h2]
 exact wrap_u64 _ (Nat.or_lt_two_pow (n := 64) ha hb)
theorem join_group (x : UInt8) (k acc : Nat) (hk : k < 9) (hacc : acc < 128 ^ k) :
  bits BinOp.or IntKind.u64 (acc : Int) (IntKind.u64.wrap (IntKind.u64.wrap (bits BinOp.and IntKind.u8 (x.toNat : Int) 127) * 2 ^ (7 * k))) = ((acc + x.toNat % 128 * 128 ^ k : Nat) : Int) := by
 have hd : x.toNat % 128 < 128 := Nat.mod_lt _ (by omega)
 have hp : 2 ^ (7 * k) ≤ 2 ^ 56 := Nat.pow_le_pow_right (by omega) (by omega)
 have h56 : (2 : Nat) ^ 56 = 72057594037927936 := by decide
 have hm : x.toNat % 128 * 2 ^ (7 * k) ≤ 127 * 72057594037927936 := by
  rw [← h56]; exact Nat.mul_le_mul (by omega) hp
 rw [and127, wrap_u64 _ (by omega), show ((x.toNat % 128 : Nat) : Int) * 2 ^ (7 * k) = ((x.toNat % 128 * 2 ^ (7 * k) : Nat) : Int) by simp, wrap_u64 _ (by omega)]
 rw [pow128] at hacc
 rw [or_u64 _ _ (by omega) (by omega), or_disjoint _ _ _ hacc, pow128]
theorem takeGo_at {l : List UInt8} {k acc : Nat} {x : UInt8} (hx : l[k]? = some x) : takeGo k acc (l.drop k) = takeGo k acc (x :: l.drop (k + 1)) := by
 have hlt := (List.getElem?_eq_some_iff.1 hx).1
 have e : l[k] = x := (List.getElem?_eq_some_iff.1 hx).2
 rw [List.drop_eq_getElem_cons hlt, e]
set_option maxHeartbeats 1000000 in
set_option maxRecDepth 100000 in
theorem takeNum_any (A : Option Addr) (n c : Nat) (l : List UInt8) (w : World) (hA : Sl w 1 A n (u8s l)) (hc : n ≤ c) (hn : n ≤ 140737488355328) :
  Calls Tryz.prog 67 #[.slice A n c] w (RetTake w l) := by
 have hl := Lib.hid (u8s_len hA)
 go_enter Tryz.func67, Tryz.ntmps67
 go_wp2
 go_step3
 go_wp2
 go_step3
 go_wp2
 go_loop [5, 6, 11] (fun a u i => ∃ k acc : Nat, k ≤ n ∧ k ≤ 9 ∧ i = .int .i64 k ∧ a = .int .u64 acc ∧ u = .int .i64 0 ∧ acc < 128 ^ k ∧ takeNum l = takeGo k acc (l.drop k)) (fun _ _ i => n - (intOf i).toNat)
 case atStart => exact ⟨0, 0, Nat.zero_le _, by omega, rfl, rfl, rfl, by simp, by simp [takeNum]⟩
 case round =>
  obtain ⟨k, acc, hk, hk9, rfl, rfl, rfl, hacc, ht⟩ := hrel
  have Ht := Lib.hid ht
  have Hacc := Lib.hid hacc
  clear ht hacc
  by_cases hlt : k < n
  ·obtain ⟨b, off, x, rfl, hx, hcx⟩ := hA.byte hlt
   have Hx := Lib.hid hx
   clear hx
   have Hgo := Lib.hid (Ht.out.trans (takeGo_at Hx.out))
   by_cases h9 : k = 9
   ·subst h9
    go_wp2
    go_ret3
    exact .inr ⟨by rw [Ht.out, takeGo_nine], rfl, Below.refl _ _⟩
   ·have h9b : ((k : Int) == 9) = false := by simp; omega
    have H9 := Lib.hid h9
    clear h9
    by_cases hb0 : x.toNat = 0 ∧ 0 < k
    ·obtain ⟨hx0, hk0⟩ := hb0
     have hb1 : ((x.toNat : Int) == 0) = true := by simp; omega
     have hx1 : (x.toNat : Int) < 128 := by omega
     have Hx0 := Lib.hid hx0
     clear hx0
     go_wp2
     go_ret3
     refine .inr ⟨?_, rfl, Below.refl _ _⟩
     have e0 : x = 0 := by rw [← UInt8.toNat_inj]; exact Hx0.out
     rw [Hgo.out, takeGo, if_neg H9.out, if_pos ⟨e0, hk0⟩]
    ·have hk8 : k < 9 := by have := H9.out; omega
     obtain ⟨acc', hacc'⟩ : ∃ a, a = acc + x.toNat % 128 * 128 ^ k := ⟨_, rfl⟩
     have hbit := join_group x k acc hk8 Hacc.out
     rw [← hacc'] at hbit
     have Hacc' := Lib.hid hacc'
     have hlt' : acc' < 128 ^ (k + 1) := by
      have hd : x.toNat % 128 < 128 := Nat.mod_lt _ (by omega)
      have h1 := Hacc.out
      rw [hacc', Nat.pow_succ]
      have h2 : x.toNat % 128 * 128 ^ k ≤ 127 * 128 ^ k := Nat.mul_le_mul_right _ (by omega)
      omega
     have Hlt' := Lib.hid hlt'
     have c1 := Lib.hid (show ¬ (x = 0 ∧ 0 < k) from fun h => hb0 ⟨by rw [h.1]; rfl, h.2⟩)
     have hb0' := Lib.hid hb0
     clear hacc' hlt' hb0
     by_cases hz : x.toNat < 128
     ·have c2 := Lib.hid (show x < 128 by rw [UInt8.lt_iff_toNat_lt]; exact hz)
      have hk1 : ((k : Int) + 1 == 0) = false := by simp; omega
      have hx1 : (x.toNat : Int) < 128 := by omega
      have hcut := fun W => run_cut_l (P := Tryz.prog) W Tryz.underlying27 Tryz.sizeU8 (some ⟨b, off, none⟩) n c .i64 (k + 1) (by omega)
      rw [show ((k + 1 : Nat) : Int) = (k : Int) + 1 by omega] at hcut
      have hS := hA.tail_ (k := k + 1) (c := c) (by omega) hc
      have hgo : takeNum l = if acc' < top62 then some (acc', l.drop (k + 1)) else none := by
       rw [Hgo.out, takeGo, if_neg H9.out, if_neg c1.out, if_pos c2.out, ← Hacc'.out]
      have HS := Lib.hid hS
      have Hf := Lib.hid hgo
      clear hS hgo
      have hb1 : ((x.toNat : Int) == 0) = true ∧ decide (0 < k) = false ∨ ((x.toNat : Int) == 0) = false := by
       by_cases h0 : x.toNat = 0
       ·refine .inl ⟨by simp; omega, ?_⟩
        have := hb0'.out
        simp
        omega
       ·exact .inr (by simp; omega)
      by_cases htop : acc' < top62
      ·have ht1 : decide ((4611686018427387903 : Int) < (acc' : Int)) = false := by unfold top62 at htop; simp; omega
       have hb62 : acc' ≤ 9223372036854775807 := by unfold top62 at htop; omega
       have Htop := Lib.hid htop
       clear htop
       rcases hb1 with ⟨h1, h2⟩ | h1
       all_goals
        go_wp2_with fail
        refine (cloneB_any _ _ _ _ _ HS.out (by omega)).mono ?_
        rintro e w1 ⟨A1, m1, c1', rfl, ho1⟩
        go_wp2
        go_ret3
        refine .inl ⟨acc', _, A1, m1, c1', by rw [Hf.out, if_pos Htop.out], ?_, ho1⟩
        rfl
      ·have ht1 : decide ((4611686018427387903 : Int) < (acc' : Int)) = true := by unfold top62 at htop; simp; omega
       have Htop := Lib.hid htop
       clear htop
       rcases hb1 with ⟨h1, h2⟩ | h1
       all_goals
        go_wp2
        go_ret3
        exact .inr ⟨by rw [Hf.out, if_neg Htop.out], rfl, Below.refl _ _⟩
     ·have hzb : decide ((x.toNat : Int) < 128) = false := by simp; omega
      have c2 : ¬ x < 128 := by rw [UInt8.lt_iff_toNat_lt]; exact hz
      go_wp2
      go_round
      case rel => exact ⟨k + 1, acc', by omega, by omega, by go_num, rfl, rfl, Hlt'.out, by rw [Hgo.out, takeGo, if_neg H9.out, if_neg c1.out, if_neg c2, ← Hacc'.out]⟩
      case measure => simp [intOf]; omega
  ·go_wp2
   go_ret3
   exact .inr ⟨by rw [Ht.out, List.drop_of_length_le (by rw [hl.out]; omega)]; rfl, rfl, Below.refl _ _⟩
theorem pow128_le {k : Nat} (h : k ≤ 8) : 128 ^ k ≤ 72057594037927936 := by
 have : 128 ^ k ≤ 128 ^ 8 := Nat.pow_le_pow_right (by omega) h
 have e : (128 : Nat) ^ 8 = 72057594037927936 := by decide
 omega
theorem group_le (x : UInt8) (k : Nat) (h : k ≤ 8) : x.toNat % 128 * 128 ^ k ≤ 127 * 72057594037927936 := Nat.mul_le_mul (by have : x.toNat % 128 < 128 := Nat.mod_lt _ (by omega); omega) (pow128_le h)
set_option maxHeartbeats 1000000 in
set_option maxRecDepth 100000 in
theorem refTakeNum_any (A : Option Addr) (n c : Nat) (l : List UInt8) (w : World) (hA : Sl w 1 A n (u8s l)) (hc : n ≤ c) (hn : n ≤ 140737488355328) :
  Calls Tryz.prog 199 #[.slice A n c] w (RetTake w l) := by
 have hl := Lib.hid (u8s_len hA)
 obtain ⟨i0, hi0, hz0, hz1, hz2⟩ := info_parts Tryz.infoU8
 go_enter Tryz.func199, Tryz.ntmps199
 go_wp2
 go_loop [5, 6, 7] (fun a u i => ∃ (k acc : Nat) (W : Int), k ≤ n ∧ k ≤ 9 ∧ i = .int .i64 k ∧ a = .int .i64 acc ∧ u = .int .i64 W ∧ (k ≤ 8 → W = ((128 ^ k : Nat) : Int)) ∧ acc < 128 ^ k ∧ takeNum l = takeGo k acc (l.drop k)) (fun _ _ i => n - (intOf i).toNat)
 case atStart => exact ⟨0, 0, 1, Nat.zero_le _, by omega, rfl, rfl, rfl, fun _ => rfl, by simp, by simp [takeNum]⟩
 case round =>
  obtain ⟨k, acc, W, hk, hk9, rfl, rfl, rfl, hW, hacc, ht⟩ := hrel
  have Ht := Lib.hid ht
  have Hacc := Lib.hid hacc
  clear ht hacc
  by_cases hlt : k < n
  ·by_cases h9 : k = 9
   ·subst h9
    clear hW
    go_wp2
    go_ret3
    exact .inr ⟨by rw [Ht.out, takeGo_nine], rfl, Below.refl _ _⟩
   ·obtain ⟨b, off, x, rfl, hx, hcx⟩ := hA.byte hlt
    have hk8 : k < 9 := by omega
    obtain ⟨P, hP⟩ : ∃ P : Nat, P = 128 ^ k := ⟨_, rfl⟩
    have hPle : P ≤ 72057594037927936 := by rw [hP]; exact pow128_le (by omega)
    obtain rfl : W = (P : Int) := by rw [hP]; exact hW (by omega)
    have HP := Lib.hid hP
    obtain ⟨p, hp⟩ : ∃ p, p = x.toNat % 128 * P := ⟨_, rfl⟩
    have hple : p ≤ 127 * 72057594037927936 := by rw [hp, hP]; exact group_le x k (by omega)
    have hmul : wrap64 ((x.toNat : Int) % 128 * (P : Int)) = (p : Int) := by
     rw [show (x.toNat : Int) % 128 * (P : Int) = (p : Int) by rw [hp]; simp]
     exact IntWalk.wrap64_in _ ⟨by omega, by omega⟩
    have haccP : acc < P := by rw [hP]; exact Hacc.out
    have Hgo := Lib.hid (Ht.out.trans (takeGo_at hx))
    have Hp := Lib.hid hp
    have H9 := Lib.hid h9
    clear hx h9 hP hW hp
    have hd0 : 0 ≤ (x.toNat : Int) % 128 := by omega
    have hd1 : (x.toNat : Int) % 128 < 128 := by omega
    have h9a : decide ((k : Int) < 9) = true := by simp; omega
    obtain ⟨q, hq⟩ : ∃ q, q = acc + p := ⟨_, rfl⟩
    have hsum : (acc : Int) + (p : Int) = (q : Int) := by omega
    have hq63 : q ≤ 9223372036854775807 := by omega
    have Hq := Lib.hid (show q = acc + x.toNat % 128 * 128 ^ k by rw [hq, Hp.out, HP.out])
    clear hq
    have Hqlt := Lib.hid (show q < 128 ^ (k + 1) by
     have hd : x.toNat % 128 < 128 := Nat.mod_lt _ (by omega)
     have h1 := Hacc.out
     rw [Hq.out, Nat.pow_succ]
     have h2 : x.toNat % 128 * 128 ^ k ≤ 127 * 128 ^ k := Nat.mul_le_mul_right _ (by omega)
     omega)
    by_cases hbig : k = 8 ∧ 63 < x.toNat % 128
    ·obtain ⟨e8, e63⟩ := hbig
     have h8 : ((k : Int) == 8) = true := by simp; omega
     have h63 : decide (63 < (x.toNat : Int) % 128) = true := by simp; omega
     have E8 := Lib.hid e8
     have E63 := Lib.hid e63
     clear e8 e63
     go_wp2
     go_ret3
     refine .inr ⟨?_, rfl, Below.refl _ _⟩
     rw [Hgo.out, takeGo, if_neg H9.out, if_neg (fun h => by have h1 := E63.out; rw [h.1] at h1; simp at h1), ← Hq.out]
     split
     ·rw [if_neg]
      have h1 := Hq.out
      rw [E8.out] at h1
      have h2 : 64 * 128 ^ 8 ≤ x.toNat % 128 * 128 ^ 8 := Nat.mul_le_mul_right _ E63.out
      unfold top62
      omega
     ·rw [E8.out, takeGo_nine]
    ·have hqtop := Lib.hid (show q < 4611686018427387904 by
      rw [Hq.out]
      have h1 := Hacc.out
      by_cases h8 : k = 8
      ·have h2 : x.toNat % 128 * 128 ^ 8 ≤ 63 * 128 ^ 8 := Nat.mul_le_mul_right _ (by omega)
       rw [h8] at h1 ⊢
       omega
      ·have h2 := Hqlt.out
       rw [Hq.out] at h2
       have h3 : 128 ^ (k + 1) ≤ 128 ^ 8 := Nat.pow_le_pow_right (by omega) (by omega)
       omega)
     have htest : ((k : Int) == 8) = false ∨ (((k : Int) == 8) = true ∧ decide (63 < (x.toNat : Int) % 128) = false) := by
      by_cases h8 : k = 8
      ·exact .inr ⟨by simp; omega, by simp; omega⟩
      ·exact .inl (by simp; omega)
     by_cases hz : x.toNat < 128
     ·have hzb : decide ((x.toNat : Int) < 128) = true := by simp; omega
      have c2 := Lib.hid (show x < 128 by rw [UInt8.lt_iff_toNat_lt]; exact hz)
      have emod : x.toNat % 128 = x.toNat := Nat.mod_eq_of_lt hz
      by_cases hb0 : x.toNat = 0 ∧ 0 < k
      ·have hlen := Lib.hid (show (putNum q).length ≤ k by
        refine putNum_len_below k q hb0.2 ?_
        rw [Hq.out, hb0.1]
        have h1 := Hacc.out
        simpa using h1)
       have hnone := Lib.hid (show takeNum l = none by
        have e0 : x = 0 := by rw [← UInt8.toNat_inj]; exact hb0.1
        rw [Hgo.out, takeGo, if_neg H9.out, if_pos ⟨e0, hb0.2⟩])
       clear hb0 emod hbig
       rcases htest with h8 | ⟨h8, h63⟩
       all_goals
        go_wp2_with fail
        refine (refPutNum_nat none 0 0 q [] _ Sl.nil_ (by omega) hqtop.out).mono ?_
        rintro e w1 ⟨A1, m1, c1, rfl, ho1⟩
        have hm1 : ((m1 : Int) != (k : Int) + 1) = true := by
         have h1 := ow_len ho1
         have h2 := hlen.out
         simp at h1 ⊢
         omega
        go_wp2
        go_ret3
        exact .inr ⟨hnone.out, rfl, ho1.2⟩
      ·have hlen := Lib.hid (show (putNum q).length = k + 1 by
        rw [Hq.out]
        exact putNum_len_of k acc _ Hacc.out (Nat.mod_lt _ (by omega)) (by omega))
       have hsome := Lib.hid (show takeNum l = some (q, l.drop (k + 1)) by
        rw [Hgo.out, takeGo, if_neg H9.out, if_neg (fun h => hb0 ⟨by rw [h.1]; rfl, h.2⟩), if_pos c2.out, ← Hq.out, if_pos (by have := hqtop.out; unfold top62; omega)])
       have hS := Lib.hid (hA.tail_ (k := k + 1) (c := c) (by omega) hc)
       have hcut := fun W => run_cut_l (P := Tryz.prog) W Tryz.underlying27 Tryz.sizeU8 (some ⟨b, off, none⟩) n c .i64 (k + 1) (by omega)
       rw [show ((k + 1 : Nat) : Int) = (k : Int) + 1 by omega] at hcut
       have hmm : 0 + (n - (k + 1)) ≤ maxLen := by simp only [maxLen]; omega
       have hnn : (0 + (n - (k + 1))) * 1 ≤ 140737488355328 := by omega
       clear hb0 emod hbig
       rcases htest with h8 | ⟨h8, h63⟩
       all_goals
        go_wp2_with fail
        refine (refPutNum_nat none 0 0 q [] _ Sl.nil_ (by omega) hqtop.out).mono ?_
        rintro e w1 ⟨A1, m1, c1, rfl, ho1⟩
        have hm1 : ((m1 : Int) != (k : Int) + 1) = false := by
         have h1 := ow_len ho1
         have h2 := hlen.out
         simp at h1 ⊢
         omega
        have ho2 : Ow w1 (w1.alloc (.cells #[] 5)) 5 1 (some ⟨w1.heap.size, 0, none⟩) 0 0 [] := ⟨World.ownsRow_made _ #[] 0 (Nat.le_refl _) (Nat.zero_le _) rfl, (Below.refl _ _).alloc (Nat.le_refl _) _⟩
        have hs2 := (hS.out.below ho1.2).alloc (.cells #[] 5)
        go_wp2_with (at_builtin; refine wpList_append_sl _ rfl (.tmp 48) (.tmp 52) _ rfl w1 5 i0 _ 1 1 Tryz.underlying27 hi0 hz0 hz1 hz2 rfl Nat.one_pos _ _ _ _ rfl ho2 _ _ _ _ rfl hs2 (one_u8s _) hmm hnn ?_; intro A2 c2' w2 hown2 hg2 hat2)
        go_ret3
        refine .inl ⟨q, _, A2, 0 + (n - (k + 1)), c2', hsome.out, ?_, Ow.since hown2 ho1.2⟩
        simp
     ·have hzb : decide ((x.toNat : Int) < 128) = false := by simp; omega
      have c2 := Lib.hid (show ¬ x < 128 by rw [UInt8.lt_iff_toNat_lt]; exact hz)
      have hgo := Lib.hid (show takeNum l = takeGo (k + 1) q (l.drop (k + 1)) by
       rw [Hgo.out, takeGo, if_neg H9.out, if_neg (fun h => hz (by rw [h.1]; simp)), if_neg c2.out, ← Hq.out])
      have hnext := Lib.hid (show (k + 1 ≤ 8 → wrap64 ((P : Int) * 128) = ((128 ^ (k + 1) : Nat) : Int)) by
       intro h8
       have h1 : P * 128 = 128 ^ (k + 1) := by rw [HP.out, Nat.pow_succ]
       have h2 := pow128_le h8
       rw [show (P : Int) * 128 = ((P * 128 : Nat) : Int) by simp, h1]
       exact IntWalk.wrap64_in _ ⟨by omega, by omega⟩)
      clear hbig
      rcases htest with h8 | ⟨h8, h63⟩
      all_goals
       go_wp2
       go_round
       case rel => exact ⟨k + 1, q, _, by omega, by omega, by go_num, rfl, rfl, hnext.out, Hqlt.out, hgo.out⟩
       case measure => simp [intOf]; omega
  ·clear hW
   by_cases h9 : k < 9
   all_goals
    go_wp2
    go_ret3
    exact .inr ⟨by rw [Ht.out, List.drop_of_length_le (by rw [hl.out]; omega)]; rfl, rfl, Below.refl _ _⟩
set_option maxHeartbeats 400000 in
theorem equalB_any (A A' : Option Addr) (n n' c c' : Nat) (l l' : List UInt8) (w : World) (hA : Sl w 1 A n (u8s l)) (hA' : Sl w 1 A' n' (u8s l'))
  (hn : n ≤ 9223372036854775807) :
  Calls Tryz.prog 257 #[.slice A n c, .slice A' n' c'] w fun e w' => e = .returned (.bool (decide (l = l'))) ∧ ∃ m, w' = w.drewN m := by
 have hl := Lib.hid (u8s_len hA)
 have hl' := Lib.hid (u8s_len hA')
 by_cases hne : n = n'
 ·subst hne
  go_enter Tryz.func257, Tryz.ntmps257
  go_wp2
  go_loopw [4, 13] (fun r i wr => ∃ k m : Nat, k ≤ n ∧ i = .int .i64 k ∧ wr = w.drewN m ∧ l.take k = l'.take k ∧ r = .bool false) (fun _ i _ => n - (intOf i).toNat)
  case atStart => exact ⟨0, 0, Nat.zero_le _, rfl, rfl, rfl, rfl⟩
  case round =>
   obtain ⟨k, m, hk, rfl, rfl, ht, rfl⟩ := hrel
   have Ht := Lib.hid ht
   clear ht
   by_cases hlt : k < n
   ·obtain ⟨b, off, x, rfl, hs, hc⟩ := hA.byte hlt
    obtain ⟨b', off', x', rfl, hs', hc'⟩ := hA'.byte hlt
    have Hs := Lib.hid hs
    have Hs' := Lib.hid hs'
    clear hs hs'
    by_cases hx : x = x'
    ·subst hx
     go_wp2
     go_quiet (fail)
     go_wp2
     go_roundw
     case rel => exact ⟨k + 1, _, by omega, by go_num, rfl, take_step Hs.out Hs'.out rfl Ht.out, rfl⟩
     case measure => simp [intOf]; omega
    ·have hne : ((x.toNat : Int) != (x'.toNat : Int)) = true := by
      rw [bne_iff_ne]; intro h; exact hx (by rw [← UInt8.toNat_inj]; omega)
     go_wp2
     go_quiet (fail)
     go_wp2
     go_ret
     exact ⟨ret_ndec (ne_of_at Hs.out Hs'.out hx), _, World.drewN_drewN _ _ _⟩
   ·go_wp2
    go_ret
    exact ⟨ret_dec (take_all (by rw [hl.out]; omega) (by rw [hl'.out]; omega) Ht.out), m, rfl⟩
 ·have h1 : ((n : Int) != (n' : Int)) = true := by simp; omega
  go_enter Tryz.func257, Tryz.ntmps257
  go_wp2
  go_ret
  exact ⟨ret_ndec (fun e => hne (by rw [← hl.out, ← hl'.out, e])), 0, rfl⟩
set_option maxHeartbeats 400000 in
theorem sameB_any (A A' : Option Addr) (n n' c c' : Nat) (l l' : List UInt8) (w : World) (hA : Sl w 1 A n (u8s l)) (hA' : Sl w 1 A' n' (u8s l')) :
  Calls Tryz.prog 255 #[.slice A n c, .slice A' n' c'] w fun e w' => e = .returned (.bool (decide (l = l'))) ∧ w = w' := by
 have h1 := run_conv_str (P := Tryz.prog) w 27 9 5 A n c l Tryz.underlying27 Tryz.underlying5 Tryz.underlying9 hA
 have h2 := run_conv_str (P := Tryz.prog) w 27 9 5 A' n' c' l' Tryz.underlying27 Tryz.underlying5 Tryz.underlying9 hA'
 go_enter Tryz.func255, Tryz.ntmps255
 go_wp2
 go_ret
 refine ⟨?_, rfl⟩
 by_cases h : l = l'
 ·rw [decide_eq_true h]; subst h; simp
 ·rw [decide_eq_false h]; simp [h]
end Go.Proofs.YtphnfcgdpdimbaaGreatDoor
