/-
  Texts merged: Take, Bytes. What each law says and asks stands at its head.
-/
import Derived.Test.YtcednfmkiaelnaaGreatDoorTKitG
import Derived.Test.YtcednfmkiaelnaaGreatDoorTKitW
import Derived.Deep.RegionHeld3
namespace Go.Proofs.YtcednfmkiaelnaaGreatDoor
open Go.RowKit
def RetTake (w : World) (l : List UInt8) (e : Ending) (w' : World) : Prop :=
 (∃ v rest A m c, takeNum l = some (v, rest) ∧ e = .returned (.tuple #[I (v : Nat), .slice A m c, I 0]) ∧ Ow w w' 5 1 A m c (u8s rest)) ∨
 (takeNum l = none ∧ e = .returned (.tuple #[I 0, .slice none 0 0, I 2]) ∧ Below w.heap.size w w')
theorem and127_fin : ∀ m : Fin 256, bits BinOp.and IntKind.u8 ((m.val : Nat) : Int) 127 = ((m.val % 128 : Nat) : Int) := by decide +kernel
theorem and127 (x : UInt8) : bits BinOp.and IntKind.u8 (x.toNat : Int) 127 = ((x.toNat % 128 : Nat) : Int) := and127_fin ⟨x.toNat, x.toNat_lt⟩
theorem wrap_u64 (a : Nat) (h : a < 18446744073709551616) : IntKind.u64.wrap (a : Int) = (a : Int) := by
 simp only [IntKind.wrap, IntKind.signed, IntKind.bits]
 simp
 omega
theorem pow128 (k : Nat) : 128 ^ k = 2 ^ (7 * k) := by rw [Nat.pow_mul]
theorem or_disjoint (a d k : Nat) (h : a < 2 ^ k) : a ||| d * 2 ^ k = a + d * 2 ^ k := by
 have e := Nat.two_pow_add_eq_or_of_lt h d
 rw [Nat.mul_comm d, Nat.or_comm, ← e, Nat.add_comm]
theorem or_u64 (a b : Nat) (ha : a < 18446744073709551616) (hb : b < 18446744073709551616) : bits BinOp.or IntKind.u64 (a : Int) (b : Int) = ((a ||| b : Nat) : Int) := by
 have h1 : (BitVec.ofInt 64 (a : Int)).toNat = a := by rw [BitVec.ofInt_natCast, BitVec.toNat_ofNat]; exact Nat.mod_eq_of_lt (by simpa using ha)
 have h2 : (BitVec.ofInt 64 (b : Int)).toNat = b := by rw [BitVec.ofInt_natCast, BitVec.toNat_ofNat]; exact Nat.mod_eq_of_lt (by simpa using hb)
 show IntKind.u64.wrap ((BitVec.ofInt 64 (a : Int) ||| BitVec.ofInt 64 (b : Int)).toNat : Int) = _
 rw [BitVec.toNat_or, h1, h2]
 exact wrap_u64 _ (Nat.or_lt_two_pow (n := 64) ha hb)
theorem join_group (x : UInt8) (k acc : Nat) (hk : k < 9) (hacc : acc < 128 ^ k) :
  bits BinOp.or IntKind.u64 (acc : Int) (IntKind.u64.wrap (IntKind.u64.wrap (bits BinOp.and IntKind.u8 (x.toNat : Int) 127) * 2 ^ (7 * k))) = ((acc + x.toNat % 128 * 128 ^ k : Nat) : Int) := by
 have hd : x.toNat % 128 < 128 := Nat.mod_lt _ (by omega)
 have hp : 2 ^ (7 * k) ≤ 2 ^ 56 := Nat.pow_le_pow_right (by omega) (by omega)
 have h56 : (2 : Nat) ^ 56 = 72057594037927936 := by decide
 have hm : x.toNat % 128 * 2 ^ (7 * k) ≤ 127 * 72057594037927936 := by
  rw [← h56]; exact Nat.mul_le_mul (by omega) hp
 rw [and127, wrap_u64 _ (by omega), show ((x.toNat % 128 : Nat) : Int) * 2 ^ (7 * k) = ((x.toNat % 128 * 2 ^ (7 * k) : Nat) : Int) by simp, wrap_u64 _ (by omega)]
 rw [pow128] at hacc
 rw [or_u64 _ _ (by omega) (by omega), or_disjoint _ _ _ hacc, pow128]
theorem takeGo_at {l : List UInt8} {k acc : Nat} {x : UInt8} (hx : l[k]? = some x) : takeGo k acc (l.drop k) = takeGo k acc (x :: l.drop (k + 1)) := by
 have hlt := (List.getElem?_eq_some_iff.1 hx).1
 have e : l[k] = x := (List.getElem?_eq_some_iff.1 hx).2
 rw [List.drop_eq_getElem_cons hlt, e]
set_option maxHeartbeats 1000000 in
set_option maxRecDepth 100000 in
theorem takeNum_any (A : Option Addr) (n c : Nat) (l : List UInt8) (w : World) (hA : Sl w 1 A n (u8s l)) (hc : n ≤ c) (hn : n ≤ 140737488355328) :
  Calls Tryz.prog 148 #[.slice A n c] w (RetTake w l) := by
 have hl := Lib.hid (u8s_len hA)
 go_enter Tryz.func148, Tryz.ntmps148
 go_wp2
 go_step3
 go_wp2
 go_step3
 go_wp2
 go_loop [5, 6, 11] (fun a u i => ∃ k acc : Nat, k ≤ n ∧ k ≤ 9 ∧ i = .int .i64 k ∧ a = .int .u64 acc ∧ u = .int .i64 0 ∧ acc < 128 ^ k ∧ takeNum l = takeGo k acc (l.drop k)) (fun _ _ i => n - (intOf i).toNat)
 case atStart => exact ⟨0, 0, Nat.zero_le _, by omega, rfl, rfl, rfl, by simp, by simp [takeNum]⟩
 case round =>
  obtain ⟨k, acc, hk, hk9, rfl, rfl, rfl, hacc, ht⟩ := hrel
  have Ht := Lib.hid ht
  have Hacc := Lib.hid hacc
  clear ht hacc
  by_cases hlt : k < n
  ·obtain ⟨b, off, x, rfl, hx, hcx⟩ := hA.byte hlt
   have Hx := Lib.hid hx
   clear hx
   have Hgo := Lib.hid (Ht.out.trans (takeGo_at Hx.out))
   by_cases h9 : k = 9
   ·subst h9
    go_wp2
    go_ret3
    exact .inr ⟨by rw [Ht.out, takeGo_nine], rfl, Below.refl _ _⟩
   ·have h9b : ((k : Int) == 9) = false := by simp; omega
    have H9 := Lib.hid h9
    clear h9
    by_cases hb0 : x.toNat = 0 ∧ 0 < k
    ·obtain ⟨hx0, hk0⟩ := hb0
     have hb1 : ((x.toNat : Int) == 0) = true := by simp; omega
     have hx1 : (x.toNat : Int) < 128 := by omega
     have Hx0 := Lib.hid hx0
     clear hx0
     go_wp2
     go_ret3
     refine .inr ⟨?_, rfl, Below.refl _ _⟩
     have e0 : x = 0 := by rw [← UInt8.toNat_inj]; exact Hx0.out
     rw [Hgo.out, takeGo, if_neg H9.out, if_pos ⟨e0, hk0⟩]
    ·have hk8 : k < 9 := by have := H9.out; omega
     obtain ⟨acc', hacc'⟩ : ∃ a, a = acc + x.toNat % 128 * 128 ^ k := ⟨_, rfl⟩
     have hbit := join_group x k acc hk8 Hacc.out
     rw [← hacc'] at hbit
     have Hacc' := Lib.hid hacc'
     have hlt' : acc' < 128 ^ (k + 1) := by
      have hd : x.toNat % 128 < 128 := Nat.mod_lt _ (by omega)
      have h1 := Hacc.out
      rw [hacc', Nat.pow_succ]
      have h2 : x.toNat % 128 * 128 ^ k ≤ 127 * 128 ^ k := Nat.mul_le_mul_right _ (by omega)
      omega
     have Hlt' := Lib.hid hlt'
     have c1 := Lib.hid (show ¬ (x = 0 ∧ 0 < k) from fun h => hb0 ⟨by rw [h.1]; rfl, h.2⟩)
     have hb0' := Lib.hid hb0
     clear hacc' hlt' hb0
     by_cases hz : x.toNat < 128
     ·have c2 := Lib.hid (show x < 128 by rw [UInt8.lt_iff_toNat_lt]; exact hz)
      have hk1 : ((k : Int) + 1 == 0) = false := by simp; omega
      have hx1 : (x.toNat : Int) < 128 := by omega
      have hcut := fun W => run_cut_l (P := Tryz.prog) W Tryz.underlying38 Tryz.sizeU8 (some ⟨b, off, none⟩) n c .i64 (k + 1) (by omega)
      rw [show ((k + 1 : Nat) : Int) = (k : Int) + 1 by omega] at hcut
      have hS := hA.tail_ (k := k + 1) (c := c) (by omega) hc
      have hgo : takeNum l = if acc' < top62 then some (acc', l.drop (k + 1)) else none := by
       rw [Hgo.out, takeGo, if_neg H9.out, if_neg c1.out, if_pos c2.out, ← Hacc'.out]
      have HS := Lib.hid hS
      have Hf := Lib.hid hgo
      clear hS hgo
      have hb1 : ((x.toNat : Int) == 0) = true ∧ decide (0 < k) = false ∨ ((x.toNat : Int) == 0) = false := by
       by_cases h0 : x.toNat = 0
       ·refine .inl ⟨by simp; omega, ?_⟩
        have := hb0'.out
        simp
        omega
       ·exact .inr (by simp; omega)
      by_cases htop : acc' < top62
      ·have ht1 : decide ((4611686018427387903 : Int) < (acc' : Int)) = false := by unfold top62 at htop; simp; omega
       have hb62 : acc' ≤ 9223372036854775807 := by unfold top62 at htop; omega
       have Htop := Lib.hid htop
       clear htop
       rcases hb1 with ⟨h1, h2⟩ | h1
       all_goals
        go_wp2_with fail
        refine (cloneB_any _ _ _ _ _ HS.out (by omega)).mono ?_
        rintro e w1 ⟨A1, m1, c1', rfl, ho1⟩
        go_wp2
        go_ret3
        refine .inl ⟨acc', _, A1, m1, c1', by rw [Hf.out, if_pos Htop.out], ?_, ho1⟩
        rfl
      ·have ht1 : decide ((4611686018427387903 : Int) < (acc' : Int)) = true := by unfold top62 at htop; simp; omega
       have Htop := Lib.hid htop
       clear htop
       rcases hb1 with ⟨h1, h2⟩ | h1
       all_goals
        go_wp2
        go_ret3
        exact .inr ⟨by rw [Hf.out, if_neg Htop.out], rfl, Below.refl _ _⟩
     ·have hzb : decide ((x.toNat : Int) < 128) = false := by simp; omega
      have c2 : ¬ x < 128 := by rw [UInt8.lt_iff_toNat_lt]; exact hz
      go_wp2
      go_round
      case rel => exact ⟨k + 1, acc', by omega, by omega, by go_num, rfl, rfl, Hlt'.out, by rw [Hgo.out, takeGo, if_neg H9.out, if_neg c1.out, if_neg c2, ← Hacc'.out]⟩
      case measure => simp [intOf]; omega
  ·go_wp2
   go_ret3
   exact .inr ⟨by rw [Ht.out, List.drop_of_length_le (by rw [hl.out]; omega)]; rfl, rfl, Below.refl _ _⟩
def takeText (b : List UInt8) (most : Nat) : Option (List UInt8 × List UInt8) :=
 match takeNum b with
 | none => none
 | some (n, r) => if n ≤ most ∧ n ≤ r.length then some (r.take n, r.drop n) else none
def RetText (w : World) (l : List UInt8) (most : Nat) (e : Ending) (w' : World) : Prop :=
 (∃ s rest A m c, takeText l most = some (s, rest) ∧ e = .returned (.tuple #[S s, .slice A m c, I 0]) ∧ Sl w' 1 A m (u8s rest) ∧ m ≤ c ∧ (∀ a, A = some a → BlkT w' a.block 5) ∧ Below w.heap.size w w') ∨
 (takeText l most = none ∧ e = .returned (.tuple #[S [], .slice none 0 0, I 2]) ∧ Below w.heap.size w w')
set_option maxHeartbeats 1000000 in
set_option maxRecDepth 100000 in
theorem takeText_any (A : Option Addr) (n c most : Nat) (l : List UInt8) (w : World) (hA : Sl w 1 A n (u8s l)) (hc : n ≤ c) (hn : n ≤ 140737488355328) :
  Calls Tryz.prog 209 #[.slice A n c, I most] w (RetText w l most) := by
 have hl := Lib.hid (u8s_len hA)
 go_enter Tryz.func209, Tryz.ntmps209
 go_wp2_with fail
 refine (takeNum_any A n c l _ hA hc hn).mono ?_
 rintro e w1 (⟨v, rest, A1, m1, c1, ht, rfl, ho⟩ | ⟨ht, rfl, hb⟩)
 ·have Ht := Lib.hid ht
  have hcap := ho.cap
  have hlr := Lib.hid (ow_len ho)
  have HO := Lib.hid ho
  clear ht ho
  obtain ⟨hc1, hc2⟩ := hcap
  by_cases h1 : v ≤ most
  ·by_cases h2 : v ≤ m1
   ·have d1 : decide ((most : Int) < (v : Int)) = false := by simp; omega
    have d2 : decide ((m1 : Int) < (v : Int)) = false := by simp; omega
    have d1' : decide (most < v) = false := by simp; omega
    have d2' : decide (m1 < v) = false := by simp; omega
    have hcl := fun W => run_cut_l (P := Tryz.prog) W Tryz.underlying38 Tryz.sizeU8 A1 m1 c1 .i64 v h2
    have hch := fun W => run_cut_h (P := Tryz.prog) W Tryz.underlying38 Tryz.sizeU8 A1 m1 c1 .i64 v (by omega)
    have hT := Lib.hid (HO.out.sl.tail_ (k := v) (c := c1) h2 hc1)
    have hH := HO.out.sl.head_ (k := v) (c := c1) h2 hc1
    have hcv := fun q => run_conv_str (P := Tryz.prog) (w1.drewN q) 38 9 5 _ v c1 _ Tryz.underlying38 Tryz.underlying5 Tryz.underlying9 (hH.drewN q)
    clear hH
    go_wp2_with fail
    go_quiet (fail)
    go_wp2
    go_ret3
    exact .inl ⟨rest.take v, rest.drop v, _, m1 - v, c1 - v, by rw [takeText, Ht.out]; exact if_pos ⟨h1, by rw [hlr.out]; exact h2⟩, rfl, hT.out.drewN _, by omega, fun a ha => (by obtain ⟨a0, h0, e0⟩ := cutA_blk ha; rw [e0]; exact (HO.out.blkT h0).step (below_drewN (Below.refl _ _) _)), below_drewN HO.out.2 _⟩
   ·have d1 : decide ((most : Int) < (v : Int)) = false := by simp; omega
    have d2 : decide ((m1 : Int) < (v : Int)) = true := by simp; omega
    go_wp2
    go_ret3
    exact .inr ⟨by rw [takeText, Ht.out]; exact if_neg (fun h => h2 (by rw [← hlr.out]; exact h.2)), rfl, HO.out.2⟩
  ·have d1 : decide ((most : Int) < (v : Int)) = true := by simp; omega
   go_wp2
   go_ret3
   exact .inr ⟨by rw [takeText, Ht.out]; exact if_neg (fun h => h1 h.1), rfl, HO.out.2⟩
 ·have Ht := Lib.hid ht
  clear ht
  go_wp2
  go_ret3
  exact .inr ⟨by rw [takeText, Ht.out], rfl, hb⟩
set_option maxHeartbeats 400000 in
theorem equalB_any (A A' : Option Addr) (n n' c c' : Nat) (l l' : List UInt8) (w : World) (hA : Sl w 1 A n (u8s l)) (hA' : Sl w 1 A' n' (u8s l'))
  (hn : n ≤ 9223372036854775807) :
  Calls Tryz.prog 143 #[.slice A n c, .slice A' n' c'] w fun e w' => e = .returned (.bool (decide (l = l'))) ∧ ∃ m, w' = w.drewN m := by
 have hl := Lib.hid (u8s_len hA)
 have hl' := Lib.hid (u8s_len hA')
 by_cases hne : n = n'
 ·subst hne
  go_enter Tryz.func143, Tryz.ntmps143
  go_wp2
  go_loopw [4, 13] (fun r i wr => ∃ k m : Nat, k ≤ n ∧ i = .int .i64 k ∧ wr = w.drewN m ∧ l.take k = l'.take k ∧ r = .bool false) (fun _ i _ => n - (intOf i).toNat)
  case atStart => exact ⟨0, 0, Nat.zero_le _, rfl, rfl, rfl, rfl⟩
  case round =>
   obtain ⟨k, m, hk, rfl, rfl, ht, rfl⟩ := hrel
   have Ht := Lib.hid ht
   clear ht
   by_cases hlt : k < n
   ·obtain ⟨b, off, x, rfl, hs, hc⟩ := hA.byte hlt
    obtain ⟨b', off', x', rfl, hs', hc'⟩ := hA'.byte hlt
    have Hs := Lib.hid hs
    have Hs' := Lib.hid hs'
    clear hs hs'
    by_cases hx : x = x'
    ·subst hx
     go_wp2
     go_quiet (fail)
     go_wp2
     go_roundw
     case rel => exact ⟨k + 1, _, by omega, by go_num, rfl, take_step Hs.out Hs'.out rfl Ht.out, rfl⟩
     case measure => simp [intOf]; omega
    ·have hne : ((x.toNat : Int) != (x'.toNat : Int)) = true := by
      rw [bne_iff_ne]; intro h; exact hx (by rw [← UInt8.toNat_inj]; omega)
     go_wp2
     go_quiet (fail)
     go_wp2
     go_ret
     exact ⟨ret_ndec (ne_of_at Hs.out Hs'.out hx), _, World.drewN_drewN _ _ _⟩
   ·go_wp2
    go_ret
    exact ⟨ret_dec (take_all (by rw [hl.out]; omega) (by rw [hl'.out]; omega) Ht.out), m, rfl⟩
 ·have h1 : ((n : Int) != (n' : Int)) = true := by simp; omega
  go_enter Tryz.func143, Tryz.ntmps143
  go_wp2
  go_ret
  exact ⟨ret_ndec (fun e => hne (by rw [← hl.out, ← hl'.out, e])), 0, rfl⟩
set_option maxHeartbeats 400000 in
theorem sameB_any (A A' : Option Addr) (n n' c c' : Nat) (l l' : List UInt8) (w : World) (hA : Sl w 1 A n (u8s l)) (hA' : Sl w 1 A' n' (u8s l')) :
  Calls Tryz.prog 17 #[.slice A n c, .slice A' n' c'] w fun e w' => e = .returned (.bool (decide (l = l'))) ∧ w = w' := by
 have h1 := run_conv_str (P := Tryz.prog) w 38 9 5 A n c l Tryz.underlying38 Tryz.underlying5 Tryz.underlying9 hA
 have h2 := run_conv_str (P := Tryz.prog) w 38 9 5 A' n' c' l' Tryz.underlying38 Tryz.underlying5 Tryz.underlying9 hA'
 go_enter Tryz.func17, Tryz.ntmps17
 go_wp2
 go_ret
 refine ⟨?_, rfl⟩
 by_cases h : l = l'
 ·rw [decide_eq_true h]; subst h; simp
 ·rw [decide_eq_false h]; simp [h]
set_option maxHeartbeats 400000 in
theorem refPutText_any (A : Option Addr) (n c : Nat) (l s : List UInt8) (w : World) (hA : Sl w 1 A n (u8s l)) (hn : n + 9 + s.length ≤ 140737488355328) :
  Calls Tryz.prog 121 #[.slice A n c, S s] w (RetB w (l ++ (putNum s.length ++ s))) := by
 have hl := Lib.hid (u8s_len hA)
 obtain ⟨i0, hi0, hz0, hz1, hz2⟩ := info_parts Tryz.infoU8
 go_enter Tryz.func121, Tryz.ntmps121
 go_wp2_with fail
 refine (refPutNum_nat A n c s.length l _ hA (by omega) (by omega)).mono ?_
 rintro e w1 ⟨A1, m, c1, rfl, ho⟩
 have hm : m + s.length ≤ 140737488355328 := by
  have h1 := ow_len ho
  rw [List.length_append, hl.out] at h1
  have h2 := putNum_len_le (n := s.length) (by unfold top62; omega)
  omega
 go_wp2_with (at_builtin; refine wpList_append_text _ rfl (.tmp 8) (.tmp 9) _ _ rfl w 5 i0 Tryz.underlying38 Tryz.underlying9 hi0 hz0 hz1 hz2 _ _ _ _ rfl ho s rfl hm ?_; intro A2 c2 w2 hown2 hg2)
 go_ret
 refine ⟨A2, m + s.length, c2, rfl, ?_⟩
 rw [← List.map_append] at hown2
 rw [← List.append_assoc]
 exact hown2
end Go.Proofs.YtcednfmkiaelnaaGreatDoor
