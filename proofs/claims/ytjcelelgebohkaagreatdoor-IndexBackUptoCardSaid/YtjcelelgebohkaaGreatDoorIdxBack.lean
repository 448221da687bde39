/-
  dolmenlaw14.IndexBack: decoded again an index is as it was; cut off, or gone on, its bytes are none. Conditions: paths are shorter than 2147483648 bytes; MaxLen holds an int.
-/
import Derived.Test.YtjcelelgebohkaaGreatDoorIdxDec
import Derived.Test.YtjcelelgebohkaaGreatDoorIdxMade
import Derived.Test.YtjcelelgebohkaaGreatDoorIdxOps
namespace Go.Proofs.YtjcelelgebohkaaGreatDoor
open Go.RowKit
open IdxLaw (Ent Key zE Inv sortE)

theorem and20 (z : Int) : 0 ≤ bits BinOp.and IntKind.i64 z 1048575 ∧ bits BinOp.and IntKind.i64 z 1048575 ≤ 1048575 := by
  have e : bits BinOp.and IntKind.i64 z 1048575 = IntKind.i64.wrap (((BitVec.ofInt 64 z &&& BitVec.ofInt 64 1048575).toNat : Nat) : Int) := rfl
  have h1 : (BitVec.ofInt 64 z &&& BitVec.ofInt 64 1048575).toNat ≤ 1048575 := by
    rw [BitVec.toNat_and]
    exact Nat.le_trans Nat.and_le_right (by decide)
  rw [e, IntWalk.i64_in _ (by omega)]
  omega
set_option maxHeartbeats 8000000 in
set_option maxRecDepth 100000 in
theorem indexBack_law (A : Option Addr) (n c : Nat) (os : List OpG) (at_ : Int) (w : World) (hA : Sl w 10 A n (opsC os)) (hO : ∀ o ∈ os, o.ok) (hM : MaxL w) :
    Calls Tryz.prog 5 #[.slice A n c, I at_] w fun e w' => e = .returned (.bool true) ∧ Below w.heap.size w w' := by
  obtain ⟨i0, hi0, hz0, hz1, hz2⟩ := info_parts Tryz.infoU8
  have HA := Lib.hid hA
  have HO := Lib.hid hO
  have HM := Lib.hid hM
  have C0 := Lib.hid (awake14_any _ HM.out)
  clear hA hO hM
  go_enter Tryz.func5, Tryz.ntmps5
  go_wp2_with fail
  refine C0.out.mono ?_
  rintro e w0 ⟨rfl, b0⟩
  have B0 := Lib.hid b0
  go_wp2_with fail
  refine (made_any w0 A n c os (HA.out.below B0.out) HO.out (HM.out.step B0.out)).mono ?_
  rintro e w1 ⟨p, m, l, rfl, hI1, hv1, _, _, b1⟩
  have B1 := Lib.hid (bstep B0.out b1)
  have I1 := Lib.hid hI1
  have V1 := Lib.hid hv1
  have hle : l.length ≤ 180 := by have h1 := hI1.map.le; simp [kd] at h1; exact h1
  clear b0 b1 hI1 hv1
  go_wp2_with fail
  refine (encode_any w1 p m 180 l I1.out (by omega) V1.out.right).mono ?_
  rintro e w2 ⟨A2, m2, c2, rfl, hS2, hc2, b2⟩
  have hsl := (IdxLaw.sortE_perm l).length_eq
  have hIs := inv_sort V1.out
  have hSs : Srt (sortE l) := IdxLaw.sortE_sorted l
  have hlen : (encI (sortE l)).length ≤ 50000 := by
    have h1 := encK_len hIs.right (by omega) (sortE l).length (Nat.le_refl _)
    unfold encI
    omega
  have hpos : 0 < (encI (sortE l)).length := by
    rw [encI_eq, List.length_append]
    have := putNum_len_pos (sortE l).length
    omega
  have hcut := Lib.hid (fun (j : Nat) hj => cut_none hIs hSs (by unfold top62; omega) (j := j) hj)
  have hmore := Lib.hid (more_none hIs hSs (by unfold top62; omega) 0)
  obtain ⟨l3, hd3, hs3, hI3⟩ := decP_put hIs hSs (by unfold top62; omega)
  obtain ⟨bs, hbs⟩ : ∃ bs, bs = encI (sortE l) := ⟨_, rfl⟩
  rw [← hbs] at hS2 hlen hpos hcut hmore hd3
  have hm2 := u8s_len hS2
  have B2 := Lib.hid (bstep B1.out b2)
  have I2 := Lib.hid (I1.out.step b2)
  have S2 := Lib.hid hS2
  clear b2 hS2 hbs hIs hSs
  have C3 := Lib.hid (decode_any A2 m2 c2 bs w2 S2.out hc2 (by omega) (HM.out.step B2.out))
  go_wp2_with fail
  refine C3.out.mono ?_
  rintro e w3 (⟨hno, _⟩ | ⟨p3, m3, n3, l3', hd3', rfl, hI3', hn3, _, _, b3⟩)
  · rw [hd3] at hno; cases hno
  obtain rfl : l3' = l3 := Option.some.inj (hd3'.symm.trans hd3)
  have B3 := Lib.hid (bstep B2.out b3)
  have J3 := Lib.hid hI3'
  have I3 := Lib.hid (I2.out.step b3)
  have S3 := Lib.hid (S2.out.below b3)
  have Hs3 := Lib.hid hs3
  have hm20 : ((m2 : Int) == 0) = false := beq_eq_false_iff_ne.2 (by omega)
  clear b3 hI3' hd3' hd3 hs3
  have hzb := and20 at_
  obtain ⟨j, hj⟩ : ∃ j : Nat, j = (bits BinOp.and IntKind.i64 at_ 1048575 % (m2 : Int)).toNat := ⟨_, rfl⟩
  have hjlt : j < m2 := by
    have h1 := Int.emod_lt_of_pos (bits BinOp.and IntKind.i64 at_ 1048575) (show (0 : Int) < m2 by omega)
    have h2 := Int.emod_nonneg (bits BinOp.and IntKind.i64 at_ 1048575) (show (m2 : Int) ≠ 0 by omega)
    omega
  have hmd0 := Int.emod_nonneg (bits BinOp.and IntKind.i64 at_ 1048575) (show (m2 : Int) ≠ 0 by omega)
  have hmd1 : bits BinOp.and IntKind.i64 at_ 1048575 % (m2 : Int) ≤ (c2 : Int) := by omega
  have hcj := hcut.out j (by omega)
  have C4 := Lib.hid (decode_any A2 j c2 (bs.take j) w3 (S3.out.pre_ (by omega)) (by omega) (by omega) (HM.out.step B3.out))
  have Hj := Lib.hid hj
  go_wp2_with fail
  rw [← Hj.out]
  refine C4.out.mono ?_
  rintro e w4 (⟨_, rfl, b4⟩ | ⟨p4, m4, n4, l4, hd4, _⟩)
  case inr => rw [hcj] at hd4; cases hd4
  have B4 := Lib.hid (bstep B3.out b4)
  have J4 := Lib.hid (J3.out.step b4)
  have I4 := Lib.hid (I3.out.step b4)
  have S4 := Lib.hid (S3.out.below b4)
  clear b4 hcj hj hzb hcut C4 hmd0 hmd1
  have q1 : 0 + m2 ≤ maxLen := by simp only [maxLen]; omega
  have q2 : (0 + m2) * 1 ≤ 140737488355328 := by omega
  have ho2 : Ow w4 (w4.alloc (.cells #[] 5)) 5 1 (some ⟨w4.heap.size, 0, none⟩) 0 0 [] := ⟨World.ownsRow_made _ #[] 0 (Nat.le_refl _) (Nat.zero_le _) rfl, (Below.refl _ _).alloc (Nat.le_refl _) _⟩
  have HO2 := Lib.hid ho2
  have HS4 := Lib.hid (S4.out.alloc (.cells #[] 5))
  clear ho2
  have q3 : m2 + 1 ≤ maxLen := by simp only [maxLen]; omega
  have q4 : (m2 + 1) * 1 ≤ 140737488355328 := by omega
  go_wp2_with (first
    | (at_builtin; refine wpList_append_sl _ rfl (.tmp 49) (.tmp 50) _ rfl w4 5 i0 _ 1 1 Tryz.underlying51 hi0 hz0 hz1 hz2 rfl Nat.one_pos _ _ _ _ rfl HO2.out _ _ _ _ rfl HS4.out (one_u8s _) q1 q2 ?_; intro A5 c5 w5 hO5 hg5 hat5; rw [Nat.zero_add] at hO5; have HO5 := Lib.hid (hO5.alloc (.cells #[.int .u8 0] 5)); have HS5 := Lib.hid (sl_one w5 5 (.int .u8 0)); clear hO5 hg5 hat5)
    | (at_builtin; refine wpList_append_sl _ rfl (.tmp 51) (.tmp 52) _ rfl w4 5 i0 _ 1 1 Tryz.underlying51 hi0 hz0 hz1 hz2 rfl Nat.one_pos A5 m2 c5 _ rfl HO5.out _ 1 1 [.int .u8 0] rfl HS5.out (one_u8s [0]) q3 q4 ?_; intro A6 c6 w6 hO6 hg6 hat6; have HO6 := Lib.hid hO6; clear hO6 hg6 hat6)
    | fail)
  have B6 := Lib.hid (bstep B4.out HO6.out.2)
  have S6 : Sl w6 1 A6 (m2 + 1) (u8s (bs ++ [0])) := by
    have h1 := HO6.out.sl
    rw [List.nil_append] at h1
    have h2 : u8s (bs ++ [0]) = u8s bs ++ [.int .u8 0] := by simp [u8s, U8]
    rw [h2]; exact h1
  have C5 := Lib.hid (decode_any A6 (m2 + 1) c6 (bs ++ [0]) w6 S6 (by have := HO6.out.cap.1; omega) (by omega) (HM.out.step B6.out))
  have J6 := Lib.hid (J4.out.step HO6.out.2)
  have I6 := Lib.hid (I4.out.step HO6.out.2)
  refine C5.out.mono ?_
  rintro e w7 (⟨_, rfl, b7⟩ | ⟨p7, m7, n7, l7, hd7, _⟩)
  case inr => rw [hmore.out] at hd7; cases hd7
  have B7 := Lib.hid (bstep B6.out b7)
  have J7 := Lib.hid (J6.out.step b7)
  have I7 := Lib.hid (I6.out.step b7)
  clear b7 S6
  have hl3 : l3'.length = l.length := by have h1 := (IdxLaw.sortE_perm l3').length_eq; rw [Hs3.out, hsl] at h1; exact h1.symm
  obtain ⟨E, hE⟩ : ∃ E, E = sortE l := ⟨_, rfl⟩
  have CE1 := entries_any w7 p3 m3 n3 l3' J7.out (by omega)
  rw [Hs3.out, ← hE, hl3] at CE1
  have HCE1 := Lib.hid CE1
  clear CE1
  go_wp2_with fail
  refine HCE1.out.mono ?_
  rintro e w8 ⟨A8, c8, rfl, hO8⟩
  have B8 := Lib.hid (bstep B7.out hO8.2)
  have I8 := Lib.hid (I7.out.step hO8.2)
  have S8 := Lib.hid hO8.sl
  clear hO8
  go_wp2_with fail
  refine (theirs_any w8 A8 l.length c8 E S8.out (by omega)).mono ?_
  rintro e w9 ⟨A9, c9, rfl, hO9⟩
  have B9 := Lib.hid (bstep B8.out hO9.2)
  have I9 := Lib.hid (I8.out.step hO9.2)
  have S9 := Lib.hid hO9.sl
  clear hO9
  have CE2 := entries_any w9 p m 180 l I9.out (by omega)
  rw [← hE] at CE2
  have HCE2 := Lib.hid CE2
  clear CE2
  go_wp2_with fail
  refine HCE2.out.mono ?_
  rintro e wa ⟨Aa, ca, rfl, hOa⟩
  have Ba := Lib.hid (bstep B9.out hOa.2)
  have S9a := Lib.hid (S9.out.below hOa.2)
  have Sa := Lib.hid hOa.sl
  clear hOa
  go_wp2_with fail
  refine (theirs_any wa Aa l.length ca E Sa.out (by omega)).mono ?_
  rintro e wb ⟨Ab, cb, rfl, hOb⟩
  have Bb := Lib.hid (bstep Ba.out hOb.2)
  have S9b := Lib.hid (S9a.out.below hOb.2)
  have Sb := Lib.hid hOb.sl
  clear hOb
  go_wp2_with fail
  refine (same_yes wb A9 Ab l.length c9 cb E S9b.out Sb.out (by omega)).mono ?_
  rintro e wc ⟨rfl, mm, rfl⟩
  go_wp2
  go_ret
  exact ⟨rfl, below_drewN Bb.out _⟩
end Go.Proofs.YtjcelelgebohkaaGreatDoor
