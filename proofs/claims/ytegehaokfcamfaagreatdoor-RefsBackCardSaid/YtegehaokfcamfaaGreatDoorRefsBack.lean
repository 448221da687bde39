/-
  dolmenlaw11.RefsBack returns true, and nothing that lay before has turned. Conditions: the script reads as a list of operations, the transaction's changes as a list.
-/
import Derived.Test.YtegehaokfcamfaaGreatDoorRefsDec
import Derived.Test.YtegehaokfcamfaaGreatDoorMade
import Derived.Test.YtegehaokfcamfaaGreatDoorAwake11
import Derived.BigQuiet
namespace Go.Proofs.YtegehaokfcamfaaGreatDoor
open Go.RowKit
open RefsLaw (Val Chg Txn rightT Book named Inv Refs zv putAll fits)

/-- Apply, whatever the transaction -/
theorem apply_any (w : World) (p : Nat) (H : Nat → Prop) (bk : Book) (z : Nat) (t : TxG) (G : Nat → Prop) (hB : BookAt w p H bk z) (hz : z ≤ 1000000) (ht : SlT G 58 w 5 t.A t.n (chs t.chs)) (hn : t.n ≤ 1759218604390) (hs : ∀ c ∈ t.chs, c.ref.length ≤ maxLen) (hM : MaxL w) (hH : ¬ H 0) :
    Calls Tryz.prog 9 #[.pointer (some ⟨p, 0, none⟩), txV t.who t.text t.stamp t.A t.n t.c] w fun e w' => e = .returned (I ((RefsLaw.apply bk t.txn).1 : Nat)) ∧ BookAt w' p (ext H w w') (RefsLaw.apply bk t.txn).2 (z + 1) ∧ Fr H w w' := by
  by_cases hr : rightT t.txn = true
  · exact apply_ok w p H bk z t G hB hz ht hn hs hM hH hr
  · refine (apply_bad w p t G ht hn hs hM (by simpa using hr)).mono ?_
    rintro e w' ⟨rfl, hb⟩
    have e1 : RefsLaw.apply bk t.txn = (1, bk) := by unfold RefsLaw.apply; rw [if_neg hr]
    rw [e1]
    exact ⟨rfl, (hB.step hb).weak (fun k _ h => .inl h) (Nat.le_succ _), Fr.of_below hb⟩
theorem and20 (z : Int) : 0 ≤ bits BinOp.and IntKind.i64 z 1048575 ∧ bits BinOp.and IntKind.i64 z 1048575 ≤ 1048575 := by
  have e : bits BinOp.and IntKind.i64 z 1048575 = IntKind.i64.wrap (((BitVec.ofInt 64 z &&& BitVec.ofInt 64 1048575).toNat : Nat) : Int) := rfl
  have h1 : (BitVec.ofInt 64 z &&& BitVec.ofInt 64 1048575).toNat ≤ 1048575 := by
    rw [BitVec.toNat_and]
    exact Nat.le_trans Nat.and_le_right (by decide)
  rw [e, IntWalk.i64_in _ (by omega)]
  omega
set_option maxHeartbeats 8000000 in
set_option maxRecDepth 100000 in
theorem refsBack_law (A : Option Addr) (n c : Nat) (L : List OpG) (t : TxG) (at_ : Int) (w : World) (hA : Sl w 8 A n (opsC L)) (hO : ∀ o ∈ L, o.ok w) (hT : Sl w 5 t.A t.n (chs t.chs) ∧ t.n ≤ 1759218604390 ∧ ∀ c ∈ t.chs, c.ref.length ≤ maxLen) (_hI : -9223372036854775808 ≤ at_ ∧ at_ ≤ 9223372036854775807) (hM : MaxL w) :
    Calls Tryz.prog 4 #[.slice A n c, txV t.who t.text t.stamp t.A t.n t.c, I at_] w fun e w' => e = .returned (.bool true) ∧ Below w.heap.size w w' := by
  obtain ⟨hT, hn, hs⟩ := hT
  obtain ⟨i0, hi0, hi1, hi2, hi3⟩ := info_parts Tryz.infoU8
  obtain ⟨who, text, stamp, Ax, nx, cx, l⟩ := t
  have HA := Lib.hid hA
  have HO := Lib.hid hO
  have HM := Lib.hid hM
  have HT := Lib.hid hT
  have hn : nx ≤ 1759218604390 := hn
  have Hs : Hid (∀ c ∈ l, c.ref.length ≤ maxLen) := Lib.hid hs
  have kN := neq_val
  have kG := guard_val
  have hMl := hM.lt
  have b0 := balloc (Below.refl _ w) (.cells #[S who, S text, I stamp, .slice Ax nx cx] 25)
  have HR := Lib.hid (Blk.new w 25 #[S who, S text, I stamp, .slice Ax nx cx])
  have B0 := Lib.hid b0
  clear hA hO hM hT hs b0
  go_enter Tryz.func4, Tryz.ntmps4
  go_wp2_with fail
  refine (awake11_any _ (HM.out.step B0.out)).mono ?_
  rintro e w1 ⟨rfl, b1⟩
  have hz1 : w.heap.size < w1.heap.size := by have := b1.size; rw [World.size_alloc] at this; omega
  have B1 := Lib.hid (bstep B0.out b1)
  have HR1 := Lib.hid (HR.out.step b1)
  clear b1
  go_wp2_with fail
  refine (made2_any w1 A n c L (HA.out.below B1.out) (fun o ho => OpG.ok_step (HO.out o ho) B1.out) (HM.out.step B1.out)).mono ?_
  rintro e w2 ⟨p, q, rfl, ⟨bk, H, G, hI⟩, b2⟩
  have hz2' := b2.size
  have B2 := Lib.hid (bstep B1.out b2)
  have HB2 := Lib.hid hI.b
  have HG2 := Lib.hid hI.r
  have HR2 := Lib.hid (HR1.out.step b2)
  have HH := Lib.hid hI.hH
  have hInv : RefsLaw.Inv bk := by obtain ⟨m, Aq, nq, cq, xq, cn, h⟩ := hI.b; exact h.inv
  have htl : bk.txns.length ≤ 40 := by obtain ⟨m, Aq, nq, cq, xq, cn, h⟩ := hI.b; rw [h.len]; exact h.cap.2
  have HInv := Lib.hid hInv
  have C2 := Lib.hid (encode_any w2 p H bk 40 hI.b (by omega))
  clear hI b2 hInv
  go_wp2_with fail
  refine C2.out.mono ?_
  rintro e w3 ⟨ns, hN, hnl, A3, m3, c3, rfl, hS3, hc3, b3⟩
  have HN := Lib.hid hN
  have hlen := bookB_len HInv.out hN (by omega) (by omega)
  have hput := dec_put HInv.out hN (by unfold top62; omega) (by unfold top62; omega) []
  have hput0 := dec_put HInv.out hN (by unfold top62; omega) (by unfold top62; omega) [0]
  have hcut := Lib.hid (fun (j : Nat) (hj : j < (bookB ns bk).length) => dec_cut HInv.out hN (by unfold top62; omega) (by unfold top62; omega) (p := (bookB ns bk).take j) (Y := (bookB ns bk).drop j) (by intro h; have := congrArg List.length h; simp at this; omega) (List.take_append_drop _ _))
  have hpos : 0 < (bookB ns bk).length := by
    unfold bookB
    simp only [List.length_append]
    have := putNum_len_pos ns.length
    omega
  rw [List.append_nil] at hput
  obtain ⟨bs, hbs⟩ : ∃ bs, bs = bookB ns bk := ⟨_, rfl⟩
  have HBS := Lib.hid hbs
  rw [← hbs] at hS3 hlen hput hput0 hcut hpos
  have hm3 := u8s_len hS3
  have HP1 := Lib.hid hput
  have HP0 := Lib.hid hput0
  have B3 := Lib.hid (bstep B2.out b3)
  have HB3 := Lib.hid (HB2.out.step b3)
  have HG3 := Lib.hid (HG2.out.step b3)
  have HR3 := Lib.hid (HR2.out.step b3)
  have S3 := Lib.hid hS3
  have hz3 := b3.size
  clear b3 hS3 hbs hput hput0 hN C2
  have hm30 : m3 ≤ 900000000 := by omega
  have C3 := Lib.hid (decode_any A3 m3 c3 bs ns bk 40 w3 S3.out hc3 hm30 (HM.out.step B3.out) HInv.out HN.out (by omega) hnl htl (fun _ => ⟨by rw [HP1.out.2.1], by rw [HP1.out.2.2], by rw [HP1.out.1]; exact hnl⟩))
  go_wp2_with fail
  refine C3.out.mono ?_
  rintro e w4 (⟨_, hno, _⟩ | ⟨p4, rfl, _, _, hB4, b4⟩)
  · rw [HP1.out.2.2, ← HBS.out] at hno
    rcases hno with h | h
    · cases h
    · exact absurd rfl h
  have B4 := Lib.hid (bstep B3.out b4)
  have HC4 := Lib.hid hB4
  have HB4 := Lib.hid (HB3.out.step b4)
  have HG4 := Lib.hid (HG3.out.step b4)
  have HR4 := Lib.hid (HR3.out.step b4)
  have S4 := Lib.hid (S3.out.below b4)
  have hz4 := b4.size
  have hm20 : ((m3 : Int) == 0) = false := beq_eq_false_iff_ne.2 (by omega)
  clear b4 hB4 C3
  have C4 := Lib.hid (bookCopy_any w4 p H bk 40 HB4.out (by omega))
  go_wp2_with fail
  refine C4.out.mono ?_
  rintro e w5 ⟨p5, rfl, hB5, b5⟩
  have HD5 := Lib.hid hB5
  have B5 := Lib.hid (bstep B4.out b5)
  have HC5 := Lib.hid (HC4.out.step b5)
  have HB5 := Lib.hid (HB4.out.step b5)
  have HG5 := Lib.hid (HG4.out.step b5)
  have HR5 := Lib.hid (HR4.out.step b5)
  have S5 := Lib.hid (S4.out.below b5)
  have hz5 := b5.size
  have r5 := HR5.out.cell
  clear b5 hB5 C4
  have C5 := Lib.hid (fitted_any w5 q G (40 * 4096) 40 ⟨who, text, stamp, Ax, nx, cx, l⟩ HG5.out (by omega) (HT.out.below B5.out) hn)
  go_wp2_with fail
  refine C5.out.mono ?_
  rintro e w6 ⟨A6, c6, l6, rfl, hO6, hl6⟩
  have b6 := hO6.2
  have hs6 : ∀ x ∈ l6, x.ref.length ≤ maxLen := by
    intro x hx
    have h1 : x.ref ∈ l6.map (·.ref) := List.mem_map.2 ⟨x, hx, rfl⟩
    rw [hl6] at h1
    obtain ⟨x', h2, h3⟩ := List.mem_map.1 h1
    rw [← h3]
    exact Hs.out x' h2
  have Hs6 := Lib.hid hs6
  have HO6 := Lib.hid hO6.sl
  have B6 := Lib.hid (bstep B5.out b6)
  have HC6 := Lib.hid (HC5.out.step b6)
  have HB6 := Lib.hid (HB5.out.step b6)
  have HD6 := Lib.hid (HD5.out.step b6)
  have S6 := Lib.hid (S5.out.below b6)
  have hz6 := b6.size
  clear b6 hO6 hl6 hs6 C5 r5
  have C6 := Lib.hid (mine_any w6 ⟨who, text, stamp, A6, nx, c6, l6⟩ HO6.out hn)
  go_wp2_with fail
  refine C6.out.mono ?_
  rintro e w7 ⟨A7, c7, rfl, hO7⟩
  have b7 := hO7.2
  have HO7 := Lib.hid hO7.slT
  have B7 := Lib.hid (bstep B6.out b7)
  have HC7 := Lib.hid (HC6.out.step b7)
  have HB7 := Lib.hid (HB6.out.step b7)
  have HD7 := Lib.hid (HD6.out.step b7)
  have S7 := Lib.hid (S6.out.below b7)
  have hz7 := b7.size
  clear b7 hO7 C6
  have C7 := Lib.hid (apply_any w7 p5 _ bk 40 ⟨who, text, stamp, A7, nx, c7, l6⟩ _ HD7.out (by omega) HO7.out hn Hs6.out (HM.out.step B7.out) (fun h => by have h1 : w4.heap.size ≤ _ := h.1; omega))
  go_wp2_with fail
  refine C7.out.mono ?_
  rintro e w8 ⟨rfl, hD8, hF8⟩
  have hF8' := hF8.weak (F := fun k => w4.heap.size ≤ k) (fun k h => h.1)
  have HF8 := Lib.hid hF8'
  have HD8 := Lib.hid hD8
  have hM8 : MaxL w8 := (HM.out.step B7.out).fr hF8' (fun h => by omega)
  have HM8 := Lib.hid hM8
  clear hF8 hF8' hD8 C7 hM8
  have C8 := Lib.hid (bookTrim_any w8 p5 _ _ 41 0 HD8.out (by omega) (by omega))
  go_wp2_with fail
  refine C8.out.mono ?_
  rintro e w9 ⟨rfl, _, hF9⟩
  have hF : Fr (fun k => w4.heap.size ≤ k) w7 w9 := HF8.out.trans (hF9.weak (fun k h => by
    rcases h with h | h
    · exact h.1
    · have := h.1; omega))
  have hz9 := hF.size
  have B9 := Lib.hid (B7.out.trans (hF.below B7.out.size (fun k h => by omega)))
  have HC9 := Lib.hid (HC7.out.fr hF (fun k h e => by have := h.2; omega))
  have HB9 := Lib.hid (HB7.out.fr hF (fun k h e => by have := HH.out k h; omega))
  have S9 : Hid (Sl w9 1 A3 m3 (u8s bs)) := Lib.hid (SlF.fr (E := fun k => w4.heap.size ≤ k) ⟨S7.out, fun b off h0 e hb => by have := S3.out.lt_ b off h0 e; have h2 : w4.heap.size ≤ b := hb; omega⟩ hF).1
  clear hF9 hF C8 HF8 HD8 HD7 HM8
  have hzb := and20 at_
  obtain ⟨j, hj⟩ : ∃ j : Nat, j = (bits BinOp.and IntKind.i64 at_ 1048575 % (m3 : Int)).toNat := ⟨_, rfl⟩
  have hjlt : j < m3 := by
    have h1 := Int.emod_lt_of_pos (bits BinOp.and IntKind.i64 at_ 1048575) (show (0 : Int) < m3 by omega)
    have h2 := Int.emod_nonneg (bits BinOp.and IntKind.i64 at_ 1048575) (show (m3 : Int) ≠ 0 by omega)
    omega
  have hmd0 := Int.emod_nonneg (bits BinOp.and IntKind.i64 at_ 1048575) (show (m3 : Int) ≠ 0 by omega)
  have hmd1 : bits BinOp.and IntKind.i64 at_ 1048575 % (m3 : Int) ≤ (c3 : Int) := by omega
  have hcj := hcut.out j (by omega)
  have HCJ := Lib.hid hcj
  have C9 := Lib.hid (decode_any A3 j c3 (bs.take j) ns bk 40 w9 (S9.out.pre_ (by omega)) (by omega) (by omega) (HM.out.step B9.out) HInv.out HN.out (by omega) hnl htl (fun h => by rw [HCJ.out] at h; cases h))
  have Hj := Lib.hid hj
  clear hcj
  go_wp2_with fail
  rw [← Hj.out]
  refine C9.out.mono ?_
  rintro e wa (⟨rfl, _, ba⟩ | ⟨_, _, hd, _⟩)
  case inr => rw [HCJ.out] at hd; cases hd
  have Ba := Lib.hid (bstep B9.out ba)
  have HCa := Lib.hid (HC9.out.step ba)
  have HBa := Lib.hid (HB9.out.step ba)
  have Sa := Lib.hid (S9.out.below ba)
  clear ba hj hzb hcut C9 hmd0 hmd1
  have q1 : 0 + m3 ≤ maxLen := Nat.le_trans (show 0 + m3 ≤ 900000000 by omega) (by decide)
  have q2 : (0 + m3) * 1 ≤ 140737488355328 := by omega
  have ho2 : Ow wa (wa.alloc (.cells #[] 5)) 5 1 (some ⟨wa.heap.size, 0, none⟩) 0 0 [] := ⟨World.ownsRow_made _ #[] 0 (Nat.le_refl _) (Nat.zero_le _) rfl, (Below.refl _ _).alloc (Nat.le_refl _) _⟩
  have HO2 := Lib.hid ho2
  have HSa := Lib.hid (Sa.out.alloc (.cells #[] 5))
  clear ho2
  have q3 : m3 + 1 ≤ maxLen := Nat.le_trans (show m3 + 1 ≤ 900000001 by omega) (by decide)
  have q4 : (m3 + 1) * 1 ≤ 140737488355328 := by omega
  go_wp2_with (first
    | (at_builtin; refine wpList_append_sl _ rfl (.tmp 66) (.tmp 67) _ rfl wa 5 i0 _ 1 1 Tryz.underlying40 hi0 hi1 hi2 hi3 rfl Nat.one_pos _ _ _ _ rfl HO2.out _ _ _ _ rfl HSa.out (one_u8s _) q1 q2 ?_; intro Ab cb wb hOb hgb hatb; rw [Nat.zero_add] at hOb; have HOb := Lib.hid (hOb.alloc (.cells #[.int .u8 0] 5)); have HSb := Lib.hid (sl_one wb 5 (.int .u8 0)); clear hOb hgb hatb)
    | (at_builtin; refine wpList_append_sl _ rfl (.tmp 68) (.tmp 69) _ rfl wa 5 i0 _ 1 1 Tryz.underlying40 hi0 hi1 hi2 hi3 rfl Nat.one_pos Ab m3 cb _ rfl HOb.out _ 1 1 [.int .u8 0] rfl HSb.out (one_u8s [0]) q3 q4 ?_; intro Ac cc wc hOc hgc hatc; have HOc := Lib.hid hOc; clear hOc hgc hatc)
    | fail)
  have Bc := Lib.hid (bstep Ba.out HOc.out.2)
  have Sc : Sl wc 1 Ac (m3 + 1) (u8s (bs ++ [0])) := by
    have h1 := HOc.out.sl
    rw [List.nil_append] at h1
    have h2 : u8s (bs ++ [0]) = u8s bs ++ [.int .u8 0] := by simp [u8s, U8]
    rw [h2]; exact h1
  have hput0 := HP0.out
  have hmore : bookB ns bk ≠ bs ++ [0] := by
    rw [← HBS.out]
    intro h
    have := congrArg List.length h
    simp at this
  have Cd := Lib.hid (decode_any Ac (m3 + 1) cc (bs ++ [0]) ns bk 40 wc Sc (by have := HOc.out.cap.1; omega) (by omega) (HM.out.step Bc.out) HInv.out HN.out (by omega) hnl htl (fun _ => ⟨by rw [hput0.2.1], by rw [hput0.2.2], by rw [hput0.1]; exact hnl⟩))
  have HCc := Lib.hid (HCa.out.step HOc.out.2)
  have HBc := Lib.hid (HBa.out.step HOc.out.2)
  have Scc := Lib.hid (Sa.out.below HOc.out.2)
  clear hput0
  refine Cd.out.mono ?_
  rintro e wd (⟨rfl, _, bd⟩ | ⟨_, _, _, hd, _⟩)
  case inr => exact absurd hd hmore
  have Bd := Lib.hid (bstep Bc.out bd)
  have HCd := Lib.hid (HCc.out.step bd)
  have HBd := Lib.hid (HBc.out.step bd)
  have Sd := Lib.hid (Scc.out.below bd)
  clear bd Sc hmore Cd
  have Ce := Lib.hid (encode_any wd p4 _ bk 40 HCd.out (by omega))
  go_wp2_with fail
  refine Ce.out.mono ?_
  rintro e we ⟨ns1, hN1, _, Ae, me, ce, rfl, hSe, _, be⟩
  obtain rfl := names_eq HN.out hN1
  have Be := Lib.hid (bstep Bd.out be)
  have HBe := Lib.hid (HBd.out.step be)
  have Se := Lib.hid (Sd.out.below be)
  rw [← HBS.out] at hSe
  have Sf := Lib.hid hSe
  clear be hSe hN1 Ce
  go_wp2_with fail
  refine (sameB_any Ae A3 me m3 ce c3 bs bs we Sf.out Se.out).mono ?_
  rintro e wf ⟨he, rfl⟩
  rw [decide_eq_true rfl] at he
  subst he
  have Cf := Lib.hid (encode_any we p H bk 40 HBe.out (by omega))
  go_wp2_with fail
  refine Cf.out.mono ?_
  rintro e wg ⟨ns2, hN2, _, Ag, mg, cg, rfl, hSg, _, bg⟩
  obtain rfl := names_eq HN.out hN2
  have Bg := Lib.hid (bstep Be.out bg)
  have Sg := Lib.hid (Se.out.below bg)
  rw [← HBS.out] at hSg
  have Sh := Lib.hid hSg
  clear bg hSg hN2 Cf
  go_wp2_with fail
  refine (sameB_any Ag A3 mg m3 cg c3 bs bs wg Sh.out Sg.out).mono ?_
  rintro e wh ⟨he, rfl⟩
  rw [decide_eq_true rfl] at he
  subst he
  go_wp2
  go_ret
  exact ⟨rfl, Bg.out⟩
end Go.Proofs.YtegehaokfcamfaaGreatDoor
