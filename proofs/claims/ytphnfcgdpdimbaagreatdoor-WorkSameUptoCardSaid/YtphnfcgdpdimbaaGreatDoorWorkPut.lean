/-
  work.Put. Conditions: the path is no longer than 2147483648 bytes; the disk lies in memory, is on, has no cut ahead; the content can be read; MaxLen holds an int.
-/
import Derived.Test.YtphnfcgdpdimbaaGreatDoorSafeSave
import Derived.Test.YtphnfcgdpdimbaaGreatDoorKitG
namespace Go.Proofs.YtphnfcgdpdimbaaGreatDoor
open Go.RowKit Go.Shelf
open PathLaw (named pc)

theorem idx_none {s : List UInt8} {c : UInt8} : Lib.indexByte s c < 0 ↔ c ∉ s := by
  induction s with
  | nil => simp [Lib.indexByte]
  | cons x l ih =>
    have h1 := Lib.indexByte_ge l c
    unfold Lib.indexByte
    by_cases hx : x = c
    · subst hx
      simp
    · rw [if_neg (by simpa using hx), List.mem_cons, not_or]
      by_cases hl : Lib.indexByte l c = -1
      · rw [if_pos (by simpa using hl)]
        exact ⟨fun _ => ⟨fun e => hx e.symm, ih.1 (by omega)⟩, fun _ => by omega⟩
      · rw [if_neg (by simpa using hl)]
        exact ⟨fun h => by omega, fun h => absurd (ih.2 h.2) (by omega)⟩
theorem pc_mem : ∀ (s : List UInt8) (c : UInt8), c ∈ s → c = 47 ∨ ∃ x ∈ pc s, c ∈ x
  | [], c, h => by simp at h
  | x :: b, c, h => by
    unfold pc
    by_cases hx : x = 47
    · rw [if_pos hx]
      rcases List.mem_cons.1 h with rfl | h
      · exact .inl hx
      · rcases pc_mem b c h with h1 | ⟨y, hy, hc⟩
        · exact .inl h1
        · exact .inr ⟨y, List.mem_cons_of_mem _ hy, hc⟩
    · rw [if_neg hx]
      have hne := PathLaw.pc_ne b
      rcases hb : pc b with _ | ⟨y, r⟩
      · exact absurd hb hne
      · rcases List.mem_cons.1 h with rfl | h
        · exact .inr ⟨c :: y, by simp, by simp⟩
        · rcases pc_mem b c h with h1 | ⟨z, hz, hc⟩
          · exact .inl h1
          · rw [hb] at hz
            rcases List.mem_cons.1 hz with rfl | hz
            · exact .inr ⟨x :: z, by simp, by simp [hc]⟩
            · exact .inr ⟨z, by simp [hz], hc⟩
theorem named_zero {p : List UInt8} (h : named p = true) : (0 : UInt8) ∉ p ∧ p.length ≤ 150 ∧ p ≠ [] := by
  unfold named at h
  simp only [Bool.and_eq_true, decide_eq_true_eq, List.all_eq_true] at h
  refine ⟨fun h0 => ?_, h.2.2, fun e => ?_⟩
  · rcases pc_mem p 0 h0 with h1 | ⟨x, hx, h1⟩
    · exact absurd h1 (by decide)
    · have h2 := h.1 x hx
      unfold PathLaw.part at h2
      simp only [Bool.and_eq_true, decide_eq_true_eq] at h2
      exact idx_none.1 h2.2.2.2.1 h1
  · subst e
    have h2 := h.1 [] (by simp [pc])
    unfold PathLaw.part at h2
    simp at h2
theorem worked_ok {p : List UInt8} (h : workedB p = true) : okName (shName (wname p)) = true ∧ wname p ≠ [] ∧ Lib.hasSuffix (wname p) [126] = false ∧ p.length ≤ 150 := by
  unfold workedB at h
  rw [Bool.and_eq_true, Bool.not_eq_true'] at h
  obtain ⟨h1, h2, h3⟩ := named_zero h.1
  refine ⟨?_, by simp [wname], ?_, h2⟩
  · unfold okName shName wname
    simp only [Bool.and_eq_true, decide_eq_true_eq]
    refine ⟨by simp, by simp; omega, idx_none.2 ?_⟩
    simp [h1]
  · have h4 := h.2
    unfold Lib.hasSuffix at h4 ⊢
    rw [Bool.eq_false_iff] at h4 ⊢
    intro h5
    apply h4
    rw [List.isSuffixOf_iff_suffix] at h5 ⊢
    obtain ⟨t, ht⟩ := h5
    rcases List.eq_nil_or_concat p with rfl | ⟨q, x, rfl⟩
    · exact absurd rfl h3
    · refine ⟨q, ?_⟩
      have h6 : t ++ [126] = (wname q) ++ [x] := by rw [ht]; simp [wname]
      have := List.append_inj' h6 rfl
      rw [this.2]
      simp
/-- what may not be put -/
def putBad (p : List UInt8) (st : Int) (n : Nat) : Bool := !workedB p || (decide (st < 0) || (decide (1099511627776 < st) || decide (1048576 < (n : Int))))
/-- a working file's bytes -/
def wbytes (st : Nat) (bs : List UInt8) : List UInt8 := putNum st ++ bs
set_option maxRecDepth 100000 in
set_option maxHeartbeats 2000000 in
theorem wput_bad (w : World) (p m n : Nat) (cap : Int) (L : List DF) (s : List UInt8) (A : Option Addr) (k c : Nat) (st : Int) (h : DiskAt w p m n cap L) (hs : s.length ≤ 2147483648) (hM : MaxL w) (_hk : k ≤ maxLen) (hb : putBad s st k = true) :
    Calls Tryz.prog 8 #[.pointer (some ⟨p, 0, none⟩), S s, .slice A k c, I st] w fun e w' => e = .returned (I 1) ∧ Below w.heap.size w w' := by
  unfold maxLen at _hk
  have C1 := wright_any w p m n cap L s h hs hM
  have hways : workedB s = false ∨ (workedB s = true ∧ decide (st < 0) = true) ∨ (workedB s = true ∧ decide (st < 0) = false ∧ decide (1099511627776 < st) = true) ∨ (workedB s = true ∧ decide (st < 0) = false ∧ decide (1099511627776 < st) = false ∧ decide (1048576 < (k : Int)) = true) := by
    unfold putBad at hb
    rcases a1 : workedB s with _ | _ <;> rcases a2 : decide (st < 0) with _ | _ <;> rcases a3 : decide (1099511627776 < st) with _ | _ <;> rcases a4 : decide (1048576 < (k : Int)) with _ | _ <;> rw [a1, a2, a3, a4] at hb <;> first | (exact absurd hb (by decide)) | simp
  clear h hM hb
  rcases hways with h1 | ⟨h1, h2⟩ | ⟨h1, h2, h3⟩ | ⟨h1, h2, h3, h4⟩
  all_goals
    rw [h1] at C1
    have C1' := Lib.hid C1
    clear C1 h1
    go_enter Tryz.func8, Tryz.ntmps8
    go_wp2_with (go_at_call 36; refine C1'.out.mono ?_; rintro e w1 ⟨rfl, b1⟩; have B1 := Lib.hid b1; clear b1)
    go_ret
    exact ⟨rfl, B1.out⟩
set_option maxRecDepth 100000 in
set_option maxHeartbeats 4000000 in
theorem wput_good (w : World) (p m n : Nat) (cap : Int) (L : List DF) (s : List UInt8) (A : Option Addr) (k c : Nat) (bs : List UInt8) (st : Nat) (h : DiskAt w p m n cap L) (hM : MaxL w) (hA : Sl w 1 A k (u8s bs)) (hb : putBad s st k = false)
    (hcap : cap ≤ 4000000000000) (hc : (costs L : Int) ≤ cap) (hn : n + 100000 < maxLen) :
    Calls Tryz.prog 8 #[.pointer (some ⟨p, 0, none⟩), S s, .slice A k c, I st] w fun e w' => (e = .returned (I 4) ∧ cap - costs (dropF L (shName (wname s))) < 16 + ((wname s).length + 1) + (wbytes st bs).length ∧ DiskAt w' p m n cap (dropF L (shName (wname s))) ∧ Fr (fun k => k = p ∨ k = m) w w')
      ∨ (e = .returned (I 0) ∧ ((16 + ((wname s).length + 1) + (wbytes st bs).length : Nat) : Int) ≤ cap - costs (dropF L (shName (wname s))) ∧ ∃ hd n', n' ≤ n + 100000 ∧ DiskAt w' p m n' cap (putF (dropF L (shName (wname s))) (wname s) hd (wbytes st bs)) ∧ Fr (fun k => k = p ∨ k = m) w w') := by
  obtain ⟨i0, hi0, hz0, hz1, hz2⟩ := info_parts Tryz.infoU8
  have hw : workedB s = true ∧ decide ((st : Int) < 0) = false ∧ decide (1099511627776 < (st : Int)) = false ∧ decide (1048576 < (k : Int)) = false := by
    unfold putBad at hb
    simp only [Bool.or_eq_false_iff, Bool.not_eq_false'] at hb
    exact hb
  obtain ⟨h1, h2, h3, h4⟩ := hw
  obtain ⟨o1, o2, o3, o4⟩ := worked_ok h1
  have C1 := wright_any w p m n cap L s h (by omega) hM
  rw [h1] at C1
  have C1' := Lib.hid C1
  have HD := Lib.hid h
  have HA := Lib.hid hA
  have O1 := Lib.hid o1
  have O2 := Lib.hid o2
  have O3 := Lib.hid o3
  have hk3 : k ≤ 1048576 := by have := of_decide_eq_false h4; omega
  have hst : st ≤ 1099511627776 := by have := of_decide_eq_false h3; omega
  have hpl : (putNum st).length ≤ 9 := putNum_len_le (by unfold top62; omega)
  have hbl : bs.length = k := u8s_len hA
  clear h hM hA hb C1 h1 o1 o2 o3
  go_enter Tryz.func8, Tryz.ntmps8
  go_wp2_with (first
    | (go_at_call 36; refine C1'.out.mono ?_; rintro e w1 ⟨rfl, b1⟩; have B1 := Lib.hid b1; have CN := Lib.hid (wname_any s w1 (by omega)); have CP := Lib.hid (putNum_nat none 0 0 st [] w1 Sl.nil_ (by omega) (by omega)); clear b1)
    | (go_at_call 29; refine CN.out.mono ?_; rintro e w' ⟨rfl, h⟩; obtain rfl := h.symm; clear h))
  refine CP.out.mono ?_
  rintro e w2 ⟨A2, k2, c2, rfl, hO2⟩
  rw [List.nil_append] at hO2
  have e2 : (putNum st).length = k2 := ow_len hO2
  have HO2 := Lib.hid hO2
  have E2 := Lib.hid e2
  have B2 := Lib.hid (bstep B1.out hO2.2)
  have HA2 := Lib.hid (HA.out.below B2.out)
  have HO3 := Lib.hid (hO2.since B1.out)
  have q1 := Lib.hid (show k2 + k ≤ maxLen by simp only [maxLen]; omega)
  have q2 := Lib.hid (show (k2 + k) * 1 ≤ 140737488355328 by omega)
  clear hO2 CP CN
  go_wp2_with (at_builtin; refine wpList_append_sl _ rfl (.tmp 30) (.tmp 31) _ rfl w 5 i0 _ 1 1 Tryz.underlying27 hi0 hz0 hz1 hz2 rfl Nat.one_pos A2 k2 c2 _ rfl HO3.out A k c (u8s bs) rfl HA2.out (one_u8s bs) q1.out q2.out ?_; intro A5 c5 w5 hO5 hg5 hat5; have HO5 := Lib.hid hO5; clear hO5 hg5 hat5)
  have hpos : 0 < k2 + k := by have := putNum_len_pos st; have := E2.out; omega
  obtain ⟨g, rfl, hg1, hg2⟩ := HO5.out.form hpos
  have ho5 := HO5.out
  rw [show u8s (putNum st) ++ u8s bs = u8s (wbytes st bs) by unfold wbytes; simp [u8s]] at ho5
  have hwl : (wbytes st bs).length = k2 + k := ow_len ho5
  have hb5 := ho5.2
  have CS := Lib.hid (save_good w5 p m n cap L (wname s) g 0 (k2 + k) c5 (wbytes st bs) (HD.out.step hb5) (ho5.slT.weak (fun _ _ _ => trivial)) hpos (by have := E2.out; omega) ho5.cap.1 ho5.cap.2 O1.out O2.out O3.out hcap hc hn)
  have B5 := Lib.hid hb5
  have Hwl := Lib.hid hwl
  clear ho5 hwl hb5 HO5 hpos
  go_wp2_with fail
  refine CS.out.mono ?_
  rintro e w6 (⟨rfl, z1, z2, z3⟩ | ⟨rfl, z1, hd, n', z2, z3, z4⟩)
  · have Z1 := Lib.hid z1
    have Z2 := Lib.hid z2
    have Z3 := Lib.hid z3
    clear z1 z2 z3 CS
    go_wp2
    go_ret
    exact .inl ⟨rfl, by have := Z1.out; rw [Hwl.out]; omega, Z2.out, (Fr.of_below B5.out).trans Z3.out⟩
  · have Z1 := Lib.hid z1
    have Z2 := Lib.hid z2
    have Z3 := Lib.hid z3
    have Z4 := Lib.hid z4
    clear z1 z2 z3 z4 CS
    go_wp2
    go_ret
    exact .inr ⟨rfl, by have := Z1.out; rw [Hwl.out]; omega, hd, n', Z2.out, Z3.out, (Fr.of_below B5.out).trans Z4.out⟩
end Go.Proofs.YtphnfcgdpdimbaaGreatDoor
