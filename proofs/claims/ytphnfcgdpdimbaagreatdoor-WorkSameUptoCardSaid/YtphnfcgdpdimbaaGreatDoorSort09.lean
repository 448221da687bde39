/-
  dolmenref09.Sorted: the same texts, rising. Condition: no more than 2000000.
-/
import Derived.Test.YtphnfcgdpdimbaaGreatDoorKitX
namespace Go.Proofs.YtphnfcgdpdimbaaGreatDoor
open Go.RowKit

set_option maxHeartbeats 4000000 in
set_option maxRecDepth 100000 in
theorem sorted09_any (A : Option Addr) (n c : Nat) (L : List (List UInt8)) (w : World) (hA : Sl w 1 A n (strs L)) (hn : n ≤ 2000000) :
    Calls Tryz.prog 139 #[.slice A n c] w fun e w' => ∃ A' c' out, e = .returned (.slice A' n c') ∧ out.Perm L ∧ (out.map (fun x : (List UInt8) => x)).Pairwise (· ≤ ·) ∧ n ≤ c' ∧ Ow w w' 9 1 A' n c' (strs out) := by
  obtain ⟨i0, hi0, hi1, hi2, hi3⟩ := info_parts Tryz.infoStr
  have HA := Lib.hid hA
  have Hlen := Lib.hid (strs_count hA)
  clear hA
  go_enter Tryz.func139, Tryz.ntmps139
  go_wp2
  go_loopw [3, 4] (fun s3 s4 wr => ∃ (i : Nat) (Ao : Option Addr) (co : Nat) (out : List (List UInt8)), i ≤ n ∧ s4 = .int .i64 i ∧ s3 = .slice Ao i co ∧ i ≤ co ∧ co ≤ maxLen ∧ Hid (out.Perm (L.take i)) ∧ Hid ((out.map (fun x : (List UInt8) => x)).Pairwise (· ≤ ·)) ∧ Hid (Ow w wr 9 1 Ao i co (strs out))) (fun _ s4 _ => n - (intOf s4).toNat)
  case atStart => exact ⟨0, none, 0, [], Nat.zero_le _, rfl, rfl, Nat.le_refl _, Nat.zero_le _, Lib.hid (by simp), Lib.hid (by simp), Lib.hid (Ow.nil_ (Below.refl _ _))⟩
  case round =>
    obtain ⟨i, Ao, co, out, hi, rfl, rfl, hico, hcm, HP, HS, HO⟩ := hrel
    simp only [maxLen] at hcm
    by_cases hlt : i < n
    · have hQ := HA.out.below HO.out.2
      have Hl : Hid (out.length = i) := Lib.hid (strs_count HO.out.sl)
      obtain ⟨b, off, x, rfl, hx, x0⟩ := hQ.str hlt
      have hb : b < wr.heap.size := Sl.lt_ hQ b off (by omega) rfl
      have HX := Lib.hid (show ∀ w', Below wr.heap.size wr w' → w'.cell? ⟨b, off + i, none⟩ = some (S x) ∧ b < w'.heap.size from
        fun w' h => ⟨(h.cell (p := ⟨b, off + i, none⟩) hb).trans x0, Nat.lt_of_lt_of_le hb h.size⟩)
      have Hx := Lib.hid hx
      clear hx hQ
      go_wp2
      go_loopw [5] (fun s5 wr' => ∃ (k m : Nat), k ≤ i ∧ s5 = .int .i64 k ∧ wr' = wr.drewN m ∧ Hid (∀ e ∈ out.take k, e < x)) (fun s5 _ => i - (intOf s5).toNat)
      case atStart => exact ⟨0, 0, Nat.zero_le _, rfl, rfl, Lib.hid (fun e he => by simp at he)⟩
      case round =>
        obtain ⟨k, mm, hk, rfl, rfl, HK⟩ := hrel
        have hstop : (∃ y, out[k]? = some y ∧ k < i ∧ y < x) ∨ ((i ≤ k ∨ ∃ y, out[k]? = some y ∧ k < i ∧ ¬ y < x)) := by
          by_cases hki : k < i
          · have hl := Hl.out
            obtain ⟨y, hy⟩ : ∃ y, out[k]? = some y := ⟨out[k]'(by omega), List.getElem?_eq_getElem _⟩
            by_cases hyx : y < x
            · exact .inl ⟨y, hy, hki, hyx⟩
            · exact .inr (.inr ⟨y, hy, hki, hyx⟩)
          · exact .inr (.inl (by omega))
        rcases hstop with ⟨y, hy, hki, hlo⟩ | hstop
        · obtain ⟨b', off', y', rfl, hy', y0⟩ := HO.out.sl.str hki
          obtain rfl : y' = y := Option.some.inj (hy'.symm.trans hy)
          have d1 : Op.bytesLess y' x = true := by rw [Go.Proofs.bytesLess_eq]; exact decide_eq_true hlo
          obtain ⟨z0, z1⟩ := HX.out wr (Below.refl _ _)
          have Hy := Lib.hid hy
          have Hlo := Lib.hid hlo
          clear hy hy' hlo
          go_wp2
          go_quiet (fail)
          go_wp2
          go_roundw
          case rel =>
            refine ⟨k + 1, _, by omega, by go_num, rfl, Lib.hid (fun e he => ?_)⟩
            rw [List.take_add_one, Hy.out] at he
            simp only [Option.toList_some, List.mem_append, List.mem_singleton] at he
            rcases he with he | rfl
            · exact HK.out e he
            · exact Hlo.out
          case measure => simp [intOf]; omega
        · have hlo : ∀ e ∈ out.take k, e ≤ x := fun e he => le_of_lt_bs (HK.out e he)
          have hhi : ∀ e ∈ out.drop k, x ≤ e := by
            rcases hstop with h | ⟨y, hy, _, hno⟩
            · intro e he
              rw [List.drop_eq_nil_of_le (by have := Hl.out; omega)] at he
              simp at he
            · exact rise_high (f := fun x : (List UInt8) => x) HS.out hy (List.not_lt.1 hno)
          have HP2 : Hid ((out.take k ++ x :: out.drop k).Perm (L.take (i + 1))) := Lib.hid (by
            rw [List.take_add_one, Hx.out]
            exact (ins_perm out x k).trans (HP.out.append_right [x]))
          have HS2 : Hid (((out.take k ++ x :: out.drop k).map (fun x : (List UInt8) => x)).Pairwise (· ≤ ·)) := Lib.hid (ins_le (f := fun x : (List UInt8) => x) HS.out hlo hhi)
          have sK := HO.out.sl.top9 hk
          have sI := HO.out.sl.cut (l := k) (r := i) (c := co) hk (Nat.le_refl _) hico
          rw [(strs_cut k).2] at sK
          rw [(strs_cut k).1, List.take_of_length_le (by rw [strs_length, List.length_drop, Hl.out]; exact Nat.le_refl _)] at sI
          have kL := fun W : World => run_cut_l (P := Tryz.prog) W Tryz.underlying52 Tryz.sizeStr Ao i co .i64 k hk
          obtain ⟨XI, hXI⟩ : ∃ X, cutA Ao co k 1 = X := ⟨_, rfl⟩
          obtain ⟨nI, hnI⟩ : ∃ nI, i - k = nI := ⟨_, rfl⟩
          rw [hXI, hnI] at kL sI
          have SK := Lib.hid sK
          have SI := Lib.hid sI
          have q1 : 0 + k ≤ maxLen := by simp only [maxLen]; omega
          have q2 : (0 + k) * 16 ≤ 140737488355328 := by omega
          have q3 : k + 1 ≤ maxLen := by simp only [maxLen]; omega
          have q4 : (k + 1) * 16 ≤ 140737488355328 := by omega
          have q5 : k + 1 + nI ≤ maxLen := by simp only [maxLen]; omega
          have q6 : (k + 1 + nI) * 16 ≤ 140737488355328 := by omega
          have HnI := Lib.hid hnI
          have hways : i ≤ k ∨ ∃ y, out[k]? = some y ∧ k < i ∧ Op.bytesLess y x = false := by
            rcases hstop with h | ⟨y, hy, hki, hno⟩
            · exact .inl h
            · exact .inr ⟨y, hy, hki, by rw [Go.Proofs.bytesLess_eq]; exact decide_eq_false hno⟩
          clear hlo hhi sK sI hXI hnI hstop HK
          rcases hways with hki | ⟨y, hy, hki, d1⟩
          · have d0 : decide (k < i) = false := by simp; omega
            obtain ⟨z0, z1⟩ := HX.out wr (Below.refl _ _)
            go_wp2
            go_quiet (fail)
            clear d0
            obtain ⟨w9, hw9⟩ : ∃ w9, (wr.drewN mm).drewN nq = w9 := ⟨_, rfl⟩
            have b9 : Below wr.heap.size wr w9 := by rw [← hw9]; exact below_drewN (below_drewN (Below.refl _ _) _) _
            rw [hw9]
            have SK9 := Lib.hid (SK.out.below b9)
            have SI9 := Lib.hid (SI.out.below b9)
            have B9 := Lib.hid b9
            clear hw9 b9 z0 z1
            go_wp2_with (first
              | (at_builtin; refine wpList_append_sl _ rfl (.tmp 30) (.tmp 33) _ rfl w9 9 i0 _ 1 16 Tryz.underlying52 hi0 hi1 hi2 hi3 rfl (by omega) none 0 0 [] rfl (Ow.nil_ (Below.refl _ _)) Ao k _ (strs (out.take k)) rfl SK9.out (one_strs _) q1 q2 ?_; intro A3 c3 w3 hO3 hg3 hat3; rw [Nat.zero_add, List.nil_append] at hO3; obtain ⟨u0, u1⟩ := HX.out w3 (bstep B9.out hO3.2))
              | (at_builtin; refine wpList_append_sl _ rfl (.tmp 35) (.tmp 40) _ rfl w9 9 i0 _ 1 16 Tryz.underlying52 hi0 hi1 hi2 hi3 rfl (by omega) A3 k c3 (strs (out.take k)) rfl (hO3.alloc _) (some ⟨w3.heap.size, 0, none⟩) 1 _ (strs [x]) rfl (sl_one w3 _ (S x)) (one_strs _) q3 q4 ?_; intro A4 c4 w4 hO4 hg4 hat4)
              | (at_builtin; refine wpList_append_sl _ rfl (.tmp 42) (.tmp 45) _ rfl w9 9 i0 _ 1 16 Tryz.underlying52 hi0 hi1 hi2 hi3 rfl (by omega) A4 (k + 1) c4 (strs (out.take k) ++ strs [x]) rfl hO4 XI nI _ (strs (out.drop k)) rfl (SI9.out.below hO4.2) (one_strs _) q5 q6 ?_; intro A5 c5 w5 hO5 hg5 hat5))
            have e6 : k + 1 + nI = i + 1 := by have := HnI.out; omega
            rw [e6, ← strs_append, ← strs_append, List.append_assoc, List.singleton_append] at hO5
            have hc5 := hO5.cap
            have HO5 := Lib.hid (hO5.since (HO.out.2.trans (B9.out.mono HO.out.2.size)))
            go_roundw
            case rel => exact ⟨i + 1, A5, c5, _, by omega, by go_num, by rw [e6], by omega, by simp only [maxLen] at hc5 ⊢; omega, HP2, HS2, HO5⟩
            case measure => simp [intOf]; omega
          · obtain ⟨b', off', y', rfl, hy', y0⟩ := HO.out.sl.str hki
            obtain rfl : y' = y := Option.some.inj (hy'.symm.trans hy)
            obtain ⟨z0, z1⟩ := HX.out wr (Below.refl _ _)
            clear hy hy'
            go_wp2
            go_quiet (fail)
            clear d1
            obtain ⟨w9, hw9⟩ : ∃ w9, (wr.drewN mm).drewN nq = w9 := ⟨_, rfl⟩
            have b9 : Below wr.heap.size wr w9 := by rw [← hw9]; exact below_drewN (below_drewN (Below.refl _ _) _) _
            rw [hw9]
            have SK9 := Lib.hid (SK.out.below b9)
            have SI9 := Lib.hid (SI.out.below b9)
            have B9 := Lib.hid b9
            clear y0 hw9 b9 z0 z1
            go_wp2_with (first
              | (at_builtin; refine wpList_append_sl _ rfl (.tmp 30) (.tmp 33) _ rfl w9 9 i0 _ 1 16 Tryz.underlying52 hi0 hi1 hi2 hi3 rfl (by omega) none 0 0 [] rfl (Ow.nil_ (Below.refl _ _)) (some ⟨b', off', none⟩) k _ (strs (out.take k)) rfl SK9.out (one_strs _) q1 q2 ?_; intro A3 c3 w3 hO3 hg3 hat3; rw [Nat.zero_add, List.nil_append] at hO3; obtain ⟨u0, u1⟩ := HX.out w3 (bstep B9.out hO3.2))
              | (at_builtin; refine wpList_append_sl _ rfl (.tmp 35) (.tmp 40) _ rfl w9 9 i0 _ 1 16 Tryz.underlying52 hi0 hi1 hi2 hi3 rfl (by omega) A3 k c3 (strs (out.take k)) rfl (hO3.alloc _) (some ⟨w3.heap.size, 0, none⟩) 1 _ (strs [x]) rfl (sl_one w3 _ (S x)) (one_strs _) q3 q4 ?_; intro A4 c4 w4 hO4 hg4 hat4)
              | (at_builtin; refine wpList_append_sl _ rfl (.tmp 42) (.tmp 45) _ rfl w9 9 i0 _ 1 16 Tryz.underlying52 hi0 hi1 hi2 hi3 rfl (by omega) A4 (k + 1) c4 (strs (out.take k) ++ strs [x]) rfl hO4 XI nI _ (strs (out.drop k)) rfl (SI9.out.below hO4.2) (one_strs _) q5 q6 ?_; intro A5 c5 w5 hO5 hg5 hat5))
            have e6 : k + 1 + nI = i + 1 := by have := HnI.out; omega
            rw [e6, ← strs_append, ← strs_append, List.append_assoc, List.singleton_append] at hO5
            have hc5 := hO5.cap
            have HO5 := Lib.hid (hO5.since (HO.out.2.trans (B9.out.mono HO.out.2.size)))
            go_roundw
            case rel => exact ⟨i + 1, A5, c5, _, by omega, by go_num, by rw [e6], by omega, by simp only [maxLen] at hc5 ⊢; omega, HP2, HS2, HO5⟩
            case measure => simp [intOf]; omega
    · obtain rfl : i = n := by omega
      have hall : L.take i = L := List.take_of_length_le (by rw [Hlen.out]; exact Nat.le_refl _)
      rw [hall] at HP
      clear hall
      go_wp2
      go_ret
      exact ⟨Ao, co, out, rfl, HP.out, HS.out, hico, HO.out⟩
end Go.Proofs.YtphnfcgdpdimbaaGreatDoor
