/-
  dolmenref13.Sorted: the same files, their paths rising. Condition: no more than 2000000.
-/
import Derived.Test.YtkginbfpokbhcaaGreatDoorKitX
namespace Go.Proofs.YtkginbfpokbhcaaGreatDoor
open Go.RowKit

theorem Tryz.sizeRFil (w : World) : (sizeOf 33).run Tryz.prog w = .ok 2 w := by kernel_rfl
set_option maxHeartbeats 4000000 in
set_option maxRecDepth 100000 in
theorem sorted13_any (A : Option Addr) (n c : Nat) (L : List Fil) (w : World) (hA : Sl w 2 A n (fls L)) (hn : n ≤ 2000000) :
    Calls Tryz.prog 17 #[.slice A n c] w fun e w' => ∃ A' c' out, e = .returned (.slice A' n c') ∧ out.Perm L ∧ (out.map (fun x : Fil => x.1)).Pairwise (· ≤ ·) ∧ n ≤ c' ∧ Ow w w' 33 2 A' n c' (fls out) := by
  obtain ⟨i0, hi0, hi1, hi2, hi3⟩ := info_parts Tryz.infoRFil
  have HA := Lib.hid hA
  have Hlen := Lib.hid (fls_count hA)
  clear hA
  go_enter Tryz.func17, Tryz.ntmps17
  go_wp2
  go_loopw [3, 4] (fun s3 s4 wr => ∃ (i : Nat) (Ao : Option Addr) (co : Nat) (out : List Fil), i ≤ n ∧ s4 = .int .i64 i ∧ s3 = .slice Ao i co ∧ i ≤ co ∧ co ≤ maxLen ∧ Hid (out.Perm (L.take i)) ∧ Hid ((out.map (fun x : Fil => x.1)).Pairwise (· ≤ ·)) ∧ Hid (Ow w wr 33 2 Ao i co (fls out))) (fun _ s4 _ => n - (intOf s4).toNat)
  case atStart => exact ⟨0, none, 0, [], Nat.zero_le _, rfl, rfl, Nat.le_refl _, Nat.zero_le _, Lib.hid (by simp), Lib.hid (by simp), Lib.hid (Ow.nil_ (Below.refl _ _))⟩
  case round =>
    obtain ⟨i, Ao, co, out, hi, rfl, rfl, hico, hcm, HP, HS, HO⟩ := hrel
    simp only [maxLen] at hcm
    by_cases hlt : i < n
    · have hQ := HA.out.below HO.out.2
      have Hl : Hid (out.length = i) := Lib.hid (fls_count HO.out.sl)
      obtain ⟨b, off, x, rfl, _, hx, x0, x1⟩ := hQ.fil hlt
      have hb : b < wr.heap.size := Sl.lt_ hQ b off (by omega) rfl
      have HX := Lib.hid (show ∀ w', Below wr.heap.size wr w' → w'.cell? ⟨b, off + i * 2, none⟩ = some (S x.1) ∧ w'.cell? ⟨b, off + i * 2 + 1, none⟩ = some (S x.2) ∧ b < w'.heap.size from
        fun w' h => ⟨(h.cell (p := ⟨b, off + i * 2, none⟩) hb).trans x0, (h.cell (p := ⟨b, off + i * 2 + 1, none⟩) hb).trans x1, Nat.lt_of_lt_of_le hb h.size⟩)
      have Hx := Lib.hid hx
      clear hx hQ
      go_wp2
      go_loopw [5] (fun s5 wr' => ∃ (k m : Nat), k ≤ i ∧ s5 = .int .i64 k ∧ wr' = wr.drewN m ∧ Hid (∀ e ∈ out.drop k, x.1 < e.1)) (fun s5 _ => (intOf s5).toNat)
      case atStart => exact ⟨i, 0, Nat.le_refl _, rfl, rfl, Lib.hid (fun e he => by rw [List.drop_eq_nil_of_le (by have := Hl.out; omega)] at he; simp at he)⟩
      case round =>
        obtain ⟨k, mm, hk, rfl, rfl, HK⟩ := hrel
        have hstop : (∃ j y, k = j + 1 ∧ out[j]? = some y ∧ x.1 < y.1) ∨ (k = 0 ∨ ∃ j y, k = j + 1 ∧ out[j]? = some y ∧ ¬ x.1 < y.1) := by
          rcases k with _ | j
          · exact .inr (.inl rfl)
          · have hl := Hl.out
            obtain ⟨y, hy⟩ : ∃ y, out[j]? = some y := ⟨out[j]'(by omega), List.getElem?_eq_getElem _⟩
            by_cases hyx : x.1 < y.1
            · exact .inl ⟨j, y, rfl, hy, hyx⟩
            · exact .inr (.inr ⟨j, y, rfl, hy, hyx⟩)
        rcases hstop with ⟨j, y, rfl, hy, hlo⟩ | hstop
        · obtain ⟨b', off', y', rfl, _, hy', y0, y1⟩ := HO.out.sl.fil (k := j) (by omega)
          obtain rfl : y' = y := Option.some.inj (hy'.symm.trans hy)
          have d1 : Op.bytesLess (y'.1) (x.1) = false := by rw [Go.Proofs.bytesLess_eq]; exact decide_eq_false (fun h => lt_irr_bs _ (List.lt_trans h hlo))
          have d2 : (y'.1 == x.1) = false := beq_eq_false_iff_ne.2 (fun h => lt_irr_bs (x.1) (by rw [h] at hlo; exact hlo))
          obtain ⟨z0, z1, z2⟩ := HX.out wr (Below.refl _ _)
          have Hy := Lib.hid hy
          have Hlo := Lib.hid hlo
          clear hy hy' hlo
          go_wp2
          go_quiet (fail)
          go_wp2
          go_roundw
          case rel =>
            refine ⟨j, _, by omega, by go_num, rfl, Lib.hid (fun e he => ?_)⟩
            obtain ⟨hj, ej⟩ := List.getElem?_eq_some_iff.1 Hy.out
            rw [List.drop_eq_getElem_cons hj, ej] at he
            rcases List.mem_cons.1 he with rfl | he
            · exact Hlo.out
            · exact HK.out e he
          case measure => simp [intOf]
        · have hhi : ∀ e ∈ out.drop k, x.1 ≤ e.1 := fun e he => le_of_lt_bs (HK.out e he)
          have hlo : ∀ e ∈ out.take k, e.1 ≤ x.1 := by
            rcases hstop with rfl | ⟨j, y, rfl, hy, hno⟩
            · intro e he
              simp at he
            · exact rise_low (f := fun x : Fil => x.1) HS.out hy (List.not_lt.1 hno)
          have HP2 : Hid ((out.take k ++ x :: out.drop k).Perm (L.take (i + 1))) := Lib.hid (by
            rw [List.take_add_one, Hx.out]
            exact (ins_perm out x k).trans (HP.out.append_right [x]))
          have HS2 : Hid (((out.take k ++ x :: out.drop k).map (fun x : Fil => x.1)).Pairwise (· ≤ ·)) := Lib.hid (ins_le (f := fun x : Fil => x.1) HS.out hlo hhi)
          have sK := HO.out.sl.top9 hk
          have sI := HO.out.sl.cut (l := k) (r := i) (c := co) hk (Nat.le_refl _) hico
          rw [(fls_cut k).2] at sK
          rw [(fls_cut k).1, List.take_of_length_le (by rw [fls_len, List.length_drop, Hl.out]; exact Nat.le_refl _)] at sI
          have kL := fun W : World => run_cut_l (P := Tryz.prog) W Tryz.underlying22 Tryz.sizeRFil Ao i co .i64 k hk
          obtain ⟨XI, hXI⟩ : ∃ X, cutA Ao co k 2 = X := ⟨_, rfl⟩
          obtain ⟨nI, hnI⟩ : ∃ nI, i - k = nI := ⟨_, rfl⟩
          rw [hXI, hnI] at kL sI
          have SK := Lib.hid sK
          have SI := Lib.hid sI
          have q1 : 0 + k ≤ maxLen := by simp only [maxLen]; omega
          have q2 : (0 + k) * 32 ≤ 140737488355328 := by omega
          have q3 : k + 1 ≤ maxLen := by simp only [maxLen]; omega
          have q4 : (k + 1) * 32 ≤ 140737488355328 := by omega
          have q5 : k + 1 + nI ≤ maxLen := by simp only [maxLen]; omega
          have q6 : (k + 1 + nI) * 32 ≤ 140737488355328 := by omega
          have HnI := Lib.hid hnI
          have hways : k ≤ 0 ∨ (∃ j y, (k ≤ j + 1 ∧ j + 1 ≤ k) ∧ out[j]? = some y ∧ Op.bytesLess (y.1) (x.1) = true) ∨ ∃ j y, (k ≤ j + 1 ∧ j + 1 ≤ k) ∧ out[j]? = some y ∧ Op.bytesLess (y.1) (x.1) = false ∧ (y.1 == x.1) = true := by
            rcases hstop with h | ⟨j, y, hj, hy, hno⟩
            · exact .inl (by omega)
            · by_cases hlt2 : y.1 < x.1
              · exact .inr (.inl ⟨j, y, ⟨by omega, by omega⟩, hy, by rw [Go.Proofs.bytesLess_eq]; exact decide_eq_true hlt2⟩)
              · exact .inr (.inr ⟨j, y, ⟨by omega, by omega⟩, hy, by rw [Go.Proofs.bytesLess_eq]; exact decide_eq_false hlt2, beq_iff_eq.2 (List.le_antisymm (List.not_lt.1 hno) (List.not_lt.1 hlt2))⟩)
          clear hlo hhi sK sI hXI hnI hstop HK
          rcases hways with hk0 | ⟨j, y, ⟨hj1, hj2⟩, hy, d1⟩ | ⟨j, y, ⟨hj1, hj2⟩, hy, d1, d3⟩
          · have d0 : decide (0 < k) = false := by simp; omega
            clear hk0
            obtain ⟨z0, z1, z2⟩ := HX.out wr (Below.refl _ _)
            go_wp2
            go_quiet (fail)
            clear d0
            obtain ⟨w9, hw9⟩ : ∃ w9, (wr.drewN mm).drewN nq = w9 := ⟨_, rfl⟩
            have b9 : Below wr.heap.size wr w9 := by rw [← hw9]; exact below_drewN (below_drewN (Below.refl _ _) _) _
            rw [hw9]
            have SK9 := Lib.hid (SK.out.below b9)
            have SI9 := Lib.hid (SI.out.below b9)
            have B9 := Lib.hid b9
            clear hw9 b9 z0 z1 z2
            go_wp2_with (first
              | (at_builtin; refine wpList_append_sl _ rfl (.tmp 33) (.tmp 36) _ rfl w9 33 i0 _ 2 32 Tryz.underlying22 hi0 hi1 hi2 hi3 rfl (by omega) none 0 0 [] rfl (Ow.nil_ (Below.refl _ _)) Ao k _ (fls (out.take k)) rfl SK9.out (one_fls _) q1 q2 ?_; intro A3 c3 w3 hO3 hg3 hat3; rw [Nat.zero_add, List.nil_append] at hO3; obtain ⟨u0, u1, u2⟩ := HX.out w3 (bstep B9.out hO3.2))
              | (at_builtin; refine wpList_append_sl _ rfl (.tmp 38) (.tmp 43) _ rfl w9 33 i0 _ 2 32 Tryz.underlying22 hi0 hi1 hi2 hi3 rfl (by omega) A3 k c3 (fls (out.take k)) rfl (hO3.alloc _) (some ⟨w3.heap.size, 0, none⟩) 1 _ (fls [x]) rfl (sl_fil w3 _ x) (one_fls _) q3 q4 ?_; intro A4 c4 w4 hO4 hg4 hat4)
              | (at_builtin; refine wpList_append_sl _ rfl (.tmp 45) (.tmp 48) _ rfl w9 33 i0 _ 2 32 Tryz.underlying22 hi0 hi1 hi2 hi3 rfl (by omega) A4 (k + 1) c4 (fls (out.take k) ++ fls [x]) rfl hO4 XI nI _ (fls (out.drop k)) rfl (SI9.out.below hO4.2) (one_fls _) q5 q6 ?_; intro A5 c5 w5 hO5 hg5 hat5))
            have e6 : k + 1 + nI = i + 1 := by have := HnI.out; omega
            rw [e6, ← fls_append, ← fls_append, List.append_assoc, List.singleton_append] at hO5
            have hc5 := hO5.cap
            have HO5 := Lib.hid (hO5.since (HO.out.2.trans (B9.out.mono HO.out.2.size)))
            go_roundw
            case rel => exact ⟨i + 1, A5, c5, _, by omega, by go_num, by rw [e6], by omega, by simp only [maxLen] at hc5 ⊢; omega, HP2, HS2, HO5⟩
            case measure => simp [intOf]; omega
          · obtain ⟨b', off', y', rfl, _, hy', y0, y1⟩ := HO.out.sl.fil (k := j) (by omega)
            obtain rfl : y' = y := Option.some.inj (hy'.symm.trans hy)
            obtain ⟨z0, z1, z2⟩ := HX.out wr (Below.refl _ _)
            have d0 : decide (0 < k) = true := by simp; omega
            have d2 : (k : Int) - 1 = (j : Int) := by omega
            clear hy hy'
            go_wp2
            go_quiet (fail)
            clear d1 d0 d2
            obtain ⟨w9, hw9⟩ : ∃ w9, (wr.drewN mm).drewN nq = w9 := ⟨_, rfl⟩
            have b9 : Below wr.heap.size wr w9 := by rw [← hw9]; exact below_drewN (below_drewN (Below.refl _ _) _) _
            rw [hw9]
            have SK9 := Lib.hid (SK.out.below b9)
            have SI9 := Lib.hid (SI.out.below b9)
            have B9 := Lib.hid b9
            clear y0 y1 hw9 b9 z0 z1 z2
            go_wp2_with (first
              | (at_builtin; refine wpList_append_sl _ rfl (.tmp 33) (.tmp 36) _ rfl w9 33 i0 _ 2 32 Tryz.underlying22 hi0 hi1 hi2 hi3 rfl (by omega) none 0 0 [] rfl (Ow.nil_ (Below.refl _ _)) (some ⟨b', off', none⟩) k _ (fls (out.take k)) rfl SK9.out (one_fls _) q1 q2 ?_; intro A3 c3 w3 hO3 hg3 hat3; rw [Nat.zero_add, List.nil_append] at hO3; obtain ⟨u0, u1, u2⟩ := HX.out w3 (bstep B9.out hO3.2))
              | (at_builtin; refine wpList_append_sl _ rfl (.tmp 38) (.tmp 43) _ rfl w9 33 i0 _ 2 32 Tryz.underlying22 hi0 hi1 hi2 hi3 rfl (by omega) A3 k c3 (fls (out.take k)) rfl (hO3.alloc _) (some ⟨w3.heap.size, 0, none⟩) 1 _ (fls [x]) rfl (sl_fil w3 _ x) (one_fls _) q3 q4 ?_; intro A4 c4 w4 hO4 hg4 hat4)
              | (at_builtin; refine wpList_append_sl _ rfl (.tmp 45) (.tmp 48) _ rfl w9 33 i0 _ 2 32 Tryz.underlying22 hi0 hi1 hi2 hi3 rfl (by omega) A4 (k + 1) c4 (fls (out.take k) ++ fls [x]) rfl hO4 XI nI _ (fls (out.drop k)) rfl (SI9.out.below hO4.2) (one_fls _) q5 q6 ?_; intro A5 c5 w5 hO5 hg5 hat5))
            have e6 : k + 1 + nI = i + 1 := by have := HnI.out; omega
            rw [e6, ← fls_append, ← fls_append, List.append_assoc, List.singleton_append] at hO5
            have hc5 := hO5.cap
            have HO5 := Lib.hid (hO5.since (HO.out.2.trans (B9.out.mono HO.out.2.size)))
            go_roundw
            case rel => exact ⟨i + 1, A5, c5, _, by omega, by go_num, by rw [e6], by omega, by simp only [maxLen] at hc5 ⊢; omega, HP2, HS2, HO5⟩
            case measure => simp [intOf]; omega
          · obtain ⟨b', off', y', rfl, _, hy', y0, y1⟩ := HO.out.sl.fil (k := j) (by omega)
            obtain rfl : y' = y := Option.some.inj (hy'.symm.trans hy)
            obtain ⟨z0, z1, z2⟩ := HX.out wr (Below.refl _ _)
            have d0 : decide (0 < k) = true := by simp; omega
            have d2 : (k : Int) - 1 = (j : Int) := by omega
            clear hy hy'
            go_wp2
            go_quiet (fail)
            clear d1 d0 d2 d3
            obtain ⟨w9, hw9⟩ : ∃ w9, (wr.drewN mm).drewN nq = w9 := ⟨_, rfl⟩
            have b9 : Below wr.heap.size wr w9 := by rw [← hw9]; exact below_drewN (below_drewN (Below.refl _ _) _) _
            rw [hw9]
            have SK9 := Lib.hid (SK.out.below b9)
            have SI9 := Lib.hid (SI.out.below b9)
            have B9 := Lib.hid b9
            clear y0 y1 hw9 b9 z0 z1 z2
            go_wp2_with (first
              | (at_builtin; refine wpList_append_sl _ rfl (.tmp 33) (.tmp 36) _ rfl w9 33 i0 _ 2 32 Tryz.underlying22 hi0 hi1 hi2 hi3 rfl (by omega) none 0 0 [] rfl (Ow.nil_ (Below.refl _ _)) (some ⟨b', off', none⟩) k _ (fls (out.take k)) rfl SK9.out (one_fls _) q1 q2 ?_; intro A3 c3 w3 hO3 hg3 hat3; rw [Nat.zero_add, List.nil_append] at hO3; obtain ⟨u0, u1, u2⟩ := HX.out w3 (bstep B9.out hO3.2))
              | (at_builtin; refine wpList_append_sl _ rfl (.tmp 38) (.tmp 43) _ rfl w9 33 i0 _ 2 32 Tryz.underlying22 hi0 hi1 hi2 hi3 rfl (by omega) A3 k c3 (fls (out.take k)) rfl (hO3.alloc _) (some ⟨w3.heap.size, 0, none⟩) 1 _ (fls [x]) rfl (sl_fil w3 _ x) (one_fls _) q3 q4 ?_; intro A4 c4 w4 hO4 hg4 hat4)
              | (at_builtin; refine wpList_append_sl _ rfl (.tmp 45) (.tmp 48) _ rfl w9 33 i0 _ 2 32 Tryz.underlying22 hi0 hi1 hi2 hi3 rfl (by omega) A4 (k + 1) c4 (fls (out.take k) ++ fls [x]) rfl hO4 XI nI _ (fls (out.drop k)) rfl (SI9.out.below hO4.2) (one_fls _) q5 q6 ?_; intro A5 c5 w5 hO5 hg5 hat5))
            have e6 : k + 1 + nI = i + 1 := by have := HnI.out; omega
            rw [e6, ← fls_append, ← fls_append, List.append_assoc, List.singleton_append] at hO5
            have hc5 := hO5.cap
            have HO5 := Lib.hid (hO5.since (HO.out.2.trans (B9.out.mono HO.out.2.size)))
            go_roundw
            case rel => exact ⟨i + 1, A5, c5, _, by omega, by go_num, by rw [e6], by omega, by simp only [maxLen] at hc5 ⊢; omega, HP2, HS2, HO5⟩
            case measure => simp [intOf]; omega
    · obtain rfl : i = n := by omega
      have hall : L.take i = L := List.take_of_length_le (by rw [Hlen.out]; exact Nat.le_refl _)
      rw [hall] at HP
      clear hall
      go_wp2
      go_ret
      exact ⟨Ao, co, out, rfl, HP.out, HS.out, hico, HO.out⟩
end Go.Proofs.YtkginbfpokbhcaaGreatDoor
