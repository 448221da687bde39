/-
  Texts merged: Sort09, RFind, RDiff, PairDiff. What each law says and asks stands at its head.
-/
import Derived.Test.YtphnfcgdpdimbaaGreatDoorQKitX
namespace Go.Proofs.YtphnfcgdpdimbaaGreatDoor
open Go.RowKit
set_option maxHeartbeats 4000000 in
set_option maxRecDepth 100000 in
theorem sorted09_any (A : Option Addr) (n c : Nat) (L : List (List UInt8)) (w : World) (hA : Sl w 1 A n (strs L)) (hn : n ≤ 2000000) :
  Calls Tryz.prog 139 #[.slice A n c] w fun e w' => ∃ A' c' out, e = .returned (.slice A' n c') ∧ out.Perm L ∧ (out.map (fun x : (List UInt8) => x)).Pairwise (· ≤ ·) ∧ n ≤ c' ∧ Ow w w' 9 1 A' n c' (strs out) := by
 obtain ⟨i0, hi0, hi1, hi2, hi3⟩ := info_parts Tryz.infoStr
 have HA := Lib.hid hA
 have Hlen := Lib.hid (strs_count hA)
 clear hA
 go_enter Tryz.func139, Tryz.ntmps139
 go_wp2
 go_loopw [3, 4] (fun s3 s4 wr => ∃ (i : Nat) (Ao : Option Addr) (co : Nat) (out : List (List UInt8)), i ≤ n ∧ s4 = .int .i64 i ∧ s3 = .slice Ao i co ∧ i ≤ co ∧ co ≤ maxLen ∧ Hid (out.Perm (L.take i)) ∧ Hid ((out.map (fun x : (List UInt8) => x)).Pairwise (· ≤ ·)) ∧ Hid (Ow w wr 9 1 Ao i co (strs out))) (fun _ s4 _ => n - (intOf s4).toNat)
 case atStart => exact ⟨0, none, 0, [], Nat.zero_le _, rfl, rfl, Nat.le_refl _, Nat.zero_le _, Lib.hid (by simp), Lib.hid (by simp), Lib.hid (Ow.nil_ (Below.refl _ _))⟩
 case round =>
  obtain ⟨i, Ao, co, out, hi, rfl, rfl, hico, hcm, HP, HS, HO⟩ := hrel
  simp only [maxLen] at hcm
  by_cases hlt : i < n
  ·have hQ := HA.out.below HO.out.2
   have Hl : Hid (out.length = i) := Lib.hid (strs_count HO.out.sl)
   obtain ⟨b, off, x, rfl, hx, x0⟩ := hQ.str hlt
   have hb : b < wr.heap.size := Sl.lt_ hQ b off (by omega) rfl
   have HX := Lib.hid (show ∀ w', Below wr.heap.size wr w' → w'.cell? ⟨b, off + i, none⟩ = some (S x) ∧ b < w'.heap.size from
    fun w' h => ⟨(h.cell (p := ⟨b, off + i, none⟩) hb).trans x0, Nat.lt_of_lt_of_le hb h.size⟩)
   have Hx := Lib.hid hx
   clear hx hQ
   go_wp2
   go_loopw [5] (fun s5 wr' => ∃ (k m : Nat), k ≤ i ∧ s5 = .int .i64 k ∧ wr' = wr.drewN m ∧ Hid (∀ e ∈ out.take k, e < x)) (fun s5 _ => i - (intOf s5).toNat)
   case atStart => exact ⟨0, 0, Nat.zero_le _, rfl, rfl, Lib.hid (fun e he => by simp at he)⟩
   case round =>
    obtain ⟨k, mm, hk, rfl, rfl, HK⟩ := hrel
    have hstop : (∃ y, out[k]? = some y ∧ k < i ∧ y < x) ∨ ((i ≤ k ∨ ∃ y, out[k]? = some y ∧ k < i ∧ ¬ y < x)) := by
     by_cases hki : k < i
     ·have hl := Hl.out
      obtain ⟨y, hy⟩ : ∃ y, out[k]? = some y := ⟨out[k]'(by omega), List.getElem?_eq_getElem _⟩
      by_cases hyx : y < x
      ·exact .inl ⟨y, hy, hki, hyx⟩
      ·exact .inr (.inr ⟨y, hy, hki, hyx⟩)
     ·exact .inr (.inl (by omega))
    rcases hstop with ⟨y, hy, hki, hlo⟩ | hstop
    ·obtain ⟨b', off', y', rfl, hy', y0⟩ := HO.out.sl.str hki
     obtain rfl : y' = y := Option.some.inj (hy'.symm.trans hy)
     have d1 : Op.bytesLess y' x = true := by rw [Go.Proofs.bytesLess_eq]; exact decide_eq_true hlo
     obtain ⟨z0, z1⟩ := HX.out wr (Below.refl _ _)
     have Hy := Lib.hid hy
     have Hlo := Lib.hid hlo
     clear hy hy' hlo
     go_wp2
     go_quiet (fail)
     go_wp2
     go_roundw
     case rel =>
      refine ⟨k + 1, _, by omega, by go_num, rfl, Lib.hid (fun e he => ?_)⟩
      rw [List.take_add_one, Hy.out] at he
      simp only [Option.toList_some, List.mem_append, List.mem_singleton] at he
      rcases he with he | rfl
      ·exact HK.out e he
      ·exact Hlo.out
     case measure => simp [intOf]; omega
    ·have hlo : ∀ e ∈ out.take k, e ≤ x := fun e he => le_of_lt_bs (HK.out e he)
     have hhi : ∀ e ∈ out.drop k, x ≤ e := by
      rcases hstop with h | ⟨y, hy, _, hno⟩
      ·intro e he
       rw [List.drop_eq_nil_of_le (by have := Hl.out; omega)] at he
       simp at he
      ·exact rise_high (f := fun x : (List UInt8) => x) HS.out hy (List.not_lt.1 hno)
     have HP2 : Hid ((out.take k ++ x :: out.drop k).Perm (L.take (i + 1))) := Lib.hid (by
      rw [List.take_add_one, Hx.out]
      exact (ins_perm out x k).trans (HP.out.append_right [x]))
     have HS2 : Hid (((out.take k ++ x :: out.drop k).map (fun x : (List UInt8) => x)).Pairwise (· ≤ ·)) := Lib.hid (ins_le (f := fun x : (List UInt8) => x) HS.out hlo hhi)
     have sK := HO.out.sl.top9 hk
     have sI := HO.out.sl.cut (l := k) (r := i) (c := co) hk (Nat.le_refl _) hico
     rw [(strs_cut k).2] at sK
     rw [(strs_cut k).1, List.take_of_length_le (by rw [strs_length, List.length_drop, Hl.out]; exact Nat.le_refl _)] at sI
     have kL := fun W : World => run_cut_l (P := Tryz.prog) W Tryz.underlying52 Tryz.sizeStr Ao i co .i64 k hk
     obtain ⟨XI, hXI⟩ : ∃ X, cutA Ao co k 1 = X := ⟨_, rfl⟩
     obtain ⟨nI, hnI⟩ : ∃ nI, i - k = nI := ⟨_, rfl⟩
     rw [hXI, hnI] at kL sI
     have SK := Lib.hid sK
     have SI := Lib.hid sI
     have q1 : 0 + k ≤ maxLen := by simp only [maxLen]; omega
     have q2 : (0 + k) * 16 ≤ 140737488355328 := by omega
     have q3 : k + 1 ≤ maxLen := by simp only [maxLen]; omega
     have q4 : (k + 1) * 16 ≤ 140737488355328 := by omega
     have q5 : k + 1 + nI ≤ maxLen := by simp only [maxLen]; omega
     have q6 : (k + 1 + nI) * 16 ≤ 140737488355328 := by omega
     have HnI := Lib.hid hnI
     have hways : i ≤ k ∨ ∃ y, out[k]? = some y ∧ k < i ∧ Op.bytesLess y x = false := by
      rcases hstop with h | ⟨y, hy, hki, hno⟩
      ·exact .inl h
      ·exact .inr ⟨y, hy, hki, by rw [Go.Proofs.bytesLess_eq]; exact decide_eq_false hno⟩
     clear hlo hhi sK sI hXI hnI hstop HK
     rcases hways with hki | ⟨y, hy, hki, d1⟩
     ·have d0 : decide (k < i) = false := by simp; omega
      obtain ⟨z0, z1⟩ := HX.out wr (Below.refl _ _)
      go_wp2
      go_quiet (fail)
      clear d0
      obtain ⟨w9, hw9⟩ : ∃ w9, (wr.drewN mm).drewN nq = w9 := ⟨_, rfl⟩
      have b9 : Below wr.heap.size wr w9 := by rw [← hw9]; exact below_drewN (below_drewN (Below.refl _ _) _) _
      rw [hw9]
      have SK9 := Lib.hid (SK.out.below b9)
      have SI9 := Lib.hid (SI.out.below b9)
      have B9 := Lib.hid b9
      clear hw9 b9 z0 z1
      go_wp2_with (first
       | (at_builtin; refine wpList_append_sl _ rfl (.tmp 30) (.tmp 33) _ rfl w9 9 i0 _ 1 16 Tryz.underlying52 hi0 hi1 hi2 hi3 rfl (by omega) none 0 0 [] rfl (Ow.nil_ (Below.refl _ _)) Ao k _ (strs (out.take k)) rfl SK9.out (one_strs _) q1 q2 ?_; intro A3 c3 w3 hO3 hg3 hat3; rw [Nat.zero_add, List.nil_append] at hO3; obtain ⟨u0, u1⟩ := HX.out w3 (bstep B9.out hO3.2))
       | (at_builtin; refine wpList_append_sl _ rfl (.tmp 35) (.tmp 40) _ rfl w9 9 i0 _ 1 16 Tryz.underlying52 hi0 hi1 hi2 hi3 rfl (by omega) A3 k c3 (strs (out.take k)) rfl (hO3.alloc _) (some ⟨w3.heap.size, 0, none⟩) 1 _ (strs [x]) rfl (sl_one w3 _ (S x)) (one_strs _) q3 q4 ?_; intro A4 c4 w4 hO4 hg4 hat4)
       | (at_builtin; refine wpList_append_sl _ rfl (.tmp 42) (.tmp 45) _ rfl w9 9 i0 _ 1 16 Tryz.underlying52 hi0 hi1 hi2 hi3 rfl (by omega) A4 (k + 1) c4 (strs (out.take k) ++ strs [x]) rfl hO4 XI nI _ (strs (out.drop k)) rfl (SI9.out.below hO4.2) (one_strs _) q5 q6 ?_; intro A5 c5 w5 hO5 hg5 hat5))
      have e6 : k + 1 + nI = i + 1 := by have := HnI.out; omega
      rw [e6, ← strs_append, ← strs_append, List.append_assoc, List.singleton_append] at hO5
      have hc5 := hO5.cap
      have HO5 := Lib.hid (hO5.since (HO.out.2.trans (B9.out.mono HO.out.2.size)))
      go_roundw
      case rel => exact ⟨i + 1, A5, c5, _, by omega, by go_num, by rw [e6], by omega, by simp only [maxLen] at hc5 ⊢; omega, HP2, HS2, HO5⟩
      case measure => simp [intOf]; omega
     ·obtain ⟨b', off', y', rfl, hy', y0⟩ := HO.out.sl.str hki
      obtain rfl : y' = y := Option.some.inj (hy'.symm.trans hy)
      obtain ⟨z0, z1⟩ := HX.out wr (Below.refl _ _)
      clear hy hy'
      go_wp2
      go_quiet (fail)
      clear d1
      obtain ⟨w9, hw9⟩ : ∃ w9, (wr.drewN mm).drewN nq = w9 := ⟨_, rfl⟩
      have b9 : Below wr.heap.size wr w9 := by rw [← hw9]; exact below_drewN (below_drewN (Below.refl _ _) _) _
      rw [hw9]
      have SK9 := Lib.hid (SK.out.below b9)
      have SI9 := Lib.hid (SI.out.below b9)
      have B9 := Lib.hid b9
      clear y0 hw9 b9 z0 z1
      go_wp2_with (first
       | (at_builtin; refine wpList_append_sl _ rfl (.tmp 30) (.tmp 33) _ rfl w9 9 i0 _ 1 16 Tryz.underlying52 hi0 hi1 hi2 hi3 rfl (by omega) none 0 0 [] rfl (Ow.nil_ (Below.refl _ _)) (some ⟨b', off', none⟩) k _ (strs (out.take k)) rfl SK9.out (one_strs _) q1 q2 ?_; intro A3 c3 w3 hO3 hg3 hat3; rw [Nat.zero_add, List.nil_append] at hO3; obtain ⟨u0, u1⟩ := HX.out w3 (bstep B9.out hO3.2))
       | (at_builtin; refine wpList_append_sl _ rfl (.tmp 35) (.tmp 40) _ rfl w9 9 i0 _ 1 16 Tryz.underlying52 hi0 hi1 hi2 hi3 rfl (by omega) A3 k c3 (strs (out.take k)) rfl (hO3.alloc _) (some ⟨w3.heap.size, 0, none⟩) 1 _ (strs [x]) rfl (sl_one w3 _ (S x)) (one_strs _) q3 q4 ?_; intro A4 c4 w4 hO4 hg4 hat4)
       | (at_builtin; refine wpList_append_sl _ rfl (.tmp 42) (.tmp 45) _ rfl w9 9 i0 _ 1 16 Tryz.underlying52 hi0 hi1 hi2 hi3 rfl (by omega) A4 (k + 1) c4 (strs (out.take k) ++ strs [x]) rfl hO4 XI nI _ (strs (out.drop k)) rfl (SI9.out.below hO4.2) (one_strs _) q5 q6 ?_; intro A5 c5 w5 hO5 hg5 hat5))
      have e6 : k + 1 + nI = i + 1 := by have := HnI.out; omega
      rw [e6, ← strs_append, ← strs_append, List.append_assoc, List.singleton_append] at hO5
      have hc5 := hO5.cap
      have HO5 := Lib.hid (hO5.since (HO.out.2.trans (B9.out.mono HO.out.2.size)))
      go_roundw
      case rel => exact ⟨i + 1, A5, c5, _, by omega, by go_num, by rw [e6], by omega, by simp only [maxLen] at hc5 ⊢; omega, HP2, HS2, HO5⟩
      case measure => simp [intOf]; omega
  ·obtain rfl : i = n := by omega
   have hall : L.take i = L := List.take_of_length_le (by rw [Hlen.out]; exact Nat.le_refl _)
   rw [hall] at HP
   clear hall
   go_wp2
   go_ret
   exact ⟨Ao, co, out, rfl, HP.out, HS.out, hico, HO.out⟩
end Go.Proofs.YtphnfcgdpdimbaaGreatDoor
namespace Go.Proofs.YtphnfcgdpdimbaaGreatDoor
open Go.RowKit
open DiffLaw (fid ofPaths)
set_option maxHeartbeats 1000000 in
set_option maxRecDepth 100000 in
theorem rfind13_any (A : Option Addr) (n c : Nat) (l : List Fil) (p : List UInt8) (w : World) (hA : Sl w 2 A n (fls l)) (hn : n ≤ 1000000000) :
  Calls Tryz.prog 65 #[.slice A n c, S p] w fun e w' => e = .returned (S (fid l p)) ∧ w' = w := by
 have HA := Lib.hid hA
 have Hl := Lib.hid (fls_count hA)
 clear hA
 go_enter Tryz.func65, Tryz.ntmps65
 go_wp2
 go_loop [5] (fun i => ∃ k : Nat, i = .int .i64 k ∧ k ≤ n ∧ Hid (fid l p = fid (l.drop k) p)) (fun i => n - (intOf i).toNat)
 case atStart => exact ⟨0, rfl, Nat.zero_le _, Lib.hid rfl⟩
 case round =>
  obtain ⟨k, rfl, hk, hf⟩ := hrel
  by_cases hlt : k < n
  ·obtain ⟨b, off, x, rfl, _, hx, x0, x1⟩ := HA.out.fil hlt
   obtain ⟨h1, h2⟩ := List.getElem?_eq_some_iff.1 hx
   have hd : l.drop k = x :: l.drop (k + 1) := by rw [List.drop_eq_getElem_cons h1, h2]
   have Hf : Hid (fid l p = if x.1 = p then x.2 else fid (l.drop (k + 1)) p) := Lib.hid (by rw [hf.out, hd]; rfl)
   clear hx h1 h2 hd hf
   cases hq : (x.1 == p) with
   | true =>
    have Hq := Lib.hid (beq_iff_eq.1 hq)
    go_wp2
    go_ret
    exact ⟨by rw [Hf.out, if_pos Hq.out]; rfl, rfl⟩
   | false =>
    have Hq := Lib.hid (beq_eq_false_iff_ne.1 hq)
    go_wp2
    go_round
    case rel => exact ⟨k + 1, by go_num, hlt, Lib.hid (by rw [Hf.out, if_neg Hq.out])⟩
    case measure => simp [intOf]; omega
  ·obtain rfl : k = n := by omega
   have Hf : Hid (fid l p = []) := Lib.hid (by rw [hf.out, List.drop_eq_nil_of_le (by rw [Hl.out]; exact Nat.le_refl _)]; rfl)
   clear hf
   go_wp2
   go_ret
   exact ⟨by rw [Hf.out]; rfl, rfl⟩
theorem rw_at {A : Option Addr} {n k : Nat} {rs : List RwF} {W : World} (h : Sl W 1 A n (rs.map RwF.v)) (hk : k < n) : ∃ b off r, A = some ⟨b, off, none⟩ ∧ rs[k]? = some r ∧ W.cell? ⟨b, off + k, none⟩ = some r.v := by
 obtain ⟨b, off, u, e, hx, hc⟩ := h.at_ hk
 simp only [List.getElem?_map, Option.map_eq_some_iff] at hx
 obtain ⟨r, hr, rfl⟩ := hx
 exact ⟨b, off, r, e, hr, hc⟩
abbrev pths (l : List Fil) : List (List UInt8) := l.map (·.1)
theorem last_take {s : List (List UInt8)} {i : Nat} {y : List UInt8} (hi : s[i]? = some y) : (s.take (i + 1)).getLast? = some y := by
 rw [List.take_add_one, hi]
 simp
set_option maxHeartbeats 4000000 in
set_option maxRecDepth 100000 in
theorem rpaths_any (A : Option Addr) (n c : Nat) (rs : List RwF) (w : World) (hA : Sl w 1 A n (rs.map RwF.v)) (hr : ∀ r ∈ rs, Sl w 2 r.A r.n (fls r.l)) (hn : n ≤ 1000000) (hl : rowsLenF rs ≤ 1000000) :
  Calls Tryz.prog 64 #[.slice A n c] w fun e w' => ∃ A' t c' ps, e = .returned (.slice A' t c') ∧ ps.Pairwise (· < ·) ∧ (∀ p, p ∈ ps ↔ p ∈ pths (rowsAllF rs)) ∧ t ≤ 1000000 ∧ Ow w w' 9 1 A' t c' (strs ps) := by
 obtain ⟨i0, hi0, hz0, hz1, hz2⟩ := info_parts Tryz.infoStr
 have Hlen := Lib.hid (show rs.length = n by simpa using hA.len)
 have HA := Lib.hid hA
 have HR := Lib.hid hr
 clear hA hr
 go_enter Tryz.func64, Tryz.ntmps64
 go_wp2
 go_loopw [3, 4] (fun s3 s4 wr => ∃ (i t co : Nat) (Ao : Option Addr), i ≤ n ∧ s4 = .int .i64 i ∧ s3 = .slice Ao t co ∧ Hid (t = rowsLenF (rs.take i)) ∧ Hid (Ow w wr 9 1 Ao t co (strs (pths (rowsAllF (rs.take i)))))) (fun _ s4 _ => n - (intOf s4).toNat)
 case atStart => exact ⟨0, 0, 0, none, Nat.zero_le _, rfl, rfl, Lib.hid (by simp [rowsLenF]), Lib.hid (by have e : pths (rowsAllF (List.take 0 rs)) = [] := (by simp [rowsAllF]); rw [e]; exact Ow.nil_ (Below.refl _ _))⟩
 case round =>
  obtain ⟨i, t, co, Ao, hi, rfl, rfl, Ht, HO⟩ := hrel
  by_cases hlt : i < n
  ·obtain ⟨b, off, r, rfl, hr, hc⟩ := rw_at HA.out hlt
   have hb := Sl.lt_ HA.out b off (by omega) rfl
   have hs : t + r.n = rowsLenF (rs.take (i + 1)) := by rw [take_snocF hr, rowsLenF_snoc, Ht.out]
   have hs2 : t + r.n ≤ 1000000 := by rw [hs]; exact Nat.le_trans (rowsLenF_take _ _) hl
   have hrow := Lib.hid (HR.out r (List.mem_of_getElem? hr))
   have hall : rowsAllF (rs.take (i + 1)) = rowsAllF (rs.take i) ++ r.l := by rw [take_snocF hr, rowsAllF_snoc]
   have Hrl := Lib.hid (fls_count hrow.out)
   have Hs := Lib.hid hs
   have Hall := Lib.hid hall
   have Hc : Hid (∀ W, Below w.heap.size w W → W.cell? ⟨b, off + i, none⟩ = some r.v) := Lib.hid (fun W h => (h.cell (p := ⟨b, off + i, none⟩) hb).trans hc)
   clear hs hr hall hc hb
   have hc2 := Hc.out wr HO.out.2
   go_wp2
   go_loopw [3, 5] (fun s3 s5 wr2 => ∃ (k t2 co2 : Nat) (A2 : Option Addr), k ≤ r.n ∧ s5 = .int .i64 k ∧ s3 = .slice A2 t2 co2 ∧ Hid (t2 = t + k) ∧ Hid (Ow w wr2 9 1 A2 t2 co2 (strs (pths (rowsAllF (rs.take i)) ++ pths (r.l.take k))))) (fun _ s5 _ => r.n - (intOf s5).toNat)
   case atStart => exact ⟨0, t, co, Ao, Nat.zero_le _, rfl, rfl, Lib.hid rfl, Lib.hid (by simpa using HO.out)⟩
   case round =>
    obtain ⟨k, t2, co2, A2, hk, rfl, rfl, Ht2, HO2⟩ := hrel
    clear hc2
    have hc2 := Hc.out wr HO2.out.2
    by_cases hlt2 : k < r.n
    ·obtain ⟨b3, off3, x, e3, _, hx, x0, x1⟩ := (hrow.out.below HO2.out.2).fil hlt2
     clear hc2
     have hc2 : wr.cell? ⟨b, off + i, none⟩ = some (.slice (some ⟨b3, off3, none⟩) r.n r.c) := by rw [← e3]; exact Hc.out wr HO2.out.2
     have hpt : pths (r.l.take (k + 1)) = pths (r.l.take k) ++ [x.1] := by unfold pths; rw [List.take_add_one, hx, List.map_append]; rfl
     have Hpt := Lib.hid hpt
     have ht2 : t2 ≤ 1000000 := by have := Ht2.out; omega
     have hx1 := Lib.hid (show t2 + 1 ≤ maxLen by simp only [maxLen]; omega)
     have hx2 := Lib.hid (show (t2 + 1) * 16 ≤ 140737488355328 by omega)
     have HS6 := Lib.hid (sl_one wr 9 (S x.1))
     have HO6 := Lib.hid (HO2.out.alloc (.cells #[S x.1] 9))
     clear hx hpt e3
     go_wp2_with (at_builtin; refine wpList_append_sl _ rfl (.tmp 23) (.tmp 32) _ rfl w 9 i0 _ 1 16 Tryz.underlying52 hi0 hz0 hz1 hz2 rfl (by decide) A2 t2 co2 _ rfl HO6.out _ 1 1 [S x.1] rfl HS6.out (one_one rfl) hx1.out hx2.out ?_; intro A5 c5 w5 hO5 hg5 hat5; have HO5 := Lib.hid hO5; clear hO5 hg5 hat5)
     go_roundw
     case rel => exact ⟨k + 1, t2 + 1, c5, A5, hlt2, by go_num, rfl, Lib.hid (by have := Ht2.out; omega), Lib.hid (by rw [Hpt.out, ← List.append_assoc, strs_append]; exact HO5.out)⟩
     case measure => simp [intOf]; omega
    ·obtain rfl : k = r.n := by omega
     have hO9 := HO2.out
     rw [List.take_of_length_le (l := r.l) (by rw [Hrl.out]; exact Nat.le_refl _)] at hO9
     have HO9 := Lib.hid hO9
     clear hO9
     go_wp2
     go_roundw
     case rel => exact ⟨i + 1, t2, co2, A2, hlt, by go_num, rfl, Lib.hid (by have := Ht2.out; have := Hs.out; omega), Lib.hid (by rw [Hall.out]; unfold pths at *; rw [List.map_append]; exact HO9.out)⟩
     case measure => simp [intOf]; omega
  ·obtain rfl : i = n := by omega
   have hO9 := HO.out
   rw [List.take_of_length_le (by rw [Hlen.out]; exact Nat.le_refl _)] at hO9 Ht
   have ht : t ≤ 1000000 := by rw [Ht.out]; exact hl
   have HO9 := Lib.hid hO9
   clear hO9
   have C1 := Lib.hid (sorted09_any Ao t co _ wr HO9.out.sl (by omega))
   go_wp2_with (go_at_call 139; refine C1.out.mono ?_; rintro e w1 ⟨A1, c1, ss, rfl, hp1, hs1, hc1, hO1⟩)
   have HP1 := Lib.hid hp1
   have HS1 := Lib.hid (show ss.Pairwise (· ≤ ·) by simpa using hs1)
   have HO1 := Lib.hid (hO1.since HO9.out.2)
   have Hl1 := Lib.hid (strs_count hO1.sl)
   clear hp1 hs1 hO1 hc1
   have Hcp : Hid (∀ k x, ss[k]? = some x → Lib.compact (ss.take (k + 1)) = Lib.compact (ss.take k) ++ (if (ss.take k).getLast? = some x then [] else [x])) := Lib.hid (fun k x hx => by rw [take_snocF hx, compact_snoc])
   go_loopw [6, 7] (fun s6 s7 wr => ∃ (k t2 co2 : Nat) (A2 : Option Addr), k ≤ t ∧ s7 = .int .i64 k ∧ s6 = .slice A2 t2 co2 ∧ t2 ≤ k ∧ Hid (Ow w1 wr 9 1 A2 t2 co2 (strs (Lib.compact (ss.take k))))) (fun _ s7 _ => t - (intOf s7).toNat)
   case atStart => exact ⟨0, 0, 0, none, Nat.zero_le _, rfl, rfl, Nat.le_refl _, Lib.hid (by rw [List.take_zero]; exact Ow.nil_ (Below.refl _ _))⟩
   case round =>
    obtain ⟨k, t2, co2, A2, hk, rfl, rfl, ht2, HO2⟩ := hrel
    by_cases hlt : k < t
    ·obtain ⟨b, off, x, rfl, hx, x0⟩ := (HO1.out.sl.below HO2.out.2).str hlt
     have Hx := Lib.hid hx
     have hx1 := Lib.hid (show t2 + 1 ≤ maxLen by simp only [maxLen]; omega)
     have hx2 := Lib.hid (show (t2 + 1) * 16 ≤ 140737488355328 by omega)
     clear hx
     rcases Nat.eq_zero_or_pos k with h0 | h0
     ·have d0 : ((k : Int) == 0) = true := by simp [h0]
      have HE : Hid (Lib.compact (ss.take (k + 1)) = Lib.compact (ss.take k) ++ [x]) := Lib.hid (by rw [Hcp.out k x Hx.out, h0]; simp)
      clear h0
      go_wp2
      go_quiet (fail)
      clear d0
      obtain ⟨w9, hw9⟩ : ∃ w9, wr.drewN nq = w9 := ⟨_, rfl⟩
      have b9 : Below wr.heap.size wr w9 := by rw [← hw9]; exact below_drewN (Below.refl _ _) _
      rw [hw9]
      have HS6 := Lib.hid (sl_one w9 9 (S x))
      have x9 : w9.cell? ⟨b, off + k, none⟩ = some (S x) := by rw [← hw9]; exact x0
      have HO6 := Lib.hid (Ow.alloc (show Ow w1 w9 9 1 A2 t2 co2 _ from hw9 ▸ HO2.out.drewN nq) (.cells #[S x] 9))
      clear hw9 b9 x0
      go_wp2_with (at_builtin; refine wpList_append_sl _ rfl (.tmp 56) (.tmp 61) _ rfl w1 9 i0 _ 1 16 Tryz.underlying52 hi0 hz0 hz1 hz2 rfl (by decide) A2 t2 co2 _ rfl HO6.out _ 1 1 [S x] rfl HS6.out (one_one rfl) hx1.out hx2.out ?_; intro A5 c5 w5 hO5 hg5 hat5; have HO5 := Lib.hid hO5; clear hO5 hg5 hat5)
      go_roundw
      case rel => exact ⟨k + 1, t2 + 1, c5, A5, hlt, by go_num, rfl, by omega, Lib.hid (by rw [HE.out, strs_append]; exact HO5.out)⟩
      case measure => simp [intOf]; omega
     ·obtain ⟨j, hj⟩ : ∃ j, k = j + 1 := ⟨k - 1, by omega⟩
      obtain ⟨b', off', y, e', hy, y0⟩ := (HO1.out.sl.below HO2.out.2).str (k := j) (by omega)
      cases e'
      have d0 : ((k : Int) == 0) = false := by simp; omega
      have d2 : (k : Int) - 1 = (j : Int) := by omega
      have HL : Hid ((ss.take k).getLast? = some y) := Lib.hid (by rw [hj]; exact last_take hy)
      have hj1 : j < t := by omega
      clear hy hj h0
      cases hq : (x == y) with
      | false =>
       have HE : Hid (Lib.compact (ss.take (k + 1)) = Lib.compact (ss.take k) ++ [x]) := Lib.hid (by
        rw [Hcp.out k x Hx.out, HL.out, if_neg]
        intro e
        rw [Option.some.inj e] at hq
        simp at hq)
       go_wp2
       go_quiet (fail)
       clear d0 d2 hq hj1 y0
       obtain ⟨w9, hw9⟩ : ∃ w9, wr.drewN nq = w9 := ⟨_, rfl⟩
       rw [hw9]
       have HS6 := Lib.hid (sl_one w9 9 (S x))
       have x9 : w9.cell? ⟨b, off + k, none⟩ = some (S x) := by rw [← hw9]; exact x0
       have HO6 := Lib.hid (Ow.alloc (show Ow w1 w9 9 1 A2 t2 co2 _ from hw9 ▸ HO2.out.drewN nq) (.cells #[S x] 9))
       clear hw9 x0
       go_wp2_with (at_builtin; refine wpList_append_sl _ rfl (.tmp 56) (.tmp 61) _ rfl w1 9 i0 _ 1 16 Tryz.underlying52 hi0 hz0 hz1 hz2 rfl (by decide) A2 t2 co2 _ rfl HO6.out _ 1 1 [S x] rfl HS6.out (one_one rfl) hx1.out hx2.out ?_; intro A5 c5 w5 hO5 hg5 hat5; have HO5 := Lib.hid hO5; clear hO5 hg5 hat5)
       go_roundw
       case rel => exact ⟨k + 1, t2 + 1, c5, A5, hlt, by go_num, rfl, by omega, Lib.hid (by rw [HE.out, strs_append]; exact HO5.out)⟩
       case measure => simp [intOf]; omega
      | true =>
       have HE : Hid (Lib.compact (ss.take (k + 1)) = Lib.compact (ss.take k)) := Lib.hid (by
        rw [Hcp.out k x Hx.out, HL.out, if_pos (by rw [beq_iff_eq.1 hq]), List.append_nil])
       go_wp2
       go_quiet (fail)
       clear d0 d2 hq hj1 y0
       go_wp2
       go_roundw
       case rel => exact ⟨k + 1, t2, co2, A2, hlt, by go_num, rfl, by omega, Lib.hid (by rw [HE.out]; exact HO2.out.drewN _)⟩
       case measure => simp [intOf]; omega
    ·obtain rfl : k = t := by omega
     have hO9 := HO2.out
     rw [List.take_of_length_le (l := ss) (by rw [Hl1.out]; exact Nat.le_refl _)] at hO9
     have HO9 := Lib.hid hO9
     clear hO9
     go_wp2
     go_ret
     refine ⟨A2, t2, co2, _, rfl, compact_sorted _ _ rfl HS1.out, fun p => ?_, by omega, HO9.out.since HO1.out.2⟩
     rw [compact_memI p _ _ rfl, HP1.out.mem_iff]
theorem rw_two (w : World) (t : TypeId) (x y : RwF) : Sl (w.alloc (.cells #[x.v, y.v] t)) 1 (some ⟨w.heap.size, 0, none⟩) 2 ([x, y].map RwF.v) := by
 refine ⟨by simp, fun _ => ⟨_, _, rfl, by simp, fun k hk => ?_⟩⟩
 have h := (Blk.new w t #[x.v, y.v]).cell k
 rw [Nat.zero_add, h]
 simp
theorem of_snoc {ps : List (List UInt8)} {a b : List Fil} {k : Nat} {p : List UInt8} (h : ps[k]? = some p) : ofPaths (ps.take (k + 1)) a b = ofPaths (ps.take k) a b ++ (if fid a p = fid b p then [] else [(p, fid a p, fid b p)]) := by
 rw [List.take_add_one, h]
 unfold ofPaths
 rw [List.filterMap_append]
 congr 1
 by_cases e : fid a p = fid b p <;> simp [e]
set_option maxHeartbeats 4000000 in
set_option maxRecDepth 100000 in
theorem rdiff_any (A B : Option Addr) (n m c d : Nat) (a b : List Fil) (w : World) (hA : Sl w 2 A n (fls a)) (hB : Sl w 2 B m (fls b)) (hn : n ≤ 500000) (hm : m ≤ 500000) :
  Calls Tryz.prog 21 #[.slice A n c, .slice B m d] w fun e w' => ∃ A' t c' ps, e = .returned (.slice A' t c') ∧ DiffLaw.Paths ps a b ∧ Ow w w' 69 3 A' t c' (cgs (ofPaths ps a b)) := by
 obtain ⟨i0, hi0, hz0, hz1, hz2⟩ := info_parts Tryz.infoRChg
 have HA := Lib.hid hA
 have HB := Lib.hid hB
 have HR := Lib.hid (rpaths_any (some ⟨w.heap.size, 0, none⟩) 2 2 [⟨A, n, c, a⟩, ⟨B, m, d, b⟩] (w.alloc (.cells #[.slice A n c, .slice B m d] 24)) (rw_two w 24 ⟨A, n, c, a⟩ ⟨B, m, d, b⟩) (fun r hr => by
  rcases List.mem_cons.1 hr with rfl | hr
  ·exact hA.alloc _
  ·rcases List.mem_cons.1 hr with rfl | hr
   ·exact hB.alloc _
   ·simp at hr) (by omega) (by simp [rowsLenF]; omega))
 clear hA hB
 go_enter Tryz.func21, Tryz.ntmps21
 go_wp2_with (go_at_call 64; refine HR.out.mono ?_; rintro e w1 ⟨A1, t, c1, ps, rfl, hp1, hp2, ht, hO1⟩)
 have HP : Hid (DiffLaw.Paths ps a b) := Lib.hid ⟨hp1, fun p => by rw [hp2 p]; simp [rowsAllF, pths]⟩
 have HO1 := Lib.hid hO1
 have B1 := Lib.hid (bstep (balloc (Below.refl _ w) (.cells #[.slice A n c, .slice B m d] 24)) hO1.2)
 have Hl1 := Lib.hid (strs_count hO1.sl)
 clear hp1 hp2 hO1 HR
 go_loopw [6, 7] (fun s6 s7 wr => ∃ (k t2 co2 : Nat) (A2 : Option Addr), k ≤ t ∧ s7 = .int .i64 k ∧ s6 = .slice A2 t2 co2 ∧ t2 ≤ k ∧ Hid (Ow w1 wr 69 3 A2 t2 co2 (cgs (ofPaths (ps.take k) a b)))) (fun _ s7 _ => t - (intOf s7).toNat)
 case atStart => exact ⟨0, 0, 0, none, Nat.zero_le _, rfl, rfl, Nat.le_refl _, Lib.hid (by rw [List.take_zero]; exact Ow.nil_ (Below.refl _ _))⟩
 case round =>
  obtain ⟨k, t2, co2, A2, hk, rfl, rfl, ht2, HO2⟩ := hrel
  by_cases hlt : k < t
  ·obtain ⟨b', off, p, rfl, hp, x0⟩ := (HO1.out.sl.below HO2.out.2).str hlt
   have Hp := Lib.hid hp
   have hx1 := Lib.hid (show t2 + 1 ≤ maxLen by simp only [maxLen]; omega)
   have hx2 := Lib.hid (show (t2 + 1) * 48 ≤ 140737488355328 by omega)
   have hbw := bstep B1.out HO2.out.2
   have CA := Lib.hid (rfind13_any A n c a p wr (HA.out.below hbw) (by omega))
   have CB := Lib.hid (rfind13_any B m d b p wr (HB.out.below hbw) (by omega))
   clear hp hbw
   obtain ⟨x, hx⟩ : ∃ x, fid a p = x := ⟨_, rfl⟩
   obtain ⟨y, hy⟩ : ∃ y, fid b p = y := ⟨_, rfl⟩
   rw [hx] at CA
   rw [hy] at CB
   have HE : Hid (ofPaths (ps.take (k + 1)) a b = ofPaths (ps.take k) a b ++ (if x = y then [] else [(p, x, y)])) := Lib.hid (by rw [of_snoc Hp.out, hx, hy])
   clear hx hy
   cases hq : (x == y) with
   | true =>
    have HE2 : Hid (ofPaths (ps.take (k + 1)) a b = ofPaths (ps.take k) a b) := Lib.hid (by rw [HE.out, if_pos (beq_iff_eq.1 hq), List.append_nil])
    go_wp2_with (go_at_call 65; first | ((with_reducible refine CA.out.mono ?_); rintro e w2 ⟨rfl, rfl⟩) | ((with_reducible refine CB.out.mono ?_); rintro e w2 ⟨rfl, rfl⟩))
    go_roundw
    case rel => exact ⟨k + 1, t2, co2, A2, hlt, by go_num, rfl, by omega, Lib.hid (by rw [HE2.out]; exact HO2.out)⟩
    case measure => simp [intOf]; omega
   | false =>
    have HE2 : Hid (ofPaths (ps.take (k + 1)) a b = ofPaths (ps.take k) a b ++ [(p, x, y)]) := Lib.hid (by rw [HE.out, if_neg (beq_eq_false_iff_ne.1 hq)])
    have HS6 := Lib.hid (sl_cg wr 69 (p, x, y))
    have HO6 := Lib.hid (HO2.out.alloc (.cells #[S p, S x, S y] 69))
    go_wp2_with (first
     | (go_at_call 65; first | ((with_reducible refine CA.out.mono ?_); rintro e w2 ⟨rfl, rfl⟩) | ((with_reducible refine CB.out.mono ?_); rintro e w2 ⟨rfl, rfl⟩))
     | (at_builtin; refine wpList_append_sl _ rfl (.tmp 35) (.tmp 43) _ rfl w1 69 i0 _ 3 48 Tryz.underlying48 hi0 hz0 hz1 hz2 rfl (by decide) A2 t2 co2 _ rfl HO6.out _ 1 1 (cgs [(p, x, y)]) rfl HS6.out (one_cgs _) hx1.out hx2.out ?_; intro A5 c5 w5 hO5 hg5 hat5; have HO5 := Lib.hid hO5; clear hO5 hg5 hat5))
    go_roundw
    case rel => exact ⟨k + 1, t2 + 1, c5, A5, hlt, by go_num, rfl, by omega, Lib.hid (by rw [HE2.out, cgs_append]; exact HO5.out)⟩
    case measure => simp [intOf]; omega
  ·obtain rfl : k = t := by omega
   have hO9 := HO2.out
   rw [List.take_of_length_le (l := ps) (by rw [Hl1.out]; exact Nat.le_refl _)] at hO9
   have HO9 := Lib.hid hO9
   clear hO9
   go_wp2
   go_ret
   exact ⟨A2, t2, co2, ps, rfl, HP.out, HO9.out.since B1.out⟩
theorem sortS_len (ss : List (List UInt8)) : (sortS ss).length = ss.length := (sortS_perm ss).length_eq
set_option maxHeartbeats 8000000 in
set_option maxRecDepth 100000 in
theorem pairDiff_any (A B : Option Addr) (n m c d : Nat) (a b : List Fil) (w : World) (hA : Sl w 2 A n (fls a)) (hB : Sl w 2 B m (fls b)) (hn : n ≤ 400000) (hm : m ≤ 400000) (hpa : ∀ f ∈ a, f.1.length ≤ maxLen) (hpb : ∀ f ∈ b, f.1.length ≤ maxLen) :
  Calls Tryz.prog 51 #[.slice A n c, .slice B m d] w fun e w' => ∃ A' t c' ps, e = .returned (.slice A' t c') ∧ t ≤ 1000000 ∧ DiffLaw.Paths ps a b ∧ Ow w w' 124 3 A' t c' (cgs (ofPaths ps a b)) := by
 obtain ⟨i0, hi0, hz0, hz1, hz2⟩ := info_parts Tryz.infoChg
 obtain ⟨j0, hj0, hy0, hy1, hy2⟩ := info_parts Tryz.infoStr
 have HA := Lib.hid hA
 have HB := Lib.hid hB
 have HPA := Lib.hid hpa
 have HPB := Lib.hid hpb
 have hla := fls_count hA
 have hlb := fls_count hB
 have Hla := Lib.hid hla
 have Hlb := Lib.hid hlb
 have C1 := Lib.hid (known_any A n c a w hA (by omega) hpa)
 have C2 : Hid (∀ W, Below w.heap.size w W → _) := Lib.hid (fun W (h : Below w.heap.size w W) => known_any B m d b W (hB.below h) (by omega) hpb)
 clear hA hB hpa hpb hla hlb
 go_enter Tryz.func51, Tryz.ntmps51
 go_wp2_with (first
  | (go_at_call 123; (with_reducible refine C1.out.mono ?_); rintro e w1 ⟨m1, rfl, hM1, hm1, b1⟩; have HM1 := Lib.hid hM1; have B1 := Lib.hid b1; clear hM1 hm1 b1)
  | (go_at_call 123; (with_reducible refine (C2.out w1 B1.out).mono ?_); rintro e w2 ⟨m2, rfl, hM2, hm2, b2⟩; have HM2 := Lib.hid hM2; have HM1' := Lib.hid (HM1.out.step b2); have B2 := Lib.hid (bstep B1.out b2); have hrs := Lib.hid (rw_two w2 80 ⟨A, n, c, a⟩ ⟨B, m, d, b⟩); have HC := Lib.hid (concatF_any (some ⟨w2.heap.size, 0, none⟩) 2 2 [⟨A, n, c, a⟩, ⟨B, m, d, b⟩] (w2.alloc (.cells #[.slice A n c, .slice B m d] 80)) hrs.out (fun r hr => by (rcases List.mem_cons.1 hr with rfl | hr; exact ((HA.out.below (bstep B1.out b2)).alloc _); rcases List.mem_cons.1 hr with rfl | hr; exact ((HB.out.below (bstep B1.out b2)).alloc _); simp at hr)) (by omega) (by simp [rowsLenF]; omega)); clear hM2 hm2 b2)
  | (go_at_call 124; refine HC.out.mono ?_; rintro e w3 ⟨A3, c3, rfl, hO3⟩; generalize hN : rowsLenF _ = N at hO3 ⊢; have HN := Lib.hid hN; have HO3 := Lib.hid hO3; clear hN hO3))
 have hrl : rowsLenF [⟨A, n, c, a⟩, ⟨B, m, d, b⟩] = n + m := by simp [rowsLenF]
 have hra : rowsAllF [⟨A, n, c, a⟩, ⟨B, m, d, b⟩] = a ++ b := by simp [rowsAllF]
 rw [hrl] at HN
 rw [hra] at HO3
 have HO3' := Lib.hid (HO3.out.since (balloc (Below.refl _ w2) _))
 have HN2 : Hid (N ≤ 800000) := Lib.hid (by have := HN.out; omega)
 have hN2 := HN2.out
 clear hrl hra HO3 HN HC hrs C1 C2
 have HlF := Lib.hid (fls_count HO3'.out.sl)
 go_loopw [7, 22] (fun s7 s22 wr => ∃ (k co : Nat) (Ao : Option Addr), k ≤ N ∧ s22 = .int .i64 k ∧ s7 = .slice Ao k co ∧ Hid (Ow w3 wr 9 1 Ao k co (strs (pths ((a ++ b).take k))))) (fun _ s22 _ => N - (intOf s22).toNat)
 case atStart => exact ⟨0, 0, none, Nat.zero_le _, rfl, rfl, Lib.hid (Ow.nil_ (Below.refl _ _))⟩
 case round =>
  obtain ⟨k, co, Ao, hk, rfl, rfl, HO⟩ := hrel
  by_cases hlt : k < N
  ·obtain ⟨b', off, x, rfl, _, hx, x0, x1⟩ := (HO3'.out.sl.below HO.out.2).fil hlt
   have Hpt : Hid (pths ((a ++ b).take (k + 1)) = pths ((a ++ b).take k) ++ [x.1]) := Lib.hid (by unfold pths; rw [List.take_add_one, hx, List.map_append]; rfl)
   have q1 := Lib.hid (show k + 1 ≤ maxLen by simp only [maxLen]; omega)
   have q2 := Lib.hid (show (k + 1) * 16 ≤ 140737488355328 by omega)
   have HO6 := Lib.hid ((HO.out.alloc (.cells #[S x.1, S x.2] 79)).alloc (.cells #[S x.1] 9))
   have HS6 := Lib.hid (sl_one (wr.alloc (.cells #[S x.1, S x.2] 79)) 9 (S x.1))
   simp only [World.size_alloc] at HS6
   clear hx
   go_wp2_with (at_builtin; refine wpList_append_sl _ rfl (.tmp 26) (.tmp 29) _ rfl w3 9 j0 _ 1 16 Tryz.underlying52 hj0 hy0 hy1 hy2 rfl (by decide) Ao k co _ rfl HO6.out _ 1 1 [S x.1] rfl HS6.out (one_one rfl) q1.out q2.out ?_; intro A5 c5 w5 hO5 hg5 hat5; have HO5 := Lib.hid hO5; clear hO5 hg5 hat5)
   go_roundw
   case rel => exact ⟨k + 1, c5, A5, hlt, by go_num, rfl, Lib.hid (by rw [Hpt.out, strs_append]; exact HO5.out)⟩
   case measure => simp [intOf]; omega
  ·obtain rfl : k = N := by omega
   have hO9 := HO.out
   rw [List.take_of_length_le (by rw [HlF.out]; exact Nat.le_refl _)] at hO9
   have HB4 := Lib.hid hO9.2
   have C3 := Lib.hid (sortS_any w3 wr Ao k co _ hO9 (by omega))
   clear hO9 HO
   go_wp2_with (first
    | (go_at_call 44; refine C3.out.mono ?_; rintro e w4 ⟨rfl, hO4⟩; have C4 := Lib.hid (compact_any w3 w4 Ao k co _ hO4 (by omega)); clear hO4)
    | (go_at_call 45; refine C4.out.mono ?_; rintro e w5 ⟨t, rfl, ht, hS5, b5⟩; have HT0 := Lib.hid ht; clear ht))
   have ht := HT0.out
   have B25 := Lib.hid (bstep HO3'.out.2 b5)
   have HM1'' := Lib.hid (HM1'.out.step B25.out)
   have HM2' := Lib.hid (HM2.out.step B25.out)
   have Ht : Hid (t ≤ 800000) := Lib.hid (by
    have h1 := Lib.compact_length_le (sortS (pths (a ++ b)))
    have h2 := sortS_len (pths (a ++ b))
    have h3 : (pths (a ++ b)).length = k := by rw [List.length_map]; exact HlF.out
    omega)
   obtain ⟨ps, hps⟩ : ∃ ps, ps = Lib.compact (sortS (pths (a ++ b))) := ⟨_, rfl⟩
   rw [← hps] at hS5 ht
   have HP : Hid (DiffLaw.Paths ps a b) := Lib.hid (by
    rw [hps]
    refine ⟨compact_sorted _ _ rfl (sortS_le _), fun p => ?_⟩
    rw [compact_memI p _ _ rfl, (sortS_perm _).mem_iff]
    simp)
   have HS5 := Lib.hid hS5
   have HL5 := Lib.hid ht.symm
   have ht5 := Ht.out
   clear hps ht HT0 hS5 b5 HB4 HM1 HM2 C3
   have Hgd : Hid (∀ p ∈ ps, p.length ≤ maxLen) := Lib.hid (fun p hp => by
    rcases (HP.out.2 p).1 hp with h | h
    ·obtain ⟨f, hf, rfl⟩ := List.mem_map.1 h
     exact HPA.out f hf
    ·obtain ⟨f, hf, rfl⟩ := List.mem_map.1 h
     exact HPB.out f hf)
   go_loopw [10, 37] (fun s10 s37 wr => ∃ (k t2 co2 : Nat) (A2 : Option Addr), k ≤ t ∧ s37 = .int .i64 k ∧ s10 = .slice A2 t2 co2 ∧ t2 ≤ k ∧ Hid (Ow w5 wr 124 3 A2 t2 co2 (cgs (ofPaths (ps.take k) a b)))) (fun _ s37 _ => t - (intOf s37).toNat)
   case atStart => exact ⟨0, 0, 0, none, Nat.zero_le _, rfl, rfl, Nat.le_refl _, Lib.hid (by rw [List.take_zero]; exact Ow.nil_ (Below.refl _ _))⟩
   case round =>
    obtain ⟨k, t2, co2, A2, hk, rfl, rfl, ht2, HO2⟩ := hrel
    by_cases hlt : k < t
    ·obtain ⟨b', off, p, rfl, hp, x0⟩ := (HS5.out.below HO2.out.2).str hlt
     have Hp := Lib.hid hp
     have hgp2 : mssC.good p := Hgd.out p (List.mem_of_getElem? hp)
     have Hgp := Lib.hid hgp2
     have hx1 := Lib.hid (show t2 + 1 ≤ maxLen by simp only [maxLen]; omega)
     have hx2 := Lib.hid (show (t2 + 1) * 48 ≤ 140737488355328 by omega)
     have ha1 := HM1''.out.step HO2.out.2
     have hb1 := HM2'.out.step HO2.out.2
     clear hp hgp2
     obtain ⟨x, hx⟩ : ∃ x, fid a p = x := ⟨_, rfl⟩
     obtain ⟨y, hy⟩ : ∃ y, fid b p = y := ⟨_, rfl⟩
     have E1 : Hid (mssC.vv ((lk a p).getD []) = S x) := Lib.hid (by rw [fid_lk, hx]; rfl)
     have E2 : Hid (mssC.vv ((lk b p).getD []) = S y) := Lib.hid (by rw [fid_lk, hy]; rfl)
     have HE : Hid (ofPaths (ps.take (k + 1)) a b = ofPaths (ps.take k) a b ++ (if x = y then [] else [(p, x, y)])) := Lib.hid (by rw [of_snoc Hp.out, hx, hy])
     clear hx hy
     cases hq : (x == y) with
     | true =>
      have HE2 : Hid (ofPaths (ps.take (k + 1)) a b = ofPaths (ps.take k) a b) := Lib.hid (by rw [HE.out, if_pos (beq_iff_eq.1 hq), List.append_nil])
      go_wp2_with (first
       | (at_lookup; refine wpList_look _ rfl _ _ 208 rfl mssC Tryz.underlying208 [] (Tryz.zeroS _) m1 n _ rfl ha1 p rfl Hgp.out ?_; rw [E1.out])
       | (at_lookup; refine wpList_look _ rfl _ _ 208 rfl mssC Tryz.underlying208 [] (Tryz.zeroS _) m2 m _ rfl hb1 p rfl Hgp.out ?_; rw [E2.out]))
      go_roundw
      case rel => exact ⟨k + 1, t2, co2, A2, hlt, by go_num, rfl, by omega, Lib.hid (by rw [HE2.out]; exact HO2.out)⟩
      case measure => simp [intOf]; omega
     | false =>
      have HE2 : Hid (ofPaths (ps.take (k + 1)) a b = ofPaths (ps.take k) a b ++ [(p, x, y)]) := Lib.hid (by rw [HE.out, if_neg (beq_eq_false_iff_ne.1 hq)])
      have HS6 := Lib.hid (sl_cg wr 124 (p, x, y))
      have HO6 := Lib.hid (HO2.out.alloc (.cells #[S p, S x, S y] 124))
      go_wp2_with (first
       | (at_lookup; refine wpList_look _ rfl _ _ 208 rfl mssC Tryz.underlying208 [] (Tryz.zeroS _) m1 n _ rfl ha1 p rfl Hgp.out ?_; rw [E1.out])
       | (at_lookup; refine wpList_look _ rfl _ _ 208 rfl mssC Tryz.underlying208 [] (Tryz.zeroS _) m2 m _ rfl hb1 p rfl Hgp.out ?_; rw [E2.out])
       | (at_builtin; refine wpList_append_sl _ rfl (.tmp 48) (.tmp 57) _ rfl w5 124 i0 _ 3 48 Tryz.underlying59 hi0 hz0 hz1 hz2 rfl (by decide) A2 t2 co2 _ rfl HO6.out _ 1 1 (cgs [(p, x, y)]) rfl HS6.out (one_cgs _) hx1.out hx2.out ?_; intro A5 c5 w5 hO5 hg5 hat5; have HO5 := Lib.hid hO5; clear hO5 hg5 hat5))
      go_roundw
      case rel => exact ⟨k + 1, t2 + 1, c5, A5, hlt, by go_num, rfl, by omega, Lib.hid (by rw [HE2.out, cgs_append]; exact HO5.out)⟩
      case measure => simp [intOf]; omega
    ·obtain rfl : k = t := by omega
     have hO9 := HO2.out
     rw [List.take_of_length_le (l := ps) (by rw [HL5.out]; exact Nat.le_refl _)] at hO9
     have HO9 := Lib.hid hO9
     clear hO9
     go_wp2
     go_ret
     exact ⟨A2, t2, co2, ps, rfl, by omega, HP.out, HO9.out.since (bstep B2.out B25.out)⟩
end Go.Proofs.YtphnfcgdpdimbaaGreatDoor
