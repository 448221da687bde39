/-
  The document's Paths, Diff of files. Condition: the lists can be read, no more than 500000 files each.
-/
import Derived.Test.YtphnfcgdpdimbaaGreatDoorRFind
namespace Go.Proofs.YtphnfcgdpdimbaaGreatDoor
open Go.RowKit
open DiffLaw (fid ofPaths)

set_option maxHeartbeats 4000000 in
set_option maxRecDepth 100000 in
theorem rpaths_any (A : Option Addr) (n c : Nat) (rs : List RwF) (w : World) (hA : Sl w 1 A n (rs.map RwF.v)) (hr : ∀ r ∈ rs, Sl w 2 r.A r.n (fls r.l)) (hn : n ≤ 1000000) (hl : rowsLenF rs ≤ 1000000) :
    Calls Tryz.prog 64 #[.slice A n c] w fun e w' => ∃ A' t c' ps, e = .returned (.slice A' t c') ∧ ps.Pairwise (· < ·) ∧ (∀ p, p ∈ ps ↔ p ∈ pths (rowsAllF rs)) ∧ t ≤ 1000000 ∧ Ow w w' 9 1 A' t c' (strs ps) := by
  obtain ⟨i0, hi0, hz0, hz1, hz2⟩ := info_parts Tryz.infoStr
  have Hlen := Lib.hid (show rs.length = n by simpa using hA.len)
  have HA := Lib.hid hA
  have HR := Lib.hid hr
  clear hA hr
  go_enter Tryz.func64, Tryz.ntmps64
  go_wp2
  go_loopw [3, 4] (fun s3 s4 wr => ∃ (i t co : Nat) (Ao : Option Addr), i ≤ n ∧ s4 = .int .i64 i ∧ s3 = .slice Ao t co ∧ Hid (t = rowsLenF (rs.take i)) ∧ Hid (Ow w wr 9 1 Ao t co (strs (pths (rowsAllF (rs.take i)))))) (fun _ s4 _ => n - (intOf s4).toNat)
  case atStart => exact ⟨0, 0, 0, none, Nat.zero_le _, rfl, rfl, Lib.hid (by simp [rowsLenF]), Lib.hid (by have e : pths (rowsAllF (List.take 0 rs)) = [] := (by simp [rowsAllF]); rw [e]; exact Ow.nil_ (Below.refl _ _))⟩
  case round =>
    obtain ⟨i, t, co, Ao, hi, rfl, rfl, Ht, HO⟩ := hrel
    by_cases hlt : i < n
    · obtain ⟨b, off, r, rfl, hr, hc⟩ := rw_at HA.out hlt
      have hb := Sl.lt_ HA.out b off (by omega) rfl
      have hs : t + r.n = rowsLenF (rs.take (i + 1)) := by rw [take_snocF hr, rowsLenF_snoc, Ht.out]
      have hs2 : t + r.n ≤ 1000000 := by rw [hs]; exact Nat.le_trans (rowsLenF_take _ _) hl
      have hrow := Lib.hid (HR.out r (List.mem_of_getElem? hr))
      have hall : rowsAllF (rs.take (i + 1)) = rowsAllF (rs.take i) ++ r.l := by rw [take_snocF hr, rowsAllF_snoc]
      have Hrl := Lib.hid (fls_count hrow.out)
      have Hs := Lib.hid hs
      have Hall := Lib.hid hall
      have Hc : Hid (∀ W, Below w.heap.size w W → W.cell? ⟨b, off + i, none⟩ = some r.v) := Lib.hid (fun W h => (h.cell (p := ⟨b, off + i, none⟩) hb).trans hc)
      clear hs hr hall hc hb
      have hc2 := Hc.out wr HO.out.2
      go_wp2
      go_loopw [3, 5] (fun s3 s5 wr2 => ∃ (k t2 co2 : Nat) (A2 : Option Addr), k ≤ r.n ∧ s5 = .int .i64 k ∧ s3 = .slice A2 t2 co2 ∧ Hid (t2 = t + k) ∧ Hid (Ow w wr2 9 1 A2 t2 co2 (strs (pths (rowsAllF (rs.take i)) ++ pths (r.l.take k))))) (fun _ s5 _ => r.n - (intOf s5).toNat)
      case atStart => exact ⟨0, t, co, Ao, Nat.zero_le _, rfl, rfl, Lib.hid rfl, Lib.hid (by simpa using HO.out)⟩
      case round =>
        obtain ⟨k, t2, co2, A2, hk, rfl, rfl, Ht2, HO2⟩ := hrel
        clear hc2
        have hc2 := Hc.out wr HO2.out.2
        by_cases hlt2 : k < r.n
        · obtain ⟨b3, off3, x, e3, _, hx, x0, x1⟩ := (hrow.out.below HO2.out.2).fil hlt2
          clear hc2
          have hc2 : wr.cell? ⟨b, off + i, none⟩ = some (.slice (some ⟨b3, off3, none⟩) r.n r.c) := by rw [← e3]; exact Hc.out wr HO2.out.2
          have hpt : pths (r.l.take (k + 1)) = pths (r.l.take k) ++ [x.1] := by unfold pths; rw [List.take_add_one, hx, List.map_append]; rfl
          have Hpt := Lib.hid hpt
          have ht2 : t2 ≤ 1000000 := by have := Ht2.out; omega
          have hx1 := Lib.hid (show t2 + 1 ≤ maxLen by simp only [maxLen]; omega)
          have hx2 := Lib.hid (show (t2 + 1) * 16 ≤ 140737488355328 by omega)
          have HS6 := Lib.hid (sl_one wr 9 (S x.1))
          have HO6 := Lib.hid (HO2.out.alloc (.cells #[S x.1] 9))
          clear hx hpt e3
          go_wp2_with (at_builtin; refine wpList_append_sl _ rfl (.tmp 23) (.tmp 32) _ rfl w 9 i0 _ 1 16 Tryz.underlying52 hi0 hz0 hz1 hz2 rfl (by decide) A2 t2 co2 _ rfl HO6.out _ 1 1 [S x.1] rfl HS6.out (one_one rfl) hx1.out hx2.out ?_; intro A5 c5 w5 hO5 hg5 hat5; have HO5 := Lib.hid hO5; clear hO5 hg5 hat5)
          go_roundw
          case rel => exact ⟨k + 1, t2 + 1, c5, A5, hlt2, by go_num, rfl, Lib.hid (by have := Ht2.out; omega), Lib.hid (by rw [Hpt.out, ← List.append_assoc, strs_append]; exact HO5.out)⟩
          case measure => simp [intOf]; omega
        · obtain rfl : k = r.n := by omega
          have hO9 := HO2.out
          rw [List.take_of_length_le (l := r.l) (by rw [Hrl.out]; exact Nat.le_refl _)] at hO9
          have HO9 := Lib.hid hO9
          clear hO9
          go_wp2
          go_roundw
          case rel => exact ⟨i + 1, t2, co2, A2, hlt, by go_num, rfl, Lib.hid (by have := Ht2.out; have := Hs.out; omega), Lib.hid (by rw [Hall.out]; unfold pths at *; rw [List.map_append]; exact HO9.out)⟩
          case measure => simp [intOf]; omega
    · obtain rfl : i = n := by omega
      have hO9 := HO.out
      rw [List.take_of_length_le (by rw [Hlen.out]; exact Nat.le_refl _)] at hO9 Ht
      have ht : t ≤ 1000000 := by rw [Ht.out]; exact hl
      have HO9 := Lib.hid hO9
      clear hO9
      have C1 := Lib.hid (sorted09_any Ao t co _ wr HO9.out.sl (by omega))
      go_wp2_with (go_at_call 139; refine C1.out.mono ?_; rintro e w1 ⟨A1, c1, ss, rfl, hp1, hs1, hc1, hO1⟩)
      have HP1 := Lib.hid hp1
      have HS1 := Lib.hid (show ss.Pairwise (· ≤ ·) by simpa using hs1)
      have HO1 := Lib.hid (hO1.since HO9.out.2)
      have Hl1 := Lib.hid (strs_count hO1.sl)
      clear hp1 hs1 hO1 hc1
      have Hcp : Hid (∀ k x, ss[k]? = some x → Lib.compact (ss.take (k + 1)) = Lib.compact (ss.take k) ++ (if (ss.take k).getLast? = some x then [] else [x])) := Lib.hid (fun k x hx => by rw [take_snocF hx, compact_snoc])
      go_loopw [6, 7] (fun s6 s7 wr => ∃ (k t2 co2 : Nat) (A2 : Option Addr), k ≤ t ∧ s7 = .int .i64 k ∧ s6 = .slice A2 t2 co2 ∧ t2 ≤ k ∧ Hid (Ow w1 wr 9 1 A2 t2 co2 (strs (Lib.compact (ss.take k))))) (fun _ s7 _ => t - (intOf s7).toNat)
      case atStart => exact ⟨0, 0, 0, none, Nat.zero_le _, rfl, rfl, Nat.le_refl _, Lib.hid (by rw [List.take_zero]; exact Ow.nil_ (Below.refl _ _))⟩
      case round =>
        obtain ⟨k, t2, co2, A2, hk, rfl, rfl, ht2, HO2⟩ := hrel
        by_cases hlt : k < t
        · obtain ⟨b, off, x, rfl, hx, x0⟩ := (HO1.out.sl.below HO2.out.2).str hlt
          have Hx := Lib.hid hx
          have hx1 := Lib.hid (show t2 + 1 ≤ maxLen by simp only [maxLen]; omega)
          have hx2 := Lib.hid (show (t2 + 1) * 16 ≤ 140737488355328 by omega)
          clear hx
          rcases Nat.eq_zero_or_pos k with h0 | h0
          · have d0 : ((k : Int) == 0) = true := by simp [h0]
            have HE : Hid (Lib.compact (ss.take (k + 1)) = Lib.compact (ss.take k) ++ [x]) := Lib.hid (by rw [Hcp.out k x Hx.out, h0]; simp)
            clear h0
            go_wp2
            go_quiet (fail)
            clear d0
            obtain ⟨w9, hw9⟩ : ∃ w9, wr.drewN nq = w9 := ⟨_, rfl⟩
            have b9 : Below wr.heap.size wr w9 := by rw [← hw9]; exact below_drewN (Below.refl _ _) _
            rw [hw9]
            have HS6 := Lib.hid (sl_one w9 9 (S x))
            have x9 : w9.cell? ⟨b, off + k, none⟩ = some (S x) := by rw [← hw9]; exact x0
            have HO6 := Lib.hid (Ow.alloc (show Ow w1 w9 9 1 A2 t2 co2 _ from hw9 ▸ HO2.out.drewN nq) (.cells #[S x] 9))
            clear hw9 b9 x0
            go_wp2_with (at_builtin; refine wpList_append_sl _ rfl (.tmp 56) (.tmp 61) _ rfl w1 9 i0 _ 1 16 Tryz.underlying52 hi0 hz0 hz1 hz2 rfl (by decide) A2 t2 co2 _ rfl HO6.out _ 1 1 [S x] rfl HS6.out (one_one rfl) hx1.out hx2.out ?_; intro A5 c5 w5 hO5 hg5 hat5; have HO5 := Lib.hid hO5; clear hO5 hg5 hat5)
            go_roundw
            case rel => exact ⟨k + 1, t2 + 1, c5, A5, hlt, by go_num, rfl, by omega, Lib.hid (by rw [HE.out, strs_append]; exact HO5.out)⟩
            case measure => simp [intOf]; omega
          · obtain ⟨j, hj⟩ : ∃ j, k = j + 1 := ⟨k - 1, by omega⟩
            obtain ⟨b', off', y, e', hy, y0⟩ := (HO1.out.sl.below HO2.out.2).str (k := j) (by omega)
            cases e'
            have d0 : ((k : Int) == 0) = false := by simp; omega
            have d2 : (k : Int) - 1 = (j : Int) := by omega
            have HL : Hid ((ss.take k).getLast? = some y) := Lib.hid (by rw [hj]; exact last_take hy)
            have hj1 : j < t := by omega
            clear hy hj h0
            cases hq : (x == y) with
            | false =>
              have HE : Hid (Lib.compact (ss.take (k + 1)) = Lib.compact (ss.take k) ++ [x]) := Lib.hid (by
                rw [Hcp.out k x Hx.out, HL.out, if_neg]
                intro e
                rw [Option.some.inj e] at hq
                simp at hq)
              go_wp2
              go_quiet (fail)
              clear d0 d2 hq hj1 y0
              obtain ⟨w9, hw9⟩ : ∃ w9, wr.drewN nq = w9 := ⟨_, rfl⟩
              rw [hw9]
              have HS6 := Lib.hid (sl_one w9 9 (S x))
              have x9 : w9.cell? ⟨b, off + k, none⟩ = some (S x) := by rw [← hw9]; exact x0
              have HO6 := Lib.hid (Ow.alloc (show Ow w1 w9 9 1 A2 t2 co2 _ from hw9 ▸ HO2.out.drewN nq) (.cells #[S x] 9))
              clear hw9 x0
              go_wp2_with (at_builtin; refine wpList_append_sl _ rfl (.tmp 56) (.tmp 61) _ rfl w1 9 i0 _ 1 16 Tryz.underlying52 hi0 hz0 hz1 hz2 rfl (by decide) A2 t2 co2 _ rfl HO6.out _ 1 1 [S x] rfl HS6.out (one_one rfl) hx1.out hx2.out ?_; intro A5 c5 w5 hO5 hg5 hat5; have HO5 := Lib.hid hO5; clear hO5 hg5 hat5)
              go_roundw
              case rel => exact ⟨k + 1, t2 + 1, c5, A5, hlt, by go_num, rfl, by omega, Lib.hid (by rw [HE.out, strs_append]; exact HO5.out)⟩
              case measure => simp [intOf]; omega
            | true =>
              have HE : Hid (Lib.compact (ss.take (k + 1)) = Lib.compact (ss.take k)) := Lib.hid (by
                rw [Hcp.out k x Hx.out, HL.out, if_pos (by rw [beq_iff_eq.1 hq]), List.append_nil])
              go_wp2
              go_quiet (fail)
              clear d0 d2 hq hj1 y0
              go_wp2
              go_roundw
              case rel => exact ⟨k + 1, t2, co2, A2, hlt, by go_num, rfl, by omega, Lib.hid (by rw [HE.out]; exact HO2.out.drewN _)⟩
              case measure => simp [intOf]; omega
        · obtain rfl : k = t := by omega
          have hO9 := HO2.out
          rw [List.take_of_length_le (l := ss) (by rw [Hl1.out]; exact Nat.le_refl _)] at hO9
          have HO9 := Lib.hid hO9
          clear hO9
          go_wp2
          go_ret
          refine ⟨A2, t2, co2, _, rfl, compact_sorted _ _ rfl HS1.out, fun p => ?_, by omega, HO9.out.since HO1.out.2⟩
          rw [compact_memI p _ _ rfl, HP1.out.mem_iff]
theorem rw_two (w : World) (t : TypeId) (x y : RwF) : Sl (w.alloc (.cells #[x.v, y.v] t)) 1 (some ⟨w.heap.size, 0, none⟩) 2 ([x, y].map RwF.v) := by
  refine ⟨by simp, fun _ => ⟨_, _, rfl, by simp, fun k hk => ?_⟩⟩
  have h := (Blk.new w t #[x.v, y.v]).cell k
  rw [Nat.zero_add, h]
  simp
theorem of_snoc {ps : List (List UInt8)} {a b : List Fil} {k : Nat} {p : List UInt8} (h : ps[k]? = some p) : ofPaths (ps.take (k + 1)) a b = ofPaths (ps.take k) a b ++ (if fid a p = fid b p then [] else [(p, fid a p, fid b p)]) := by
  rw [List.take_add_one, h]
  unfold ofPaths
  rw [List.filterMap_append]
  congr 1
  by_cases e : fid a p = fid b p <;> simp [e]
set_option maxHeartbeats 4000000 in
set_option maxRecDepth 100000 in
theorem rdiff_any (A B : Option Addr) (n m c d : Nat) (a b : List Fil) (w : World) (hA : Sl w 2 A n (fls a)) (hB : Sl w 2 B m (fls b)) (hn : n ≤ 500000) (hm : m ≤ 500000) :
    Calls Tryz.prog 21 #[.slice A n c, .slice B m d] w fun e w' => ∃ A' t c' ps, e = .returned (.slice A' t c') ∧ DiffLaw.Paths ps a b ∧ Ow w w' 69 3 A' t c' (cgs (ofPaths ps a b)) := by
  obtain ⟨i0, hi0, hz0, hz1, hz2⟩ := info_parts Tryz.infoRChg
  have HA := Lib.hid hA
  have HB := Lib.hid hB
  have HR := Lib.hid (rpaths_any (some ⟨w.heap.size, 0, none⟩) 2 2 [⟨A, n, c, a⟩, ⟨B, m, d, b⟩] (w.alloc (.cells #[.slice A n c, .slice B m d] 24)) (rw_two w 24 ⟨A, n, c, a⟩ ⟨B, m, d, b⟩) (fun r hr => by
    rcases List.mem_cons.1 hr with rfl | hr
    · exact hA.alloc _
    · rcases List.mem_cons.1 hr with rfl | hr
      · exact hB.alloc _
      · simp at hr) (by omega) (by simp [rowsLenF]; omega))
  clear hA hB
  go_enter Tryz.func21, Tryz.ntmps21
  go_wp2_with (go_at_call 64; refine HR.out.mono ?_; rintro e w1 ⟨A1, t, c1, ps, rfl, hp1, hp2, ht, hO1⟩)
  have HP : Hid (DiffLaw.Paths ps a b) := Lib.hid ⟨hp1, fun p => by rw [hp2 p]; simp [rowsAllF, pths]⟩
  have HO1 := Lib.hid hO1
  have B1 := Lib.hid (bstep (balloc (Below.refl _ w) (.cells #[.slice A n c, .slice B m d] 24)) hO1.2)
  have Hl1 := Lib.hid (strs_count hO1.sl)
  clear hp1 hp2 hO1 HR
  go_loopw [6, 7] (fun s6 s7 wr => ∃ (k t2 co2 : Nat) (A2 : Option Addr), k ≤ t ∧ s7 = .int .i64 k ∧ s6 = .slice A2 t2 co2 ∧ t2 ≤ k ∧ Hid (Ow w1 wr 69 3 A2 t2 co2 (cgs (ofPaths (ps.take k) a b)))) (fun _ s7 _ => t - (intOf s7).toNat)
  case atStart => exact ⟨0, 0, 0, none, Nat.zero_le _, rfl, rfl, Nat.le_refl _, Lib.hid (by rw [List.take_zero]; exact Ow.nil_ (Below.refl _ _))⟩
  case round =>
    obtain ⟨k, t2, co2, A2, hk, rfl, rfl, ht2, HO2⟩ := hrel
    by_cases hlt : k < t
    · obtain ⟨b', off, p, rfl, hp, x0⟩ := (HO1.out.sl.below HO2.out.2).str hlt
      have Hp := Lib.hid hp
      have hx1 := Lib.hid (show t2 + 1 ≤ maxLen by simp only [maxLen]; omega)
      have hx2 := Lib.hid (show (t2 + 1) * 48 ≤ 140737488355328 by omega)
      have hbw := bstep B1.out HO2.out.2
      have CA := Lib.hid (rfind13_any A n c a p wr (HA.out.below hbw) (by omega))
      have CB := Lib.hid (rfind13_any B m d b p wr (HB.out.below hbw) (by omega))
      clear hp hbw
      obtain ⟨x, hx⟩ : ∃ x, fid a p = x := ⟨_, rfl⟩
      obtain ⟨y, hy⟩ : ∃ y, fid b p = y := ⟨_, rfl⟩
      rw [hx] at CA
      rw [hy] at CB
      have HE : Hid (ofPaths (ps.take (k + 1)) a b = ofPaths (ps.take k) a b ++ (if x = y then [] else [(p, x, y)])) := Lib.hid (by rw [of_snoc Hp.out, hx, hy])
      clear hx hy
      cases hq : (x == y) with
      | true =>
        have HE2 : Hid (ofPaths (ps.take (k + 1)) a b = ofPaths (ps.take k) a b) := Lib.hid (by rw [HE.out, if_pos (beq_iff_eq.1 hq), List.append_nil])
        go_wp2_with (go_at_call 65; first | ((with_reducible refine CA.out.mono ?_); rintro e w2 ⟨rfl, rfl⟩) | ((with_reducible refine CB.out.mono ?_); rintro e w2 ⟨rfl, rfl⟩))
        go_roundw
        case rel => exact ⟨k + 1, t2, co2, A2, hlt, by go_num, rfl, by omega, Lib.hid (by rw [HE2.out]; exact HO2.out)⟩
        case measure => simp [intOf]; omega
      | false =>
        have HE2 : Hid (ofPaths (ps.take (k + 1)) a b = ofPaths (ps.take k) a b ++ [(p, x, y)]) := Lib.hid (by rw [HE.out, if_neg (beq_eq_false_iff_ne.1 hq)])
        have HS6 := Lib.hid (sl_cg wr 69 (p, x, y))
        have HO6 := Lib.hid (HO2.out.alloc (.cells #[S p, S x, S y] 69))
        go_wp2_with (first
          | (go_at_call 65; first | ((with_reducible refine CA.out.mono ?_); rintro e w2 ⟨rfl, rfl⟩) | ((with_reducible refine CB.out.mono ?_); rintro e w2 ⟨rfl, rfl⟩))
          | (at_builtin; refine wpList_append_sl _ rfl (.tmp 35) (.tmp 43) _ rfl w1 69 i0 _ 3 48 Tryz.underlying48 hi0 hz0 hz1 hz2 rfl (by decide) A2 t2 co2 _ rfl HO6.out _ 1 1 (cgs [(p, x, y)]) rfl HS6.out (one_cgs _) hx1.out hx2.out ?_; intro A5 c5 w5 hO5 hg5 hat5; have HO5 := Lib.hid hO5; clear hO5 hg5 hat5))
        go_roundw
        case rel => exact ⟨k + 1, t2 + 1, c5, A5, hlt, by go_num, rfl, by omega, Lib.hid (by rw [HE2.out, cgs_append]; exact HO5.out)⟩
        case measure => simp [intOf]; omega
    · obtain rfl : k = t := by omega
      have hO9 := HO2.out
      rw [List.take_of_length_le (l := ps) (by rw [Hl1.out]; exact Nat.le_refl _)] at hO9
      have HO9 := Lib.hid hO9
      clear hO9
      go_wp2
      go_ret
      exact ⟨A2, t2, co2, ps, rfl, HP.out, HO9.out.since B1.out⟩
end Go.Proofs.YtphnfcgdpdimbaaGreatDoor
