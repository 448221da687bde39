/-
  dolmenlaw14.IndexFiles: the files of an index always may be; a path in conflict has no file. Conditions: paths are shorter than 2147483648 bytes; MaxLen holds an int.
-/
import Derived.Test.YtjcelelgebohkaaDoorIdxCheck
import Derived.Test.YtjcelelgebohkaaDoorIdxFilesLaw
import Derived.Test.YtjcelelgebohkaaDoorIdxOps
import Derived.Test.YtjcelelgebohkaaDoorAwake14
namespace Go.Proofs.YtjcelelgebohkaaDoor
open Go.RowKit
open IdxLaw (Ent Key zE Inv sortE)

def filPhi (b off t5 c5 k p : Nat) (s : List UInt8) (F : List Fil) : Nat → Value → World → Prop
  | 0, v, _ => v = .bool false
  | 1, v, _ => v = .bool false
  | 2, v, _ => v = .pointer (some ⟨p, 0, none⟩)
  | 3, v, w => ∃ (A : Option Addr) (c : Nat), v = .slice A F.length c ∧ Sl w 2 A F.length (fls F)
  | 4, v, _ => v = .slice (some ⟨b, off, none⟩) t5 c5
  | 5, v, _ => v = I ((k : Int))
  | 6, v, _ => v = .pointer (some ⟨b, off + k, none⟩)
  | 7, v, _ => v = S s
  | 8, v, _ => v = S ([])
  | 9, v, _ => v = .bool false
  | _, _, _ => True
theorem filPhi_mono {b off t5 c5 k p : Nat} {s : List UInt8} {F : List Fil} : ∀ (j : Nat) (v : Value) (w w' : World), filPhi b off t5 c5 k p s F j v w → Below w.heap.size w w' → filPhi b off t5 c5 k p s F j v w' := by
  intro j v w w' h hb
  match j, h with
  | 0, h => exact h
  | 1, h => exact h
  | 2, h => exact h
  | 3, h => obtain ⟨A, c, e, hS⟩ := h; exact ⟨A, c, e, hS.below hb⟩
  | 4, h => exact h
  | 5, h => exact h
  | 6, h => exact h
  | 7, h => exact h
  | 8, h => exact h
  | 9, h => exact h
  | (n + 10), _ => trivial
theorem compact_mem {zs : List (List UInt8)} {c : List UInt8} (h : c ∈ Lib.compact zs) : c ∈ zs := by
  unfold Lib.compact Lib.compactUpTo at h
  obtain ⟨j, hj, rfl⟩ := List.mem_map.1 h
  have hlt := List.mem_range.1 (List.mem_filter.1 hj).1
  have e : zs.toArray[j]! = zs[j] := by simp [hlt]
  rw [e]
  exact List.getElem_mem hlt
theorem files_le {l : List Ent} (h : l.length ≤ 180) : (filesOf (sortE l)).length ≤ 180 := by
  unfold filesOf
  rw [List.length_map]
  have h1 := List.length_filter_le (fun e : Ent => decide (e.stage = 0)) (sortE l)
  have h2 := (IdxLaw.sortE_perm l).length_eq
  omega
theorem confs_le {l : List Ent} (h : l.length ≤ 180) : (Lib.compact (confsOf (sortE l))).length ≤ 180 := by
  have h0 := Lib.compact_length_le (confsOf (sortE l))
  have h1 := List.length_filter_le (fun e : Ent => decide (0 < e.stage)) (sortE l)
  have h2 := (IdxLaw.sortE_perm l).length_eq
  have h3 : (confsOf (sortE l)).length = ((sortE l).filter (fun e : Ent => decide (0 < e.stage))).length := by unfold confsOf; rw [List.length_map]
  omega
set_option maxRecDepth 100000 in
set_option maxHeartbeats 8000000 in
theorem indexFiles_law (A : Option Addr) (n c : Nat) (os : List OpG) (w : World) (hA : Sl w 10 A n (opsC os)) (hO : ∀ o ∈ os, o.ok) (hM : MaxL w) :
    Calls Tryd.prog 3 #[.slice A n c] w fun e w' => e = .returned (.bool true) ∧ Below w.heap.size w w' := by
  have HM := Lib.hid hM
  have HA := Lib.hid hA
  have C0 := Lib.hid (awake14_any _ HM.out)
  have HO := Lib.hid hO
  clear hM hA hO
  go_enter Tryd.func3, Tryd.ntmps3
  go_wp2_with (first
    | (go_at_call 4; refine C0.out.mono ?_; rintro e w1 ⟨rfl, b1⟩; have B1 := Lib.hid b1; have HA1 := Lib.hid (HA.out.below b1); have HM1 := Lib.hid (HM.out.step b1); clear b1)
    | (go_at_call 5; refine (made_any w1 A n c os HA1.out HO.out HM1.out).mono ?_; rintro e w2 ⟨p, m, l, rfl, hI2, hv2, hp2, hm2, b2⟩; have B2 := Lib.hid (bstep B1.out b2); have HM2 := Lib.hid (HM1.out.step b2); have I2 := Lib.hid hI2; have V2 := Lib.hid hv2; have hle : l.length ≤ 180 := (by have h1 := hI2.map.le; simp [kd] at h1; exact h1); clear b2 hI2 hv2 hp2 hm2)
    | (go_at_call 7; (with_reducible refine (files_any w2 p m 180 l I2.out (by omega)).mono ?_); rintro e w3 ⟨A3, t3, c3, rfl, ht3, hO3⟩; have B3 := Lib.hid (bstep B2.out hO3.2); have HM3 := Lib.hid (HM2.out.step hO3.2); have I3 := Lib.hid (I2.out.step hO3.2); have S3 := Lib.hid hO3.sl; have T3 : t3 ≤ 180 := (by rw [ht3]; exact files_le hle); clear hO3 ht3)
    | (go_at_call 6; refine (check_any A3 t3 c3 _ w3 S3.out (Nat.le_trans T3 (by decide)) (files_named V2.out) (files_sorted V2.out) (files_apart V2.out) HM3.out).mono ?_; rintro e w4 ⟨rfl, b4⟩; have B4 := Lib.hid (bstep B3.out b4); have I4 := Lib.hid (I3.out.step b4); clear b4)
    | (go_at_call 8; (with_reducible refine (conflicts_any w4 p m 180 l I4.out (by omega)).mono ?_); rintro e w5 ⟨A5, t5, c5, rfl, ht5, hS5, b5⟩; have B5 := Lib.hid (bstep B4.out b5); have I5 := Lib.hid (I4.out.step b5); have S5 := Lib.hid hS5; have T5 : t5 ≤ 180 := (by rw [ht5]; exact confs_le hle); clear b5 hS5 ht5))
  go_loopw [6, 7, 8] (fun i z ok wr => ∃ k : Nat, i = .int .i64 k ∧ Hid (k ≤ t5) ∧ Hid (Below w5.heap.size w5 wr)) (fun i _ _ _ => t5 - (intOf i).toNat)
  case atStart => exact ⟨0, rfl, Lib.hid (Nat.zero_le _), Lib.hid (Below.refl _ _)⟩
  case round =>
    obtain ⟨k, rfl, hk, hb⟩ := hrel
    by_cases hlt : k < t5
    · obtain ⟨b, off, s, rfl, hs, x0⟩ := (S5.out.below hb.out).str hlt
      have hcs := compact_mem (List.mem_of_getElem? hs)
      have hno := conf_no_file V2.out hcs
      have Hs := Lib.hid hs
      have hgd : goodK (s, 0) := by
        obtain ⟨e, he, _, rfl⟩ := confs_mem.1 hcs
        have h1 := right_good (V2.out.right e he)
        exact ⟨h1.1, show (Lit.int .i64 0).wf = true by decide⟩
      have C6 := find_any wr p m 180 l s 0 (I5.out.step hb.out) hgd
      rw [hno.1] at C6
      have C6h := Lib.hid C6
      have Hno := Lib.hid hno.2
      clear hcs hno hs C6
      go_wp2_with (go_at_call 9; refine C6h.out.mono ?_; rintro e w6 ⟨rfl, b6⟩; have B6 := Lib.hid (bstep hb.out b6); clear b6)
      have b7 := balloc (Below.refl _ w6) (.cells #[S zE.path, I zE.stage, S zE.id, I zE.size, I zE.stamp] 33)
      obtain ⟨W, hW⟩ : ∃ W, W = w6.alloc (.cells #[S zE.path, I zE.stage, S zE.id, I zE.size, I zE.stamp] 33) := ⟨_, rfl⟩
      rw [← hW] at b7
      have BW := Lib.hid (bstep B6.out b7)
      have IW := Lib.hid (I5.out.step BW.out)
      have Hpv : Hid (∀ W', Below W.heap.size W W' → W'.cell? ⟨b, off + k, none⟩ = some (S s)) := Lib.hid (fun W' h => by
        obtain ⟨b', off', s', e1, hs', z0⟩ := (S5.out.below (bstep BW.out h)).str hlt
        cases e1
        obtain rfl : s' = s := Option.some.inj (hs'.symm.trans Hs.out)
        exact z0)
      have CF : Hid (∀ W', Below W.heap.size W W' → _) := Lib.hid (fun W' h => files_any W' p m 180 l (IW.out.step h) (by omega))
      obtain ⟨F, hF⟩ : ∃ F, F = filesOf (sortE l) := ⟨_, rfl⟩
      have hFl : F.length ≤ 180 := by rw [hF]; exact files_le hle
      rw [← hF] at CF Hno
      clear hF x0
      simp only [← hW]
      clear hW b7
      refine wp_region_guards (by kernel_rfl) 10 (by kernel_rfl) ?_ (filPhi b off t5 c5 k p s F) filPhi_mono (fun i o hi ho a w hb hs hm => ?_) (fun o ho a w hb hs hm => ?_)
      · exact dst_lt' (n := 52) (by kernel_rfl)
      · exact match i, hi, ho with
        | 0, _, ho => by
            cases ho
            rw [if_pos (wanted_none _ rfl)]
            refine wp_value (st_move rfl ((hs.keeps (by kernel_rfl)).trans rfl)) ⟨_, rfl, rfl, Below.refl _ _⟩
        | 1, _, ho => by
            cases ho
            rw [if_pos (wanted_none _ rfl)]
            refine wp_value (st_move rfl (hm.get 0 41 (by kernel_rfl))) ⟨_, rfl, rfl, Below.refl _ _⟩
        | 2, _, ho => by
            cases ho
            generalize hW : Region.wanted _ _ = W
            obtain rfl : W = (false == false) := hW.symm.trans (wanted_of rfl rfl rfl (show a.eval (.tmp 42) = .bool false from (hm.get 1 42 (by kernel_rfl))))
            clear hW
            rw [if_pos (show (false == false) = true by decide)]
            refine wp_value (st_move rfl ((hs.keeps (by kernel_rfl)).trans rfl)) ⟨_, rfl, rfl, Below.refl _ _⟩
        | 3, _, ho => by
            cases ho
            generalize hW : Region.wanted _ _ = W
            obtain rfl : W = (false == false) := hW.symm.trans (wanted_of rfl rfl rfl (show a.eval (.tmp 42) = .bool false from (hm.get 1 42 (by kernel_rfl))))
            clear hW
            rw [if_pos (show (false == false) = true by decide)]
            have h1 := eval_getD (hm.get 2 43 (by kernel_rfl)); unfold Oper.wp; simp only [execOp]; go_simp; refine (CF.out w hb).mono ?_; rintro e w' ⟨A9, t9, c9, rfl, rfl, hO9⟩; exact ⟨_, rfl, ⟨A9, c9, rfl, hO9.sl⟩, hO9.2⟩
        | 4, _, ho => by
            cases ho
            generalize hW : Region.wanted _ _ = W
            obtain rfl : W = (false == false) := hW.symm.trans (wanted_of rfl rfl rfl (show a.eval (.tmp 42) = .bool false from (hm.get 1 42 (by kernel_rfl))))
            clear hW
            rw [if_pos (show (false == false) = true by decide)]
            refine wp_value (st_move rfl ((hs.keeps (by kernel_rfl)).trans rfl)) ⟨_, rfl, rfl, Below.refl _ _⟩
        | 5, _, ho => by
            cases ho
            generalize hW : Region.wanted _ _ = W
            obtain rfl : W = (false == false) := hW.symm.trans (wanted_of rfl rfl rfl (show a.eval (.tmp 42) = .bool false from (hm.get 1 42 (by kernel_rfl))))
            clear hW
            rw [if_pos (show (false == false) = true by decide)]
            refine wp_value (st_move rfl ((hs.keeps (by kernel_rfl)).trans rfl)) ⟨_, rfl, rfl, Below.refl _ _⟩
        | 6, _, ho => by
            cases ho
            generalize hW : Region.wanted _ _ = W
            obtain rfl : W = (false == false) := hW.symm.trans (wanted_of rfl rfl rfl (show a.eval (.tmp 42) = .bool false from (hm.get 1 42 (by kernel_rfl))))
            clear hW
            rw [if_pos (show (false == false) = true by decide)]
            have h1 := eval_getD (hm.get 4 45 (by kernel_rfl)); have h2 := eval_getD (hm.get 5 46 (by kernel_rfl)); unfold Oper.wp; simp only [execOp]; go_simp; exact ⟨_, rfl, rfl, Below.refl _ _⟩
        | 7, _, ho => by
            cases ho
            generalize hW : Region.wanted _ _ = W
            obtain rfl : W = (false == false) := hW.symm.trans (wanted_of rfl rfl rfl (show a.eval (.tmp 42) = .bool false from (hm.get 1 42 (by kernel_rfl))))
            clear hW
            rw [if_pos (show (false == false) = true by decide)]
            have hx := Hpv.out w hb; have h1 := eval_getD (hm.get 6 47 (by kernel_rfl)); unfold Oper.wp; simp only [execOp]; go_simp; exact ⟨_, rfl, rfl, Below.refl _ _⟩
        | 8, _, ho => by
            cases ho
            generalize hW : Region.wanted _ _ = W
            obtain rfl : W = (false == false) := hW.symm.trans (wanted_of rfl rfl rfl (show a.eval (.tmp 42) = .bool false from (hm.get 1 42 (by kernel_rfl))))
            clear hW
            rw [if_pos (show (false == false) = true by decide)]
            obtain ⟨A9, c9, e9, S9⟩ := (hm.get 3 44 (by kernel_rfl)); have h1 := eval_getD e9; have h2 := eval_getD (hm.get 7 48 (by kernel_rfl)); unfold Oper.wp; simp only [execOp]; go_simp; refine (treeFind_no A9 F.length c9 F s w S9 (by omega) Hno.out).mono ?_; rintro e w' ⟨rfl, hb'⟩; exact ⟨_, rfl, rfl, hb'⟩
        | 9, _, ho => by
            cases ho
            generalize hW : Region.wanted _ _ = W
            obtain rfl : W = (false == false) := hW.symm.trans (wanted_of rfl rfl rfl (show a.eval (.tmp 42) = .bool false from (hm.get 1 42 (by kernel_rfl))))
            clear hW
            rw [if_pos (show (false == false) = true by decide)]
            have h1 := eval_getD (hm.get 8 49 (by kernel_rfl)); unfold Oper.wp; simp only [execOp]; go_simp; exact ⟨_, rfl, (by first | rfl | simp), Below.refl _ _⟩
        | (n + 10), hi, _ => absurd hi (by omega)
      · have e1 : a.eval (.tmp 42) = .bool false := by cases ho; exact hm.get 1 42 (by kernel_rfl)
        have e2 : a.eval (.tmp 50) = .bool false := by cases ho; exact hm.get 9 50 (by kernel_rfl)
        have hfr := hs.frame [41, 42, 43, 44, 45, 46, 47, 48, 49, 50, 51] (by kernel_rfl)
        cases ho
        rw [hfr]
        simp only [List.foldl_cons, List.foldl_nil, e1, e2]
        clear hfr hs hm e1 e2
        generalize a.eval (.tmp 41) = u41
        generalize a.eval (.tmp 43) = u43
        generalize a.eval (.tmp 44) = u44
        generalize a.eval (.tmp 45) = u45
        generalize a.eval (.tmp 46) = u46
        generalize a.eval (.tmp 47) = u47
        generalize a.eval (.tmp 48) = u48
        generalize a.eval (.tmp 49) = u49
        generalize a.eval (.tmp 51) = u51
        unfold Oper.wp
        simp only [execOp]
        go_simp
        clear a
        have BX := Lib.hid (bstep BW.out hb)
        go_wp2
        go_roundw
        case rel => exact ⟨k + 1, by go_num, Lib.hid hlt, BX⟩
        case measure => simp [intOf]; omega
    · obtain rfl : k = t5 := by have := hk.out; omega
      go_wp2
      go_ret
      exact ⟨rfl, bstep B5.out hb.out⟩
end Go.Proofs.YtjcelelgebohkaaDoor
