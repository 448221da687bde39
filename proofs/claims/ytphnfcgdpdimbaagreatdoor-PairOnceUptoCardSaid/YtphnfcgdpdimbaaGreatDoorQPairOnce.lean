/-
  PairOnce: no change is paired twice; each pair is of one that is gone and one that is fresh; equal blobs are paired; a score is 50 to 100. Conditions: the arguments can be read, of a bounded bulk.
-/
import Derived.Test.YtphnfcgdpdimbaaGreatDoorQKitPl
import Derived.Test.YtphnfcgdpdimbaaGreatDoorQKitPt
import Derived.Test.YtphnfcgdpdimbaaGreatDoorQKitPb
import Derived.Test.YtphnfcgdpdimbaaGreatDoorQAwake16
import Derived.Test.YtphnfcgdpdimbaaGreatDoorQKitDf
import Derived.Deep.CutRange
namespace Go.Proofs.YtphnfcgdpdimbaaGreatDoor
open Go.RowKit Go.Shelf
open RenLaw (renM fromV toV)
open DiffLaw (fid ofPaths)
theorem ofPaths_apart {ps : List (List UInt8)} (h : ps.Pairwise (· < ·)) (a b : List Fil) : ((ofPaths ps a b).map (·.1)).Nodup := by
 have h2 : ps.Nodup := h.imp (fun h e => by rw [e] at h; exact List.lt_irrefl _ h)
 unfold ofPaths
 rw [List.Nodup, List.pairwise_map, List.pairwise_filterMap]
 refine h2.imp (fun {p q} hne x hx y hy => ?_)
 split at hx
 ·cases hx
 ·split at hy
  ·cases hy
  ·cases hx
   cases hy
   exact hne
theorem ofPaths_ne {ps : List (List UInt8)} {a b : List Fil} {x : Chg3} (h : x ∈ ofPaths ps a b) : x.2.1 ≠ x.2.2 := by
 unfold ofPaths at h
 obtain ⟨p, _, hp⟩ := List.mem_filterMap.1 h
 split at hp
 ·cases hp
 ·rename_i hne
  cases hp
  exact hne
theorem fid_len {l : List Fil} {N : Nat} (hl : ∀ f ∈ l, f.2.length ≤ N) (p : List UInt8) : (fid l p).length ≤ N := by
 induction l with
 | nil => exact Nat.zero_le _
 | cons f r ih =>
  rw [fid]
  split
  ·exact hl f (by simp)
  ·exact ih (fun g hg => hl g (List.mem_cons_of_mem _ hg))
theorem ofPaths_len {ps : List (List UInt8)} {a b : List Fil} {N : Nat} (ha : ∀ f ∈ a, f.2.length ≤ N) (hb : ∀ f ∈ b, f.2.length ≤ N) {x : Chg3} (h : x ∈ ofPaths ps a b) : x.2.1.length ≤ N ∧ x.2.2.length ≤ N := by
 unfold ofPaths at h
 obtain ⟨p, _, hp⟩ := List.mem_filterMap.1 h
 split at hp
 ·cases hp
 ·cases hp
  exact ⟨fid_len ha p, fid_len hb p⟩
theorem fromV_step {K : List Chg3} {k : Nat} {x : Chg3} (hx : K[k]? = some x) (p : List UInt8) : fromV (K.take (k + 1)) p = if x.1 = p ∧ x.2.2 = [] then x.2.1 else fromV (K.take k) p := by
 unfold fromV
 rw [List.take_add_one, hx, List.foldl_append]
 rfl
theorem toV_step {K : List Chg3} {k : Nat} {x : Chg3} (hx : K[k]? = some x) (p : List UInt8) : toV (K.take (k + 1)) p = if x.1 = p ∧ x.2.1 = [] then x.2.2 else toV (K.take k) p := by
 unfold toV
 rw [List.take_add_one, hx, List.foldl_append]
 rfl
structure OnceOk (K : List Chg3) (rs : List Ren) : Prop where
 one : ∀ x ∈ rs, fromV K x.1 ≠ [] ∧ toV K x.2.1 ≠ [] ∧ 50 ≤ x.2.2 ∧ x.2.2 ≤ 100 ∧ (fromV K x.1 = toV K x.2.1 → x.2.2 = 100)
 apart : rs.Pairwise (fun x y => x.1 ≠ y.1 ∧ x.2.1 ≠ y.2.1)
 same : ∀ x ∈ K, ∀ y ∈ K, x.2.2 = [] → y.2.1 = [] → x.2.1 = y.2.2 → ∃ r ∈ rs, r.1 = x.1 ∨ r.2.1 = y.1
theorem once_ok {K : List Chg3} {rd : RenLaw.Rd} {rs : List Ren} (hu : (K.map (·.1)).Nodup) (hs : ∀ x ∈ K, x.2.2 = [] → x.2.1 ≠ []) (h : renM K rd = .ok rs) : OnceOk K rs := by
 obtain ⟨s, hI, rfl⟩ := RenLaw.renM_ok h
 refine ⟨fun x hx => RenLaw.once_pair hu hI hx, RenLaw.pairs_apart hu hI, fun x hx y hy h1 h2 h3 => ?_⟩
 obtain ⟨i, hi⟩ := List.getElem?_of_mem hx
 obtain ⟨k, hk⟩ := List.getElem?_of_mem hy
 exact RenLaw.once_same hI hi hk h1 (hs x hx h1) h2 h3
theorem getZ_two (id : List UInt8) : getZ id = 6 ∨ getZ id = 1 := by
 unfold getZ
 split
 ·exact .inl rfl
 ·exact .inr rfl
theorem err_two {K : List Chg3} {R : List (List UInt8)} {z : Int} (h : renM K (rdOf R) = .error z) : z = 6 ∨ z = 1 := by
 obtain ⟨id, hid⟩ := RenLaw.renM_err h
 unfold rdOf at hid
 split at hid
 ·cases hid
  exact getZ_two id
 ·cases hid
theorem any_step {rs : List Ren} {k : Nat} {r : Ren} (f : Ren → Bool) (h : rs[k]? = some r) : (rs.take (k + 1)).any f = ((rs.take k).any f || f r) := by
 rw [List.take_add_one, h, List.any_append]
 simp
set_option maxHeartbeats 32000000 in
set_option maxRecDepth 100000 in
theorem pairOnce_walk (A0 : Option Addr) (n0 c0 : Nat) (rs : List BlobIn) (A1 : Option Addr) (n1 c1 : Nat) (a : List Fil) (A2 : Option Addr) (n2 c2 : Nat) (b : List Fil) (A3 : Option Addr) (n3 c3 : Nat) (nums : List Int) (w : World)
  (hS0 : Sl w 1 A0 n0 (rs.map BlobIn.v)) (hR0 : ∀ r ∈ rs, Sl w 1 r.A r.n (u8s r.l)) (hn0 : n0 ≤ 1048576) (hu0 : ((rs.map (·.l)).map List.length).sum ≤ 1048576)
  (hS1 : Sl w 2 A1 n1 (fls a)) (hn1 : n1 ≤ 400000) (hO1 : ∀ f ∈ a, f.1.length ≤ 1048576 ∧ f.2.length ≤ 1048576) (hS2 : Sl w 2 A2 n2 (fls b)) (hn2 : n2 ≤ 400000) (hO2 : ∀ f ∈ b, f.1.length ≤ 1048576 ∧ f.2.length ≤ 1048576)
  (hS3 : Sl w 1 A3 n3 (nums.map fun z => I z)) (hn3 : n3 ≤ 1048576) (hX : MaxL w) :
  Calls Tryz.prog 5 #[.slice A0 n0 c0, .slice A1 n1 c1, .slice A2 n2 c2, .slice A3 n3 c3] w fun e w' => e = .returned (.bool true) ∧ Below w.heap.size w w' := by
 have HS0 := Lib.hid hS0
 have HR0 := Lib.hid hR0
 have HS1 := Lib.hid hS1
 have HO1 := Lib.hid hO1
 have HS2 := Lib.hid hS2
 have HO2 := Lib.hid hO2
 have HS3 := Lib.hid hS3
 have HX := Lib.hid hX
 have Hu0 := Lib.hid hu0
 have CA := Lib.hid (awake16_any w)
 clear hS0 hR0 hS1 hO1 hS2 hO2 hS3 hX hu0
 go_enter Tryz.func5, Tryz.ntmps5
 go_wp2_with fail
 refine CA.out.mono ?_
 rintro e w1 ⟨rfl, b1⟩
 have B1 := Lib.hid b1
 have CB := Lib.hid (both_any A0 n0 c0 rs w1 (HS0.out.below b1) (fun r hr => (HR0.out r hr).below b1) (by omega) (by have := Hu0.out; omega))
 clear b1 CA
 go_wp2_with fail
 refine CB.out.mono ?_
 rintro e w2 ⟨q, p, pk, m, n', q2, r, ib, ki, ci, Ai, rfl, hT, hO, hki⟩
 have Hids : Hid (∀ x ∈ (bothS (rs.map (·.l)) ib).2, x.length = 32) := Lib.hid (bothS_ids _ _)
 have Hblb := Lib.hid (both_blobs (rs.map (·.l)) ib)
 obtain ⟨R, hR⟩ : ∃ R, R = (bothS (rs.map (·.l)) ib).1 := ⟨_, rfl⟩
 obtain ⟨ids, hids⟩ : ∃ ids, ids = (bothS (rs.map (·.l)) ib).2 := ⟨_, rfl⟩
 rw [← hR] at hT Hblb
 rw [← hids] at hO Hids
 have HT := Lib.hid hT
 have HI2 := Lib.hid hO.sl
 have B2 := Lib.hid (bstep B1.out hO.2)
 have CD := Lib.hid (rdiff_any A1 A2 n1 n2 c1 c2 a b w2 (HS1.out.below B2.out) (HS2.out.below B2.out) (by omega) (by omega))
 clear hT hO CB hR hids
 go_wp2_with fail
 refine CD.out.mono ?_
 rintro e w2' ⟨AD, nd, cd, ps, rfl, hps, hOD⟩
 have hcap := hOD.cap
 simp only [maxLen] at hcap
 have B2' := Lib.hid (bstep B2.out hOD.2)
 have HT2 := Lib.hid (HT.out.step hOD.2)
 have Hps := Lib.hid hps
 have HDl : Hid ((ofPaths ps a b).length = nd) := Lib.hid (by have := hOD.len; rw [cgs_len] at this; omega)
 have CW := Lib.hid (with_any AD Ai A3 nd cd ki ci n3 c3 (ofPaths ps a b) ids nums w2' hOD.sl (HI2.out.below hOD.2) (HS3.out.below B2'.out) (by omega) (by omega) (by omega))
 clear hOD CD hps
 go_wp2_with fail
 refine CW.out.mono ?_
 rintro e w3 ⟨i, AK, cK, hi1, hi2, hi3, rfl, hO3⟩
 obtain ⟨K, hK⟩ : ∃ K, K = withL (ofPaths ps a b) ids nums i := ⟨_, rfl⟩
 have HKn : Hid (K.length = i) := Lib.hid (by rw [hK, withL_len])
 have HKl : Hid (∀ x ∈ K, x.2.1.length ≤ 1000000000 ∧ x.2.2.length ≤ 1000000000) := Lib.hid (fun x hx => by
  rw [hK] at hx
  exact withL_lens (fun y hy => by have := ofPaths_len (N := 1048576) (fun f hf => (HO1.out f hf).2) (fun f hf => (HO2.out f hf).2) hy; omega) (fun y hy => by have := Hids.out y hy; omega) hx)
 have HKu : Hid ((K.map (·.1)).Nodup) := Lib.hid (by
  rw [hK, withL_paths (by rw [HDl.out]; exact hi2)]
  exact (ofPaths_apart Hps.out.1 a b).sublist (List.take_sublist _ _))
 have HKs : Hid (∀ x ∈ K, x.2.2 = [] → x.2.1 ≠ []) := Lib.hid (fun x hx h => by
  rw [hK] at hx
  exact withL_some (fun y hy e => by have := Hids.out y hy; rw [e] at this; cases this) (fun y hy => ofPaths_ne hy) (by rw [HDl.out]; exact hi2) hx h)
 rw [← hK] at hO3
 have B3 := Lib.hid (bstep B2'.out hO3.2)
 have HS3' := Lib.hid hO3.sl
 have HT3 := Lib.hid (HT2.out.step hO3.2)
 clear hO3 hK CW hcap
 by_cases hbig : 40 < n1 ∨ 40 < n2
 ·have hways : decide ((40 : Int) < (n1 : Int)) = true ∨ (decide ((40 : Int) < (n1 : Int)) = false ∧ decide ((40 : Int) < (n2 : Int)) = true) := by
   by_cases h1 : 40 < n1
   ·exact .inl (decide_eq_true (by omega))
   ·exact .inr ⟨decide_eq_false (by omega), decide_eq_true (by omega)⟩
  rcases hways with h1 | ⟨h1, h2⟩
  all_goals
   go_wp2
   go_ret
   exact ⟨rfl, B3.out⟩
 ·have d1 : decide ((40 : Int) < (n1 : Int)) = false := decide_eq_false (by omega)
  have d2 : decide ((40 : Int) < (n2 : Int)) = false := decide_eq_false (by omega)
  have CT := Lib.hid (turned16_any w3 AK i cK K HS3'.out (by omega))
  clear hbig
  go_wp2_with fail
  refine CT.out.mono ?_
  rintro e w4 ⟨A4, c4, rfl, hO4⟩
  have B4 := Lib.hid (bstep B3.out hO4.2)
  have HT4 := Lib.hid (HT3.out.step hO4.2)
  have HS34 := Lib.hid (HS3'.out.below hO4.2)
  have CR := Lib.hid (renamesG_any w4 q p pk m n' i c4 capB A4 K R hO4.sl (by omega) (HT4.out.stP Hblb.out) (HX.out.step B4.out) HKl.out)
  clear hO4 CT d1 d2
  go_wp2_with fail
  refine CR.out.mono ?_
  rintro e w5 ⟨hret, b5⟩
  have B5 := Lib.hid (bstep B4.out b5)
  have HK5 := Lib.hid (HS34.out.below b5)
  clear b5 CR
  rcases hrm : renM K (rdOf R) with z | ys
  ·rw [hrm] at hret
   obtain ⟨rfl, hz⟩ := hret
   rcases err_two hrm with rfl | rfl
   all_goals
    clear hrm
    go_wp2
    go_ret
    exact ⟨rfl, B5.out⟩
  ·rw [hrm] at hret
   obtain ⟨AR, cR, rfl, hSR⟩ := hret
   have hOk := once_ok HKu.out HKs.out hrm
   have hylen : ys.length ≤ 16 := by have := renM_len hrm; have := HKn.out; omega
   obtain ⟨ny, hny⟩ : ∃ ny, ny = ys.length := ⟨_, rfl⟩
   rw [← hny] at hSR hylen ⊢
   have HSR := Lib.hid hSR
   have HOk := Lib.hid hOk
   have Hny := Lib.hid hny
   clear hrm hSR hOk hny HT HT2 HT3 HT4 Hids Hblb HKl HKu HKs
   go_wp2
   go_loopw [16] (fun s16 wr => ∃ (i9 q9 : Nat), i9 ≤ ny ∧ s16 = .int .i64 i9 ∧ wr = w5.drewN q9) (fun s16 _ => ny - (intOf s16).toNat)
   case atStart => exact ⟨0, 0, Nat.zero_le _, rfl, rfl⟩
   case round =>
    obtain ⟨i9, q9, hi9, rfl, rfl⟩ := hrel
    by_cases hlt : i9 < ny
    ·obtain ⟨bR, oR, rr, rfl, _, hrr, r0, r1, r2⟩ := HSR.out.rn hlt
     have hone := HOk.out.one rr (List.mem_of_getElem? hrr)
     have Hrr := Lib.hid hrr
     have Hone := Lib.hid hone
     clear hrr hone
     go_wp2
     go_loopw [17, 18, 19] (fun s17 s18 s19 wr => ∃ (k q8 : Nat) (f1 f2 : List UInt8), k ≤ i ∧ s19 = .int .i64 k ∧ s17 = S f1 ∧ s18 = S f2 ∧ Hid (f1 = fromV (K.take k) rr.1) ∧ Hid (f2 = toV (K.take k) rr.2.1) ∧ wr = w5.drewN q8) (fun _ _ s19 _ => i - (intOf s19).toNat)
     case atStart => exact ⟨0, q9, [], [], Nat.zero_le _, rfl, rfl, rfl, Lib.hid rfl, Lib.hid rfl, rfl⟩
     case round =>
      obtain ⟨k, q8, f1, f2, hk, rfl, rfl, rfl, HF1, HF2, rfl⟩ := hrel
      by_cases hltk : k < i
      ·obtain ⟨bK, oK, x, rfl, _, hx, x0, x1, x2⟩ := HK5.out.cg hltk
       have e1 := fromV_step hx rr.1
       have e2 := toV_step hx rr.2.1
       have HE1 := Lib.hid e1
       have HE2 := Lib.hid e2
       clear hx e1 e2
       obtain ⟨F1, hF1⟩ : ∃ F1, F1 = fromV (K.take (k + 1)) rr.1 := ⟨_, rfl⟩
       obtain ⟨F2, hF2⟩ : ∃ F2, F2 = toV (K.take (k + 1)) rr.2.1 := ⟨_, rfl⟩
       have HG1 := Lib.hid hF1
       have HG2 := Lib.hid hF2
       have w1 : ((x.1 == rr.1) = false ∧ F1 = f1) ∨ ((x.1 == rr.1) = true ∧ (x.2.2 == []) = false ∧ F1 = f1) ∨ ((x.1 == rr.1) = true ∧ (x.2.2 == []) = true ∧ F1 = x.2.1) := by
        rw [hF1, HE1.out, ← HF1.out]
        cases h1 : (x.1 == rr.1) with
        | false => exact .inl ⟨rfl, if_neg (fun h => by rw [h.1] at h1; simp at h1)⟩
        | true => cases h2 : (x.2.2 == []) with
         | false => exact .inr (.inl ⟨rfl, rfl, if_neg (fun h => by rw [h.2] at h2; simp at h2)⟩)
         | true => exact .inr (.inr ⟨rfl, rfl, if_pos ⟨eq_of_beq h1, eq_of_beq h2⟩⟩)
       have w2 : ((x.1 == rr.2.1) = false ∧ F2 = f2) ∨ ((x.1 == rr.2.1) = true ∧ (x.2.1 == []) = false ∧ F2 = f2) ∨ ((x.1 == rr.2.1) = true ∧ (x.2.1 == []) = true ∧ F2 = x.2.2) := by
        rw [hF2, HE2.out, ← HF2.out]
        cases h1 : (x.1 == rr.2.1) with
        | false => exact .inl ⟨rfl, if_neg (fun h => by rw [h.1] at h1; simp at h1)⟩
        | true => cases h2 : (x.2.1 == []) with
         | false => exact .inr (.inl ⟨rfl, rfl, if_neg (fun h => by rw [h.2] at h2; simp at h2)⟩)
         | true => exact .inr (.inr ⟨rfl, rfl, if_pos ⟨eq_of_beq h1, eq_of_beq h2⟩⟩)
       clear hF1 hF2 HE1 HE2 HF1 HF2
       go_upto_region 17 with fail
       go_cut [100] from 82 to 100 (fun c wx => ∃ (B : Bool) (q6 : Nat), c = .bool B ∧ Hid (F1 = bif B then x.2.1 else f1) ∧ wx = w5.drewN q6)
       case first =>
        clear w2
        rcases w1 with ⟨h1, e9⟩ | ⟨h1, h2, e9⟩ | ⟨h1, h2, e9⟩
        all_goals
         have E9 := Lib.hid e9
         clear e9
         go_quiet (fail)
         go_wp2
         go_meet
         exact ⟨_, _, rfl, Lib.hid E9.out, by first | rfl | exact World.drewN_drewN _ _ _⟩
       case rest =>
        obtain ⟨B, q6, rfl, HB, rfl⟩ := hcut
        clear w1
        cases B
        all_goals
         have e9 := HB.out
         simp only [cond_false, cond_true] at e9
         subst e9
         clear HB
         go_upto_region 19 with fail
         go_cut [124] from 106 to 124 (fun c wx => ∃ (B : Bool) (q6 : Nat), c = .bool B ∧ Hid (F2 = bif B then x.2.2 else f2) ∧ wx = w5.drewN q6)
         case first =>
          rcases w2 with ⟨h1, e9⟩ | ⟨h1, h2, e9⟩ | ⟨h1, h2, e9⟩
          all_goals
           have E9 := Lib.hid e9
           clear e9
           go_quiet (fail)
           go_wp2
           go_meet
           exact ⟨_, _, rfl, Lib.hid E9.out, by first | rfl | exact World.drewN_drewN _ _ _⟩
         case rest =>
          obtain ⟨B, q6, rfl, HB, rfl⟩ := hcut
          clear w2
          cases B
          all_goals
           have e9 := HB.out
           simp only [cond_false, cond_true] at e9
           subst e9
           clear HB
           go_wp2
           go_roundw
           case rel => exact ⟨k + 1, _, _, _, hltk, by go_num, rfl, rfl, HG1, HG2, rfl⟩
           case measure => simp [intOf]; omega
      ·obtain rfl : i = k := by omega
       have hfK : f1 = fromV K rr.1 := by
        have h := HF1.out
        rw [List.take_of_length_le (by rw [HKn.out]; exact Nat.le_refl _)] at h
        exact h
       have htK : f2 = toV K rr.2.1 := by
        have h := HF2.out
        rw [List.take_of_length_le (by rw [HKn.out]; exact Nat.le_refl _)] at h
        exact h
       obtain ⟨o1, o2, o3, o4, o5⟩ := Hone.out
       rw [← hfK, ← htK] at o5
       rw [← hfK] at o1
       rw [← htK] at o2
       have g1 : (f1 == []) = false := by simpa using o1
       have g2 : (f2 == []) = false := by simpa using o2
       have g3 : decide (rr.2.2 < 50) = false := decide_eq_false (by omega)
       have g4 : decide (100 < rr.2.2) = false := decide_eq_false (by omega)
       have g5 : (f1 == f2) = false ∨ ((f1 == f2) = true ∧ (rr.2.2 != 100) = false) := by
        cases h : (f1 == f2) with
        | false => exact .inl rfl
        | true => exact .inr ⟨rfl, by rw [o5 (eq_of_beq h)]; rfl⟩
       clear hfK htK o1 o2 o3 o4 o5 HF1 HF2
       go_upto_region 21 with fail
       go_cut [164] from 130 to 164 (fun c wx => c = .bool false ∧ wx = w5.drewN q8)
       case first =>
        rcases g5 with g5 | ⟨g5, g6⟩
        all_goals
         go_wp2
         go_meet
         exact ⟨rfl, rfl⟩
       case rest =>
        obtain ⟨rfl, rfl⟩ := hcut
        clear g1 g2 g3 g4 g5
        go_wp2
        go_loopw [20] (fun s20 wr => ∃ (k q7 : Nat), k ≤ i9 ∧ s20 = .int .i64 k ∧ wr = w5.drewN q7) (fun s20 _ => i9 - (intOf s20).toNat)
        case atStart => exact ⟨0, _, Nat.zero_le _, rfl, rfl⟩
        case round =>
         obtain ⟨k, q7, hk7, rfl, rfl⟩ := hrel
         by_cases hlt7 : k < i9
         ·obtain ⟨_, _, rk, e7, _, hrk, k0, k1, k2⟩ := HSR.out.rn (show k < ny by omega)
          cases e7
          have hap : rk.1 ≠ rr.1 ∧ rk.2.1 ≠ rr.2.1 := by
           obtain ⟨hk1, hk2⟩ := List.getElem?_eq_some_iff.1 hrk
           obtain ⟨hr1, hr2⟩ := List.getElem?_eq_some_iff.1 Hrr.out
           have := List.pairwise_iff_getElem.1 HOk.out.apart k i9 hk1 hr1 hlt7
           rw [hk2, hr2] at this
           exact this
          have a1 : (rk.1 == rr.1) = false := by simpa using hap.1
          have a2 : (rk.2.1 == rr.2.1) = false := by simpa using hap.2
          have b7 : (k : Int) < (ny : Int) := by omega
          clear hap hrk
          go_wp2
          go_quiet (fail)
          go_wp2
          go_roundw
          case rel => exact ⟨k + 1, _, hlt7, by go_num, rfl⟩
          case measure => simp [intOf]; omega
         ·obtain rfl : i9 = k := by omega
          go_wp2
          go_roundw
          case rel => exact ⟨i9 + 1, _, hlt, by go_num, rfl⟩
          case measure => simp [intOf]; omega
    ·obtain rfl : ny = i9 := by omega
     go_wp2
     go_loopw [21] (fun s21 wr => ∃ (i8 q8 : Nat), i8 ≤ i ∧ s21 = .int .i64 i8 ∧ wr = w5.drewN q8) (fun s21 _ => i - (intOf s21).toNat)
     case atStart => exact ⟨0, q9, Nat.zero_le _, rfl, rfl⟩
     case round =>
      obtain ⟨i8, q8, hi8, rfl, rfl⟩ := hrel
      by_cases hlt8 : i8 < i
      ·obtain ⟨bK, oK, x, rfl, _, hx, x0, x1, x2⟩ := HK5.out.cg hlt8
       have Hxm := Lib.hid (List.mem_of_getElem? hx)
       have Hx := Lib.hid hx
       clear hx
       go_wp2
       go_loopw [22] (fun s22 wr => ∃ (k q7 : Nat), k ≤ i ∧ s22 = .int .i64 k ∧ wr = w5.drewN q7) (fun s22 _ => i - (intOf s22).toNat)
       case atStart => exact ⟨0, q8, Nat.zero_le _, rfl, rfl⟩
       case round =>
        obtain ⟨k, q7, hk7, rfl, rfl⟩ := hrel
        by_cases hlt7 : k < i
        ·obtain ⟨_, _, y, e7, _, hy, y0, y1, y2⟩ := HK5.out.cg hlt7
         cases e7
         have hways : (x.2.2 == []) = false ∨ ((x.2.2 == []) = true ∧ (y.2.1 == []) = false) ∨ ((x.2.2 == []) = true ∧ (y.2.1 == []) = true ∧ (x.2.1 == y.2.2) = false) ∨ ((x.2.2 == []) = true ∧ (y.2.1 == []) = true ∧ (x.2.1 == y.2.2) = true) := by
          cases (x.2.2 == []) <;> cases (y.2.1 == []) <;> cases (x.2.1 == y.2.2) <;> simp
         have Hym := Lib.hid (List.mem_of_getElem? hy)
         clear hy
         go_upto_region 34 with fail
         go_cut [232] from 206 to 232 (fun c wx => ∃ (B : Bool) (q6 : Nat), c = .bool B ∧ Hid (B = false → (x.2.2 == []) = true ∧ (y.2.1 == []) = true ∧ (x.2.1 == y.2.2) = true) ∧ wx = w5.drewN q6)
         case first =>
          rcases hways with g1 | ⟨g1, g2⟩ | ⟨g1, g2, g3⟩ | ⟨g1, g2, g3⟩
          case' inr.inr.inr =>
           go_quiet (fail)
           go_wp2
           go_meet
           exact ⟨false, _, rfl, Lib.hid (fun _ => ⟨g1, g2, g3⟩), by first | rfl | exact World.drewN_drewN _ _ _⟩
          all_goals
           go_quiet (fail)
           go_wp2
           go_meet
           exact ⟨true, _, rfl, Lib.hid (fun h => (nomatch h)), by first | rfl | exact World.drewN_drewN _ _ _⟩
         case rest =>
         obtain ⟨B, q6, rfl, HBB, rfl⟩ := hcut
         clear hways
         cases B with
         | true =>
          go_wp2
          go_roundw
          case rel => exact ⟨k + 1, _, hlt7, by go_num, rfl⟩
          case measure => simp [intOf]; omega
         | false =>
          obtain ⟨g1, g2, g3⟩ := HBB.out rfl
          have hex := HOk.out.same x Hxm.out y Hym.out (eq_of_beq g1) (eq_of_beq g2) (eq_of_beq g3)
          have Hex : Hid (ys.any (fun r => (r.1 == x.1) || (r.2.1 == y.1)) = true) := Lib.hid (by
           obtain ⟨r, hr, h⟩ := hex
           refine List.any_eq_true.2 ⟨r, hr, ?_⟩
           rcases h with h | h
           ·rw [h]; simp
           ·rw [h]; simp)
          clear hex
          clear g1 g2 g3 HBB
          go_wp2
          go_loopw [23, 24] (fun s23 s24 wr => ∃ (n6 q6 : Nat), n6 ≤ ny ∧ s24 = .int .i64 n6 ∧ s23 = .bool ((ys.take n6).any (fun r => (r.1 == x.1) || (r.2.1 == y.1))) ∧ wr = w5.drewN q6) (fun _ s24 _ => ny - (intOf s24).toNat)
          case atStart => exact ⟨0, _, Nat.zero_le _, rfl, rfl, by first | rfl | exact World.drewN_drewN _ _ _⟩
          case round =>
           obtain ⟨n6, q6, hn6, rfl, rfl, rfl⟩ := hrel
           by_cases hlt6 : n6 < ny
           ·obtain ⟨bR, oR, rn, rfl, _, hrn, m0, m1, m2⟩ := HSR.out.rn hlt6
            have hst := any_step (fun r => (r.1 == x.1) || (r.2.1 == y.1)) hrn
            have Hst := Lib.hid hst
            clear hrn hst
            obtain ⟨S9, hS9⟩ : ∃ S9, S9 = (ys.take n6).any (fun r => (r.1 == x.1) || (r.2.1 == y.1)) := ⟨_, rfl⟩
            obtain ⟨S8, hS8⟩ : ∃ S8, S8 = (ys.take (n6 + 1)).any (fun r => (r.1 == x.1) || (r.2.1 == y.1)) := ⟨_, rfl⟩
            have HS8 := Lib.hid hS8
            have w9 : (S9 = true ∧ S8 = true) ∨ (S9 = false ∧ (rn.1 == x.1) = true ∧ S8 = true) ∨ (S9 = false ∧ (rn.1 == x.1) = false ∧ (rn.2.1 == y.1) = true ∧ S8 = true) ∨ (S9 = false ∧ (rn.1 == x.1) = false ∧ (rn.2.1 == y.1) = false ∧ S8 = false) := by
             rw [hS8, Hst.out, ← hS9]
             cases S9 <;> cases (rn.1 == x.1) <;> cases (rn.2.1 == y.1) <;> simp
            rw [← hS9]
            clear hS9 hS8 Hst
            rcases w9 with ⟨rfl, h8⟩ | ⟨rfl, h7, h8⟩ | ⟨rfl, h7, h6, h8⟩ | ⟨rfl, h7, h6, h8⟩
            all_goals
             rw [h8] at HS8
             clear h8
             go_wp2
             go_quiet (fail)
             go_wp2
             go_roundw
             case rel => exact ⟨n6 + 1, _, hlt6, by go_num, by rw [← HS8.out], rfl⟩
             case measure => simp [intOf]; omega
           ·obtain rfl : ny = n6 := by omega
            have hall : (ys.take ny).any (fun r => (r.1 == x.1) || (r.2.1 == y.1)) = true := by rw [List.take_of_length_le (by rw [Hny.out]; exact Nat.le_refl _)]; exact Hex.out
            rw [hall]
            clear hall
            go_wp2
            go_roundw
            case rel => exact ⟨k + 1, _, hlt7, by go_num, rfl⟩
            case measure => simp [intOf]; omega
        ·obtain rfl : i = k := by omega
         go_wp2
         go_roundw
         case rel => exact ⟨i8 + 1, _, hlt8, by go_num, rfl⟩
         case measure => simp [intOf]; omega
      ·obtain rfl : i = i8 := by omega
       go_wp2
       go_ret
       exact ⟨rfl, below_drewN B5.out _⟩
end Go.Proofs.YtphnfcgdpdimbaaGreatDoor
