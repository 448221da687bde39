/-
  Texts merged: RFind, RDiff, PairDiff. What each law says and asks stands at its head.
-/
import Derived.Test.YtphnfcgdpdimbaaGreatDoorRKitX
namespace Go.Proofs.YtphnfcgdpdimbaaGreatDoor
open Go.RowKit
open DiffLaw (fid ofPaths)
abbrev pths (l : List Fil) : List (List UInt8) := l.map (·.1)
theorem rw_two (w : World) (t : TypeId) (x y : RwF) : Sl (w.alloc (.cells #[x.v, y.v] t)) 1 (some ⟨w.heap.size, 0, none⟩) 2 ([x, y].map RwF.v) := by
 refine ⟨by simp, fun _ => ⟨_, _, rfl, by simp, fun k hk => ?_⟩⟩
 have h := (Blk.new w t #[x.v, y.v]).cell k
 rw [Nat.zero_add, h]
 simp
theorem of_snoc {ps : List (List UInt8)} {a b : List Fil} {k : Nat} {p : List UInt8} (h : ps[k]? = some p) : ofPaths (ps.take (k + 1)) a b = ofPaths (ps.take k) a b ++ (if fid a p = fid b p then [] else [(p, fid a p, fid b p)]) := by
 rw [List.take_add_one, h]
 unfold ofPaths
 rw [List.filterMap_append]
 congr 1
 by_cases e : fid a p = fid b p <;> simp [e]
theorem sortS_len (ss : List (List UInt8)) : (sortS ss).length = ss.length := (sortS_perm ss).length_eq
set_option maxHeartbeats 8000000 in
set_option maxRecDepth 100000 in
theorem pairDiff_any (A B : Option Addr) (n m c d : Nat) (a b : List Fil) (w : World) (hA : Sl w 2 A n (fls a)) (hB : Sl w 2 B m (fls b)) (hn : n ≤ 400000) (hm : m ≤ 400000) (hpa : ∀ f ∈ a, f.1.length ≤ maxLen) (hpb : ∀ f ∈ b, f.1.length ≤ maxLen) :
  Calls Tryz.prog 51 #[.slice A n c, .slice B m d] w fun e w' => ∃ A' t c' ps, e = .returned (.slice A' t c') ∧ t ≤ 1000000 ∧ DiffLaw.Paths ps a b ∧ Ow w w' 124 3 A' t c' (cgs (ofPaths ps a b)) := by
 obtain ⟨i0, hi0, hz0, hz1, hz2⟩ := info_parts Tryz.infoChg
 obtain ⟨j0, hj0, hy0, hy1, hy2⟩ := info_parts Tryz.infoStr
 have HA := Lib.hid hA
 have HB := Lib.hid hB
 have HPA := Lib.hid hpa
 have HPB := Lib.hid hpb
 have hla := fls_count hA
 have hlb := fls_count hB
 have Hla := Lib.hid hla
 have Hlb := Lib.hid hlb
 have C1 := Lib.hid (known_any A n c a w hA (by omega) hpa)
 have C2 : Hid (∀ W, Below w.heap.size w W → _) := Lib.hid (fun W (h : Below w.heap.size w W) => known_any B m d b W (hB.below h) (by omega) hpb)
 clear hA hB hpa hpb hla hlb
 go_enter Tryz.func51, Tryz.ntmps51
 go_wp2_with (first
  | (go_at_call 123; (with_reducible refine C1.out.mono ?_); rintro e w1 ⟨m1, rfl, hM1, hm1, b1⟩; have HM1 := Lib.hid hM1; have B1 := Lib.hid b1; clear hM1 hm1 b1)
  | (go_at_call 123; (with_reducible refine (C2.out w1 B1.out).mono ?_); rintro e w2 ⟨m2, rfl, hM2, hm2, b2⟩; have HM2 := Lib.hid hM2; have HM1' := Lib.hid (HM1.out.step b2); have B2 := Lib.hid (bstep B1.out b2); have hrs := Lib.hid (rw_two w2 80 ⟨A, n, c, a⟩ ⟨B, m, d, b⟩); have HC := Lib.hid (concatF_any (some ⟨w2.heap.size, 0, none⟩) 2 2 [⟨A, n, c, a⟩, ⟨B, m, d, b⟩] (w2.alloc (.cells #[.slice A n c, .slice B m d] 80)) hrs.out (fun r hr => by (rcases List.mem_cons.1 hr with rfl | hr; exact ((HA.out.below (bstep B1.out b2)).alloc _); rcases List.mem_cons.1 hr with rfl | hr; exact ((HB.out.below (bstep B1.out b2)).alloc _); simp at hr)) (by omega) (by simp [rowsLenF]; omega)); clear hM2 hm2 b2)
  | (go_at_call 124; refine HC.out.mono ?_; rintro e w3 ⟨A3, c3, rfl, hO3⟩; generalize hN : rowsLenF _ = N at hO3 ⊢; have HN := Lib.hid hN; have HO3 := Lib.hid hO3; clear hN hO3))
 have hrl : rowsLenF [⟨A, n, c, a⟩, ⟨B, m, d, b⟩] = n + m := by simp [rowsLenF]
 have hra : rowsAllF [⟨A, n, c, a⟩, ⟨B, m, d, b⟩] = a ++ b := by simp [rowsAllF]
 rw [hrl] at HN
 rw [hra] at HO3
 have HO3' := Lib.hid (HO3.out.since (balloc (Below.refl _ w2) _))
 have HN2 : Hid (N ≤ 800000) := Lib.hid (by have := HN.out; omega)
 have hN2 := HN2.out
 clear hrl hra HO3 HN HC hrs C1 C2
 have HlF := Lib.hid (fls_count HO3'.out.sl)
 go_loopw [7, 22] (fun s7 s22 wr => ∃ (k co : Nat) (Ao : Option Addr), k ≤ N ∧ s22 = .int .i64 k ∧ s7 = .slice Ao k co ∧ Hid (Ow w3 wr 9 1 Ao k co (strs (pths ((a ++ b).take k))))) (fun _ s22 _ => N - (intOf s22).toNat)
 case atStart => exact ⟨0, 0, none, Nat.zero_le _, rfl, rfl, Lib.hid (Ow.nil_ (Below.refl _ _))⟩
 case round =>
  obtain ⟨k, co, Ao, hk, rfl, rfl, HO⟩ := hrel
  by_cases hlt : k < N
  ·obtain ⟨b', off, x, rfl, _, hx, x0, x1⟩ := (HO3'.out.sl.below HO.out.2).fil hlt
   have Hpt : Hid (pths ((a ++ b).take (k + 1)) = pths ((a ++ b).take k) ++ [x.1]) := Lib.hid (by unfold pths; rw [List.take_add_one, hx, List.map_append]; rfl)
   have q1 := Lib.hid (show k + 1 ≤ maxLen by simp only [maxLen]; omega)
   have q2 := Lib.hid (show (k + 1) * 16 ≤ 140737488355328 by omega)
   have HO6 := Lib.hid ((HO.out.alloc (.cells #[S x.1, S x.2] 79)).alloc (.cells #[S x.1] 9))
   have HS6 := Lib.hid (sl_one (wr.alloc (.cells #[S x.1, S x.2] 79)) 9 (S x.1))
   simp only [World.size_alloc] at HS6
   clear hx
   go_wp2_with (at_builtin; refine wpList_append_sl _ rfl (.tmp 26) (.tmp 29) _ rfl w3 9 j0 _ 1 16 Tryz.underlying52 hj0 hy0 hy1 hy2 rfl (by decide) Ao k co _ rfl HO6.out _ 1 1 [S x.1] rfl HS6.out (one_one rfl) q1.out q2.out ?_; intro A5 c5 w5 hO5 hg5 hat5; have HO5 := Lib.hid hO5; clear hO5 hg5 hat5)
   go_roundw
   case rel => exact ⟨k + 1, c5, A5, hlt, by go_num, rfl, Lib.hid (by rw [Hpt.out, strs_append]; exact HO5.out)⟩
   case measure => simp [intOf]; omega
  ·obtain rfl : k = N := by omega
   have hO9 := HO.out
   rw [List.take_of_length_le (by rw [HlF.out]; exact Nat.le_refl _)] at hO9
   have HB4 := Lib.hid hO9.2
   have C3 := Lib.hid (sortS_any w3 wr Ao k co _ hO9 (by omega))
   clear hO9 HO
   go_wp2_with (first
    | (go_at_call 44; refine C3.out.mono ?_; rintro e w4 ⟨rfl, hO4⟩; have C4 := Lib.hid (compact_any w3 w4 Ao k co _ hO4 (by omega)); clear hO4)
    | (go_at_call 45; refine C4.out.mono ?_; rintro e w5 ⟨t, rfl, ht, hS5, b5⟩; have HT0 := Lib.hid ht; clear ht))
   have ht := HT0.out
   have B25 := Lib.hid (bstep HO3'.out.2 b5)
   have HM1'' := Lib.hid (HM1'.out.step B25.out)
   have HM2' := Lib.hid (HM2.out.step B25.out)
   have Ht : Hid (t ≤ 800000) := Lib.hid (by
    have h1 := Lib.compact_length_le (sortS (pths (a ++ b)))
    have h2 := sortS_len (pths (a ++ b))
    have h3 : (pths (a ++ b)).length = k := by rw [List.length_map]; exact HlF.out
    omega)
   obtain ⟨ps, hps⟩ : ∃ ps, ps = Lib.compact (sortS (pths (a ++ b))) := ⟨_, rfl⟩
   rw [← hps] at hS5 ht
   have HP : Hid (DiffLaw.Paths ps a b) := Lib.hid (by
    rw [hps]
    refine ⟨compact_sorted _ _ rfl (sortS_le _), fun p => ?_⟩
    rw [compact_memI p _ _ rfl, (sortS_perm _).mem_iff]
    simp)
   have HS5 := Lib.hid hS5
   have HL5 := Lib.hid ht.symm
   have ht5 := Ht.out
   clear hps ht HT0 hS5 b5 HB4 HM1 HM2 C3
   have Hgd : Hid (∀ p ∈ ps, p.length ≤ maxLen) := Lib.hid (fun p hp => by
    rcases (HP.out.2 p).1 hp with h | h
    ·obtain ⟨f, hf, rfl⟩ := List.mem_map.1 h
     exact HPA.out f hf
    ·obtain ⟨f, hf, rfl⟩ := List.mem_map.1 h
     exact HPB.out f hf)
   go_loopw [10, 37] (fun s10 s37 wr => ∃ (k t2 co2 : Nat) (A2 : Option Addr), k ≤ t ∧ s37 = .int .i64 k ∧ s10 = .slice A2 t2 co2 ∧ t2 ≤ k ∧ Hid (Ow w5 wr 124 3 A2 t2 co2 (cgs (ofPaths (ps.take k) a b)))) (fun _ s37 _ => t - (intOf s37).toNat)
   case atStart => exact ⟨0, 0, 0, none, Nat.zero_le _, rfl, rfl, Nat.le_refl _, Lib.hid (by rw [List.take_zero]; exact Ow.nil_ (Below.refl _ _))⟩
   case round =>
    obtain ⟨k, t2, co2, A2, hk, rfl, rfl, ht2, HO2⟩ := hrel
    by_cases hlt : k < t
    ·obtain ⟨b', off, p, rfl, hp, x0⟩ := (HS5.out.below HO2.out.2).str hlt
     have Hp := Lib.hid hp
     have hgp2 : mssC.good p := Hgd.out p (List.mem_of_getElem? hp)
     have Hgp := Lib.hid hgp2
     have hx1 := Lib.hid (show t2 + 1 ≤ maxLen by simp only [maxLen]; omega)
     have hx2 := Lib.hid (show (t2 + 1) * 48 ≤ 140737488355328 by omega)
     have ha1 := HM1''.out.step HO2.out.2
     have hb1 := HM2'.out.step HO2.out.2
     clear hp hgp2
     obtain ⟨x, hx⟩ : ∃ x, fid a p = x := ⟨_, rfl⟩
     obtain ⟨y, hy⟩ : ∃ y, fid b p = y := ⟨_, rfl⟩
     have E1 : Hid (mssC.vv ((lk a p).getD []) = S x) := Lib.hid (by rw [fid_lk, hx]; rfl)
     have E2 : Hid (mssC.vv ((lk b p).getD []) = S y) := Lib.hid (by rw [fid_lk, hy]; rfl)
     have HE : Hid (ofPaths (ps.take (k + 1)) a b = ofPaths (ps.take k) a b ++ (if x = y then [] else [(p, x, y)])) := Lib.hid (by rw [of_snoc Hp.out, hx, hy])
     clear hx hy
     cases hq : (x == y) with
     | true =>
      have HE2 : Hid (ofPaths (ps.take (k + 1)) a b = ofPaths (ps.take k) a b) := Lib.hid (by rw [HE.out, if_pos (beq_iff_eq.1 hq), List.append_nil])
      go_wp2_with (first
       | (at_lookup; refine wpList_look _ rfl _ _ 208 rfl mssC Tryz.underlying208 [] (Tryz.zeroS _) m1 n _ rfl ha1 p rfl Hgp.out ?_; rw [E1.out])
       | (at_lookup; refine wpList_look _ rfl _ _ 208 rfl mssC Tryz.underlying208 [] (Tryz.zeroS _) m2 m _ rfl hb1 p rfl Hgp.out ?_; rw [E2.out]))
      go_roundw
      case rel => exact ⟨k + 1, t2, co2, A2, hlt, by go_num, rfl, by omega, Lib.hid (by rw [HE2.out]; exact HO2.out)⟩
      case measure => simp [intOf]; omega
     | false =>
      have HE2 : Hid (ofPaths (ps.take (k + 1)) a b = ofPaths (ps.take k) a b ++ [(p, x, y)]) := Lib.hid (by rw [HE.out, if_neg (beq_eq_false_iff_ne.1 hq)])
      have HS6 := Lib.hid (sl_cg wr 124 (p, x, y))
      have HO6 := Lib.hid (HO2.out.alloc (.cells #[S p, S x, S y] 124))
      go_wp2_with (first
       | (at_lookup; refine wpList_look _ rfl _ _ 208 rfl mssC Tryz.underlying208 [] (Tryz.zeroS _) m1 n _ rfl ha1 p rfl Hgp.out ?_; rw [E1.out])
       | (at_lookup; refine wpList_look _ rfl _ _ 208 rfl mssC Tryz.underlying208 [] (Tryz.zeroS _) m2 m _ rfl hb1 p rfl Hgp.out ?_; rw [E2.out])
       | (at_builtin; refine wpList_append_sl _ rfl (.tmp 48) (.tmp 57) _ rfl w5 124 i0 _ 3 48 Tryz.underlying59 hi0 hz0 hz1 hz2 rfl (by decide) A2 t2 co2 _ rfl HO6.out _ 1 1 (cgs [(p, x, y)]) rfl HS6.out (one_cgs _) hx1.out hx2.out ?_; intro A5 c5 w5 hO5 hg5 hat5; have HO5 := Lib.hid hO5; clear hO5 hg5 hat5))
      go_roundw
      case rel => exact ⟨k + 1, t2 + 1, c5, A5, hlt, by go_num, rfl, by omega, Lib.hid (by rw [HE2.out, cgs_append]; exact HO5.out)⟩
      case measure => simp [intOf]; omega
    ·obtain rfl : k = t := by omega
     have hO9 := HO2.out
     rw [List.take_of_length_le (l := ps) (by rw [HL5.out]; exact Nat.le_refl _)] at hO9
     have HO9 := Lib.hid hO9
     clear hO9
     go_wp2
     go_ret
     exact ⟨A2, t2, co2, ps, rfl, by omega, HP.out, HO9.out.since (bstep B2.out B25.out)⟩
end Go.Proofs.YtphnfcgdpdimbaaGreatDoor
