/-
  work.Steps. Conditions: the disk lies in memory; current's and target's files can be read, no more than 400000, their paths no longer than 2147483648 bytes; MaxLen holds an int.
-/
import Derived.Test.YtphnfcgdpdimbaaGreatDoorKitN
import Derived.Test.YtphnfcgdpdimbaaGreatDoorStandsLaw
import Derived.Test.YtphnfcgdpdimbaaGreatDoorWorkList
import Derived.Test.YtphnfcgdpdimbaaGreatDoorPairDiff
import Derived.Laws.EntriesVeiled
namespace Go.Proofs.YtphnfcgdpdimbaaGreatDoor
open Go.RowKit Go.Shelf
open DiffLaw (fid ofPaths)

theorem Tryz.infoStp : (Tryz.prog.info? 44).map (fun i => (i.zero, i.size, i.bytes)) = some (some (.agg #[.string ⟨#[]⟩, .string ⟨#[]⟩]), 2, 32) := by kernel_rfl
set_option maxHeartbeats 4000000 in
set_option maxRecDepth 100000 in
theorem wsteps_any (w : World) (p m n : Nat) (cap : Int) (L : List DF) (A B : Option Addr) (j k c d : Nat) (a b : List Fil) (h : DiskAt w p m n cap L) (hl : L.length ≤ 1000000) (hM : MaxL w)
    (hA : Sl w 2 A j (fls a)) (hB : Sl w 2 B k (fls b)) (hj : j ≤ 400000) (hk : k ≤ 400000) (hpa : ∀ f ∈ a, f.1.length ≤ 2147483648) (hpb : ∀ f ∈ b, f.1.length ≤ 2147483648) :
    Calls Tryz.prog 27 #[.pointer (some ⟨p, 0, none⟩), .slice A j c, .slice B k d] w fun e w' => ∃ (A' : Option Addr) (q c' : Nat) (ns ps : List (List UInt8)), e = .returned (.slice A' q c') ∧ ns.Perm (L.map (·.1)) ∧ ns.Pairwise (· < ·) ∧ DiffLaw.Paths ps a b ∧ Ow w w' 44 2 A' q c' (fls (stepsOf ns (ofPaths ps a b) b)) := by
  obtain ⟨i0, hi0, hz0, hz1, hz2⟩ := info_parts Tryz.infoStp
  have HD := Lib.hid h
  have HM := Lib.hid hM
  have HA := Lib.hid hA
  have HB := Lib.hid hB
  have HPa := Lib.hid hpa
  have HPb := Lib.hid hpb
  obtain ⟨w1, hw1⟩ : ∃ w1, w1 = w.alloc (.cells #[.slice B k d] 80) := ⟨_, rfl⟩
  have b1 : Below w.heap.size w w1 := by rw [hw1]; exact balloc (Below.refl _ w) _
  have e5 : Blk w1 w.heap.size 80 #[.slice B k d] := by rw [hw1]; exact Blk.new w _ _
  obtain ⟨g5, hg5⟩ : ∃ g5, g5 = w.heap.size := ⟨_, rfl⟩
  rw [← hg5] at e5
  have B1 := Lib.hid b1
  have E5 := Lib.hid e5
  have r5 := e5.cell
  have CD := Lib.hid (pairDiff_any A B j k c d a b w1 (hA.below b1) (hB.below b1) hj hk (fun f hf => Nat.le_trans (hpa f hf) (by simp only [maxLen]; omega)) (fun f hf => Nat.le_trans (hpb f hf) (by simp only [maxLen]; omega)))
  clear h hM hA hB hpa hpb b1 e5
  go_enter Tryz.func27, Tryz.ntmps27
  go_wp2_with fail
  simp only [← hg5, ← hw1]
  refine CD.out.mono ?_
  rintro e w2 ⟨A2, t, c2, ps, rfl, ht, hps, hO2⟩
  have B2 := Lib.hid (bstep B1.out hO2.2)
  have HPs := Lib.hid hps
  have Ht := Lib.hid ht
  have HO2 := Lib.hid hO2
  obtain ⟨cs, hcs⟩ : ∃ cs, cs = ofPaths ps a b := ⟨_, rfl⟩
  have Hcs := Lib.hid hcs
  rw [← hcs] at HO2
  have CI := Lib.hid (inway_any A2 t c2 w2)
  clear CD hO2 hps ht hcs hw1 hg5 r5
  go_wp2_with fail
  refine CI.out.mono ?_
  rintro e w3 ⟨rfl, hw3⟩
  obtain ⟨g, hg⟩ : ∃ g, g = w2.heap.size := ⟨_, rfl⟩
  have hb3 : Below w2.heap.size w2 w3 := by rw [hw3]; exact balloc (Below.refl _ w2) _
  have hblk : Blk w3 g 59 #[.slice A2 t c2] := by rw [hw3, hg]; exact Blk.new w2 _ _
  have hs3 : w3.heap.size = g + 1 := by rw [hw3, hg]; simp
  rw [← hg]
  have Hb3 := Lib.hid hb3
  have Hblk := Lib.hid hblk
  have Hs3 := Lib.hid hs3
  clear hw3 hg hb3 hblk hs3
  go_wp2_with fail
  obtain ⟨w4, hw4⟩ : ∃ w4, w4 = w3.alloc (.cells #[.func (.func 141) #[] #[.pointer (some ⟨g, 0, none⟩)]] 159) := ⟨_, rfl⟩
  have hb4 : Below w3.heap.size w3 w4 := by rw [hw4]; exact balloc (Below.refl _ w3) _
  have e8 : Blk w4 (g + 1) 159 #[.func (.func 141) #[] #[.pointer (some ⟨g, 0, none⟩)]] := by rw [hw4, ← Hs3.out]; exact Blk.new w3 _ _
  have B4 := Lib.hid (bstep (bstep B2.out Hb3.out) hb4)
  have B14 := Lib.hid (bstep (bstep HO2.out.2 Hb3.out) hb4)
  have B24 := Lib.hid (bstep Hb3.out hb4)
  have E8 := Lib.hid e8
  have Eg := Lib.hid (Hblk.out.step hb4)
  have CL := Lib.hid (wlist_any w4 p m n cap L (HD.out.step B4.out) hl (HM.out.step B4.out))
  rw [← hw4]
  clear hw4 hb4 e8
  refine CL.out.mono ?_
  rintro e w5 ⟨A5, k5, c5, ns, rfl, hpm, hri, hO5⟩
  have B5 := Lib.hid (bstep B4.out hO5.2)
  have HO5 := Lib.hid hO5
  have Hpm := Lib.hid hpm
  have Hri := Lib.hid hri
  have HNL := Lib.hid (show ∀ s ∈ L.map (·.1), s.length ≤ 200 from fun s hs => by
    obtain ⟨x, hx, rfl⟩ := List.mem_map.1 hs
    exact (okName_len (HD.out.name x hx)).2)
  have E8' := Lib.hid (E8.out.step hO5.2)
  have Eg' := Lib.hid (Eg.out.step hO5.2)
  have E5' := Lib.hid (E5.out.step (bstep B14.out hO5.2))
  have HS5 := Lib.hid ((HO2.out.keep (bstep B24.out hO5.2)).sl)
  have HB5 := Lib.hid (HB.out.below B5.out)
  clear hO5 hpm hri CL
  have HCl : Hid (∀ x ∈ cs, x.1.length ≤ 2147483648) := Lib.hid (fun x hx => by
    rw [Hcs.out] at hx
    obtain ⟨h1, _⟩ := DiffLaw.of_mem hx
    rcases (HPs.out.2 x.1).1 h1 with h2 | h2
    · obtain ⟨f, hf, e⟩ := List.mem_map.1 h2
      rw [← e]; exact HPa.out f hf
    · obtain ⟨f, hf, e⟩ := List.mem_map.1 h2
      rw [← e]; exact HPb.out f hf)
  have HPl : Hid (∀ x ∈ listOf ns, x.length ≤ 2147483648) := Lib.hid (fun x hx => by
    obtain ⟨s, hs, e⟩ := List.mem_filterMap.1 hx
    have h1 := HNL.out s (Hpm.out.mem_iff.1 hs)
    unfold pathOf at e
    split at e
    · have e2 := Option.some.inj e
      have := trim_len s [119, 47]
      rw [← e2]; omega
    · cases e)
  have hk5 : Hid (k5 ≤ 1000000) := Lib.hid (by
    have h1 : (listOf ns).length = k5 := strs_count HO5.out.sl
    have h2 : (listOf ns).length ≤ ns.length := List.length_filterMap_le _ _
    have h3 := Hpm.out.length_eq
    rw [List.length_map] at h3
    omega)
  have CC := Lib.hid (chosenS_any 72 #[.pointer (some ⟨g + 1, 0, none⟩), .pointer (some ⟨g5, 0, none⟩)] (enters_of Tryz.func72 (by kernel_rfl) rfl) (goneP cs b) A5 k5 c5 (listOf ns) w5 HO5.out.sl (by have := hk5.out; omega)
    (fun x hx W hb => steps1_any A2 t c2 cs B k d b x (g + 1) g5 g W ((E8'.out.step hb).cell 0) ((E5'.out.step hb).cell 0) ((Eg'.out.step hb).cell 0) (HS5.out.below hb) (by have := Ht.out; omega) (HB5.out.below hb) (by omega) (HPl.out x hx) HCl.out))
  go_wp2_with fail
  rw [Hs3.out]
  refine CC.out.mono ?_
  rintro e w6 ⟨A6, k6, c6, rfl, hk6, hO6⟩
  have B6 := Lib.hid (bstep B5.out hO6.2)
  have HO6 := Lib.hid hO6
  have HS6 := Lib.hid (HS5.out.below hO6.2)
  obtain ⟨rs, hrs⟩ : ∃ rs, rs = (listOf ns).filter (goneP cs b) := ⟨_, rfl⟩
  have Hrs := Lib.hid hrs
  rw [← hrs] at HO6 hk6
  have Hlr := Lib.hid hk6.symm
  have Hk6 := Lib.hid (show k6 ≤ 1000000 by
    have h1 := List.length_filter_le (goneP cs b) (listOf ns)
    have h2 : (listOf ns).length = k5 := strs_count HO5.out.sl
    have := hk5.out
    rw [← hrs] at h1
    omega)
  clear hk6 hO6 CC hrs E5' E8' Eg' HCl HPl hk5 HNL HB5 HO5 HS5 B5 B4 B14 B24 E8 Eg Hb3 Hblk Hs3 B2 HO2 B1 E5
  have hk6 := Hk6.out
  go_wp2
  go_loopw [9, 24] (fun s9 s24 wr => ∃ (q n1 c1 : Nat) (A1 : Option Addr), q ≤ k6 ∧ s24 = .int .i64 q ∧ s9 = .slice A1 n1 c1 ∧ Hid (n1 = q) ∧ Hid (Ow w6 wr 44 2 A1 n1 c1 (fls ((rs.take q).map (fun p => (p, []))))) ) (fun _ s24 _ => k6 - (intOf s24).toNat)
  case atStart => exact ⟨0, 0, 0, none, Nat.zero_le _, rfl, rfl, Lib.hid rfl, Lib.hid (by simp only [List.take_zero, List.map_nil]; exact Ow.nil_ (Below.refl _ _))⟩
  case round =>
    obtain ⟨q, n1, c1, A1, hq, rfl, rfl, H1, HO⟩ := hrel
    by_cases hlt : q < k6
    · obtain ⟨bb, off, x, rfl, hx, x0⟩ := (HO6.out.sl.below HO.out.2).str hlt
      have HE1 : Hid ((rs.take (q + 1)).map (fun p => ((p, []) : Fil)) = (rs.take q).map (fun p => (p, [])) ++ [(x, [])]) := Lib.hid (by rw [List.take_add_one, hx, List.map_append]; rfl)
      have HS7 := Lib.hid (sl_fil wr 44 (x, []))
      have HO2 := Lib.hid (HO.out.alloc (.cells #[S x, S []] 44))
      have q1 := Lib.hid (show n1 + 1 ≤ maxLen by have := H1.out; simp only [maxLen]; omega)
      have q2 := Lib.hid (show (n1 + 1) * 32 ≤ 140737488355328 by have := H1.out; omega)
      clear hx
      go_wp2_with (at_builtin; refine wpList_append_sl _ rfl (.tmp 28) (.tmp 31) _ rfl w6 44 i0 _ 2 32 Tryz.underlying41 hi0 hz0 hz1 hz2 rfl (by decide) A1 n1 c1 _ rfl HO2.out _ 1 1 (fls [(x, [])]) rfl HS7.out (one_fls _) q1.out q2.out ?_; intro A5 c5 w5 hO5 hg5 hat5; have HO5 := Lib.hid hO5; clear hO5 hg5 hat5)
      go_roundw
      case rel => exact ⟨q + 1, n1 + 1, c5, A5, hlt, by go_num, rfl, Lib.hid (by rw [H1.out]), Lib.hid (by rw [HE1.out, fls_append]; exact HO5.out)⟩
      case measure => simp [intOf]; omega
    · obtain rfl : q = k6 := by omega
      rw [List.take_of_length_le (by rw [Hlr.out]; exact Nat.le_refl _)] at HO
      have HS8 := Lib.hid (HS6.out.below HO.out.2)
      have HO1 := HO
      have CK := Lib.hid (chosenC_any 74 #[] (enters_of Tryz.func74 (by kernel_rfl) rfl) newB A2 t c2 cs wr HS8.out (by have := Ht.out; omega) (fun x hx W hb => steps2_any x W))
      clear HO HS6 HO6 hk6
      go_wp2_with fail
      refine CK.out.mono ?_
      rintro e w7 ⟨A7, k7, c7, rfl, hk7, hO7⟩
      obtain ⟨ds, hds⟩ : ∃ ds, ds = cs.filter newB := ⟨_, rfl⟩
      have Hds := Lib.hid hds
      rw [← hds] at hO7 hk7
      have HO7 := Lib.hid hO7
      have Hld := Lib.hid hk7.symm
      have Ht7 : k7 ≤ 1000000 := by
        have h1 := List.length_filter_le newB cs
        have h2 : cs.length = t := cgs_count HS8.out
        have := Ht.out
        rw [← hds] at h1
        omega
      have HO8 := Lib.hid (HO1.out.keep hO7.2)
      obtain ⟨us, hus⟩ : ∃ us, us = rs.map (fun p => ((p, []) : Fil)) := ⟨_, rfl⟩
      have Hus := Lib.hid hus
      rw [← hus] at HO8
      have HN1 := H1
      clear hk7 hO7 hds CK HS8 HO1 hus H1
      go_wp2
      go_loopw [9, 37] (fun s9 s37 wr => ∃ (j n9 c9 : Nat) (A9 : Option Addr), j ≤ k7 ∧ s37 = .int .i64 j ∧ s9 = .slice A9 n9 c9 ∧ Hid (n9 = n1 + j) ∧ Hid (KeepT 124 w7 wr) ∧ Hid (Ow w6 wr 44 2 A9 n9 c9 (fls (us ++ (ds.take j).map (fun c => (c.1, c.2.2)))))) (fun _ s37 _ => k7 - (intOf s37).toNat)
      case atStart => exact ⟨0, n1, c1, A1, Nat.zero_le _, rfl, rfl, Lib.hid rfl, Lib.hid (KeepT.refl _ _), Lib.hid (by simp only [List.take_zero, List.map_nil, List.append_nil]; exact HO8.out)⟩
      case round =>
        obtain ⟨j, n9, c9, A9, hj, rfl, rfl, H9, HB9, HO9⟩ := hrel
        by_cases hlt : j < k7
        · obtain ⟨bb, off, x, rfl, _, hx, x0, x1, x2⟩ := (HO7.out.slT.keep HB9.out).sl.cg hlt
          have HE1 : Hid ((ds.take (j + 1)).map (fun c => ((c.1, c.2.2) : Fil)) = (ds.take j).map (fun c => (c.1, c.2.2)) ++ [(x.1, x.2.2)]) := Lib.hid (by rw [List.take_add_one, hx, List.map_append]; rfl)
          have hB := (Blk.new wr 124 #[S x.1, S x.2.1, S x.2.2]).cell
          have hs9 := (sl_fil (wr.alloc (.cells #[S x.1, S x.2.1, S x.2.2] 124)) 44 (x.1, x.2.2))
          rw [World.size_alloc] at hs9
          have HS9 := Lib.hid hs9
          clear hs9
          have HO2 := Lib.hid (((HO9.out.alloc (.cells #[S x.1, S x.2.1, S x.2.2] 124)).alloc (.cells #[S x.1, S x.2.2] 44)))
          have HB8 := Lib.hid (HB9.out.step (balloc (balloc (Below.refl _ wr) (.cells #[S x.1, S x.2.1, S x.2.2] 124)) (.cells #[S x.1, S x.2.2] 44)))
          have hn1 : n1 ≤ 1000000 := by have := HN1.out; have := Hk6.out; omega
          have q1 := Lib.hid (show n9 + 1 ≤ maxLen by have := H9.out; simp only [maxLen]; omega)
          have q2 := Lib.hid (show (n9 + 1) * 32 ≤ 140737488355328 by have := H9.out; omega)
          have Hx := Lib.hid hx
          clear hx
          go_wp2_with (at_builtin; refine wpList_append_sl _ rfl (.tmp 41) (.tmp 47) _ rfl w6 44 i0 _ 2 32 Tryz.underlying41 hi0 hz0 hz1 hz2 rfl (by decide) A9 n9 c9 _ rfl HO2.out _ 1 1 (fls [(x.1, x.2.2)]) rfl HS9.out (one_fls _) q1.out q2.out ?_; intro A5 c5 w5 hO5 hg5 hat5; have HO5 := Lib.hid hO5; have Hg5 := Lib.hid hg5; clear hO5 hg5 hat5)
          go_roundw
          case rel => exact ⟨j + 1, n9 + 1, c5, A5, hlt, by go_num, rfl, Lib.hid (by rw [H9.out]; omega), Lib.hid (HB8.out.grown Hg5.out (own_type HO2.out.1 (by decide))), Lib.hid (by rw [HE1.out, ← List.append_assoc, fls_append]; exact HO5.out)⟩
          case measure => simp [intOf]; omega
        · obtain rfl : j = k7 := by omega
          rw [List.take_of_length_le (by rw [Hld.out]; exact Nat.le_refl _)] at HO9
          go_wp2
          go_ret
          refine ⟨A9, n9, c9, ns, ps, rfl, Hpm.out, Hri.out, HPs.out, ?_⟩
          have h6 := HO9.out
          rw [Hus.out, Hrs.out, Hds.out] at h6
          rw [← Hcs.out]
          exact h6.since B6.out
end Go.Proofs.YtphnfcgdpdimbaaGreatDoor
