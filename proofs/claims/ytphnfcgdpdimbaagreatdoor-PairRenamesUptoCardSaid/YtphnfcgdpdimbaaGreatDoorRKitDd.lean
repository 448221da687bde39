/-
  Texts merged: RpObj, RpDec. What each law says and asks stands at its head.
-/
import Derived.Test.YtphnfcgdpdimbaaGreatDoorRKitOb
import Derived.Test.YtphnfcgdpdimbaaGreatDoorRKitG
import Derived.Test.YtphnfcgdpdimbaaGreatDoorRKitE
import Derived.Test.YtphnfcgdpdimbaaGreatDoorRKitDe
import Derived.Test.YtphnfcgdpdimbaaGreatDoorRKitTk
import Derived.Deep.RegionLaw
namespace Go.Proofs.YtphnfcgdpdimbaaGreatDoor
open Go.RowKit
set_option maxRecDepth 100000 in
set_option maxHeartbeats 1000000 in
theorem rpbare_blob (A : Option Addr) (n c : Nat) (w : World) :
  Calls Tryz.prog 264 #[.agg (blobA A n c), .bool false, .bool true, .bool true, .bool true, .bool true] w fun e w' => e = .returned (.bool true) ∧ Below w.heap.size w w' := by
 go_enter Tryz.func264, Tryz.ntmps264
 go_wp2
 go_ret
 exact ⟨rfl, balloc (Below.refl _ w) _⟩
set_option maxRecDepth 100000 in
set_option maxHeartbeats 1000000 in
theorem rpcheck_blob (A : Option Addr) (n c : Nat) (w : World) :
  Calls Tryz.prog 210 #[.agg (blobA A n c)] w fun e w' => e = .returned (I (if n ≤ 1048576 then 0 else 1)) ∧ Below w.heap.size w w' := by
 have CB := Lib.hid (fun W => rpbare_blob A n c W)
 by_cases hok : n ≤ 1048576
 ·rw [if_pos hok]
  have d1 : decide ((n : Int) ≤ 1048576) = true := decide_eq_true (by omega)
  go_enter Tryz.func210, Tryz.ntmps210
  go_wp2_with fail
  refine (CB.out _).mono ?_
  rintro e w2 ⟨rfl, b2⟩
  have B2 := Lib.hid (bstep (balloc (Below.refl _ w) (.cells (blobA A n c) 110)) b2)
  clear b2 CB
  go_wp2
  go_ret
  exact ⟨rfl, B2.out⟩
 ·rw [if_neg hok]
  have d1 : decide ((n : Int) ≤ 1048576) = false := decide_eq_false (by omega)
  go_enter Tryz.func210, Tryz.ntmps210
  go_wp2
  go_ret
  exact ⟨rfl, balloc (Below.refl _ w) _⟩
set_option maxRecDepth 100000 in
set_option maxHeartbeats 4000000 in
theorem rpenc_ok (A : Option Addr) (n c : Nat) (l : List UInt8) (w : World) (hA : Sl w 1 A n (u8s l)) (hok : n ≤ 1048576) :
  Calls Tryz.prog 130 #[.agg (blobA A n c)] w fun e w' => ∃ A' c', e = .returned (.tuple #[.slice A' (1 + n) c', I 0]) ∧ Ow w w' 5 1 A' (1 + n) c' (u8s ([1] ++ l)) := by
 obtain ⟨i0, hi0, hz0, hz1, hz2⟩ := info_parts Tryz.infoU8
 obtain ⟨g, hg⟩ : ∃ g, g = w.heap.size := ⟨_, rfl⟩
 obtain ⟨w1, hw1⟩ : ∃ w1, w1 = w.alloc (.cells (blobA A n c) 110) := ⟨_, rfl⟩
 have b1 : Below w.heap.size w w1 := by rw [hw1]; exact balloc (Below.refl _ w) _
 have e1 : Blk w1 g 110 (blobA A n c) := by rw [hw1, hg]; exact Blk.new w _ _
 have C1 := Lib.hid (rpcheck_blob A n c w1)
 rw [if_pos hok] at C1
 have B1 := Lib.hid b1
 have E1 := Lib.hid e1
 have HA0 := Lib.hid hA
 have r1 := e1.cell
 clear hA b1 e1
 go_enter Tryz.func130, Tryz.ntmps130
 go_wp2_with fail
 simp only [← hg, ← hw1]
 refine C1.out.mono ?_
 rintro e W ⟨rfl, b2⟩
 have B2 := Lib.hid (bstep B1.out b2)
 have rg0 := (E1.out.step b2).cell
 have rg := ((E1.out.step b2).alloc (.cells #[.int .u8 1] 5)).cell
 have HO : Hid (Ow W (W.alloc (.cells #[.int .u8 1] 5)) 5 1 (some ⟨W.heap.size, 0, none⟩) 1 1 (u8s [1])) := Lib.hid (own_one W 5 (.int .u8 1))
 have HA := Lib.hid ((HA0.out.below B2.out).alloc (.cells #[.int .u8 1] 5))
 have q1 : 1 + n ≤ maxLen := by simp only [maxLen]; omega
 have q2 : (1 + n) * 1 ≤ 140737488355328 := by omega
 clear b2 r1 hw1 hg C1
 go_wp2_with (at_builtin; refine wpList_append_sl _ rfl (.tmp 37) (.tmp 39) _ rfl W 5 i0 _ 1 1 Tryz.underlying27 hi0 hz0 hz1 hz2 rfl Nat.one_pos _ _ _ _ rfl HO.out A n c (u8s l) rfl HA.out (one_u8s l) q1 q2 ?_; intro A4 c4 w4 hO4 hg4 hat4; have HO4 := Lib.hid hO4; clear hO4 hg4 hat4)
 go_ret2
 exact ⟨A4, c4, rfl, by have h9 := HO4.out.since B2.out; simpa [u8s] using h9⟩
set_option maxRecDepth 100000 in
set_option maxHeartbeats 1000000 in
theorem rpenc_no (A : Option Addr) (n c : Nat) (w : World) (hok : ¬ n ≤ 1048576) :
  Calls Tryz.prog 130 #[.agg (blobA A n c)] w fun e w' => e = .returned (.tuple #[.slice none 0 0, I 1]) ∧ Below w.heap.size w w' := by
 have C1 := Lib.hid (rpcheck_blob A n c (w.alloc (.cells (blobA A n c) 110)))
 rw [if_neg hok] at C1
 clear hok
 go_enter Tryz.func130, Tryz.ntmps130
 go_wp2_with fail
 refine C1.out.mono ?_
 rintro e w2 ⟨rfl, b2⟩
 have B2 := Lib.hid (bstep (balloc (Below.refl _ w) (.cells (blobA A n c) 110)) b2)
 clear b2 C1
 go_wp2
 go_ret2
 exact ⟨rfl, B2.out⟩
theorem Tryz.infoRdr6 : (Tryz.prog.info? 356).map (fun i => (i.zero, i.size, i.bytes)) = some (some (.agg #[.slice none 0 0, .bool false]), 2, 32) := by kernel_rfl
set_option maxHeartbeats 8000000 in
set_option maxRecDepth 100000 in
theorem rdec_blob (A : Option Addr) (n c : Nat) (data : List UInt8) (w : World) (hA : Sl w 1 A n (u8s (1 :: data))) (hc : n ≤ c) (hd : data.length ≤ 1048576) :
  Calls Tryz.prog 202 #[.slice A n c] w fun e w' => (∃ (A' : Option Addr) (c' : Nat), e = .returned (.tuple #[.agg (blobA A' data.length c'), I 0]) ∧ data.length ≤ c' ∧ SlT (fun _ => True) 5 w' 1 A' data.length (u8s data)) ∧ Below w.heap.size w w' := by
 obtain ⟨i0, hi0, hz0, hz1, hz2⟩ := info_parts Tryz.infoRdr6
 obtain ⟨j0, hj0, hy0, hy1, hy2⟩ := info_parts Tryz.infoU8
 have hn : data.length + 1 = n := by have := u8s_len hA; simpa using this
 have HA := Lib.hid hA
 obtain ⟨bA, oA, hAe, hbA, _⟩ := hA.2 (by omega)
 subst hAe
 obtain ⟨g1, hg1⟩ : ∃ g1, g1 = w.heap.size := ⟨_, rfl⟩
 obtain ⟨r, hr⟩ : ∃ r, r = g1 + 1 := ⟨_, rfl⟩
 obtain ⟨o, ho⟩ : ∃ o, o = g1 + 1 + 1 := ⟨_, rfl⟩
 obtain ⟨w1, hw1⟩ : ∃ w1, w1 = w.alloc (.cells noObj 110) := ⟨_, rfl⟩
 obtain ⟨w2, hw2⟩ : ∃ w2, w2 = w1.alloc (.cells #[.slice (cutA (some ⟨bA, oA, none⟩) c 1 1) (n - 1) (c - 1), .bool false] 356) := ⟨_, rfl⟩
 obtain ⟨w3, hw3⟩ : ∃ w3, w3 = w2.alloc (.cells (blobA none 0 0) 110) := ⟨_, rfl⟩
 have b1 : Below w.heap.size w w1 := by rw [hw1]; exact balloc (Below.refl _ w) _
 have b2 : Below w.heap.size w w2 := by rw [hw2]; exact balloc b1 _
 have b3 : Below w.heap.size w w3 := by rw [hw3]; exact balloc b2 _
 have hs1 : w1.heap.size = g1 + 1 := by rw [hw1, hg1]; simp
 have hs2 : w2.heap.size = g1 + 1 + 1 := by rw [hw2]; simp [hs1]
 have HG1 : Hid (Blk w3 g1 110 noObj) := Lib.hid (by rw [hw3, hw2]; exact ((show Blk w1 g1 _ _ by rw [hw1, hg1]; exact Blk.new w _ _).step (balloc (Below.refl _ _) _)).step (balloc (Below.refl _ _) _))
 have HR : Hid (Blk w3 r 356 #[.slice (cutA (some ⟨bA, oA, none⟩) c 1 1) (n - 1) (c - 1), .bool false]) := Lib.hid (by rw [hw3]; exact (show Blk w2 r _ _ by rw [hw2, hr, ← hs1]; exact Blk.new w1 _ _).step (balloc (Below.refl _ _) _))
 have HO : Hid (Blk w3 o 110 (blobA none 0 0)) := Lib.hid (by rw [hw3, ho, ← hs2]; exact Blk.new w2 _ _)
 have HT : Hid (Sl w3 1 (cutA (some ⟨bA, oA, none⟩) c 1 1) (n - 1) (u8s data)) := Lib.hid ((HA.out.below b3).tail_ (f := U8) (l := 1 :: data) (k := 1) (by omega) hc)
 have kd : ∀ V : World, (Instr.slice 27 (.slice (some ⟨bA, oA, none⟩) n c) (some (.int .i64 1)) none none).run Tryz.prog V = .ok (.slice (cutA (some ⟨bA, oA, none⟩) c 1 1) (n - 1) (c - 1)) V := fun V => run_cut_l (P := Tryz.prog) V Tryz.underlying27 Tryz.sizeU8 _ n c .i64 1 (by omega)
 have B3 := Lib.hid b3
 have hz : ((n : Int) == 0) = false := beq_eq_false_iff_ne.2 (by omega)
 have hlt0 : (0 : Int) < (n : Int) := by omega
 have y0 : ∀ V : World, Below w.heap.size w V → V.cell? ⟨bA, oA, none⟩ = some (U8 1) := fun V hV => by
  obtain ⟨b', o', x, e1, e2, e3⟩ := (HA.out.below hV).byte (k := 0) (by omega)
  cases e1
  rw [Nat.add_zero] at e3
  simp at e2
  rw [e3, ← e2]
 have y2 : ((w.alloc (.cells noObj 110)).alloc (.cells #[.slice (cutA (some ⟨bA, oA, none⟩) c 1 1) (n - 1) (c - 1), .bool false] 356)).cell? ⟨bA, oA, none⟩ = some (U8 1) := y0 _ (balloc (balloc (Below.refl _ w) _) _)
 have Hg1 := Lib.hid hg1
 have Hw1 := Lib.hid hw1
 have Hw2 := Lib.hid hw2
 have Hw3 := Lib.hid hw3
 have Hr := Lib.hid hr
 have Ho := Lib.hid ho
 clear hA b1 b2 b3 hg1 hw1 hr ho hw2 hw3 hs1 hs2 y0
 go_enter Tryz.func202, Tryz.ntmps202
 go_upto_region 5 with fail
 simp only [← Hg1.out]
 simp only [← Ho.out]
 simp only [← Hr.out]
 rw [← Hw1.out, ← Hw2.out, ← Hw3.out]
 have rO := HO.out.cell
 have rR := HR.out.cell
 have Hog : Hid (o < w3.heap.size ∧ r < w3.heap.size ∧ g1 < w3.heap.size ∧ o ≠ r ∧ o ≠ g1) := Lib.hid ⟨HO.out.lt, HR.out.lt, HG1.out.lt, by rw [Ho.out, Hr.out]; omega, by rw [Ho.out]; omega⟩
 obtain ⟨k, hk⟩ : ∃ k, k = n - 1 := ⟨_, rfl⟩
 have HK : Hid (k = n - 1 ∧ k = data.length) := Lib.hid ⟨hk, by omega⟩
 simp only [← hk] at HT HR rR HK ⊢
 have m1 : 0 + k ≤ maxLen := by simp only [maxLen]; omega
 have m2 : (0 + k) * 1 ≤ 140737488355328 := by omega
 clear hk kd y2 hz
 go_upto_region 7 with fail
 have HOd := Lib.hid HO.out.drew
 go_region_law ((refine step_append_sl _ (by rfl) (.tmp 31) (.tmp 35) _ (by rfl) w 5 j0 _ 1 1 Tryz.underlying27 hj0 hy0 hy1 hy2 rfl Nat.one_pos none 0 0 [] (by rfl) (Ow.nil_ B3.out.drew) _ k _ (u8s data) (by rfl) HT.out.drew (one_u8s data) m1 m2 ?_; intro A4 c4 w5 hO4 hg4 hat4; have hF5 : Fr (fun _ => False) w3.drew w5 := Fr.of_grown hg4 (fun _ h => by simp [Value.ownBlock] at h); have rO5 := (hF5.blk HOd.out (fun h => h)).cell; have f5 := (hF5.blk HOd.out (fun h => h)).frozen))
 all_goals
  have hO5 : Ow w w5 5 1 A4 k c4 (u8s data) := by simpa using hO4
  have HC5 := Lib.hid hO5.cap.1
  have hB5 : Blk w5 o 110 (blobA none 0 0) := hF5.blk HOd.out (fun h => h)
  obtain ⟨w6, hw6⟩ : ∃ w6, w6 = w5.setCell ⟨o, 1, none⟩ (.slice A4 k c4) := ⟨_, rfl⟩
  have fS : Fr (fun q => q = o) w5 w6 := by rw [hw6]; exact Fr.setCell (E := fun q => q = o) (Fr.refl _ w5) (p := ⟨o, 1, none⟩) (show o = o from rfl) _
  have HO6 : Hid (Blk w6 o 110 (blobA A4 k c4)) := Lib.hid (by
   have h := hB5.set_ 1 (.slice A4 k c4)
   rw [hw6]
   simpa [blobA] using h)
  have HS6 : Hid (SlT (fun _ => True) 5 w6 1 A4 k (u8s data)) := Lib.hid ((hO5.slT.weak (fun _ _ _ => trivial)).keep (KeepT.of_fr fS (fun q cs fr e => by subst e; exact Blk.type hB5 (by decide) cs fr)))
  have hog := Hog.out
  have HG6 : Hid (Blk w6 g1 110 noObj) := Lib.hid (fS.blk (hF5.blk HG1.out.drew (fun h => h)) (fun e => hog.2.2.2.2 e.symm))
  have HR6 : Hid (Blk w6 r 356 #[.slice (cutA (some ⟨bA, oA, none⟩) c 1 1) k (c - 1), .bool false]) := Lib.hid (fS.blk (hF5.blk HR.out.drew (fun h => h)) (fun e => hog.2.2.2.1 e.symm))
  have B6 : Hid (Below w.heap.size w w6) := Lib.hid (hO5.2.trans (fS.below hO5.2.size (fun q e => by rw [e, Ho.out, Hg1.out]; omega)))
  have CE := Lib.hid (rpenc_ok A4 k c4 data w6 HS6.out.sl (by have := HK.out; omega))
  have rO6 := HO6.out.cell
  rw [← hw6]
  clear rO5 f5 hO4 hg4 hat4 hF5 hO5 hB5 fS hw6 hog rO rR
  go_wp2_with fail
  refine CE.out.mono ?_
  rintro e w7 ⟨A7, c7, rfl, hO7⟩
  have HO7 := Lib.hid (HO6.out.step hO7.2)
  have HG7 := Lib.hid (HG6.out.step hO7.2)
  have HR7 := Lib.hid (HR6.out.step hO7.2)
  have HS7 := Lib.hid (HS6.out.step hO7.2)
  have B7 := Lib.hid (bstep B6.out hO7.2)
  have CQ := Lib.hid (sameB_any A7 (some ⟨bA, oA, none⟩) (1 + k) n c7 c ([1] ++ data) (1 :: data) w7 hO7.sl (HA.out.below B7.out))
  rw [show decide ([1] ++ data = 1 :: data) = true from decide_eq_true rfl] at CQ
  have rR7 := HR7.out.cell
  clear hO7 CE rO6
  go_wp2_with fail
  refine CQ.out.mono ?_
  rintro e w8 ⟨rfl, rfl⟩
  have rO7 := HO7.out.cell
  have rG7 := HG7.out.cell
  have fG7 := HG7.out.frozen
  clear rR7 CQ
  go_wp2
  generalize hW9 : ((((((((((w7.setCell ⟨g1, 0, none⟩ (Value.int .i64 1)).setCell ⟨g1, 1, none⟩ (Value.slice A4 k c4)).setCell ⟨g1, 2, none⟩ (Value.slice none 0 0)).setCell ⟨g1, 3, none⟩ (Value.string ⟨#[]⟩)).setCell ⟨g1, 4, none⟩ (Value.slice none 0 0)).setCell ⟨g1, 5, none⟩ (Value.string ⟨#[]⟩)).setCell ⟨g1, 6, none⟩ (Value.string ⟨#[]⟩)).setCell ⟨g1, 7, none⟩ (Value.string ⟨#[]⟩)).setCell ⟨g1, 8, none⟩ (Value.int .i64 0)).setCell ⟨g1, 9, none⟩ (Value.string ⟨#[]⟩)) = W9
  have H9 := Lib.hid (obj_set HG7.out _ _ _ _ _ _ _ _ _ _ hW9)
  have HS9 := Lib.hid (HS7.out.keep (KeepT.of_fr H9.out.2 (fun q cs fr e => by subst e; exact Blk.type HG7.out (by decide) cs fr)))
  clear hW9 rG7 fG7 rO7
  refine bodyPost_ret (res_obj (fn := Tryz.f202) (p := 2) (u := 3) rfl _ W9 g1 (blobA A4 k c4) rfl H9.out.1 rfl) rfl ?_
  refine ⟨⟨A4, c4, by rw [← HK.out.2]; rfl, by rw [← HK.out.2]; exact HC5.out, ?_⟩, ?_⟩
  ·have h1 := HS9.out
   rwa [← HK.out.2]
  ·exact B7.out.trans (H9.out.2.below B7.out.size (fun q e => by rw [e, Hg1.out]; exact Nat.le_refl _))
end Go.Proofs.YtphnfcgdpdimbaaGreatDoor
