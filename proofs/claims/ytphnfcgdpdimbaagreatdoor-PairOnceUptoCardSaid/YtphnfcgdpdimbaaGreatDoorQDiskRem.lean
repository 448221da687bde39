/-
  disk.Remove. Condition: the disk lies in memory, is on, has no cut ahead; the file is there.
-/
import Derived.Test.YtphnfcgdpdimbaaGreatDoorQKitE
import Derived.StillTailTactics
namespace Go.Proofs.YtphnfcgdpdimbaaGreatDoor
open Go.RowKit Go.Shelf
theorem DiskAt.rem {w W w' : World} {p m n : Nat} {cap : Int} {L : List DF} (h : DiskAt w p m n cap L) (hf : Fr (fun k => k = p) w W) {free ops' : Int} (hB : Blk W p 151 (dskC m cap free ops')) {s : List UInt8}
  (hf2 : Fr (fun k => k = m) W w') (hM : MapL diskC w' m n (strike (keyF L) s)) (hfree : free = cap - costs (dropF L s)) :
  DiskAt w' p m n cap (dropF L s) ∧ Fr (fun k => k = p ∨ k = m) w w' := by
 obtain ⟨ops, hB0⟩ := h.blk
 have hmp := h.map_ne
 have hB2 := hf2.blk hB (fun e => hmp e.symm)
 have hmW := h.map.block (hf.block m h.map.lt hmp)
 have k1 : KeepT 5 w W := KeepT.of_fr hf (fun k cs fr e => by subst e; exact Blk.type hB0 (by decide) cs fr)
 have k2 : KeepT 5 W w' := KeepT.of_fr hf2 (fun k cs fr e => by subst e; exact hmW.is.no_cells cs fr)
 have hmem : ∀ y ∈ dropF L s, y ∈ L := fun y hy => (List.mem_filter.1 hy).1
 exact ⟨⟨⟨ops', by rw [hfree] at hB2; exact hB2⟩, by rw [keyF_drop]; exact hM, fun y hy => (h.row y (hmem y hy)).keep (k1.trans k2), fun y hy => h.name y (hmem y hy), fun y hy => h.small y (hmem y hy)⟩,
  (hf.weak (fun k e => .inl e)).trans (hf2.weak (fun k e => .inr e))⟩
set_option maxHeartbeats 4000000 in
set_option maxRecDepth 100000 in
theorem rem1_any (W : World) (p m n g0 g1 : Nat) (s : List UInt8) (l : List (List UInt8 × Hd)) (cap free ops : Int)
  (h0 : Blk W g0 29 #[.pointer (some ⟨p, 0, none⟩)]) (h1 : Blk W g1 9 #[S s])
  (hp : Blk W p 151 #[I cap, .map (some m), I free, I ops, I (-1), .bool false]) (hM : MapL diskC W m n l) (hs : s.length ≤ maxLen) :
  Calls Tryz.prog 165 #[.pointer (some ⟨g0, 0, none⟩), .pointer (some ⟨g1, 0, none⟩)] W fun e w' => e = .returned (.tuple #[]) ∧ MapL diskC w' m n (strike l s) ∧ Fr (fun k => k = m) W w' := by
 have HM := Lib.hid hM
 have HBp := Lib.hid hp
 have r0 := h0.cell
 have r1 := h1.cell
 have rp := hp.cell
 obtain ⟨W1, hdel, hM1, hg1⟩ := (show MapL diskC W.drew m n l from HM.out.drewN 1).run_drop Tryz.underlying144 (x := s) hs 0
 have F1 := Lib.hid (((Fr.refl (fun k => k = m) W).drew).trans (.of_grown hg1 (fun k e => (Option.some.inj e).symm)))
 have HM1 := Lib.hid hM1
 have hdel2 : (Builtin.delete_ #[144, 9] 0 #[Value.map (some m), S s]).run Tryz.prog W.drew = .ok (.tuple #[]) W1 := hdel
 clear h0 h1 hp hM hdel hM1 hg1
 go_enter Tryz.func165, Tryz.ntmps165
 go_wp2
 go_region
 exact ⟨rfl, .tuple #[], results_none rfl _ _ _, rfl, HM1.out, F1.out⟩
set_option maxHeartbeats 4000000 in
set_option maxRecDepth 100000 in
theorem dremove_any (w : World) (p m n : Nat) (cap : Int) (L : List DF) (s : List UInt8) (h : DiskAt w p m n cap L) (hs : okName s = true) (hg : (getF L s).isSome = true) (hcap : cap ≤ 4000000000000) (hc : (costs L : Int) ≤ cap) :
  Calls Tryz.prog 96 #[.pointer (some ⟨p, 0, none⟩), S s] w fun e w' => e = .returned (I 0) ∧ DiskAt w' p m n cap (dropF L s) ∧ Fr (fun k => k = p ∨ k = m) w w' := by
 have HD := Lib.hid h
 obtain ⟨w3, hw3⟩ : ∃ w3, w3 = (w.alloc (.cells #[.pointer (some ⟨p, 0, none⟩)] 29)).alloc (.cells #[S s] 9) := ⟨_, rfl⟩
 obtain ⟨g3, hg3⟩ : ∃ g3, g3 = w.heap.size := ⟨_, rfl⟩
 have b3 : Below w.heap.size w w3 := by rw [hw3]; exact balloc (balloc (Below.refl _ w) _) _
 have e3 : Blk w3 g3 29 #[.pointer (some ⟨p, 0, none⟩)] := by rw [hw3, hg3]; exact (Blk.new w _ _).alloc _
 have e4 : Blk w3 (g3 + 1) 9 #[S s] := by rw [hw3, hg3]; have := Blk.new (w.alloc (.cells #[.pointer (some ⟨p, 0, none⟩)] 29)) 9 #[S s]; rwa [World.size_alloc] at this
 have B3 := Lib.hid b3
 have HB3 := Lib.hid e3
 have HB4 := Lib.hid e4
 have cr := dthere_any w3 w3 p m n cap L s none 0 0 [] (HD.out.step b3) (Ow.nil_ (Below.refl _ _)) (by omega)
 rw [thereI_ok (by simp [hs]) hg] at cr
 have CR := Lib.hid cr
 have hsl := (okName_len hs).2
 have Hs := Lib.hid hs
 have hco := costs_drop L s h.keys
 have Hco := Lib.hid hco
 have CSp : Hid (∀ W, Below w3.heap.size w3 W → Calls Tryz.prog 164 #[.pointer (some ⟨p, 0, none⟩), I (-(costOf L s : Int)), .func (.func 165) #[] #[.pointer (some ⟨g3, 0, none⟩), .pointer (some ⟨g3 + 1, 0, none⟩)]] W fun e w' => e = .returned (I 0) ∧ DiskAt w' p m n cap (dropF L s) ∧ Fr (fun k => k = p ∨ k = m) w w') := Lib.hid (fun W hb => by
  have hbw := bstep b3 hb
  have HDW := h.step hbw
  obtain ⟨ops, hBW⟩ := HDW.blk
  have hne2 : ∀ {j : Nat} {t : TypeId} {cs : Array Value}, Blk W j t cs → t ≠ 151 → j ≠ p := by
   intro j t cs hj ht e
   subst e
   unfold Blk at hj hBW
   rw [hBW] at hj
   injection hj with hj
   injection hj with _ hj
   exact ht hj.symm
  have c2 := HB3.out.step hb
  have c3 := HB4.out.step hb
  refine (dspend_any 165 _ (enters_of Tryz.func165 (by kernel_rfl) rfl) W p m cap (cap - costs L) ops (-(costOf L s : Int)) hBW (by omega) (by omega) (by omega) (by omega) (fun w' => DiskAt w' p m n cap (dropF L s) ∧ Fr (fun k => k = p ∨ k = m) w w') (fun hno W2 ops' hf hB2 => ?_)).mono ?_
  ·have hmW := HDW.map.block (hf.block m HDW.map.lt HDW.map_ne)
   refine (rem1_any W2 p m n g3 (g3 + 1) s (keyF L) cap (cap - costs L - (-(costOf L s : Int))) ops' (hf.blk c2 (hne2 c2 (by decide))) (hf.blk c3 (hne2 c3 (by decide))) hB2 hmW (okName_good hs)).mono ?_
   rintro e w' ⟨rfl, hM, hF2⟩
   obtain ⟨q1, q2⟩ := HDW.rem hf hB2 hF2 hM (by omega)
   exact ⟨rfl, q1, (Fr.of_below hbw).trans q2⟩
  ·rintro e w' (⟨h0, h1, rfl, rfl⟩ | ⟨hno, rfl, hq⟩)
   ·omega
   ·exact ⟨rfl, hq⟩)
 have CC : Hid (∀ W, Below w3.heap.size w3 W → Calls Tryz.prog 81 #[.pointer (some ⟨p, 0, none⟩), S s] W fun e w' => e = .returned (I (costOf L s)) ∧ w' = W) := Lib.hid (fun W hb => dcost_any W p m n cap L s (h.step (bstep b3 hb)) (okName_good hs))
 have rc3 := e3.cell
 have rc4 := e4.cell
 have hk1 : costOf L s ≤ 4000000000000 := by omega
 clear h hg cr b3 e3 e4 hs hco
 go_enter Tryz.func96, Tryz.ntmps96
 go_wp2_with fail
 simp only [← hg3, ← hw3]
 refine CR.out.mono ?_
 rintro e w5 ⟨rfl, b5⟩
 have B5 := Lib.hid b5
 have r3 := (HB3.out.step b5).cell
 have r4 := (HB4.out.step b5).cell
 clear rc3 rc4 b5 CR hw3 hg3
 go_wp2
 refine wp_region_still_tail 6 (by kernel_rfl) (by kernel_rfl) ?_
 simp only [List.take_succ_cons, List.take_zero, List.drop_succ_cons, List.drop_zero]
 repeat still_step
 still_call (CC.out _ B5.out.drew)
 repeat still_step
 refine wpStill_nil ?_
 have C7 := Lib.hid (CSp.out w5.drew B5.out.drew)
 clear CSp CC
 change wpList _ _ _ _ _ w5.drew
 go_wp2_with fail
 refine C7.out.mono ?_
 rintro e w7 ⟨rfl, h2, h3⟩
 have K2 := Lib.hid h2
 have K3 := Lib.hid h3
 clear h2 h3
 go_wp2
 go_ret
 exact ⟨rfl, K2.out, K3.out⟩
end Go.Proofs.YtphnfcgdpdimbaaGreatDoor
