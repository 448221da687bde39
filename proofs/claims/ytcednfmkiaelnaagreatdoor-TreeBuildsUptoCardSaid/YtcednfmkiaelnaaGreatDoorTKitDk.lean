/-
  Texts merged: DiskRem, SaveLaw. What each law says and asks stands at its head.
-/
import Derived.Test.YtcednfmkiaelnaaGreatDoorTKitE
import Derived.StillTailTactics
import Derived.Test.YtcednfmkiaelnaaGreatDoorTKitD
namespace Go.Proofs.YtcednfmkiaelnaaGreatDoor
open Go.RowKit Go.Shelf
theorem DiskAt.rem {w W w' : World} {p m n : Nat} {cap : Int} {L : List DF} (h : DiskAt w p m n cap L) (hf : Fr (fun k => k = p) w W) {free ops' : Int} (hB : Blk W p 118 (dskC m cap free ops')) {s : List UInt8}
  (hf2 : Fr (fun k => k = m) W w') (hM : MapL diskC w' m n (strike (keyF L) s)) (hfree : free = cap - costs (dropF L s)) :
  DiskAt w' p m n cap (dropF L s) ∧ Fr (fun k => k = p ∨ k = m) w w' := by
 obtain ⟨ops, hB0⟩ := h.blk
 have hmp := h.map_ne
 have hB2 := hf2.blk hB (fun e => hmp e.symm)
 have hmW := h.map.block (hf.block m h.map.lt hmp)
 have k1 : KeepT 5 w W := KeepT.of_fr hf (fun k cs fr e => by subst e; exact Blk.type hB0 (by decide) cs fr)
 have k2 : KeepT 5 W w' := KeepT.of_fr hf2 (fun k cs fr e => by subst e; exact hmW.is.no_cells cs fr)
 have hmem : ∀ y ∈ dropF L s, y ∈ L := fun y hy => (List.mem_filter.1 hy).1
 exact ⟨⟨⟨ops', by rw [hfree] at hB2; exact hB2⟩, by rw [keyF_drop]; exact hM, fun y hy => (h.row y (hmem y hy)).keep (k1.trans k2), fun y hy => h.name y (hmem y hy), fun y hy => h.small y (hmem y hy)⟩,
  (hf.weak (fun k e => .inl e)).trans (hf2.weak (fun k e => .inr e))⟩
set_option maxHeartbeats 4000000 in
set_option maxRecDepth 100000 in
theorem rem1_any (W : World) (p m n g0 g1 : Nat) (s : List UInt8) (l : List (List UInt8 × Hd)) (cap free ops : Int)
  (h0 : Blk W g0 62 #[.pointer (some ⟨p, 0, none⟩)]) (h1 : Blk W g1 9 #[S s])
  (hp : Blk W p 118 #[I cap, .map (some m), I free, I ops, I (-1), .bool false]) (hM : MapL diskC W m n l) (hs : s.length ≤ maxLen) :
  Calls Tryz.prog 271 #[.pointer (some ⟨g0, 0, none⟩), .pointer (some ⟨g1, 0, none⟩)] W fun e w' => e = .returned (.tuple #[]) ∧ MapL diskC w' m n (strike l s) ∧ Fr (fun k => k = m) W w' := by
 have HM := Lib.hid hM
 have HBp := Lib.hid hp
 have r0 := h0.cell
 have r1 := h1.cell
 have rp := hp.cell
 obtain ⟨W1, hdel, hM1, hg1⟩ := (show MapL diskC W.drew m n l from HM.out.drewN 1).run_drop Tryz.underlying111 (x := s) hs 0
 have F1 := Lib.hid (((Fr.refl (fun k => k = m) W).drew).trans (.of_grown hg1 (fun k e => (Option.some.inj e).symm)))
 have HM1 := Lib.hid hM1
 have hdel2 : (Builtin.delete_ #[111, 9] 0 #[Value.map (some m), S s]).run Tryz.prog W.drew = .ok (.tuple #[]) W1 := hdel
 clear h0 h1 hp hM hdel hM1 hg1
 go_enter Tryz.func271, Tryz.ntmps271
 go_wp2
 go_region
 exact ⟨rfl, .tuple #[], results_none rfl _ _ _, rfl, HM1.out, F1.out⟩
set_option maxHeartbeats 4000000 in
set_option maxRecDepth 100000 in
theorem dremove_any (w : World) (p m n : Nat) (cap : Int) (L : List DF) (s : List UInt8) (h : DiskAt w p m n cap L) (hs : okName s = true) (hg : (getF L s).isSome = true) (hcap : cap ≤ 4000000000000) (hc : (costs L : Int) ≤ cap) :
  Calls Tryz.prog 215 #[.pointer (some ⟨p, 0, none⟩), S s] w fun e w' => e = .returned (I 0) ∧ DiskAt w' p m n cap (dropF L s) ∧ Fr (fun k => k = p ∨ k = m) w w' := by
 have HD := Lib.hid h
 obtain ⟨w3, hw3⟩ : ∃ w3, w3 = (w.alloc (.cells #[.pointer (some ⟨p, 0, none⟩)] 62)).alloc (.cells #[S s] 9) := ⟨_, rfl⟩
 obtain ⟨g3, hg3⟩ : ∃ g3, g3 = w.heap.size := ⟨_, rfl⟩
 have b3 : Below w.heap.size w w3 := by rw [hw3]; exact balloc (balloc (Below.refl _ w) _) _
 have e3 : Blk w3 g3 62 #[.pointer (some ⟨p, 0, none⟩)] := by rw [hw3, hg3]; exact (Blk.new w _ _).alloc _
 have e4 : Blk w3 (g3 + 1) 9 #[S s] := by rw [hw3, hg3]; have := Blk.new (w.alloc (.cells #[.pointer (some ⟨p, 0, none⟩)] 62)) 9 #[S s]; rwa [World.size_alloc] at this
 have B3 := Lib.hid b3
 have HB3 := Lib.hid e3
 have HB4 := Lib.hid e4
 have cr := dthere_any w3 w3 p m n cap L s none 0 0 [] (HD.out.step b3) (Ow.nil_ (Below.refl _ _)) (by omega)
 rw [thereI_ok (by simp [hs]) hg] at cr
 have CR := Lib.hid cr
 have hsl := (okName_len hs).2
 have Hs := Lib.hid hs
 have hco := costs_drop L s h.keys
 have Hco := Lib.hid hco
 have CSp : Hid (∀ W, Below w3.heap.size w3 W → Calls Tryz.prog 269 #[.pointer (some ⟨p, 0, none⟩), I (-(costOf L s : Int)), .func (.func 271) #[] #[.pointer (some ⟨g3, 0, none⟩), .pointer (some ⟨g3 + 1, 0, none⟩)]] W fun e w' => e = .returned (I 0) ∧ DiskAt w' p m n cap (dropF L s) ∧ Fr (fun k => k = p ∨ k = m) w w') := Lib.hid (fun W hb => by
  have hbw := bstep b3 hb
  have HDW := h.step hbw
  obtain ⟨ops, hBW⟩ := HDW.blk
  have hne2 : ∀ {j : Nat} {t : TypeId} {cs : Array Value}, Blk W j t cs → t ≠ 118 → j ≠ p := by
   intro j t cs hj ht e
   subst e
   unfold Blk at hj hBW
   rw [hBW] at hj
   injection hj with hj
   injection hj with _ hj
   exact ht hj.symm
  have c2 := HB3.out.step hb
  have c3 := HB4.out.step hb
  refine (dspend_any 271 _ (enters_of Tryz.func271 (by kernel_rfl) rfl) W p m cap (cap - costs L) ops (-(costOf L s : Int)) hBW (by omega) (by omega) (by omega) (by omega) (fun w' => DiskAt w' p m n cap (dropF L s) ∧ Fr (fun k => k = p ∨ k = m) w w') (fun hno W2 ops' hf hB2 => ?_)).mono ?_
  ·have hmW := HDW.map.block (hf.block m HDW.map.lt HDW.map_ne)
   refine (rem1_any W2 p m n g3 (g3 + 1) s (keyF L) cap (cap - costs L - (-(costOf L s : Int))) ops' (hf.blk c2 (hne2 c2 (by decide))) (hf.blk c3 (hne2 c3 (by decide))) hB2 hmW (okName_good hs)).mono ?_
   rintro e w' ⟨rfl, hM, hF2⟩
   obtain ⟨q1, q2⟩ := HDW.rem hf hB2 hF2 hM (by omega)
   exact ⟨rfl, q1, (Fr.of_below hbw).trans q2⟩
  ·rintro e w' (⟨h0, h1, rfl, rfl⟩ | ⟨hno, rfl, hq⟩)
   ·omega
   ·exact ⟨rfl, hq⟩)
 have CC : Hid (∀ W, Below w3.heap.size w3 W → Calls Tryz.prog 270 #[.pointer (some ⟨p, 0, none⟩), S s] W fun e w' => e = .returned (I (costOf L s)) ∧ w' = W) := Lib.hid (fun W hb => dcost_any W p m n cap L s (h.step (bstep b3 hb)) (okName_good hs))
 have rc3 := e3.cell
 have rc4 := e4.cell
 have hk1 : costOf L s ≤ 4000000000000 := by omega
 clear h hg cr b3 e3 e4 hs hco
 go_enter Tryz.func215, Tryz.ntmps215
 go_wp2_with fail
 simp only [← hg3, ← hw3]
 refine CR.out.mono ?_
 rintro e w5 ⟨rfl, b5⟩
 have B5 := Lib.hid b5
 have r3 := (HB3.out.step b5).cell
 have r4 := (HB4.out.step b5).cell
 clear rc3 rc4 b5 CR hw3 hg3
 go_wp2
 refine wp_region_still_tail 6 (by kernel_rfl) (by kernel_rfl) ?_
 simp only [List.take_succ_cons, List.take_zero, List.drop_succ_cons, List.drop_zero]
 repeat still_step
 still_call (CC.out _ B5.out.drew)
 repeat still_step
 refine wpStill_nil ?_
 have C7 := Lib.hid (CSp.out w5.drew B5.out.drew)
 clear CSp CC
 change wpList _ _ _ _ _ w5.drew
 go_wp2_with fail
 refine C7.out.mono ?_
 rintro e w7 ⟨rfl, h2, h3⟩
 have K2 := Lib.hid h2
 have K3 := Lib.hid h3
 clear h2 h3
 go_wp2
 go_ret
 exact ⟨rfl, K2.out, K3.out⟩
end Go.Proofs.YtcednfmkiaelnaaGreatDoor
namespace Go.Proofs.YtcednfmkiaelnaaGreatDoor
open Go.RowKit
def curF (L : List DF) (sh bs : List UInt8) (j : Nat) (hd : Hd) : List DF := if j = 0 then L else putF L sh hd (bs.take (64 * j))
theorem getF_put (L : List DF) (s t : List UInt8) (hd : Hd) (b : List UInt8) : getF (putF L s hd b) t = if t = s then some (s, hd, b) else getF L t := by
 unfold putF
 rw [getF_cons]
 by_cases h : t = s
 ·rw [if_pos h, if_pos h.symm]
 ·rw [if_neg h, if_neg (fun e => h e.symm), getF_drop h]
theorem drop_put (L : List DF) (s : List UInt8) (hd : Hd) (b : List UInt8) : dropF (putF L s hd b) s = dropF L s := by
 unfold putF
 rw [dropF_cons, if_pos rfl]
 exact dropF_none (fun h => by
  obtain ⟨x, hx, e⟩ := List.mem_map.1 h
  have := (List.mem_filter.1 hx).2
  simp [e] at this)
theorem put_put (L : List DF) (s : List UInt8) (hd hd' : Hd) (b b' : List UInt8) : putF (putF L s hd b) s hd' b' = putF L s hd' b' := by
 show (s, hd', b') :: dropF (putF L s hd b) s = (s, hd', b') :: dropF L s
 rw [drop_put]
section
variable {L : List DF} {sh bs : List UInt8} {j : Nat} {hd : Hd}
theorem cur_put (hd' : Hd) (b : List UInt8) : putF (curF L sh bs j hd) sh hd' b = putF L sh hd' b := by
 unfold curF
 split
 ·rfl
 ·exact put_put _ _ _ _ _ _
theorem cur_old (h : getF L sh = none) : oldB (curF L sh bs j hd) sh = bs.take (64 * j) := by
 unfold curF oldB
 by_cases hj : j = 0
 ·rw [if_pos hj, h, hj]
  simp
 ·rw [if_neg hj, getF_put, if_pos rfl]
  rfl
theorem cur_more (h : getF L sh = none) (x : Nat) : moreA (curF L sh bs j hd) sh x = if j = 0 then x + (16 + sh.length) else x := by
 unfold curF moreA
 by_cases hj : j = 0
 ·rw [if_pos hj, if_pos hj, h]
  rfl
 ·rw [if_neg hj, if_neg hj, getF_put, if_pos rfl]
  rfl
theorem put_costs (h : getF L sh = none) (b : List UInt8) : costs (putF L sh hd b) = costs L + (16 + sh.length + b.length) := by
 unfold putF
 rw [dropF_none (getF_none.1 h)]
 show cost1 (sh, hd, b) + costs L = _
 unfold cost1
 simp only
 omega
theorem cur_costs (h : getF L sh = none) : costs (curF L sh bs j hd) = costs L + (if j = 0 then 0 else 16 + sh.length + min (64 * j) bs.length) := by
 unfold curF
 by_cases hj : j = 0
 ·rw [if_pos hj, if_pos hj]
  rfl
 ·rw [if_neg hj, if_neg hj, put_costs h, List.length_take]
theorem cur_step (k : Nat) (hk : bs.length = k) : bs.take (64 * j) ++ (bs.drop (64 * j)).take (min (k - 64 * j) 64) = bs.take (64 * (j + 1)) := by
 rw [← List.take_add]
 by_cases h : k - 64 * j ≤ 64
 ·rw [Nat.min_eq_left h, List.take_of_length_le (by omega), List.take_of_length_le (by omega)]
 ·rw [Nat.min_eq_right (by omega), show 64 * j + 64 = 64 * (j + 1) by omega]
end
theorem getF_drop_self (L : List DF) (s : List UInt8) : getF (dropF L s) s = none := by
 rw [getF_none]
 intro h
 obtain ⟨x, hx, e⟩ := List.mem_map.1 h
 have := (List.mem_filter.1 hx).2
 simp [e] at this
theorem costs_drop_le (L : List DF) (s : List UInt8) (h : (L.map (·.1)).Nodup) : costs (dropF L s) ≤ costs L := by
 have := costs_drop L s h
 omega
theorem TK_last {n : Nat} {pre : List Nat} {x : Nat} (h : TK n (pre ++ [x])) : x = pre.length ∧ 64 * pre.length < n := by
 obtain ⟨h1, h2⟩ := h
 rw [List.length_append, List.length_singleton] at h1 h2
 rw [List.range_succ] at h1
 have h3 := List.append_inj' h1 rfl
 exact ⟨by simpa using h3.2, by omega⟩
theorem SlT.mid {H : Nat → Prop} {e : TypeId} {w : World} {g off n : Nat} {bs : List UInt8} (h : SlT H e w 1 (some ⟨g, off, none⟩) n (u8s bs)) {i k : Nat} (hi : i + k ≤ n) : SlT H e w 1 (some ⟨g, off + i, none⟩) k (u8s ((bs.drop i).take k)) := by
 by_cases hk : k = 0
 ·subst hk
  simp only [List.take_zero]
  exact SlT.nil_
 ·refine ⟨?_, fun _ => ?_⟩
  ·have h1 : Sl w 1 (some ⟨g, off, none⟩) n (bs.map U8) := h.1
   have h2 := h1.mid_ (j := i) (k := i + k) (c := n + 1) (by omega) hi (by omega)
   rw [cutA_at _ _ _ _ (by omega), Nat.add_sub_cancel_left] at h2
   exact h2
  ·obtain ⟨b, o, cs, fr, e1, hH, hb⟩ := h.2 (by omega)
   injection e1 with e1
   injection e1 with e1 e2
   subst e1 e2
   exact ⟨_, _, cs, fr, rfl, hH, hb⟩
end Go.Proofs.YtcednfmkiaelnaaGreatDoor
