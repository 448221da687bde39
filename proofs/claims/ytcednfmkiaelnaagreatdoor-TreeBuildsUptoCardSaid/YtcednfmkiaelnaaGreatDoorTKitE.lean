/-
  Texts merged: DiskApp1, DiskApp, DiskSync, DiskRen1, DiskRen. What each law says and asks stands at its head.
-/
import Derived.Test.YtcednfmkiaelnaaGreatDoorTKitD
import Derived.Test.YtcednfmkiaelnaaGreatDoorTKitX
import Derived.Test.YtcednfmkiaelnaaGreatDoorTKitW
import Derived.Test.YtcednfmkiaelnaaGreatDoorTCheckG
import Derived.Shelf.Abstract
import Derived.BigRegion
namespace Go.Proofs.YtcednfmkiaelnaaGreatDoor
open Go.RowKit
theorem sl_two (w : World) (t : TypeId) (u v : Value) : Sl (w.alloc (.cells #[u, v] t)) 1 (some ⟨w.heap.size, 0, none⟩) 2 [u, v] := by
 refine ⟨rfl, fun _ => ⟨_, _, rfl, by simp, fun k hk => ?_⟩⟩
 rw [Nat.zero_add]
 simp
theorem hd_of {W w : World} {A : Option Addr} {n c : Nat} {xs : List Value} (h : Ow W w 5 1 A n c xs) : ∃ hd : Hd, hd.v = .slice A n c ∧ hd.n = n ∧ Ow W w 5 1 hd.a hd.n hd.c xs := by
 have h0 := h
 rcases h.1.2 with ⟨hv, hn⟩ | ⟨g, cap, cur, hv, _⟩
 ·injection hv with e1 e2 e3
  subst e1 e2 e3
  exact ⟨⟨none, 0, 0⟩, rfl, rfl, h0⟩
 ·injection hv with e1 e2 e3
  subst e1 e3
  exact ⟨⟨some (g, 0), n, c⟩, rfl, rfl, h0⟩
def ap1Phi (W : World) (p m : Nat) (s : List UInt8) (oh : Hd) (A : Option Addr) (k c : Nat) (ob bs : List UInt8) : Nat → Value → World → Prop
 | 0, v, _ => v = .pointer (some ⟨p, 0, none⟩)
 | 1, v, _ => v = .pointer (some ⟨p, 0, none⟩)
 | 2, v, _ => v = .pointer (some ⟨p, 1, none⟩)
 | 3, v, _ => v = .map (some m)
 | 4, v, _ => v = S s
 | 5, v, _ => v = .slice oh.a oh.n oh.c
 | 6, v, _ => v = .slice A k c
 | 7, v, w => ∃ (g : Nat), v = .slice (some ⟨g, 0, none⟩) 2 2 ∧ Sl w 1 (some ⟨g, 0, none⟩) 2 [.slice oh.a oh.n oh.c, .slice A k c]
 | 8, v, w => ∃ (A' : Option Addr) (c' : Nat), v = .slice A' (oh.n + k) c' ∧ Ow W w 5 1 A' (oh.n + k) c' (u8s (ob ++ bs))
 | _, _, _ => True
theorem ap1Phi_mono {W : World} {p m : Nat} {s : List UInt8} {oh : Hd} {A : Option Addr} {k c : Nat} {ob bs : List UInt8} : ∀ (j : Nat) (v : Value) (w w' : World), ap1Phi W p m s oh A k c ob bs j v w → Below w.heap.size w w' → ap1Phi W p m s oh A k c ob bs j v w' := by
 intro j v w w' h hb9
 match j, h with
 | 0, h => exact h
 | 1, h => exact h
 | 2, h => exact h
 | 3, h => exact h
 | 4, h => exact h
 | 5, h => exact h
 | 6, h => exact h
 | 7, h => obtain ⟨g, h1, h2⟩ := h; exact ⟨g, h1, h2.below hb9⟩
 | 8, h => obtain ⟨A', c', h1, h2⟩ := h; exact ⟨A', c', h1, h2.keep hb9⟩
 | (n + 9), _ => trivial
set_option maxHeartbeats 4000000 in
set_option maxRecDepth 100000 in
theorem app1_any (W : World) (p m n g0 g1 g2 g3 : Nat) (s : List UInt8) (oh : Hd) (A : Option Addr) (k c : Nat) (ob bs : List UInt8) (l : List (List UInt8 × Hd)) (cap free ops : Int)
  (h0 : Blk W g0 38 #[.slice oh.a oh.n oh.c]) (h1 : Blk W g1 38 #[.slice A k c]) (h2 : Blk W g2 62 #[.pointer (some ⟨p, 0, none⟩)]) (h3 : Blk W g3 9 #[S s])
  (hp : Blk W p 118 #[I cap, .map (some m), I free, I ops, I (-1), .bool false]) (hM : MapL diskC W m n l) (hn : n < maxLen) (hs : s.length ≤ maxLen) (hO : Sl W 1 oh.a oh.n (u8s ob)) (hbs : Sl W 1 A k (u8s bs)) (hk : oh.n + k ≤ 1000000000) :
  Calls Tryz.prog 274 #[.pointer (some ⟨g0, 0, none⟩), .pointer (some ⟨g1, 0, none⟩), .pointer (some ⟨g2, 0, none⟩), .pointer (some ⟨g3, 0, none⟩)] W fun e w' => e = .returned (.tuple #[]) ∧ ∃ (hd : Hd) (w1 : World), hd.n = oh.n + k ∧ Ow W w1 5 1 hd.a hd.n hd.c (u8s (ob ++ bs)) ∧ w1.grownBy w' (some m) ∧ MapL diskC w' m (n + 1) (layL l s hd) := by
 have HB0 := Lib.hid h0
 have HB1 := Lib.hid h1
 have HB2 := Lib.hid h2
 have HB3 := Lib.hid h3
 have HBp := Lib.hid hp
 have HM := Lib.hid hM
 have HO := Lib.hid hO
 have HBs := Lib.hid hbs
 have Hn := Lib.hid hk
 clear h0 h1 h2 h3 hp hM hO hbs hk
 go_enter Tryz.func274, Tryz.ntmps274
 refine wp_region_guards (by kernel_rfl) 9 (by kernel_rfl) ?_ (ap1Phi W p m s oh A k c ob bs) ap1Phi_mono (fun i o hi ho a w hb hs hm => ?_) (fun o ho a w hb hs2 hm => ?_)
 ·exact dst_lt9 (n := 13) (by kernel_rfl)
 ·exact match i, hi, ho with
   | 0, _, ho => by
     cases ho
     rw [if_pos (wanted_none _ rfl)]
     have hx : w.cell? ⟨g2, 0, none⟩ = some (.pointer (some ⟨p, 0, none⟩)) := (HB2.out.step hb).cell 0; refine wp_value (st_load rfl ((hs.keeps (by kernel_rfl)).trans rfl) (by go_simp)) ⟨_, rfl, rfl, Below.refl _ _⟩
   | 1, _, ho => by
     cases ho
     rw [if_pos (wanted_none _ rfl)]
     refine wp_value (st_nil rfl (hm.get 0 4 (by kernel_rfl))) ⟨_, rfl, rfl, Below.refl _ _⟩
   | 2, _, ho => by
     cases ho
     rw [if_pos (wanted_none _ rfl)]
     refine wp_value (st_field rfl (hm.get 1 5 (by kernel_rfl)) (by kernel_rfl)) ⟨_, rfl, rfl, Below.refl _ _⟩
   | 3, _, ho => by
     cases ho
     rw [if_pos (wanted_none _ rfl)]
     have hx : w.cell? ⟨p, 1, none⟩ = some (.map (some m)) := (HBp.out.step hb).cell 1; refine wp_value (st_load rfl (hm.get 2 6 (by kernel_rfl)) (by go_simp)) ⟨_, rfl, rfl, Below.refl _ _⟩
   | 4, _, ho => by
     cases ho
     rw [if_pos (wanted_none _ rfl)]
     have hx : w.cell? ⟨g3, 0, none⟩ = some (S s) := (HB3.out.step hb).cell 0; refine wp_value (st_load rfl ((hs.keeps (by kernel_rfl)).trans rfl) (by go_simp)) ⟨_, rfl, rfl, Below.refl _ _⟩
   | 5, _, ho => by
     cases ho
     rw [if_pos (wanted_none _ rfl)]
     have hx : w.cell? ⟨g0, 0, none⟩ = some (.slice oh.a oh.n oh.c) := (HB0.out.step hb).cell 0; refine wp_value (st_load rfl ((hs.keeps (by kernel_rfl)).trans rfl) (by go_simp)) ⟨_, rfl, rfl, Below.refl _ _⟩
   | 6, _, ho => by
     cases ho
     rw [if_pos (wanted_none _ rfl)]
     have hx : w.cell? ⟨g1, 0, none⟩ = some (.slice A k c) := (HB1.out.step hb).cell 0; refine wp_value (st_load rfl ((hs.keeps (by kernel_rfl)).trans rfl) (by go_simp)) ⟨_, rfl, rfl, Below.refl _ _⟩
   | 7, _, ho => by
     cases ho
     rw [if_pos (wanted_none _ rfl)]
     have h1 := eval_getD (hm.get 5 9 (by kernel_rfl)); have h2 := eval_getD (hm.get 6 10 (by kernel_rfl)); unfold Oper.wp; simp only [execOp]; go_simp; exact ⟨_, rfl, ⟨w.heap.size, rfl, sl_two w _ _ _⟩, balloc (Below.refl _ w) _⟩
   | 8, _, ho => by
     cases ho
     rw [if_pos (wanted_none _ rfl)]
     refine Exists.elim (show ∃ (g : Nat), a.eval (.tmp 11) = .slice (some ⟨g, 0, none⟩) 2 2 ∧ Sl w 1 (some ⟨g, 0, none⟩) 2 [.slice oh.a oh.n oh.c, .slice A k c] from (hm.get 7 11 (by kernel_rfl))) fun g h9 => ?_; have h1 := eval_getD h9.1; unfold Oper.wp; simp only [execOp]; go_simp; refine (concatB_any (some ⟨g, 0, none⟩) 2 2 [⟨oh.a, oh.n, oh.c, ob⟩, ⟨A, k, c, bs⟩] w h9.2 (by intro r hr; rcases List.mem_cons.1 hr with rfl | hr; exact HO.out.below hb; obtain rfl := List.mem_singleton.1 hr; exact HBs.out.below hb) (by omega) (by show oh.n + (k + 0) ≤ _; have := Hn.out; omega)).mono ?_; rintro e w' ⟨A', c', rfl, hO'⟩; exact ⟨_, rfl, ⟨A', c', rfl, by simpa [rowsAllB, rowsLenB] using hO'.since hb⟩, hO'.2⟩
   | (n + 9), hi, _ => absurd hi (by omega)

 ·have e1 : a.eval (.tmp 7) = .map (some m) := by cases ho; exact hm.get 3 7 (by kernel_rfl)
  have e2 : a.eval (.tmp 8) = S s := by cases ho; exact hm.get 4 8 (by kernel_rfl)
  refine Exists.elim (show ∃ (A' : Option Addr) (c' : Nat), a.eval (.tmp 12) = .slice A' (oh.n + k) c' ∧ Ow W w 5 1 A' (oh.n + k) c' (u8s (ob ++ bs)) by cases ho; exact hm.get 8 12 (by kernel_rfl)) fun A' h8 => ?_
  refine Exists.elim h8 fun c' h9 => ?_
  refine Exists.elim (hd_of h9.2) fun hd hhd => ?_
  have e3 := h9.1.trans hhd.1.symm
  refine Exists.elim (((HM.out.step hb).run_store Tryz.underlying111 hn (show diskC.good s from hs) hd)) fun w' hw' => ?_
  have hrun := hw'.1
  have hfin : ∃ (hd : Hd) (w1 : World), hd.n = oh.n + k ∧ Ow W w1 5 1 hd.a hd.n hd.c (u8s (ob ++ bs)) ∧ w1.grownBy w' (some m) ∧ MapL diskC w' m (n + 1) (layL l s hd) := ⟨hd, w, hhd.2.1, hhd.2.2, hw'.2.2, hw'.2.1⟩
  have e3' : a.eval (.tmp 12) = diskC.vv hd := e3
  have e2' : a.eval (.tmp 8) = diskC.kv s := e2
  have key : ∀ (K : Act → World → Prop) (Q : Exit → Act → World → Prop), K (a.put none undef) w' → Oper.wp Tryz.prog o a w K Q := by
   intro K Q hK
   cases ho
   unfold Oper.wp
   simp [execOp, e1, e2', e3', hrun, Result.andThen]
   exact hK
  refine key _ _ ?_
  have hd2 : (a.put none undef).defers = [] := by first | rfl | exact hs2.defers

  exact ⟨hd2, .tuple #[], results_none rfl _ _ _, rfl, hfin⟩
end Go.Proofs.YtcednfmkiaelnaaGreatDoor
namespace Go.Proofs.YtcednfmkiaelnaaGreatDoor
open Go.RowKit Go.Shelf
set_option maxHeartbeats 4000000 in
set_option maxRecDepth 100000 in
theorem dappend_any (w : World) (p m n : Nat) (cap : Int) (L : List DF) (s : List UInt8) (A : Option Addr) (k c : Nat) (bs : List UInt8) (h : DiskAt w p m n cap L) (hA : SlT (fun _ => True) 5 w 1 A k (u8s bs)) (hk : k ≤ 64) (hs : okName s = true) (hcap : cap ≤ 4000000000000) (hc : (costs L : Int) ≤ cap) (hn : n < maxLen) (hold : (oldB L s).length + k ≤ 1000000000) :
  Calls Tryz.prog 219 #[.pointer (some ⟨p, 0, none⟩), S s, .slice A k c] w fun e w' => (e = .returned (I 4) ∧ cap - costs L < moreA L s k ∧ Below w.heap.size w w') ∨ (e = .returned (I 0) ∧ moreA L s k ≤ cap - costs L ∧ ∃ hd, DiskAt w' p m (n + 1) cap (putF L s hd (oldB L s ++ bs)) ∧ Fr (fun k => k = p ∨ k = m) w w') := by
 have HD := Lib.hid h
 have HA := Lib.hid hA
 have d0 : decide ((64 : Int) < (k : Int)) = false := decide_eq_false (by omega)
 obtain ⟨w3, hw3⟩ : ∃ w3, w3 = ((w.alloc (.cells #[.pointer (some ⟨p, 0, none⟩)] 62)).alloc (.cells #[S s] 9)).alloc (.cells #[.slice A k c] 38) := ⟨_, rfl⟩
 obtain ⟨g3, hg3⟩ : ∃ g3, g3 = w.heap.size := ⟨_, rfl⟩
 have b3 : Below w.heap.size w w3 := by rw [hw3]; exact balloc (balloc (balloc (Below.refl _ w) _) _) _
 have e3 : Blk w3 g3 62 #[.pointer (some ⟨p, 0, none⟩)] := by rw [hw3, hg3]; exact ((Blk.new w _ _).alloc _).alloc _
 have e4 : Blk w3 (g3 + 1) 9 #[S s] := by rw [hw3, hg3]; have := (Blk.new (w.alloc (.cells #[.pointer (some ⟨p, 0, none⟩)] 62)) 9 #[S s]).alloc (.cells #[.slice A k c] 38); rwa [World.size_alloc] at this
 have e5 : Blk w3 (g3 + 2) 38 #[.slice A k c] := by rw [hw3, hg3]; have := Blk.new ((w.alloc (.cells #[.pointer (some ⟨p, 0, none⟩)] 62)).alloc (.cells #[S s] 9)) 38 #[.slice A k c]; rwa [World.size_alloc, World.size_alloc] at this
 have hsz : w3.heap.size = g3 + 3 := by rw [hw3, hg3]; simp [World.size_alloc]
 have B3 := Lib.hid b3
 have HB3 := Lib.hid e3
 have HB4 := Lib.hid e4
 have HB5 := Lib.hid e5
 have Hsz := Lib.hid hsz
 have cr := dready_any (w3.alloc (.cells #[S s] 9)) p m n cap L (some ⟨w3.heap.size, 0, none⟩) 1 1 [s] ((HD.out.step b3).step (balloc (Below.refl _ w3) _)) (sl_one w3 9 (S s)) (by omega)
 have er : readyI [s] = 0 := by unfold readyI; simp [hs]
 rw [er, hsz] at cr
 have CR := Lib.hid cr
 have rc4 := e4.cell
 have Hs := Lib.hid hs
 have Hlk : Hid (∀ W, Below w.heap.size w W → (Instr.lookup 111 (.map (some m)) (S s) true).run Tryz.prog W = .ok (.tuple #[(oldH L s).v, .bool (getF L s).isSome]) W) := Lib.hid (fun W hb => by
  have h1 := (HD.out.step hb).map.is.run_look_ok Tryz.underlying111 (a0 := ⟨none, 0, 0⟩) (Tryz.zeroH _) (x := s) (okName_good hs)
  have e1 : diskC.vv ((lk (keyF L) s).getD ⟨none, 0, 0⟩) = (oldH L s).v := by unfold oldH; rw [getF_lk]; rfl
  have e2 : (lk (keyF L) s).isSome = (getF L s).isSome := by rw [getF_lk]; simp
  rw [e1, e2] at h1
  exact h1)
 clear h hA er b3 e3 e4 e5 hsz hs cr
 go_enter Tryz.func219, Tryz.ntmps219
 go_wp2_with fail
 simp only [← hg3, ← hw3, Nat.add_assoc, Nat.reduceAdd]
 refine CR.out.mono ?_
 rintro e w5 ⟨rfl, b5⟩
 have B35 : Hid (Below w3.heap.size w3 w5) := Lib.hid (bstep (balloc (Below.refl _ w3) _) b5)
 have B5 := Lib.hid (bstep B3.out B35.out)
 have HB53 := Lib.hid (HB3.out.step B35.out)
 have HB54 := Lib.hid (HB4.out.step B35.out)
 have HB55 := Lib.hid (HB5.out.step B35.out)
 have rc5 := HB55.out.cell
 clear b5 CR rc4 hw3 hg3
 obtain ⟨ops, hbp⟩ := (HD.out.step B5.out).blk
 have HBp := Lib.hid hbp
 have HD5 := Lib.hid (HD.out.step B5.out)
 have HA5 := Lib.hid (HA.out.step B5.out)
 clear hbp HB3 HB4 HB5
 have HB3 := HB53
 have HB4 := HB54
 have Hlk5 : Hid (∀ W, Below w5.heap.size w5 W → (Instr.lookup 111 (.map (some m)) (S s) true).run Tryz.prog W = .ok (.tuple #[(oldH L s).v, .bool (getF L s).isSome]) W) := Lib.hid (fun W hb => Hlk.out W (bstep B5.out hb))
 clear Hlk
 have Hlk := Hlk5
 clear Hlk5
 obtain ⟨oA, oN, oC, hov⟩ : ∃ oA oN oC, Value.slice oA oN oC = (oldH L s).v := ⟨_, _, _, rfl⟩
 have hhd : (oldH L s).a = oA ∧ (oldH L s).n = oN ∧ (oldH L s).c = oC := by unfold Hd.v at hov; injection hov with e1 e2 e3; exact ⟨e1.symm, e2.symm, e3.symm⟩
 obtain ⟨b0, hb0⟩ : ∃ b0, b0 = (getF L s).isSome := ⟨_, rfl⟩
 rw [← hov, ← hb0] at Hlk
 obtain ⟨g, hg⟩ : ∃ g, g = w5.heap.size := ⟨_, rfl⟩
 obtain ⟨w6, hw6⟩ : ∃ w6, w6 = (w5.alloc (.cells #[.slice oA oN oC] 38)).drew := ⟨_, rfl⟩
 have hg6 : Blk w6 g 38 #[.slice oA oN oC] := by rw [hw6, hg]; exact (Blk.new w5 _ _).drew
 have b6 : Below w5.heap.size w5 w6 := by rw [hw6]; exact (balloc (Below.refl _ w5) _).drew
 have hlk5 : w3.heap.size ≤ w5.heap.size := B35.out.size
 have CSp : Hid (Calls Tryz.prog 269 #[.pointer (some ⟨p, 0, none⟩), I (moreA L s k), .func (.func 274) #[] #[.pointer (some ⟨g, 0, none⟩), .pointer (some ⟨g3 + 2, 0, none⟩), .pointer (some ⟨g3, 0, none⟩), .pointer (some ⟨g3 + 1, 0, none⟩)]] w6 fun e w' => (0 < (moreA L s k : Int) ∧ cap - costs L < moreA L s k ∧ e = .returned (I 4) ∧ w' = w6) ∨ (¬ (0 < (moreA L s k : Int) ∧ cap - costs L < moreA L s k) ∧ e = .returned (I 0) ∧ ∃ hd, DiskAt w' p m (n + 1) cap (putF L s hd (oldB L s ++ bs)) ∧ Fr (fun k => k = p ∨ k = m) w6 w')) := Lib.hid (by
  have HD6 := HD5.out.step b6
  obtain ⟨ops, hB6⟩ := HD6.blk
  have hsl := (okName_len Hs.out).2
  have hmk : moreA L s k ≤ 100000 := by unfold moreA; split <;> omega
  have hbl : bs.length = k := by have := HA5.out.sl.1; simpa [u8s] using this
  refine dspend_any 274 _ (enters_of Tryz.func274 (by kernel_rfl) rfl) w6 p m cap (cap - costs L) ops (moreA L s k) hB6 (by omega) (by omega) (by omega) (by omega) (fun w' => ∃ hd, DiskAt w' p m (n + 1) cap (putF L s hd (oldB L s ++ bs)) ∧ Fr (fun k => k = p ∨ k = m) w6 w') (fun hno W ops' hf hBW => ?_)
  have hne : ∀ {j : Nat} {t : TypeId} {cs : Array Value}, Blk w6 j t cs → t ≠ 118 → j ≠ p := by
   intro j t cs hj ht e
   subst e
   unfold Blk at hj hB6
   rw [hB6] at hj
   injection hj with hj
   injection hj with _ hj
   exact ht hj.symm
  have c0 := hg6
  have c1 := HB55.out.step b6
  have c2 := HB53.out.step b6
  have c3 := HB54.out.step b6
  have kk : KeepT 5 w6 W := KeepT.of_fr hf (fun k cs fr e => by subst e; exact Blk.type hB6 (by decide) cs fr)
  have hmW := HD6.map.block (hf.block m HD6.map.lt HD6.map_ne)
  rw [hov] at c0
  refine (app1_any W p m n g (g3 + 2) g3 (g3 + 1) s (oldH L s) A k c (oldB L s) bs (keyF L) cap (cap - costs L - moreA L s k) ops' (hf.blk c0 (hne c0 (by decide))) (hf.blk c1 (hne c1 (by decide))) (hf.blk c2 (hne c2 (by decide))) (hf.blk c3 (hne c3 (by decide))) hBW hmW hn (okName_good Hs.out) ((oldH_row HD6 s).keep kk).sl ((HA5.out.step b6).keep kk).sl (by rw [← oldH_len HD6 s]; exact hold)).mono ?_
  rintro e w' ⟨rfl, hd, w1, hdn, hO, hgr, hM⟩
  refine ⟨rfl, hd, HD6.put hf hBW hO hgr hM Hs.out (by rw [hdn, ← oldH_len HD6 s]; omega) ?_⟩
  rw [costs_app L s hd bs HD6.keys, hbl]
  omega)

 have HB46 := Lib.hid (HB54.out.step b6)
 have HB36 := Lib.hid (HB53.out.step b6)
 have B6 := Lib.hid (bstep B5.out b6)
 have Hg := Lib.hid hg
 have Hov := Lib.hid hov
 have Hb0 := Lib.hid hb0
 have Hw6 := Lib.hid hw6
 have hl1 := Hlk.out w5.drew (Below.refl _ w5).drew
 have hl2 := Hlk.out (w5.alloc (.cells #[.slice none 0 0] 38)).drew (balloc (Below.refl _ w5) _).drew
 have rc3 := HB3.out.cell
 have rc4 := HB4.out.cell
 have rcp := HBp.out.cell
 have l3 := HB3.out.lt
 have l4 := HB4.out.lt
 have lp := HBp.out.lt
 clear hg hov hb0 hhd hw6 hg6 b6 hlk5 HD HA HD5 HA5 HB53 HB54 HBp Hlk B3 B35 Hsz
 go_wp2
 go_region
 all_goals
  rw [← Hg.out, ← Hw6.out]
  clear hl1 hl2 rc3 rc4 rcp l3 l4 lp
  have r4 := HB46.out.cell
  have r3 := HB36.out.cell
  have Hc := Lib.hid hc
  rcases hbb : b0 with _ | _
  ·have hmo : Hid (moreA L s k = k + (16 + s.length)) := Lib.hid (by unfold moreA; rw [← Hb0.out, hbb]; rfl)
   have hsl := (okName_len Hs.out).2
   rw [hmo.out, show ((k + (16 + s.length) : Nat) : Int) = (k : Int) + (16 + (s.length : Int)) by omega] at CSp
   clear hbb
   go_wp2_with fail
   refine CSp.out.mono ?_
   rintro e w7 (⟨_, h4, rfl, rfl⟩ | ⟨hno, rfl, hd, hD, hF⟩)
   ·have h5 : Hid (cap - costs L < moreA L s k) := Lib.hid (by rw [hmo.out]; omega)
    clear h4
    go_wp2
    go_ret
    exact .inl ⟨rfl, h5.out, B6.out⟩
   ·have h5 : Hid ((moreA L s k : Int) ≤ cap - costs L) := Lib.hid (by rw [hmo.out]; have := Hc.out; omega)
    have HDf := Lib.hid hD
    have HF := Lib.hid hF
    clear hno hD hF
    go_wp2
    go_ret
    exact .inr ⟨rfl, h5.out, hd, HDf.out, (Fr.of_below B6.out).trans HF.out⟩
  ·have hmo : Hid (moreA L s k = k) := Lib.hid (by unfold moreA; rw [← Hb0.out, hbb]; rfl)
   rw [hmo.out] at CSp
   clear hbb
   go_wp2_with fail
   refine CSp.out.mono ?_
   rintro e w7 (⟨_, h4, rfl, rfl⟩ | ⟨hno, rfl, hd, hD, hF⟩)
   ·have h5 : Hid (cap - costs L < moreA L s k) := Lib.hid (by rw [hmo.out]; omega)
    clear h4
    go_wp2
    go_ret
    exact .inl ⟨rfl, h5.out, B6.out⟩
   ·have h5 : Hid ((moreA L s k : Int) ≤ cap - costs L) := Lib.hid (by rw [hmo.out]; have := Hc.out; omega)
    have HDf := Lib.hid hD
    have HF := Lib.hid hF
    clear hno hD hF
    go_wp2
    go_ret
    exact .inr ⟨rfl, h5.out, hd, HDf.out, (Fr.of_below B6.out).trans HF.out⟩
theorem DiskAt.turn {w W : World} {p m n : Nat} {cap : Int} {L : List DF} (h : DiskAt w p m n cap L) (hf : Fr (fun k => k = p) w W) {ops' : Int} (hB : Blk W p 118 (dskC m cap (cap - costs L) ops')) : DiskAt W p m n cap L := by
 obtain ⟨ops, hB0⟩ := h.blk
 have k1 : KeepT 5 w W := KeepT.of_fr hf (fun k cs fr e => by subst e; exact Blk.type hB0 (by decide) cs fr)
 exact ⟨⟨ops', hB⟩, h.map.block (hf.block m h.map.lt h.map_ne), fun x hx => (h.row x hx).keep k1, h.name, h.small⟩
set_option maxRecDepth 100000 in
theorem sync1_any (W : World) : Calls Tryz.prog 276 #[] W fun e w' => e = .returned (.tuple #[]) ∧ w' = W := by
 go_enter Tryz.func276, Tryz.ntmps276
 go_wp2
 exact ⟨rfl, .tuple #[], results_none rfl _ _ _, rfl, rfl⟩
theorem thereI_ok {L : List DF} {l : List (List UInt8)} {s : List UInt8} (h : (l ++ [s]).all okName = true) (hg : (getF L s).isSome = true) : thereI L l s = 0 := by
 unfold thereI
 rw [if_pos h, if_pos hg]
set_option maxHeartbeats 1000000 in
set_option maxRecDepth 100000 in
theorem dsync_any (w : World) (p m n : Nat) (cap : Int) (L : List DF) (s : List UInt8) (h : DiskAt w p m n cap L) (hs : okName s = true) (hg : (getF L s).isSome = true) (hcap : cap ≤ 4000000000000) (hc : (costs L : Int) ≤ cap) :
  Calls Tryz.prog 220 #[.pointer (some ⟨p, 0, none⟩), S s] w fun e w' => e = .returned (I 0) ∧ DiskAt w' p m n cap L ∧ Fr (fun k => k = p ∨ k = m) w w' := by
 have HD := Lib.hid h
 have cr := dthere_any w w p m n cap L s none 0 0 [] h (Ow.nil_ (Below.refl _ _)) (by omega)
 rw [thereI_ok (by simp [hs]) hg] at cr
 have CR := Lib.hid cr
 have CSp : Hid (∀ W, Below w.heap.size w W → Calls Tryz.prog 269 #[.pointer (some ⟨p, 0, none⟩), I 0, .func (.func 276) #[] #[]] W fun e w' => e = .returned (I 0) ∧ DiskAt w' p m n cap L ∧ Fr (fun k => k = p ∨ k = m) w w') := Lib.hid (fun W hb => by
  have HDW := h.step hb
  obtain ⟨ops, hB⟩ := HDW.blk
  refine (dspend_any 276 #[] (enters_of Tryz.func276 (by kernel_rfl) rfl) W p m cap (cap - costs L) ops 0 hB (by omega) (by omega) (by omega) (by omega) (fun w' => DiskAt w' p m n cap L ∧ Fr (fun k => k = p ∨ k = m) w w') (fun _ W2 ops' hf hB2 => ?_)).mono ?_
  ·refine (sync1_any W2).mono ?_
   rintro e w' ⟨rfl, rfl⟩
   exact ⟨rfl, HDW.turn hf (by rw [Int.sub_zero] at hB2; exact hB2), (Fr.of_below hb).trans (hf.weak (fun k e => .inl e))⟩
  ·rintro e w' (⟨h0, _⟩ | ⟨_, rfl, hq⟩)
   ·omega
   ·exact ⟨rfl, hq⟩)
 clear h hs hg cr
 go_enter Tryz.func220, Tryz.ntmps220
 go_wp2_with fail
 refine CR.out.mono ?_
 rintro e w1 ⟨rfl, b1⟩
 have C2 := Lib.hid (CSp.out w1 b1)
 clear b1 CSp
 go_wp2_with fail
 refine C2.out.mono ?_
 rintro e w2 ⟨rfl, hD, hF⟩
 have HDf := Lib.hid hD
 have HF := Lib.hid hF
 clear hD hF
 go_wp2
 go_ret
 exact ⟨rfl, HDf.out, HF.out⟩
end Go.Proofs.YtcednfmkiaelnaaGreatDoor
namespace Go.Proofs.YtcednfmkiaelnaaGreatDoor
open Go.RowKit
set_option maxHeartbeats 4000000 in
set_option maxRecDepth 100000 in
theorem ren1_any (W : World) (p m n g0 g1 g2 : Nat) (s t : List UInt8) (l : List (List UInt8 × Hd)) (hd : Hd) (cap free ops : Int)
  (h0 : Blk W g0 62 #[.pointer (some ⟨p, 0, none⟩)]) (h1 : Blk W g1 9 #[S s]) (h2 : Blk W g2 9 #[S t])
  (hp : Blk W p 118 #[I cap, .map (some m), I free, I ops, I (-1), .bool false]) (hM : MapL diskC W m n l) (hn : n < maxLen) (hs : s.length ≤ maxLen) (ht : t.length ≤ maxLen) (hl : lk l s = some hd) :
  Calls Tryz.prog 277 #[.pointer (some ⟨g0, 0, none⟩), .pointer (some ⟨g1, 0, none⟩), .pointer (some ⟨g2, 0, none⟩)] W fun e w' => e = .returned (.tuple #[]) ∧ MapL diskC w' m (n + 1) (layL (strike l s) t hd) ∧ Fr (fun k => k = m) W w' := by
 have hlk : ∀ W', Below W.heap.size W W' → (Instr.lookup 111 (.map (some m)) (S s) false).run Tryz.prog W' = .ok hd.v W' := fun W' hb => by
  have h := (hM.step hb).is.run_look Tryz.underlying111 (a0 := ⟨none, 0, 0⟩) (Tryz.zeroH _) (x := s) hs
  rw [hl] at h
  exact h
 have hl1 := hlk W.drew (Below.refl _ W).drew
 have HM := Lib.hid hM
 have HB0 := Lib.hid h0
 have HB1 := Lib.hid h1
 have HB2 := Lib.hid h2
 have HBp := Lib.hid hp
 have r0 := h0.cell
 have r1 := h1.cell
 have rp := hp.cell
 clear h0 h1 h2 hp hM hl hlk
 go_enter Tryz.func277, Tryz.ntmps277
 go_wp2
 go_region
 obtain ⟨W1, hdel, hM1, hg1⟩ := (show MapL diskC W.drew.drew m n l from HM.out.drewN 2).run_drop Tryz.underlying111 (x := s) hs 0
 have hmp : m ≠ p := HM.out.is.ne_blk HBp.out
 have f1 : Fr (fun k => k = m) W W1 := (((Fr.refl (fun k => k = m) W).drew).drew).trans (.of_grown hg1 (fun k e => (Option.some.inj e).symm))
 have c0 := f1.blk HB0.out (fun e => HM.out.is.ne_blk HB0.out e.symm)
 have c2 := f1.blk HB2.out (fun e => HM.out.is.ne_blk HB2.out e.symm)
 have cp := f1.blk HBp.out (fun e => hmp e.symm)
 have F1 := Lib.hid f1
 have C0 := Lib.hid c0
 have C2 := Lib.hid c2
 have Cp := Lib.hid cp
 have HM1 := Lib.hid hM1
 have hdel2 : (Builtin.delete_ #[111, 9] 0 #[Value.map (some m), S s]).run Tryz.prog W.drew.drew = .ok (.tuple #[]) W1 := hdel
 clear hdel hl1 hg1 hmp f1 c0 c2 cp hM1
 go_wp2
 go_region
 obtain ⟨W2, hst, hM2, hg2⟩ := (show MapL diskC W1.drew m n (strike l s) from HM1.out.drewN 1).run_store Tryz.underlying111 hn (x := t) ht hd
 have hst2 : (Instr.mapUpdate 111 (.map (some m)) (S t) hd.v).run Tryz.prog W1.drew = .ok () W2 := hst
 have F2 := Lib.hid ((F1.out.drew).trans (.of_grown hg2 (fun k e => (Option.some.inj e).symm)))
 have HM2 := Lib.hid hM2
 have r0' := C0.out.cell
 have r2' := C2.out.cell
 have rp' := Cp.out.cell
 clear hst hg2 hM2 hdel2 r0 r1 rp
 go_wp2
 go_region
 exact ⟨rfl, .tuple #[], results_none rfl _ _ _, rfl, HM2.out, F2.out⟩
end Go.Proofs.YtcednfmkiaelnaaGreatDoor
namespace Go.Proofs.YtcednfmkiaelnaaGreatDoor
open Go.RowKit Go.Shelf
theorem getF_drop {L : List DF} {s t : List UInt8} (h : t ≠ s) : getF (dropF L s) t = getF L t := by
 induction L with
 | nil => rfl
 | cons x L ih =>
  rw [dropF_cons]
  by_cases hx : x.1 = s
  ·rw [if_pos hx, ih, getF_cons, if_neg (by rw [hx]; exact fun e => h e.symm)]
  ·rw [if_neg hx, getF_cons, getF_cons, ih]
theorem drop_nodup {L : List DF} (s : List UInt8) (h : (L.map (·.1)).Nodup) : ((dropF L s).map (·.1)).Nodup := h.sublist (List.filter_sublist.map _)
theorem costs_ren {L : List DF} {s t : List UInt8} {x : DF} (h : (L.map (·.1)).Nodup) (hne : t ≠ s) (hg : getF L s = some x) : costs (putF (dropF L s) t x.2.1 x.2.2) + s.length + costOf L t = costs L + t.length := by
 have h1 := costs_drop L s h
 have h2 := costs_drop (dropF L s) t (drop_nodup s h)
 have h3 : costOf (dropF L s) t = costOf L t := by unfold costOf; rw [getF_drop hne]
 have h4 : costOf L s = cost1 x := by unfold costOf; rw [hg]
 have h5 : cost1 x = 16 + s.length + x.2.2.length := by unfold cost1; rw [(getF_mem hg).2]
 rw [h3] at h2
 rw [h4, h5] at h1
 unfold putF
 show cost1 (t, x.2.1, x.2.2) + costs (dropF (dropF L s) t) + s.length + costOf L t = _
 unfold cost1
 simp only
 omega
theorem DiskAt.ren {w W w' : World} {p m n : Nat} {cap : Int} {L : List DF} (h : DiskAt w p m n cap L) (hf : Fr (fun k => k = p) w W) {free ops' : Int} (hB : Blk W p 118 (dskC m cap free ops')) {s t : List UInt8} {x : DF} (hg : getF L s = some x) (ht : okName t = true)
  (hf2 : Fr (fun k => k = m) W w') (hM : MapL diskC w' m (n + 1) (layL (strike (keyF L) s) t x.2.1)) (hfree : free = cap - costs (putF (dropF L s) t x.2.1 x.2.2)) :
  DiskAt w' p m (n + 1) cap (putF (dropF L s) t x.2.1 x.2.2) ∧ Fr (fun k => k = p ∨ k = m) w w' := by
 obtain ⟨ops, hB0⟩ := h.blk
 have hmp := h.map_ne
 have hB2 := hf2.blk hB (fun e => hmp e.symm)
 have hmW := h.map.block (hf.block m h.map.lt hmp)
 have k1 : KeepT 5 w W := KeepT.of_fr hf (fun k cs fr e => by subst e; exact Blk.type hB0 (by decide) cs fr)
 have k2 : KeepT 5 W w' := KeepT.of_fr hf2 (fun k cs fr e => by subst e; exact hmW.is.no_cells cs fr)
 obtain ⟨hx, _⟩ := getF_mem hg
 have hmem : ∀ y ∈ dropF (dropF L s) t, y ∈ L := fun y hy => (List.mem_filter.1 (List.mem_filter.1 hy).1).1
 refine ⟨⟨⟨ops', by rw [hfree] at hB2; exact hB2⟩, by rw [keyF_put, keyF_drop]; exact hM, fun y hy => ?_, fun y hy => ?_, fun y hy => ?_⟩, ?_⟩
 ·rcases List.mem_cons.1 hy with rfl | hy
  ·exact (h.row x hx).keep (k1.trans k2)
  ·exact (h.row y (hmem y hy)).keep (k1.trans k2)
 ·rcases List.mem_cons.1 hy with rfl | hy
  ·exact ht
  ·exact h.name y (hmem y hy)
 ·rcases List.mem_cons.1 hy with rfl | hy
  ·exact h.small x hx
  ·exact h.small y (hmem y hy)
 ·exact (hf.weak (fun k e => .inl e)).trans (hf2.weak (fun k e => .inr e))
theorem own_one (w : World) (t : TypeId) (v : Value) : Ow w (w.alloc (.cells #[v] t)) t 1 (some ⟨w.heap.size, 0, none⟩) 1 1 [v] :=
 ⟨⟨rfl, .inr ⟨w.heap.size, 1, #[v], rfl, Nat.le_refl _, heap_alloc_new w _, Nat.le_refl _, by decide, rfl, rfl⟩⟩, balloc (Below.refl _ w) _⟩
set_option maxHeartbeats 4000000 in
set_option maxRecDepth 100000 in
theorem drename_any (w : World) (p m n : Nat) (cap : Int) (L : List DF) (s t : List UInt8) (x : DF) (h : DiskAt w p m n cap L) (hg : getF L s = some x) (hs : okName s = true) (ht : okName t = true) (hne : t ≠ s) (hcap : cap ≤ 4000000000000) (hc : (costs L : Int) ≤ cap) (hn : n < maxLen) :
  Calls Tryz.prog 221 #[.pointer (some ⟨p, 0, none⟩), S s, S t] w fun e w' => (e = .returned (I 4) ∧ cap < costs (putF (dropF L s) t x.2.1 x.2.2) ∧ Below w.heap.size w w') ∨ (e = .returned (I 0) ∧ (costs (putF (dropF L s) t x.2.1 x.2.2) : Int) ≤ cap ∧ DiskAt w' p m (n + 1) cap (putF (dropF L s) t x.2.1 x.2.2) ∧ Fr (fun k => k = p ∨ k = m) w w') := by
 have HD := Lib.hid h
 obtain ⟨w3, hw3⟩ : ∃ w3, w3 = ((w.alloc (.cells #[.pointer (some ⟨p, 0, none⟩)] 62)).alloc (.cells #[S s] 9)).alloc (.cells #[S t] 9) := ⟨_, rfl⟩
 obtain ⟨g3, hg3⟩ : ∃ g3, g3 = w.heap.size := ⟨_, rfl⟩
 have b3 : Below w.heap.size w w3 := by rw [hw3]; exact balloc (balloc (balloc (Below.refl _ w) _) _) _
 have e3 : Blk w3 g3 62 #[.pointer (some ⟨p, 0, none⟩)] := by rw [hw3, hg3]; exact ((Blk.new w _ _).alloc _).alloc _
 have e4 : Blk w3 (g3 + 1) 9 #[S s] := by rw [hw3, hg3]; have := (Blk.new (w.alloc (.cells #[.pointer (some ⟨p, 0, none⟩)] 62)) 9 #[S s]).alloc (.cells #[S t] 9); rwa [World.size_alloc] at this
 have e5 : Blk w3 (g3 + 2) 9 #[S t] := by rw [hw3, hg3]; have := Blk.new ((w.alloc (.cells #[.pointer (some ⟨p, 0, none⟩)] 62)).alloc (.cells #[S s] 9)) 9 #[S t]; rwa [World.size_alloc, World.size_alloc] at this
 have hsz : w3.heap.size = g3 + 3 := by rw [hw3, hg3]; simp [World.size_alloc]
 have Hsz := Lib.hid hsz
 have B3 := Lib.hid b3
 have HB3 := Lib.hid e3
 have HB4 := Lib.hid e4
 have HB5 := Lib.hid e5
 have cr := dthere_any w3 (w3.alloc (.cells #[S t] 9)) p m n cap L s (some ⟨w3.heap.size, 0, none⟩) 1 1 [t] (HD.out.step b3) (own_one w3 9 (S t)) (by omega)
 rw [thereI_ok (by simp [hs, ht]) (by rw [hg]; rfl), hsz] at cr
 have CR := Lib.hid cr
 have hsl := (okName_len hs).2
 have htl := (okName_len ht).2
 have Hs := Lib.hid hs
 have Ht := Lib.hid ht
 have Hg := Lib.hid hg
 have hq : (s == t) = false := beq_eq_false_iff_ne.2 (fun e => hne e.symm)
 have Hne := Lib.hid hne
 have hco := costs_ren h.keys hne hg
 have hco2 : costOf L t ≤ costs L := by have := costs_drop L t h.keys; omega
 have Hco := Lib.hid hco
 have CSp : Hid (∀ W, Below w3.heap.size w3 W → Calls Tryz.prog 269 #[.pointer (some ⟨p, 0, none⟩), I ((t.length : Int) - s.length - costOf L t), .func (.func 277) #[] #[.pointer (some ⟨g3, 0, none⟩), .pointer (some ⟨g3 + 1, 0, none⟩), .pointer (some ⟨g3 + 2, 0, none⟩)]] W fun e w' => (e = .returned (I 4) ∧ cap < costs (putF (dropF L s) t x.2.1 x.2.2) ∧ Below w.heap.size w w') ∨ (e = .returned (I 0) ∧ (costs (putF (dropF L s) t x.2.1 x.2.2) : Int) ≤ cap ∧ DiskAt w' p m (n + 1) cap (putF (dropF L s) t x.2.1 x.2.2) ∧ Fr (fun k => k = p ∨ k = m) w w')) := Lib.hid (fun W hb => by
  have hbw := bstep b3 hb
  have HDW := h.step hbw
  obtain ⟨ops, hBW⟩ := HDW.blk
  have hne2 : ∀ {j : Nat} {t : TypeId} {cs : Array Value}, Blk W j t cs → t ≠ 118 → j ≠ p := by
   intro j t cs hj ht e
   subst e
   unfold Blk at hj hBW
   rw [hBW] at hj
   injection hj with hj
   injection hj with _ hj
   exact ht hj.symm
  have c2 := HB3.out.step hb
  have c3 := HB4.out.step hb
  have c4 := HB5.out.step hb
  refine (dspend_any 277 _ (enters_of Tryz.func277 (by kernel_rfl) rfl) W p m cap (cap - costs L) ops ((t.length : Int) - s.length - costOf L t) hBW (by omega) (by omega) (by omega) (by omega) (fun w' => DiskAt w' p m (n + 1) cap (putF (dropF L s) t x.2.1 x.2.2) ∧ Fr (fun k => k = p ∨ k = m) w w') (fun hno W2 ops' hf hB2 => ?_)).mono ?_
  ·have hmW := HDW.map.block (hf.block m HDW.map.lt HDW.map_ne)
   refine (ren1_any W2 p m n g3 (g3 + 1) (g3 + 2) s t (keyF L) x.2.1 cap (cap - costs L - ((t.length : Int) - s.length - costOf L t)) ops' (hf.blk c2 (hne2 c2 (by decide))) (hf.blk c3 (hne2 c3 (by decide))) (hf.blk c4 (hne2 c4 (by decide))) hB2 hmW hn (okName_good hs) (okName_good ht) (by rw [getF_lk, hg]; rfl)).mono ?_
   rintro e w' ⟨rfl, hM, hF2⟩
   obtain ⟨q1, q2⟩ := HDW.ren hf hB2 hg ht hF2 hM (by omega)
   exact ⟨rfl, q1, (Fr.of_below hbw).trans q2⟩
  ·rintro e w' (⟨h0, h1, rfl, rfl⟩ | ⟨hno, rfl, hq⟩)
   ·exact .inl ⟨rfl, by omega, hbw⟩
   ·exact .inr ⟨rfl, by omega, hq⟩)
 have CC : Hid (∀ W, Below w3.heap.size w3 W → Calls Tryz.prog 270 #[.pointer (some ⟨p, 0, none⟩), S t] W fun e w' => e = .returned (I (costOf L t)) ∧ w' = W) := Lib.hid (fun W hb => dcost_any W p m n cap L t (h.step (bstep b3 hb)) (okName_good ht))
 have rc3 := e3.cell
 have rc4 := e4.cell
 have rc5 := e5.cell
 have hk1 : costOf L t ≤ 4000000000000 := by omega
 clear h hg cr b3 e3 e4 e5 hsz hs ht hne hco hco2
 go_enter Tryz.func221, Tryz.ntmps221
 go_wp2_with fail
 simp only [← hg3, ← hw3, Nat.add_assoc, Nat.reduceAdd]
 refine CR.out.mono ?_
 rintro e w5 ⟨rfl, b5⟩
 rw [← Hsz.out] at b5
 have B5 := Lib.hid b5
 have r3 := (HB3.out.step b5).cell
 have r4 := (HB4.out.step b5).cell
 have r5 := (HB5.out.step b5).cell
 have C6 := Lib.hid (CC.out w5 b5)
 clear rc3 rc4 rc5 b5 CC CR hw3 hg3
 go_wp2_with fail
 refine C6.out.mono ?_
 rintro e w6 ⟨rfl, rfl⟩
 have C7 := Lib.hid (CSp.out w6 B5.out)
 clear C6 CSp
 go_wp2_with fail
 refine C7.out.mono ?_
 rintro e w7 (⟨rfl, h1, h2⟩ | ⟨rfl, h1, h2, h3⟩)
 ·have K1 := Lib.hid h1
  have K2 := Lib.hid h2
  clear h1 h2
  go_wp2
  go_ret
  exact .inl ⟨rfl, K1.out, K2.out⟩
 ·have K1 := Lib.hid h1
  have K2 := Lib.hid h2
  have K3 := Lib.hid h3
  clear h1 h2 h3
  go_wp2
  go_ret
  exact .inr ⟨rfl, K1.out, K2.out, K3.out⟩
end Go.Proofs.YtcednfmkiaelnaaGreatDoor
