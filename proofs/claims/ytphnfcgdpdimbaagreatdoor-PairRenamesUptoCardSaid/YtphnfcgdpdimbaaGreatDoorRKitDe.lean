/-
  Texts merged: DecBlob, DecBlob2. What each law says and asks stands at its head.
-/
import Derived.Test.YtphnfcgdpdimbaaGreatDoorRKitOb
import Derived.Test.YtphnfcgdpdimbaaGreatDoorRKitX
import Derived.Test.YtphnfcgdpdimbaaGreatDoorRKitM
namespace Go.Proofs.YtphnfcgdpdimbaaGreatDoor
open Go.RowKit
abbrev RdrB (w : World) (r : Nat) (A : Option Addr) (n c : Nat) : Prop := Blk w r 360 #[.slice A n c, I 0]
set_option maxHeartbeats 4000000 in
set_option maxRecDepth 100000 in
/-- the next bytes -/
theorem obytes_any (r n c k : Nat) (A : Option Addr) (p : List UInt8) (w : World) (hr : RdrB w r A n c) (hA : Sl w 1 A n (u8s p)) (hk : k ≤ n) (hc : n ≤ c) (_hn : n ≤ 1000000000) :
  Calls Tryz.prog 307 #[.pointer (some ⟨r, 0, none⟩), I (k : Int)] w fun e w' => e = .returned (S (p.take k)) ∧ RdrB w' r (cutA A c k 1) (n - k) (c - k) ∧ Fr (fun j => j = r) w w' := by
 have hrc := hr.cell
 have fz := hr.frozen
 have HR := Lib.hid hr
 have d1 : decide ((n : Int) < (k : Int)) = false := decide_eq_false (by omega)
 have d1' : decide (n < k) = false := decide_eq_false (by omega)
 have kc : ∀ V : World, (Instr.slice 27 (.slice A n c) none (some (.int .i64 (k : Int))) none).run Tryz.prog V = .ok (.slice (cutA A c 0 1) k c) V := fun V => run_cut_h (P := Tryz.prog) V Tryz.underlying27 Tryz.sizeU8 A n c .i64 k (by omega)
 have kd : ∀ V : World, (Instr.slice 27 (.slice A n c) (some (.int .i64 (k : Int))) none none).run Tryz.prog V = .ok (.slice (cutA A c k 1) (n - k) (c - k)) V := fun V => run_cut_l (P := Tryz.prog) V Tryz.underlying27 Tryz.sizeU8 A n c .i64 k hk
 have hH := hA.head_ (k := k) (c := c) hk hc
 have hcv := fun q => run_conv_str (P := Tryz.prog) (w.drewN q) 27 9 5 _ k c _ Tryz.underlying27 Tryz.underlying5 Tryz.underlying9 (hH.drewN q)
 have hcv0 := run_conv_str (P := Tryz.prog) w 27 9 5 _ k c _ Tryz.underlying27 Tryz.underlying5 Tryz.underlying9 hH
 clear hH hA hr
 go_enter Tryz.func307, Tryz.ntmps307
 go_wp2
 go_ret
 exact ⟨rfl, HR.out.set_ 0 _, Fr.setCell (E := fun j => j = r) (Fr.refl _ w) (p := ⟨r, 0, none⟩) (show r = r from rfl) _⟩
def dbJ (W : World) (r : Nat) (A : Option Addr) (n c : Nat) (v : Value) (p : List UInt8) : Nat → Value → World → Prop
 | 0, _, w => Below W.heap.size W w
 | 1, u, w => u = v ∧ Below W.heap.size W w
 | _ + 2, u, w => u = S p ∧ RdrB w r A n c ∧ Fr (fun j => j = r) W w
section
variable {W : World} {r : Nat} {A : Option Addr} {n c : Nat} {v : Value} {p : List UInt8}
theorem dbJ.step : ∀ (k : Nat) (u : Value) (w w' : World), dbJ W r A n c v p k u w → Below w.heap.size w w' → dbJ W r A n c v p k u w'
 | 0, _, _, _, h, hb => bstep h hb
 | 1, _, _, _, ⟨e, h⟩, hb => ⟨e, bstep h hb⟩
 | _ + 2, _, _, _, ⟨e, h, hf⟩, hb => ⟨e, h.step hb, hf.step hb⟩
theorem dbJ.fr : ∀ (k : Nat) (u : Value) (w : World), dbJ W r A n c v p k u w → Fr (fun j => j = r) W w
 | 0, _, _, h => Fr.of_below h
 | 1, _, _, ⟨_, h⟩ => Fr.of_below h
 | _ + 2, _, _, ⟨_, _, hf⟩ => hf
end
theorem sl_convR {w : World} {o : Obj} {id : List UInt8} {r N : Nat} (hcell : ∀ (i : Nat) (x : UInt8), id[i]? = some x → (w.alloc o).cell? ⟨w.heap.size, i, none⟩ = some (U8 x)) (hr : r < N) (hN : N ≤ w.heap.size) :
  SlF (fun k => k = r) (w.drew.alloc o) 1 (some ⟨w.heap.size, 0, none⟩) id.length (u8s id) := by
 refine ⟨⟨by simp, fun _ => ⟨_, _, rfl, by simp, fun k hk => ?_⟩⟩, fun b off _ e hE => ?_⟩
 ·have hk' : k < id.length := by simpa using hk
  obtain ⟨x, hx⟩ : ∃ x, id[k]? = some x := ⟨id[k]'hk', List.getElem?_eq_getElem _⟩
  rw [Nat.zero_add]
  refine (hcell k x hx).trans ?_
  simp [hx]
 ·cases e
  omega
def db3Phi (N0 r c : Nat) (A : Option Addr) (p : List UInt8) : Nat → Value → World → Prop
 | 0, v, _ => v = .pointer (some ⟨r, 0, none⟩)
 | 1, v, _ => v = .pointer (some ⟨r, 0, none⟩)
 | 2, v, _ => v = .pointer (some ⟨r, 0, none⟩)
 | 3, v, _ => v = .pointer (some ⟨r, 0, none⟩)
 | 4, v, _ => v = .slice A p.length c
 | 5, v, _ => v = I ((p.length : Int))
 | 6, v, _ => v = S p
 | 7, v, w => ∃ (g c' : Nat), v = .slice (some ⟨g, 0, none⟩) p.length c' ∧ SlF (fun j => j = r) w 1 (some ⟨g, 0, none⟩) p.length (u8s p) ∧ N0 ≤ g
 | 8, v, w => ∃ (g c' : Nat), v = .agg #[.slice (some ⟨g, 0, none⟩) p.length c'] ∧ SlF (fun j => j = r) w 1 (some ⟨g, 0, none⟩) p.length (u8s p) ∧ N0 ≤ g
 | 9, v, w => ∃ (g c' : Nat), v = .iface 321 (.agg #[.slice (some ⟨g, 0, none⟩) p.length c']) ∧ SlF (fun j => j = r) w 1 (some ⟨g, 0, none⟩) p.length (u8s p) ∧ N0 ≤ g
 | _, _, _ => True
theorem db3Phi_mono {N0 r c : Nat} {A : Option Addr} {p : List UInt8} : ∀ (j : Nat) (v : Value) (w w' : World), db3Phi N0 r c A p j v w → Fr (fun j => j = r) w w' → db3Phi N0 r c A p j v w' := by
 intro j v w w' h hb9
 match j, h with
 | 0, h => exact h
 | 1, h => exact h
 | 2, h => exact h
 | 3, h => exact h
 | 4, h => exact h
 | 5, h => exact h
 | 6, h => exact h
 | 7, h => obtain ⟨g, c', h1, h2⟩ := h; exact ⟨g, c', h1, h2.1.fr hb9, h2.2⟩
 | 8, h => obtain ⟨g, c', h1, h2⟩ := h; exact ⟨g, c', h1, h2.1.fr hb9, h2.2⟩
 | 9, h => obtain ⟨g, c', h1, h2⟩ := h; exact ⟨g, c', h1, h2.1.fr hb9, h2.2⟩
 | (n + 10), _ => trivial
set_option maxHeartbeats 4000000 in
set_option maxRecDepth 100000 in
theorem obody_blob (r n c : Nat) (A : Option Addr) (p : List UInt8) (w : World) (hr : RdrB w r A n c) (hA : Sl w 1 A n (u8s p)) (hc : n ≤ c) (hn : n ≤ 1000000000) :
  Calls Tryz.prog 256 #[.pointer (some ⟨r, 0, none⟩), I 1] w fun e w' => (∃ (g c' : Nat), e = .returned (.iface 321 (.agg #[.slice (some ⟨g, 0, none⟩) n c'])) ∧ SlF (fun j => j = r) w' 1 (some ⟨g, 0, none⟩) n (u8s p) ∧ w.heap.size ≤ g) ∧ RdrB w' r (cutA A c n 1) 0 (c - n) ∧ Fr (fun j => j = r) w w' := by
 obtain rfl : p.length = n := u8s_len hA
 obtain ⟨g2, hg2⟩ : ∃ g2, g2 = w.heap.size := ⟨_, rfl⟩
 obtain ⟨W, hW⟩ : ∃ W, W = w.alloc (.cells #[.pointer (some ⟨r, 0, none⟩)] 358) := ⟨_, rfl⟩
 have bW : Below w.heap.size w W := by rw [hW]; exact balloc (Below.refl _ w) _
 have HB2 : Hid (Blk W g2 358 #[.pointer (some ⟨r, 0, none⟩)]) := Lib.hid (by rw [hW, hg2]; exact Blk.new w _ _)
 have HR := Lib.hid (hr.step bW)
 have HA := Lib.hid (hA.below bW)
 have BW := Lib.hid bW
 have HrW : Hid (r < W.heap.size) := Lib.hid HR.out.lt
 have Hg2 : Hid (¬ g2 = r) := Lib.hid (fun e => by have h1 := hr.lt; omega)
 have HW := Lib.hid hW
 have HG2 := Lib.hid hg2
 have CB : Hid (∀ V, Below W.heap.size W V → Calls Tryz.prog 307 #[.pointer (some ⟨r, 0, none⟩), I (p.length : Int)] V fun e w' => e = .returned (S p) ∧ RdrB w' r (cutA A c p.length 1) 0 (c - p.length) ∧ Fr (fun j => j = r) V w') := Lib.hid (fun V hV => by
  have h1 := obytes_any r p.length c p.length A p V (HR.out.step hV) (HA.out.below hV) (Nat.le_refl _) hc hn
  rw [List.take_length, Nat.sub_self] at h1
  exact h1)
 clear hr hA bW hW hg2
 go_enter Tryz.func256, Tryz.ntmps256
 go_wp2
 simp only [← HG2.out]
 rw [← HW.out]
 refine wp_region_chainG (by kernel_rfl) 10 (by kernel_rfl) ?_ [4, 6] (by kernel_rfl) (fun w w' => Fr (fun j => j = r) w w') (fun _ _ hb => Fr.of_below hb) (db3Phi W.heap.size r c A p) db3Phi_mono (dbJ W r (cutA A c p.length 1) 0 (c - p.length) (.slice A p.length c) p) dbJ.step ⟨undef, below_drewN (Below.refl _ W) 1⟩ (fun i9 o9 hi hiC ho a w jj u hj hs hm => ?_) (fun t i9 o9 ht ho a w u hj hs hm => ?_) (fun o9 ho a w9 u hj hu hs hm => ?_)
 ·exact dst_ltC2 (n := 50) (by kernel_rfl)
 ·have hfr := dbJ.fr _ _ _ hj
  exact match i9, hi, hiC, ho with
   | 0, _, _, ho => by
     cases ho
     rw [if_pos (wanted_none _ rfl)]
     have hx : w.cell? ⟨g2, 0, none⟩ = some (.pointer (some ⟨r, 0, none⟩)) := (hfr.blk HB2.out Hg2.out).cell 0; refine wp_value (st_load rfl ((hs.keeps (by kernel_rfl)).trans rfl) (by go_simp)) ⟨_, rfl, rfl, Below.refl _ _⟩
   | 1, _, _, ho => by
     cases ho
     rw [if_pos (wanted_none _ rfl)]
     have hx : w.cell? ⟨g2, 0, none⟩ = some (.pointer (some ⟨r, 0, none⟩)) := (hfr.blk HB2.out Hg2.out).cell 0; refine wp_value (st_load rfl ((hs.keeps (by kernel_rfl)).trans rfl) (by go_simp)) ⟨_, rfl, rfl, Below.refl _ _⟩
   | 2, _, _, ho => by
     cases ho
     rw [if_pos (wanted_none _ rfl)]
     refine wp_value (st_nil rfl (hm.get 1 11 (by kernel_rfl))) ⟨_, rfl, rfl, Below.refl _ _⟩
   | 3, _, _, ho => by
     cases ho
     rw [if_pos (wanted_none _ rfl)]
     refine wp_value (st_field rfl (hm.get 2 12 (by kernel_rfl)) (by kernel_rfl)) ⟨_, rfl, rfl, Below.refl _ _⟩
   | 4, _, hiC, _ => absurd (by decide) hiC
   | 5, _, _, ho => by
     cases ho
     rw [if_pos (wanted_none _ rfl)]
     have h1 := eval_getD (hm.get 4 14 (by kernel_rfl)); unfold Oper.wp; simp only [execOp]; go_simp; exact ⟨_, rfl, rfl, Below.refl _ _⟩
   | 6, _, hiC, _ => absurd (by decide) hiC
   | 7, _, _, ho => by
     cases ho
     rw [if_pos (wanted_none _ rfl)]
     have h1 := eval_getD (hm.get 6 16 (by kernel_rfl)); have hge := hfr.size; obtain ⟨cc, ob, hrun, hcell⟩ := conv_bytes w p; have hsl := sl_convR hcell HrW.out hge; unfold Oper.wp; simp only [execOp]; go_simp; exact ⟨_, rfl, ⟨_, _, rfl, hsl, hge⟩, balloc (Below.refl _ w).drew ob⟩
   | 8, _, _, ho => by
     cases ho
     rw [if_pos (wanted_none _ rfl)]
     refine Exists.elim (show ∃ (g c' : Nat), a.eval (.tmp 17) = .slice (some ⟨g, 0, none⟩) p.length c' ∧ SlF (fun j => j = r) w 1 (some ⟨g, 0, none⟩) p.length (u8s p) ∧ W.heap.size ≤ g from (hm.get 7 17 (by kernel_rfl))) fun g h8 => ?_; refine Exists.elim h8 fun c' h9 => ?_; have h1 := eval_getD h9.1; unfold Oper.wp; simp only [execOp]; go_simp; exact ⟨_, rfl, ⟨g, c', rfl, h9.2⟩, Below.refl _ _⟩
   | 9, _, _, ho => by
     cases ho
     rw [if_pos (wanted_none _ rfl)]
     refine Exists.elim (show ∃ (g c' : Nat), a.eval (.tmp 18) = .agg #[.slice (some ⟨g, 0, none⟩) p.length c'] ∧ SlF (fun j => j = r) w 1 (some ⟨g, 0, none⟩) p.length (u8s p) ∧ W.heap.size ≤ g from (hm.get 8 18 (by kernel_rfl))) fun g h8 => ?_; refine Exists.elim h8 fun c' h9 => ?_; have h1 := eval_getD h9.1; unfold Oper.wp; simp only [execOp]; go_simp; exact ⟨_, rfl, ⟨g, c', rfl, h9.2⟩, Below.refl _ _⟩
   | (n + 10), hi, _, _ => absurd hi (by omega)

 ·exact match t, ht, hj with
  | 0, ht, hj => by
    cases ht
    cases ho
    refine ⟨wanted_none _ rfl, ?_⟩
    have y0 := (HR.out.step hj).cell
    have h1 := eval_getD (hm.get 3 13 (by kernel_rfl))
    unfold Oper.wp; simp only [execOp]; go_simp
    exact ⟨_, rfl, rfl, ⟨rfl, hj⟩, Fr.refl _ _⟩
  | 1, ht, hj => by
    cases ht
    cases ho
    refine ⟨wanted_none _ rfl, ?_⟩
    have h1 := eval_getD (hm.get 0 10 (by kernel_rfl))
    have h2 := eval_getD (hm.get 5 15 (by kernel_rfl))
    unfold Oper.wp; simp only [execOp]; go_simp
    refine (CB.out w hj.2).mono ?_
    rintro e w6 ⟨rfl, hR6, hf6⟩
    exact ⟨_, rfl, rfl, ⟨rfl, hR6, (Fr.of_below hj.2).trans hf6⟩, hf6⟩
  | (t + 2), ht, _ => by cases ht
 ·obtain ⟨rfl, hR9, hf9⟩ := hj
  refine Exists.elim (show ∃ (g c' : Nat), a.eval (.tmp 19) = .iface 321 (.agg #[.slice (some ⟨g, 0, none⟩) p.length c']) ∧ SlF (fun j => j = r) w9 1 (some ⟨g, 0, none⟩) p.length (u8s p) ∧ W.heap.size ≤ g by cases ho; exact hm.get 9 19 (by kernel_rfl)) fun g h8 => ?_
  refine Exists.elim h8 fun c' h9 => ?_
  have e19 := h9.1
  have H9 := Lib.hid (And.intro h9.2 (And.intro hR9 ((Fr.of_below BW.out).trans hf9)))
  have hfr := hs.frame [10, 11, 12, 13, 14, 15, 16, 17, 18, 19] (by kernel_rfl)
  cases ho
  rw [hfr]
  simp only [List.foldl_cons, List.foldl_nil, e19]
  clear hfr hs hm hu e19 h8 h9 hR9 hf9
  generalize a.eval (.tmp 10) = u10, a.eval (.tmp 11) = u11, a.eval (.tmp 12) = u12, a.eval (.tmp 13) = u13, a.eval (.tmp 14) = u14, a.eval (.tmp 15) = u15, a.eval (.tmp 16) = u16, a.eval (.tmp 17) = u17, a.eval (.tmp 18) = u18
  unfold Oper.wp
  simp only [execOp]
  go_simp
  clear a
  go_wp2
  go_ret
  exact ⟨⟨g, c', rfl, H9.out.1.1, Nat.le_trans BW.out.size H9.out.1.2⟩, H9.out.2⟩
theorem Tryz.infoRdr : (Tryz.prog.info? 360).map (fun i => (i.zero, i.size, i.bytes)) = some (some (.agg #[.slice none 0 0, I 0]), 2, 32) := by kernel_rfl
abbrev noObj : Array Value := #[I 0, .slice none 0 0, .slice none 0 0, S [], .slice none 0 0, S [], S [], S [], I 0, S []]
theorem res_obj {fn : Func} {p u : Tmp} (h : fn.results = #[.cell p 110, .tmp u]) (tmps : Array Value) (w : World) (g : Nat) (cs : Array Value)
  (hp : tmps.getD p undef = .pointer (some ⟨g, 0, none⟩)) (hg : Blk w g 110 cs) (hi : cs.size = 10) :
  (results fn tmps).run Tryz.prog w = .ok (.tuple #[.agg cs, tmps.getD u undef]) w := by
 have hp' : tmps[p]?.getD undef = .pointer (some ⟨g, 0, none⟩) := by simpa using hp
 have hl := run_loadVar_row (P := Tryz.prog) w g 110 110 cs (0, 0) _ hg Tryz.underlying110 rfl (by rw [hi]; kernel_rfl)
 simp [results, h, hp', asAddr, hl]
theorem obj_set {w W : World} {g : Nat} {t : TypeId} (h : Blk w g t noObj) (v0 v1 v2 v3 v4 v5 v6 v7 v8 v9 : Value) (hW : (((((((((w.setCell ⟨g, 0, none⟩ v0).setCell ⟨g, 1, none⟩ v1).setCell ⟨g, 2, none⟩ v2).setCell ⟨g, 3, none⟩ v3).setCell ⟨g, 4, none⟩ v4).setCell ⟨g, 5, none⟩ v5).setCell ⟨g, 6, none⟩ v6).setCell ⟨g, 7, none⟩ v7).setCell ⟨g, 8, none⟩ v8).setCell ⟨g, 9, none⟩ v9 = W) :
  Blk W g t #[v0, v1, v2, v3, v4, v5, v6, v7, v8, v9] ∧ Fr (fun k => k = g) w W := by
 have st : ∀ {V : World} (i : Nat) (u : Value), Fr (fun k => k = g) w V → Fr (fun k => k = g) w (V.setCell ⟨g, i, none⟩ u) := fun i u hV => Fr.setCell (E := fun k => k = g) hV (p := ⟨g, i, none⟩) (show g = g from rfl) u
 subst hW
 refine ⟨?_, st 9 v9 (st 8 v8 (st 7 v7 (st 6 v6 (st 5 v5 (st 4 v4 (st 3 v3 (st 2 v2 (st 1 v1 (st 0 v0 (Fr.refl _ _))))))))))⟩
 have hb := (((((((((h.set_ 0 v0).set_ 1 v1).set_ 2 v2).set_ 3 v3).set_ 4 v4).set_ 5 v5).set_ 6 v6).set_ 7 v7).set_ 8 v8).set_ 9 v9
 simpa [noObj] using hb
set_option maxHeartbeats 8000000 in
set_option maxRecDepth 100000 in
theorem objDec_blob (A : Option Addr) (n c : Nat) (data : List UInt8) (w : World) (hA : Sl w 1 A n (u8s (1 :: data))) (hc : n ≤ c) (hd : data.length ≤ 1048576) :
  Calls Tryz.prog 205 #[.slice A n c] w fun e w' => (∃ (g c' : Nat), e = .returned (.tuple #[.agg (blobA (some ⟨g, 0, none⟩) data.length c'), I 0]) ∧ Sl w' 1 (some ⟨g, 0, none⟩) data.length (u8s data) ∧ w.heap.size ≤ g) ∧ Below w.heap.size w w' := by
 obtain ⟨i0, hi0, hz0, hz1, hz2⟩ := info_parts Tryz.infoRdr
 have hn : data.length + 1 = n := by have := u8s_len hA; simpa using this
 have HA := Lib.hid hA
 obtain ⟨bA, oA, hAe, hbA, _⟩ := hA.2 (by omega)
 subst hAe
 obtain ⟨g1, hg1⟩ : ∃ g1, g1 = w.heap.size := ⟨_, rfl⟩
 obtain ⟨w1, hw1⟩ : ∃ w1, w1 = w.alloc (.cells noObj 110) := ⟨_, rfl⟩
 obtain ⟨r, hr⟩ : ∃ r, r = g1 + 1 := ⟨_, rfl⟩
 obtain ⟨w2, hw2⟩ : ∃ w2, w2 = w1.alloc (.cells #[.slice (cutA (some ⟨bA, oA, none⟩) c 1 1) (n - 1) (c - 1), I 0] 360) := ⟨_, rfl⟩
 have b1 : Below w.heap.size w w1 := by rw [hw1]; exact balloc (Below.refl _ w) _
 have b2 : Below w.heap.size w w2 := by rw [hw2]; exact balloc b1 _
 have hs1 : w1.heap.size = g1 + 1 := by rw [hw1, hg1]; simp
 have HG1 : Hid (Blk w2 g1 110 noObj) := Lib.hid (by rw [hw2]; exact (show Blk w1 g1 _ _ by rw [hw1, hg1]; exact Blk.new w _ _).step (balloc (Below.refl _ _) _))
 have HR : Hid (RdrB w2 r (cutA (some ⟨bA, oA, none⟩) c 1 1) (n - 1) (c - 1)) := Lib.hid (by rw [hw2, hr, ← hs1]; exact Blk.new w1 _ _)
 have HT : Hid (Sl w2 1 (cutA (some ⟨bA, oA, none⟩) c 1 1) (n - 1) (u8s data)) := Lib.hid ((HA.out.below b2).tail_ (f := U8) (l := 1 :: data) (k := 1) (by omega) hc)
 have kd : ∀ V : World, (Instr.slice 27 (.slice (some ⟨bA, oA, none⟩) n c) (some (.int .i64 1)) none none).run Tryz.prog V = .ok (.slice (cutA (some ⟨bA, oA, none⟩) c 1 1) (n - 1) (c - 1)) V := fun V => run_cut_l (P := Tryz.prog) V Tryz.underlying27 Tryz.sizeU8 _ n c .i64 1 (by omega)
 have B2 := Lib.hid b2
 have hz : ((n : Int) == 0) = false := beq_eq_false_iff_ne.2 (by omega)
 have y0 : ∀ V : World, Below w.heap.size w V → V.cell? ⟨bA, oA, none⟩ = some (U8 1) := fun V hV => by
  obtain ⟨b', o', x, e1, e2, e3⟩ := (HA.out.below hV).byte (k := 0) (by omega)
  cases e1
  rw [Nat.add_zero] at e3
  simp at e2
  rw [e3, ← e2]
 have y2 := y0 w2 b2
 have Hg1 := Lib.hid hg1
 have Hw1 := Lib.hid hw1
 have Hw2 := Lib.hid hw2
 have Hr := Lib.hid hr
 have Hs1 := Lib.hid hs1
 clear hA b1 b2 hg1 hw1 hr hw2 hs1 y0
 have y2' : ((w.alloc (.cells noObj 110)).alloc (.cells #[.slice (cutA (some ⟨bA, oA, none⟩) c 1 1) (n - 1) (c - 1), I 0] 360)).cell? ⟨bA, oA, none⟩ = some (U8 1) := by rw [← Hw1.out, ← Hw2.out]; exact y2
 go_enter Tryz.func205, Tryz.ntmps205
 go_wp2_with fail
 simp only [← Hg1.out]
 simp only [← Hr.out]
 rw [← Hw1.out, ← Hw2.out]
 have CB := Lib.hid (obody_blob r (n - 1) (c - 1) (cutA (some ⟨bA, oA, none⟩) c 1 1) data w2 HR.out HT.out (by omega) (by omega))
 clear y2 y2' kd hz
 refine CB.out.mono ?_
 rintro e w3 ⟨⟨g, c', rfl, hS, hgl⟩, hR3, hf3⟩
 have HS3 := Lib.hid hS.1
 have Hgl : Hid (g ≠ g1) := Lib.hid (by have h1 := HG1.out.lt; omega)
 have Hglo : Hid (w.heap.size ≤ g) := Lib.hid (Nat.le_trans B2.out.size hgl)
 have HR3 := Lib.hid hR3
 have B3 : Hid (Below w.heap.size w w3) := Lib.hid (B2.out.trans (hf3.below B2.out.size (fun k e => by have := Hr.out; have := Hg1.out; omega)))
 have HG3 : Hid (Blk w3 g1 110 noObj) := Lib.hid (hf3.blk HG1.out (by have := Hr.out; omega))
 have CM := Lib.hid (objMade_blob (some ⟨g, 0, none⟩) (n - 1) c' w3)
 clear hS hgl hR3 hf3 CB
 go_wp2_with fail
 refine CM.out.mono ?_
 rintro e w4 ⟨rfl, b4⟩
 obtain ⟨g5, hg5⟩ : ∃ g5, g5 = w4.heap.size := ⟨_, rfl⟩
 obtain ⟨w5, hw5⟩ : ∃ w5, w5 = w4.alloc (.cells (blobA (some ⟨g, 0, none⟩) (n - 1) c') 110) := ⟨_, rfl⟩
 have b5 : Below w3.heap.size w3 w5 := by rw [hw5]; exact balloc b4 _
 have HG5 : Hid (Blk w5 g5 110 (blobA (some ⟨g, 0, none⟩) (n - 1) c')) := Lib.hid (by rw [hw5, hg5]; exact Blk.new w4 _ _)
 have B5 := Lib.hid (bstep B3.out b5)
 have HS5 := Lib.hid (HS3.out.below b5)
 have HR5 := Lib.hid (HR3.out.step b5)
 have HG51 := Lib.hid (HG3.out.step b5)
 have CE := Lib.hid (objEnc_ok (some ⟨g, 0, none⟩) (n - 1) c' data w5 HS5.out (by omega))
 have Hg5 := Lib.hid hg5
 have Hw5 := Lib.hid hw5
 clear b4 b5 CM hg5 hw5
 go_wp2_with fail
 simp only [← Hg5.out]
 rw [← Hw5.out]
 refine CE.out.mono ?_
 rintro e w6 ⟨A6, c6, rfl, hO6⟩
 have HO6 := Lib.hid hO6
 have B6 := Lib.hid (bstep B5.out hO6.2)
 have HR6 := Lib.hid (HR5.out.step hO6.2)
 have y6 := HR6.out.cell
 have CQ := Lib.hid (equalB_any A6 (some ⟨bA, oA, none⟩) (1 + (n - 1)) n c6 c ([1] ++ data) (1 :: data) w6 hO6.sl (HA.out.below B6.out) (by omega))
 rw [show decide ([1] ++ data = 1 :: data) = true from decide_eq_true rfl] at CQ
 clear hO6 CE
 go_wp2_with fail
 refine CQ.out.mono ?_
 rintro e w7 ⟨rfl, q, rfl⟩
 have b7 : Below w6.heap.size w6 (w6.drewN q) := below_drewN (Below.refl _ _) q
 have B7 := Lib.hid (bstep B6.out b7)
 have HG7 := Lib.hid ((HG51.out.step HO6.out.2).step b7)
 have HG57 := Lib.hid ((HG5.out.step HO6.out.2).step b7)
 have HS7 := Lib.hid ((HS5.out.below HO6.out.2).below b7)
 obtain ⟨w7, hw7⟩ : ∃ w7, w7 = w6.drewN q := ⟨_, rfl⟩
 rw [← hw7] at B7 HG7 HG57 HS7 ⊢
 have z1 := HG7.out.cell
 have f1 := HG7.out.frozen
 have z5 := HG57.out.cell
 clear b7 hw7 CQ y6
 go_wp2
 generalize hW9 : ((((((((((w7.setCell ⟨g1, 0, none⟩ (Value.int .i64 1)).setCell ⟨g1, 1, none⟩ (Value.slice (some ⟨g, 0, none⟩) (n - 1) c')).setCell ⟨g1, 2, none⟩ (Value.slice none 0 0)).setCell ⟨g1, 3, none⟩ (Value.string ⟨#[]⟩)).setCell ⟨g1, 4, none⟩ (Value.slice none 0 0)).setCell ⟨g1, 5, none⟩ (Value.string ⟨#[]⟩)).setCell ⟨g1, 6, none⟩ (Value.string ⟨#[]⟩)).setCell ⟨g1, 7, none⟩ (Value.string ⟨#[]⟩)).setCell ⟨g1, 8, none⟩ (Value.int .i64 0)).setCell ⟨g1, 9, none⟩ (Value.string ⟨#[]⟩)) = W9
 have H9 := Lib.hid (obj_set HG7.out _ _ _ _ _ _ _ _ _ _ hW9)
 have hSF : SlF (fun k => k = g1) w7 1 (some ⟨g, 0, none⟩) (n - 1) (u8s data) := ⟨HS7.out, fun b off _ e hE => by cases e; exact Hgl.out hE⟩
 have HSF := Lib.hid hSF
 clear hW9 hSF z1 f1 z5
 refine bodyPost_ret (res_obj (fn := Tryz.f205) (p := 2) (u := 3) rfl _ W9 g1 (blobA (some ⟨g, 0, none⟩) (n - 1) c') rfl H9.out.1 rfl) rfl ?_
 refine ⟨⟨g, c', by rw [show n - 1 = data.length by omega]; rfl, ?_, Hglo.out⟩, ?_⟩
 ·have h1 := (HSF.out.fr H9.out.2).1
  rw [show n - 1 = data.length by omega] at h1
  exact h1
 ·exact B7.out.trans (H9.out.2.below B7.out.size (fun k e => by rw [e, Hg1.out]; exact Nat.le_refl _))
end Go.Proofs.YtphnfcgdpdimbaaGreatDoor
