/-
  Texts merged: TreeRd, TreeBody, TreeMany, TreeDec, TreeStore. What each law says and asks stands at its head.
-/
import Derived.Test.YtcednfmkiaelnaaGreatDoorTKitTa
import Derived.Test.YtcednfmkiaelnaaGreatDoorTKitDe
import Derived.Test.YtcednfmkiaelnaaGreatDoorTKitTk
import Derived.Test.YtcednfmkiaelnaaGreatDoorTKitM
import Derived.Test.YtcednfmkiaelnaaGreatDoorTKitSt
namespace Go.Proofs.YtcednfmkiaelnaaGreatDoor
open Go.RowKit
def RdO (w : World) (W0 r : Nat) (bs : List UInt8) : Prop := ∃ A n c, RdrB w r A n c ∧ Sl w 1 A n (u8s bs) ∧ n ≤ c ∧ n ≤ 1000000000 ∧ (0 < n → ∀ a, A = some a → a.block < W0 ∨ BlkT w a.block 5) ∧ W0 ≤ r
section
variable {w w' : World} {W0 r : Nat} {bs : List UInt8}
theorem RdO.lt (h : RdO w W0 r bs) : r < w.heap.size := by obtain ⟨A, n, c, hB, _⟩ := h; exact hB.lt
theorem RdO.step (h : RdO w W0 r bs) (hb : Below w.heap.size w w') : RdO w' W0 r bs := by
 obtain ⟨A, n, c, hB, hS, hc, hn, hA, hW⟩ := h
 exact ⟨A, n, c, hB.step hb, hS.below hb, hc, hn, fun h0 a ha => (hA h0 a ha).imp (fun h => h) (fun h => h.step hb), hW⟩
theorem RdO.far {E : Nat → Prop} (h : RdO w W0 r bs) (hF : Fr E w w') (hE : ∀ k, E k → W0 ≤ k ∧ k ≠ r ∧ ¬ BlkT w k 5) : RdO w' W0 r bs := by
 obtain ⟨A, n, c, hB, hS, hc, hn, hA, hW⟩ := h
 have hno : ∀ b off, 0 < n → A = some ⟨b, off, none⟩ → ¬ E b := fun b off h0 ha hb => by
  obtain ⟨h1, _, h3⟩ := hE b hb
  rcases hA h0 _ ha with h4 | h4
  ·simp only at h4; omega
  ·exact h3 h4
 refine ⟨A, n, c, hF.blk hB (fun e => (hE r e).2.1 rfl), (SlF.fr ⟨hS, hno⟩ hF).1, hc, hn, fun h0 a ha => ?_, hW⟩
 obtain ⟨b, off, e, hb, _⟩ := hS.2 h0
 rw [ha] at e
 cases e
 refine (hA h0 _ ha).imp (fun h => h) (fun h => ?_)
 obtain ⟨cs, fr, h⟩ := h
 exact ⟨cs, fr, by rw [hF.block b hb (hno b off h0 ha)]; exact h⟩
end
def RetO2 (w : World) (W0 r : Nat) (v : Value) (bs : List UInt8) (e : Ending) (w' : World) : Prop := e = .returned v ∧ RdO w' W0 r bs ∧ Fr (fun j => j = r) w w'
theorem obytes_ok {w : World} {W0 r : Nat} {bs : List UInt8} (h : RdO w W0 r bs) {k : Nat} (hk : k ≤ bs.length) :
  Calls Tryz.prog 201 #[.pointer (some ⟨r, 0, none⟩), I (k : Int)] w (RetO2 w W0 r (S (bs.take k)) (bs.drop k)) := by
 obtain ⟨A, n, c, hB, hS, hc, hn, hA, hW⟩ := h
 have hl := u8s_len hS
 refine (obytes_any r n c k A bs w hB hS (by omega) hc hn).mono ?_
 rintro e w' ⟨rfl, hB', hF⟩
 have hrn : 0 < n → ∀ a, A = some a → ¬ a.block = r := fun h0 a ha => by
  rcases hA h0 a ha with h1 | h1
  ·omega
  ·exact h1.ne_ hB (by decide)
 have hSF : SlF (fun j => j = r) w 1 A n (u8s bs) := ⟨hS, fun b off h0 e => hrn h0 _ e⟩
 refine ⟨rfl, ⟨_, _, _, hB', ?_, by omega, by omega, fun h0 a ha => ?_, hW⟩, hF⟩
 ·have h1 := (hSF.fr hF).1.tail_ (f := U8) (l := bs) (k := k) (c := c) (by omega) hc
  simpa [u8s] using h1
 ·obtain ⟨a0, e0, e1⟩ := cutA_blk ha
  rw [e1]
  refine (hA (by omega) a0 e0).imp (fun h => h) (fun h => ?_)
  obtain ⟨b, off, e2, hlt, _⟩ := hS.2 (by omega)
  rw [e0] at e2
  cases e2
  obtain ⟨cs, fr, h⟩ := h
  exact ⟨cs, fr, by rw [hF.block b hlt (hrn (by omega) _ e0)]; exact h⟩
set_option maxHeartbeats 1000000 in
set_option maxRecDepth 100000 in
theorem onum_ok {w : World} {W0 r v : Nat} {bs rest : List UInt8} (h : RdO w W0 r bs) (ht : takeNum bs = some (v, rest)) :
  Calls Tryz.prog 266 #[.pointer (some ⟨r, 0, none⟩)] w (RetO2 w W0 r (I (v : Int)) rest) := by
 obtain ⟨A, n, c, hB, hS, hc, hn, hA, hW⟩ := h
 have hl := u8s_len hS
 have HB := Lib.hid hB
 have r0 := hB.cell
 have r1 := hB.frozen
 have hlt := hB.lt
 clear hB
 go_enter Tryz.func266, Tryz.ntmps266
 go_wp2_with fail
 refine (takeNum_any A n c bs _ hS hc (by omega)).mono ?_
 rintro e w1 (⟨v', rest', A1, m1, c1, ht', rfl, ho⟩ | ⟨ht', rfl, hb⟩)
 ·rw [ht] at ht'
  cases ht'
  have hB1 := HB.out.step ho.2
  have s0 := hB1.cell
  have s1 := hB1.frozen
  have HO := Lib.hid ho
  have HB1 := Lib.hid hB1
  have hmle := Lib.hid (show m1 ≤ 1000000000 by
   have h1 := ow_len ho
   have h2 := takeNum_len ht
   omega)
  clear ht ho hB1 r0 r1 hS
  go_wp2
  go_ret
  refine ⟨rfl, ?_, ((Fr.of_below (E := fun k => k = r) HO.out.2).setCell (p := ⟨r, 0, none⟩) rfl _).setCell (p := ⟨r, 1, none⟩) rfl _⟩
  have hf : ∀ b off, 0 < m1 → A1 = some ⟨b, off, none⟩ → ¬ b = r := fun b off _ ha => by have := HO.out.blk ha; simp only at this; omega
  exact ⟨A1, m1, c1, (HB1.out.set_ 0 _).set_ 1 _, (SlF.fr (SlF.fr ⟨HO.out.sl, hf⟩ (Fr.setCell (E := fun k => k = r) (Fr.refl _ _) (p := ⟨r, 0, none⟩) rfl _)) (Fr.setCell (E := fun k => k = r) (Fr.refl _ _) (p := ⟨r, 1, none⟩) rfl _)).1, HO.out.cap.1, hmle.out, fun _ a ha => .inr (((HO.out.blkT ha).set_ _ _).set_ _ _), hW⟩
 ·rw [ht] at ht'
  cases ht'
set_option maxHeartbeats 1000000 in
set_option maxRecDepth 100000 in
theorem otext_ok {w : World} {W0 r : Nat} {bs s rest : List UInt8} (h : RdO w W0 r bs) (ht : takeText bs 1048576 = some (s, rest)) (hrl : rest.length ≤ bs.length) :
  Calls Tryz.prog 204 #[.pointer (some ⟨r, 0, none⟩)] w (RetO2 w W0 r (S s) rest) := by
 obtain ⟨A, n, c, hB, hS, hc, hn, hA, hW⟩ := h
 have hl := u8s_len hS
 have HB := Lib.hid hB
 have r0 := hB.cell
 have r1 := hB.frozen
 have hlt := hB.lt
 clear hB
 go_enter Tryz.func204, Tryz.ntmps204
 go_wp2_with fail
 refine (takeText_any A n c 1048576 bs _ hS hc (by omega)).mono ?_
 rintro e w1 (⟨t, rest', A1, m1, c1, ht', rfl, hS1, hc1, hblk, hb⟩ | ⟨ht', rfl, hb⟩)
 ·rw [ht] at ht'
  cases ht'
  have hB1 := HB.out.step hb
  have s0 := hB1.cell
  have s1 := hB1.frozen
  have Hb := Lib.hid hb
  have HS1 := Lib.hid hS1
  have HB1 := Lib.hid hB1
  have hf : ∀ b off, 0 < m1 → A1 = some ⟨b, off, none⟩ → ¬ b = r := fun b off _ ha => (hblk _ ha).ne_ hB1 (by decide)
  have Hf := Lib.hid hf
  have Hblk := Lib.hid hblk
  have hmle := Lib.hid (show m1 ≤ 1000000000 by
   have h1 := u8s_len hS1
   omega)
  clear ht hb hS1 hB1 r0 r1 hS hf hblk
  go_wp2
  go_ret
  refine ⟨rfl, ?_, ((Fr.of_below (E := fun k => k = r) Hb.out).setCell (p := ⟨r, 0, none⟩) rfl _).setCell (p := ⟨r, 1, none⟩) rfl _⟩
  exact ⟨A1, m1, c1, (HB1.out.set_ 0 _).set_ 1 _, (SlF.fr (SlF.fr ⟨HS1.out, Hf.out⟩ (Fr.setCell (E := fun k => k = r) (Fr.refl _ _) (p := ⟨r, 0, none⟩) rfl _)) (Fr.setCell (E := fun k => k = r) (Fr.refl _ _) (p := ⟨r, 1, none⟩) rfl _)).1, hc1, hmle.out, fun _ a ha => .inr (((Hblk.out a ha).set_ _ _).set_ _ _), hW⟩
 ·rw [ht] at ht'
  cases ht'
theorem Tryz.infoEnt3 : (Tryz.prog.info? 129).map (fun i => (i.zero, i.size, i.bytes)) = some (some (.agg #[S [], .bool false, S []]), 3, 40) := by kernel_rfl
theorem Ow.fr {E : Nat → Prop} {w0 w w' : World} {sz n c : Nat} {e : TypeId} {A : Option Addr} {xs : List Value} (h : Ow w0 w e sz A n c xs) (hF : Fr E w w') (hE : ∀ k, E k → w0.heap.size ≤ k ∧ some k ≠ (Value.slice A n c).ownBlock) : Ow w0 w' e sz A n c xs := by
 refine ⟨⟨h.1.1, ?_⟩, h.2.trans (hF.below h.2.size (fun k hk => (hE k hk).1))⟩
 rcases h.1.2 with h2 | ⟨g, cap, cur, hv, hg, hh, r⟩
 ·exact .inl h2
 ·have hne : ¬ E g := fun hk => (hE g hk).2 (by rw [hv]; rfl)
  exact .inr ⟨g, cap, cur, hv, hg, (hF.block g (Array.getElem?_eq_some_iff.1 hh).1 hne).trans hh, r⟩
theorem of_wanted {ops : Array Oper} {o : Oper} {a : Act} {X : Prop} (hg : o.guard = none) (h : if Region.wanted o (yielded ops a.tmps) = true then X else True) : X := by rwa [if_pos (wanted_none _ hg)] at h
def tbE (r : Nat) (A : Option Addr) (n c : Nat) (k : Nat) : Prop := k = r ∨ (Value.slice A n c).ownBlock = some k
theorem one_ent {E : Nat → Prop} (w : World) (nm id : List UInt8) (dr : Bool) (hE : ¬ E w.heap.size) : SlF E (w.alloc (.cells #[S nm, .bool dr, S id] 129)) 3 (some ⟨w.heap.size, 0, none⟩) 1 (enC (nm, dr, id)) := by
 have h := (Blk.new w 129 #[S nm, .bool dr, S id]).cell
 refine ⟨⟨rfl, fun _ => ⟨_, _, rfl, by simp, fun k hk => ?_⟩⟩, fun b off _ e => by cases e; exact hE⟩
 rw [Nat.zero_add, h k]
 match k, hk with
 | 0, _ => rfl
 | 1, _ => rfl
 | 2, _ => rfl
def Keep3 (w w' : World) : Prop := ∀ (q : Nat) (T : TypeId) (cs : Array Value), T ≠ 228 → T ≠ 129 → T ≠ 266 → Blk w q T cs → Blk w' q T cs
def TB (w0 w : World) (t p r : Nat) (es : List Ent3) : Prop := ∃ A n c, Blk w t 266 #[.slice A n c] ∧ Ow w0 w 129 3 A n c (ens es) ∧ Blk w p 226 #[.pointer (some ⟨r, 0, none⟩)] ∧ w0.heap.size ≤ t
def tbPhi (r n c t : Nat) (A : Option Addr) (nm id : List UInt8) (dr : Bool) (z : UInt8) : Nat → Value → World → Prop
 | 0, v, _ => v = .pointer (some ⟨t, 0, none⟩)
 | 1, v, _ => v = .slice A n c
 | 2, v, _ => v = .pointer (some ⟨r, 0, none⟩)
 | 3, v, _ => v = S nm
 | 4, v, _ => v = .pointer (some ⟨r, 0, none⟩)
 | 5, v, _ => v = S [z]
 | 6, v, _ => v = .bool dr
 | 7, v, _ => v = .pointer (some ⟨r, 0, none⟩)
 | 8, v, _ => v = S id
 | 9, v, _ => v = .agg #[S nm, .bool dr, S id]
 | 10, v, w => ∃ (g : Nat), v = .slice (some ⟨g, 0, none⟩) 1 1 ∧ SlF (tbE r A n c) w 3 (some ⟨g, 0, none⟩) 1 (enC (nm, dr, id))
 | 11, v, _ => ∃ (A' : Option Addr) (c' : Nat), v = .slice A' (n + 1) c'
 | 12, v, _ => v = .pointer (some ⟨t, 0, none⟩)
 | _, _, _ => True
theorem tbPhi_mono {r n c t : Nat} {A : Option Addr} {nm id : List UInt8} {dr : Bool} {z : UInt8} : ∀ (j : Nat) (v : Value) (w w' : World), tbPhi r n c t A nm id dr z j v w → Fr (tbE r A n c) w w' → tbPhi r n c t A nm id dr z j v w' := by
 intro j v w w' h hb9
 match j, h with
 | 0, h => exact h
 | 1, h => exact h
 | 2, h => exact h
 | 3, h => exact h
 | 4, h => exact h
 | 5, h => exact h
 | 6, h => exact h
 | 7, h => exact h
 | 8, h => exact h
 | 9, h => exact h
 | 10, h => obtain ⟨g, h1, h2⟩ := h; exact ⟨g, h1, h2.fr hb9⟩
 | 11, h => exact h
 | 12, h => exact h
 | (n + 13), _ => trivial
def tbJ (w0 W : World) (r n c : Nat) (A : Option Addr) (nm id rest : List UInt8) (z : UInt8) (es' : List Ent3) : Nat → Value → World → Prop
 | 0, _, w => Below W.heap.size W w
 | 1, u, w => u = S nm ∧ RdO w w0.heap.size r (z :: (id ++ rest)) ∧ Fr (fun k => k = r) W w
 | 2, u, w => u = S [z] ∧ RdO w w0.heap.size r (id ++ rest) ∧ Fr (fun k => k = r) W w
 | 3, u, w => u = S id ∧ RdO w w0.heap.size r rest ∧ Fr (fun k => k = r) W w
 | _ + 4, u, w => (∃ A' c', u = .slice A' (n + 1) c' ∧ Ow w0 w 129 3 A' (n + 1) c' (ens es')) ∧ RdO w w0.heap.size r rest ∧ Fr (tbE r A n c) W w
section
variable {w0 W : World} {r n c : Nat} {A : Option Addr} {nm id rest : List UInt8} {z : UInt8} {es' : List Ent3}
theorem tbJ.step : ∀ (k : Nat) (u : Value) (w w' : World), tbJ w0 W r n c A nm id rest z es' k u w → Below w.heap.size w w' → tbJ w0 W r n c A nm id rest z es' k u w'
 | 0, _, _, _, h, hb => bstep h hb
 | 1, _, _, _, ⟨e, h, hf⟩, hb => ⟨e, h.step hb, hf.step hb⟩
 | 2, _, _, _, ⟨e, h, hf⟩, hb => ⟨e, h.step hb, hf.step hb⟩
 | 3, _, _, _, ⟨e, h, hf⟩, hb => ⟨e, h.step hb, hf.step hb⟩
 | _ + 4, _, _, _, ⟨⟨A', c', e, ho⟩, h, hf⟩, hb => ⟨⟨A', c', e, ho.keep hb⟩, h.step hb, hf.step hb⟩
theorem fr_weak {E F : Nat → Prop} {w w' : World} (h : Fr E w w') (hEF : ∀ k, E k → F k) : Fr F w w' := ⟨h.os, h.tape, h.output, h.size, fun i hi hn => h.block i hi (fun he => hn (hEF i he))⟩
theorem tbJ.fr : ∀ (k : Nat) (u : Value) (w : World), tbJ w0 W r n c A nm id rest z es' k u w → Fr (tbE r A n c) W w
 | 0, _, _, h => Fr.of_below h
 | 1, _, _, ⟨_, _, hf⟩ => fr_weak hf (fun _ h => .inl h)
 | 2, _, _, ⟨_, _, hf⟩ => fr_weak hf (fun _ h => .inl h)
 | 3, _, _, ⟨_, _, hf⟩ => fr_weak hf (fun _ h => .inl h)
 | _ + 4, _, _, ⟨_, _, hf⟩ => hf
end
set_option maxHeartbeats 8000000 in
set_option maxRecDepth 100000 in
theorem obody1_ok (w0 W : World) (t p r : Nat) (es : List Ent3) (nm id rest : List UInt8) (dr : Bool) (hT : TB w0 W t p r es) (hR : RdO W w0.heap.size r (layE (nm, dr, id) ++ rest)) (hi : id.length = 32) (hn : nm.length ≤ 100) (hes : es.length ≤ 1000000) :
  Calls Tryz.prog 203 #[.pointer (some ⟨t, 0, none⟩), .pointer (some ⟨p, 0, none⟩)] W fun e w' => e = .returned (.tuple #[]) ∧ TB w0 w' t p r (es ++ [(nm, dr, id)]) ∧ RdO w' w0.heap.size r rest ∧ Below w0.heap.size w0 w' ∧ Keep3 W w' := by
 obtain ⟨A, n, c, hBt, hO, hBp, hlo⟩ := hT
 obtain ⟨i0, hi0, hz0, hz1, hz2⟩ := info_parts Tryz.infoEnt3
 obtain ⟨z, hz⟩ : ∃ z : UInt8, z = if dr then 1 else 0 := ⟨_, rfl⟩
 have hl : n = es.length := (ens_count hO.sl).symm
 have Hz : Hid ((z == 1) = dr) := Lib.hid (by rw [hz]; cases dr <;> rfl)
 have Hlay : Hid (layE (nm, dr, id) ++ rest = (putNum nm.length ++ nm) ++ (z :: (id ++ rest))) := Lib.hid (by rw [hz]; unfold layE; cases dr <;> simp)
 have hR2 := hR
 obtain ⟨_, _, _, hRB, _⟩ := hR2
 have Htr : Hid (t ≠ r) := Lib.hid (fun e => by subst e; exact absurd (hBt.symm.trans hRB) (by simp))
 have Hpr : Hid (p ≠ r) := Lib.hid (fun e => by subst e; exact absurd (hBp.symm.trans hRB) (by simp))
 have Ht : Hid (¬ tbE r A n c t) := Lib.hid (fun h => h.elim Htr.out (fun h => row_ne hO hBt (by decide) h.symm))
 have Hp : Hid (¬ tbE r A n c p) := Lib.hid (fun h => h.elim Hpr.out (fun h => row_ne hO hBp (by decide) h.symm))
 have HEW : Hid (∀ k, tbE r A n c k → k < W.heap.size) := Lib.hid (fun k h => h.elim (fun h => h ▸ hR.lt) (fun h => by
  rcases hO.1.2 with ⟨hv, _⟩ | ⟨g, cap, cur, hv, hg, hh, _⟩
  ·rw [hv] at h; cases h
  ·rw [hv] at h
   cases h
   exact (Array.getElem?_eq_some_iff.1 hh).1))
 have HElo : Hid (∀ k, tbE r A n c k → w0.heap.size ≤ k) := Lib.hid (fun k h => h.elim (fun h => by rw [h]; obtain ⟨_, _, _, _, _, _, _, _, h9⟩ := hR; exact h9) (fun h => (hO.1.lt k h).1))
 have HErow : Hid (some r ≠ (Value.slice A n c).ownBlock) := Lib.hid (row_ne hO hRB (by decide))
 have HBt := Lib.hid hBt
 have HBp := Lib.hid hBp
 have HO := Lib.hid hO
 have HR := Lib.hid hR
 have Hlo := Lib.hid hlo
 have HKq : Hid (∀ (q : Nat) (T : TypeId) (cs : Array Value), T ≠ 228 → T ≠ 129 → Blk W q T cs → ¬ tbE r A n c q) := Lib.hid (fun q T cs h1 h2 hq h => h.elim (fun h => by
  subst h
  unfold RdrB Blk at hRB
  unfold Blk at hq
  rw [hq] at hRB
  injection hRB with hRB
  injection hRB with _ e
  exact h1 e) (fun h => row_ne hO hq (fun e => h2 e.symm) h.symm))
 have Hi := Lib.hid hi
 have hm1 : n + 1 ≤ maxLen := by simp only [maxLen]; omega
 have hm2 : (n + 1) * 40 ≤ 140737488355328 := by omega
 have Hl := Lib.hid hl
 clear hl
 have Htk : Hid (takeText (layE (nm, dr, id) ++ rest) 1048576 = some (nm, z :: (id ++ rest))) := Lib.hid (by
  rw [Hlay.out]
  unfold takeText
  rw [List.append_assoc, take_putN (by unfold top62; omega)]
  simp
  omega)
 have Hrl : Hid ((z :: (id ++ rest)).length ≤ (layE (nm, dr, id) ++ rest).length) := Lib.hid (by rw [Hlay.out]; simp; omega)
 clear hBt hBp hO hR hlo hi hz hRB
 go_enter Tryz.func203, Tryz.ntmps203
 go_wp2
 refine wp_region_chainG (by kernel_rfl) 13 (by kernel_rfl) ?_ [3, 5, 8, 11] (by kernel_rfl) (fun w w' => Fr (tbE r A n c) w w') (fun _ _ hb => Fr.of_below hb) (tbPhi r n c t A nm id dr z) tbPhi_mono (tbJ w0 W r n c A nm id rest z (es ++ [(nm, dr, id)])) tbJ.step ⟨undef, below_drewN (Below.refl _ W) 1⟩ (fun i9 o9 hi hiC ho a w jj u hj hs hm => ?_) (fun t9 i9 o9 ht ho a w u hj hs hm => ?_) (fun o9 ho a w9 u hj hu hs hm => ?_)
 ·exact dst_ltC2 (n := 15) (by kernel_rfl)
 ·have hfr := tbJ.fr _ _ _ hj
  exact match i9, hi, hiC, ho with
   | 0, _, _, ho => by
     cases ho
     rw [if_pos (wanted_none _ rfl)]
     refine wp_value (st_field rfl ((hs.keeps (by kernel_rfl)).trans rfl) (by kernel_rfl)) ⟨_, rfl, rfl, Below.refl _ _⟩
   | 1, _, _, ho => by
     cases ho
     rw [if_pos (wanted_none _ rfl)]
     have hx : w.cell? ⟨t, 0, none⟩ = some (.slice A n c) := (hfr.blk HBt.out Ht.out).cell 0; refine wp_value (st_load rfl (hm.get 0 2 (by kernel_rfl)) (by go_simp)) ⟨_, rfl, rfl, Below.refl _ _⟩
   | 2, _, _, ho => by
     cases ho
     rw [if_pos (wanted_none _ rfl)]
     have hx : w.cell? ⟨p, 0, none⟩ = some (.pointer (some ⟨r, 0, none⟩)) := (hfr.blk HBp.out Hp.out).cell 0; refine wp_value (st_load rfl ((hs.keeps (by kernel_rfl)).trans rfl) (by go_simp)) ⟨_, rfl, rfl, Below.refl _ _⟩
   | 3, _, hiC, _ => absurd (by decide) hiC
   | 4, _, _, ho => by
     cases ho
     rw [if_pos (wanted_none _ rfl)]
     have hx : w.cell? ⟨p, 0, none⟩ = some (.pointer (some ⟨r, 0, none⟩)) := (hfr.blk HBp.out Hp.out).cell 0; refine wp_value (st_load rfl ((hs.keeps (by kernel_rfl)).trans rfl) (by go_simp)) ⟨_, rfl, rfl, Below.refl _ _⟩
   | 5, _, hiC, _ => absurd (by decide) hiC
   | 6, _, _, ho => by
     cases ho
     rw [if_pos (wanted_none _ rfl)]
     have h1 := eval_getD (hm.get 5 7 (by kernel_rfl)); unfold Oper.wp; simp only [execOp]; go_simp; exact ⟨_, rfl, (show Value.bool _ = Value.bool _ by first | (rw [← Hz.out]; done) | (rw [Hz.out]; done) | (simp [Hz.out]; done)), Below.refl _ _⟩
   | 7, _, _, ho => by
     cases ho
     rw [if_pos (wanted_none _ rfl)]
     have hx : w.cell? ⟨p, 0, none⟩ = some (.pointer (some ⟨r, 0, none⟩)) := (hfr.blk HBp.out Hp.out).cell 0; refine wp_value (st_load rfl ((hs.keeps (by kernel_rfl)).trans rfl) (by go_simp)) ⟨_, rfl, rfl, Below.refl _ _⟩
   | 8, _, hiC, _ => absurd (by decide) hiC
   | 9, _, _, ho => by
     cases ho
     rw [if_pos (wanted_none _ rfl)]
     have h1 := eval_getD (hm.get 3 5 (by kernel_rfl)); have h2 := eval_getD (hm.get 6 8 (by kernel_rfl)); have h3 := eval_getD (hm.get 8 10 (by kernel_rfl)); unfold Oper.wp; simp only [execOp]; go_simp; exact ⟨_, rfl, rfl, Below.refl _ _⟩
   | 10, _, _, ho => by
     cases ho
     rw [if_pos (wanted_none _ rfl)]
     have h1 := eval_getD (hm.get 9 11 (by kernel_rfl)); unfold Oper.wp; simp only [execOp]; go_simp; exact ⟨_, rfl, ⟨w.heap.size, rfl, one_ent w nm id dr (fun hE => by have := HEW.out _ hE; have := hfr.size; omega)⟩, balloc (Below.refl _ w) _⟩
   | 11, _, hiC, _ => absurd (by decide) hiC
   | 12, _, _, ho => by
     cases ho
     rw [if_pos (wanted_none _ rfl)]
     refine wp_value (st_field rfl ((hs.keeps (by kernel_rfl)).trans rfl) (by kernel_rfl)) ⟨_, rfl, rfl, Below.refl _ _⟩
   | (n + 13), hi, _, _ => absurd hi (by omega)
 ·exact match t9, ht, hj with
  | 0, ht, hj => by
    cases ht
    cases ho
    refine ⟨wanted_none _ rfl, ?_⟩
    have h1 := eval_getD (hm.get 2 4 (by kernel_rfl))
    unfold Oper.wp; simp only [execOp]; go_simp
    refine (otext_ok (HR.out.step hj) Htk.out Hrl.out).mono ?_
    rintro e w6 ⟨rfl, hR6, hf6⟩
    exact ⟨_, rfl, rfl, ⟨rfl, hR6, (Fr.of_below hj).trans hf6⟩, fr_weak hf6 (fun _ h => .inl h)⟩
  | 1, ht, hj => by
    cases ht
    cases ho
    refine ⟨wanted_none _ rfl, ?_⟩
    have h1 := eval_getD (hm.get 4 6 (by kernel_rfl))
    unfold Oper.wp; simp only [execOp]; go_simp
    refine (obytes_ok (k := 1) hj.2.1 (by simp)).mono ?_
    rintro e w6 ⟨rfl, hR6, hf6⟩
    exact ⟨_, rfl, rfl, ⟨rfl, hR6, hj.2.2.trans hf6⟩, fr_weak hf6 (fun _ h => .inl h)⟩
  | 2, ht, hj => by
    cases ht
    cases ho
    refine ⟨wanted_none _ rfl, ?_⟩
    have h1 := eval_getD (hm.get 7 9 (by kernel_rfl))
    unfold Oper.wp; simp only [execOp]; go_simp
    refine (obytes_ok (k := 32) hj.2.1 (by have := Hi.out; simp; omega)).mono ?_
    rintro e w6 ⟨rfl, hR6, hf6⟩
    have e1 : (id ++ rest).take 32 = id := by rw [← Hi.out]; simp
    have e2 : (id ++ rest).drop 32 = rest := by rw [← Hi.out]; simp
    rw [e1]
    rw [e2] at hR6
    exact ⟨_, rfl, rfl, ⟨rfl, hR6, hj.2.2.trans hf6⟩, fr_weak hf6 (fun _ h => .inl h)⟩
  | 3, ht, hj => by
    cases ht
    cases ho
    refine ⟨wanted_none _ rfl, ?_⟩
    refine Exists.elim (show ∃ (g : Nat), a.eval (.tmp 12) = .slice (some ⟨g, 0, none⟩) 1 1 ∧ SlF (tbE r A n c) w 3 (some ⟨g, 0, none⟩) 1 (enC (nm, dr, id)) from hm.get 10 12 (by kernel_rfl)) fun g h9 => ?_
    have hO6 : Ow w0 w 129 3 A n c (ens es) := HO.out.fr hj.2.2 (fun k hk => by subst hk; exact ⟨HElo.out _ (.inl rfl), HErow.out⟩)
    refine of_wanted (ops := #[]) (a := a) rfl (step_append_row w rfl (.tmp 3) (.tmp 12) _ rfl w0.heap.size 129 i0 _ 3 40 Tryz.underlying94 hi0 hz0 hz1 hz2 rfl (by decide) A n c (ens es) (hm.get 1 3 (by kernel_rfl)) hO6.1 hO6.2.size (some ⟨g, 0, none⟩) 1 1 (enC (nm, dr, id)) h9.1 h9.2.1 (by have h0 := one_ens [(nm, dr, id)]; simpa [ens] using h0) hm1 hm2 ?_)
    intro A' c' w' hO7 hg7 hlo7
    have hF7 : Fr (tbE r A n c) w w' := ⟨hg7.os, hg7.tape, hg7.output, hg7.size, fun i hi hn => hg7.block i hi (fun e => hn (.inr e.symm))⟩
    have e7 : ens (es ++ [(nm, dr, id)]) = ens es ++ enC (nm, dr, id) := by rw [ens_append]; simp [ens]
    refine ⟨_, rfl, ⟨A', c', rfl⟩, ⟨⟨A', c', rfl, ?_⟩, ?_, (fr_weak hj.2.2 (fun _ h => .inl h)).trans hF7⟩, hF7⟩
    ·rw [e7]
     exact ⟨hO7, hO6.2.trans (hF7.below hO6.2.size (fun k hk => HElo.out k hk))⟩
    ·refine hj.2.1.far (E := fun k => (Value.slice A n c).ownBlock = some k) ⟨hg7.os, hg7.tape, hg7.output, hg7.size, fun i hi hn => hg7.block i hi (fun e => hn e.symm)⟩ (fun k hk => ⟨HElo.out k (.inr hk), fun e => HErow.out (by rw [← e]; exact hk.symm), fun hb => BlkT.ne_own hb hO6 (by decide) hk.symm⟩)
  | (t9 + 4), ht, _ => by cases ht
 ·obtain ⟨⟨A', c', hu1, hO9⟩, hR9, hf9⟩ := hj
  have e13 : a.eval (.tmp 13) = .slice A' (n + 1) c' := (hu 3 11 13 _ rfl rfl rfl rfl).trans hu1
  have e14 : a.eval (.tmp 14) = .pointer (some ⟨t, 0, none⟩) := by cases ho; exact hm.get 12 14 (by kernel_rfl)
  have HBt9 := Lib.hid (hf9.blk HBt.out Ht.out)
  have HBp9 := Lib.hid (hf9.blk HBp.out Hp.out)
  have r9 := HBt9.out.cell
  have fz9 := HBt9.out.frozen
  have HO9 := Lib.hid hO9
  have HR9 := Lib.hid hR9
  have hfr := hs.frame [2, 3, 4, 5, 6, 7, 8, 9, 10, 11, 12, 13, 14] (by kernel_rfl)
  cases ho
  rw [hfr]
  simp only [List.foldl_cons, List.foldl_nil, e13, e14]
  clear hfr hs hm hu e13 e14 hu1 hO9 hR9
  generalize a.eval (.tmp 2) = u2, a.eval (.tmp 3) = u3, a.eval (.tmp 4) = u4, a.eval (.tmp 5) = u5, a.eval (.tmp 6) = u6, a.eval (.tmp 7) = u7, a.eval (.tmp 8) = u8, a.eval (.tmp 9) = u9, a.eval (.tmp 10) = u10, a.eval (.tmp 11) = u11, a.eval (.tmp 12) = u12
  unfold Oper.wp
  simp only [execOp]
  go_simp
  clear a
  go_end0
  have hF : Fr (fun k => k = t) w9 (w9.setCell ⟨t, 0, none⟩ (.slice A' (n + 1) c')) := Fr.setCell (E := fun k => k = t) (Fr.refl _ w9) (p := ⟨t, 0, none⟩) (show t = t from rfl) _
  have hpt : p ≠ t := fun e => by
   have h1 := HBp9.out
   rw [e] at h1
   exact absurd (h1.symm.trans HBt9.out) (by simp)
  have hO' := HO9.out.far (p := ⟨t, 0, none⟩) (row_ne HO9.out HBt9.out (by decide)) Hlo.out (.slice A' (n + 1) c')
  exact ⟨rfl, ⟨A', n + 1, c', HBt9.out.set_ 0 _, hO', hF.blk HBp9.out hpt, Hlo.out⟩, HR9.out.far hF (fun k hk => by
   subst hk
   exact ⟨Hlo.out, Htr.out, fun hb => hb.ne_ HBt9.out (by decide) rfl⟩), hO'.2, fun q T cs h1 h2 h3 hq => by
    have hq9 := hf9.blk hq (HKq.out q T cs h1 h2 hq)
    refine hF.blk hq9 (fun e => ?_)
    subst e
    have h8 := HBt9.out
    unfold Blk at hq9 h8
    rw [hq9] at h8
    injection h8 with h8
    injection h8 with _ e
    exact h3 e⟩
set_option maxHeartbeats 4000000 in
set_option maxRecDepth 100000 in
theorem omany_ok (W0 r N : Nat) (g : FuncId) (lb : Array Value) (bs b1 : List UInt8) (w : World) (h : RdO w W0 r bs) (ht : takeNum bs = some (N, b1)) (hN : N ≤ 1000000000) (eg : ∀ args w, (callFunc g args).run Tryz.prog w = .ok (.enter g args) w) (P : Nat → World → Prop)
  (h0 : ∀ w', RdO w' W0 r b1 → Fr (fun k => k = r) w w' → P N w')
  (hP : ∀ k w, P k w → ∃ b, RdO w W0 r b)
  (hF : ∀ k W, P (k + 1) W → Calls Tryz.prog g lb W fun e W' => e = .returned (.tuple #[]) ∧ P k W') :
  Calls Tryz.prog 202 #[.pointer (some ⟨r, 0, none⟩), .func (.func g) #[] lb] w fun e w' => e = .returned (.tuple #[]) ∧ P 0 w' := by
 have H0 := Lib.hid h0
 have HP := Lib.hid hP
 have HF := Lib.hid hF
 have C1 := Lib.hid (onum_ok h ht)
 clear h h0 hP hF ht
 go_enter Tryz.func202, Tryz.ntmps202
 go_wp2_with fail
 refine C1.out.mono ?_
 rintro e w1 ⟨rfl, h1, f1⟩
 have H1 := Lib.hid (H0.out w1 h1 f1)
 clear h1 f1 C1 H0
 go_wp2
 go_loopw [4] (fun s4 wr => ∃ k : Nat, s4 = .int .i64 k ∧ Hid (k ≤ N) ∧ Hid (P k wr)) (fun s4 _ => (intOf s4).toNat)
 case atStart => exact ⟨N, rfl, Lib.hid (Nat.le_refl _), H1⟩
 case round =>
  obtain ⟨k, rfl, hk, hp⟩ := hrel
  have hkN := hk.out
  obtain ⟨b, A, n, c, hB, _⟩ := HP.out _ _ hp.out
  have rc := hB.cell
  clear hB
  rcases k with _ | k
  ·go_wp2
   go_end0
   exact ⟨rfl, hp.out⟩
  ·have C := Lib.hid (HF.out k wr hp.out)
   go_wp2_with fail
   refine C.out.mono ?_
   rintro e w2 ⟨rfl, hp2⟩
   have HP2 := Lib.hid hp2
   clear rc hp2 C
   go_wp2
   go_roundw
   case rel => exact ⟨k, by go_num, Lib.hid (by omega), HP2⟩
   case measure => simp [intOf]
def TMany (w0 ws : World) (t p r : Nat) (es : List Ent3) (rest : List UInt8) (j : Nat) (w : World) : Prop :=
 j ≤ es.length ∧ TB w0 w t p r (es.take (es.length - j)) ∧ RdO w w0.heap.size r ((es.drop (es.length - j)).flatMap layE ++ rest) ∧ Below w0.heap.size w0 w ∧ Keep3 ws w
theorem take_snoc3 {l : List Ent3} {j : Nat} (hj : j + 1 ≤ l.length) : ∃ x, l[l.length - (j + 1)]? = some x ∧ l.take (l.length - j) = l.take (l.length - (j + 1)) ++ [x] ∧ l.drop (l.length - (j + 1)) = x :: l.drop (l.length - j) := by
 have hlt : l.length - (j + 1) < l.length := by omega
 refine ⟨l[l.length - (j + 1)], List.getElem?_eq_getElem _, ?_, ?_⟩
 ·have e : l.length - j = l.length - (j + 1) + 1 := by omega
  rw [e, List.take_add_one, List.getElem?_eq_getElem hlt]
  rfl
 ·have e : l.length - j = l.length - (j + 1) + 1 := by omega
  rw [e, List.drop_eq_getElem_cons hlt]
set_option maxHeartbeats 4000000 in
set_option maxRecDepth 100000 in
theorem obody_tree (w0 w : World) (r : Nat) (es : List Ent3) (rest : List UInt8) (hR : RdO w w0.heap.size r (layTr es ++ rest)) (hx : ∀ x ∈ es, x.2.2.length = 32 ∧ x.1.length ≤ 100) (hes : es.length ≤ 1000000) (hb : Below w0.heap.size w0 w) :
  Calls Tryz.prog 142 #[.pointer (some ⟨r, 0, none⟩), I 2] w fun e w' => ∃ B m d, e = .returned (.iface 266 (.agg #[.slice B m d])) ∧ Ow w0 w' 129 3 B m d (ens es) ∧ RdO w' w0.heap.size r rest ∧ Below w0.heap.size w0 w' ∧ Keep3 w w' := by
 obtain ⟨g, hg⟩ : ∃ g, g = w.heap.size := ⟨_, rfl⟩
 obtain ⟨W, hW⟩ : ∃ W, W = (w.alloc (.cells #[.pointer (some ⟨r, 0, none⟩)] 226)).alloc (.cells #[.slice none 0 0] 266) := ⟨_, rfl⟩
 have hs1 : (w.alloc (.cells #[.pointer (some ⟨r, 0, none⟩)] 226)).heap.size = g + 1 := by rw [hg]; simp
 have bW : Below w.heap.size w W := by rw [hW]; exact balloc (balloc (Below.refl _ w) _) _
 have Hp : Blk W g 226 #[.pointer (some ⟨r, 0, none⟩)] := by rw [hW, hg]; exact (Blk.new w _ _).alloc _
 have Ht : Blk W (g + 1) 266 #[.slice none 0 0] := by rw [hW, ← hs1]; exact Blk.new _ _ _
 have hlo : w0.heap.size ≤ g := by rw [hg]; exact hb.size
 have BW := bstep hb bW
 have hTM : ∀ w', RdO w' w0.heap.size r (es.flatMap layE ++ rest) → Fr (fun k => k = r) W w' → TMany w0 W (g + 1) g r es rest es.length w' := fun w' h1 h2 => by
  have hRW := hR.step bW
  obtain ⟨_, _, _, hRB, _⟩ := hRW
  have n1 : g ≠ r := fun e => by subst e; exact absurd (Hp.symm.trans hRB) (by simp)
  have n2 : g + 1 ≠ r := fun e => by rw [← e] at hRB; exact absurd (Ht.symm.trans hRB) (by simp)
  have hlr : w0.heap.size ≤ r := by obtain ⟨_, _, _, _, _, _, _, _, h9⟩ := hR; exact h9
  have hb' : Below w0.heap.size w0 w' := BW.trans (h2.below BW.size (fun k hk => by rw [hk]; exact hlr))
  refine ⟨Nat.le_refl _, ?_, ?_, hb', fun q T cs k1 k2 k3 hq => h2.blk hq (fun e => by
   subst e
   unfold RdrB Blk at hRB
   unfold Blk at hq
   rw [hq] at hRB
   injection hRB with hRB
   injection hRB with _ e
   exact k1 e)⟩
  ·rw [Nat.sub_self]
   exact ⟨none, 0, 0, h2.blk Ht n2, Ow.nil_ hb', h2.blk Hp n1, by omega⟩
  ·rw [Nat.sub_self]
   exact h1
 have CM := Lib.hid (omany_ok w0.heap.size r es.length 203 #[.pointer (some ⟨g + 1, 0, none⟩), .pointer (some ⟨g, 0, none⟩)] (layTr es ++ rest) (es.flatMap layE ++ rest) W (hR.step bW) (by
  unfold layTr
  rw [List.append_assoc]
  exact take_putN (by unfold top62; omega) _) (by omega) (fun _ _ => by kernel_rfl) (TMany w0 W (g + 1) g r es rest) hTM (fun k w h => ⟨_, h.2.2.1⟩) (fun j V h => by
   obtain ⟨hj, hT, hRV, hV, hK⟩ := h
   obtain ⟨x, h1, h2, h3⟩ := take_snoc3 hj
   rw [h3, List.flatMap_cons, List.append_assoc] at hRV
   have hm := hx x (List.mem_of_getElem? h1)
   refine (obody1_ok w0 V (g + 1) g r _ x.1 x.2.2 _ x.2.1 hT hRV hm.1 hm.2 (by rw [List.length_take]; omega)).mono ?_
   rintro e w' ⟨rfl, hT', hR', hB', hK'⟩
   exact ⟨rfl, by omega, by rw [h2]; exact hT', hR', hB', fun q T cs k1 k2 k3 hq => hK' q T cs k1 k2 k3 (hK q T cs k1 k2 k3 hq)⟩))
 have Hg := Lib.hid hg
 have HW := Lib.hid hW
 have HbW := Lib.hid bW
 clear hg hW hs1 bW Hp Ht hTM BW hR
 go_enter Tryz.func142, Tryz.ntmps142
 go_wp2_with fail
 simp only [← Hg.out]
 rw [← HW.out]
 refine CM.out.mono ?_
 rintro e w' ⟨rfl, hj, ⟨B, m, d, hBt, hO, hBp, _⟩, hR', hB', hK⟩
 rw [Nat.sub_zero, List.take_length] at hO
 rw [Nat.sub_zero, List.drop_length, List.flatMap_nil, List.nil_append] at hR'
 have HO := Lib.hid hO
 have HR := Lib.hid hR'
 have HB := Lib.hid hB'
 have HK : Hid (Keep3 w w') := Lib.hid (fun q T cs k1 k2 k3 hq => hK q T cs k1 k2 k3 (hq.step HbW.out))
 have r5 := hBt.cell
 clear hO hR' hB' hBt hBp CM hK
 go_wp2
 go_ret
 exact ⟨B, m, d, rfl, HO.out, HR.out, HB.out, HK.out⟩
set_option maxHeartbeats 8000000 in
set_option maxRecDepth 100000 in
theorem objDec_tree (A : Option Addr) (n c : Nat) (es : List Ent3) (w : World) (hA : Sl w 1 A n (u8s (encT es))) (hc : n ≤ c) (hd : (encT es).length ≤ 1000000000) (hok : (okE es es.length && decide (es.length ≤ 4096)) = true) (hx : ∀ x ∈ es, x.2.2.length = 32 ∧ x.1.length ≤ 100) :
  Calls Tryz.prog 94 #[.slice A n c] w fun e w' => (∃ (B : Option Addr) (d : Nat), e = .returned (.tuple #[.agg (treeA B es.length d), I 0]) ∧ SlT (fun _ => True) 129 w' 3 B es.length (ens es) ∧ (∀ a, 0 < es.length → B = some a → w.heap.size ≤ a.block)) ∧ Below w.heap.size w w' := by
 obtain ⟨data, hdata⟩ : ∃ data, data = layTr es := ⟨_, rfl⟩
 have he : encT es = 2 :: data := by rw [hdata]; rfl
 have Hdata := Lib.hid hdata
 have Hok := Lib.hid hok
 have Hx := Lib.hid hx
 have h4 : es.length ≤ 4096 := by have h := (Bool.and_eq_true_iff.1 hok).2; exact of_decide_eq_true h
 have H4 := Lib.hid h4
 rw [he] at hA hd
 have Hd := Lib.hid hd
 rw [List.length_cons] at hd
 clear hdata hok hx he h4
 obtain ⟨i0, hi0, hz0, hz1, hz2⟩ := info_parts Tryz.infoRdr
 have hn : data.length + 1 = n := by have := u8s_len hA; simpa using this
 have HA := Lib.hid hA
 obtain ⟨bA, oA, hAe, hbA, _⟩ := hA.2 (by omega)
 subst hAe
 obtain ⟨g1, hg1⟩ : ∃ g1, g1 = w.heap.size := ⟨_, rfl⟩
 obtain ⟨w1, hw1⟩ : ∃ w1, w1 = w.alloc (.cells noObj 96) := ⟨_, rfl⟩
 obtain ⟨r, hr⟩ : ∃ r, r = g1 + 1 := ⟨_, rfl⟩
 obtain ⟨w2, hw2⟩ : ∃ w2, w2 = w1.alloc (.cells #[.slice (cutA (some ⟨bA, oA, none⟩) c 1 1) (n - 1) (c - 1), I 0] 228) := ⟨_, rfl⟩
 have b1 : Below w.heap.size w w1 := by rw [hw1]; exact balloc (Below.refl _ w) _
 have b2 : Below w.heap.size w w2 := by rw [hw2]; exact balloc b1 _
 have hs1 : w1.heap.size = g1 + 1 := by rw [hw1, hg1]; simp
 have HG1 : Hid (Blk w2 g1 96 noObj) := Lib.hid (by rw [hw2]; exact (show Blk w1 g1 _ _ by rw [hw1, hg1]; exact Blk.new w _ _).step (balloc (Below.refl _ _) _))
 have HR : Hid (RdrB w2 r (cutA (some ⟨bA, oA, none⟩) c 1 1) (n - 1) (c - 1)) := Lib.hid (by rw [hw2, hr, ← hs1]; exact Blk.new w1 _ _)
 have HT : Hid (Sl w2 1 (cutA (some ⟨bA, oA, none⟩) c 1 1) (n - 1) (u8s data)) := Lib.hid ((HA.out.below b2).tail_ (f := U8) (l := 2 :: data) (k := 1) (by omega) hc)
 have kd : ∀ V : World, (Instr.slice 38 (.slice (some ⟨bA, oA, none⟩) n c) (some (.int .i64 1)) none none).run Tryz.prog V = .ok (.slice (cutA (some ⟨bA, oA, none⟩) c 1 1) (n - 1) (c - 1)) V := fun V => run_cut_l (P := Tryz.prog) V Tryz.underlying38 Tryz.sizeU8 _ n c .i64 1 (by omega)
 have B2 := Lib.hid b2
 have hz : ((n : Int) == 0) = false := beq_eq_false_iff_ne.2 (by omega)
 have y0 : ∀ V : World, Below w.heap.size w V → V.cell? ⟨bA, oA, none⟩ = some (U8 2) := fun V hV => by
  obtain ⟨b', o', x, e1, e2, e3⟩ := (HA.out.below hV).byte (k := 0) (by omega)
  cases e1
  rw [Nat.add_zero] at e3
  simp at e2
  rw [e3, ← e2]
 have y2 := y0 w2 b2
 have Hg1 := Lib.hid hg1
 have Hw1 := Lib.hid hw1
 have Hw2 := Lib.hid hw2
 have Hr := Lib.hid hr
 have Hs1 := Lib.hid hs1
 clear hA b1 b2 hg1 hw1 hr hw2 hs1 y0
 have y2' : ((w.alloc (.cells noObj 96)).alloc (.cells #[.slice (cutA (some ⟨bA, oA, none⟩) c 1 1) (n - 1) (c - 1), I 0] 228)).cell? ⟨bA, oA, none⟩ = some (U8 2) := by rw [← Hw1.out, ← Hw2.out]; exact y2
 go_enter Tryz.func94, Tryz.ntmps94
 go_wp2_with fail
 simp only [← Hg1.out]
 simp only [← Hr.out]
 rw [← Hw1.out, ← Hw2.out]
 have hRO : RdO w2 w.heap.size r (layTr es ++ []) := by
  rw [List.append_nil, ← Hdata.out]
  refine ⟨_, _, _, HR.out, HT.out, by omega, by omega, fun h0 a ha => .inl ?_, by have := Hr.out; have := Hg1.out; omega⟩
  obtain ⟨a0, e0, e1⟩ := cutA_blk ha
  rw [e1]
  cases e0
  exact hbA
 have CB := Lib.hid (obody_tree w w2 r es [] hRO Hx.out (by have := H4.out; omega) B2.out)
 clear y2 y2' kd hz hRO
 refine CB.out.mono ?_
 rintro e w3 ⟨B, m, d, rfl, hO3, hR3, b3, k3⟩
 obtain rfl : m = es.length := (ens_count hO3.sl).symm
 have HS3 := Lib.hid (hO3.slT.weak (G := fun _ => True) (fun _ _ _ => trivial))
 have HO3 := Lib.hid hO3
 have HR3 := Lib.hid hR3
 have B3 := Lib.hid b3
 have HG3 : Hid (Blk w3 g1 96 noObj) := Lib.hid (k3 g1 _ _ (by decide) (by decide) (by decide) HG1.out)
 have CM := Lib.hid (objMade_tree B es.length d w3)
 clear hO3 hR3 b3 CB k3
 go_wp2_with fail
 refine CM.out.mono ?_
 rintro e w4 ⟨rfl, b4⟩
 obtain ⟨g5, hg5⟩ : ∃ g5, g5 = w4.heap.size := ⟨_, rfl⟩
 obtain ⟨w5, hw5⟩ : ∃ w5, w5 = w4.alloc (.cells (treeA B es.length d) 96) := ⟨_, rfl⟩
 have b5 : Below w3.heap.size w3 w5 := by rw [hw5]; exact balloc b4 _
 have HG5 : Hid (Blk w5 g5 96 (treeA B es.length d)) := Lib.hid (by rw [hw5, hg5]; exact Blk.new w4 _ _)
 have B5 := Lib.hid (bstep B3.out b5)
 have HS5 := Lib.hid (HS3.out.step b5)
 have HR5 := Lib.hid (HR3.out.step b5)
 have HG51 := Lib.hid (HG3.out.step b5)
 have CE := Lib.hid (treeEnc_ok B es.length d es w5 HS5.out.sl (by have := H4.out; omega) (by have h1 := Hd.out; rw [Hdata.out] at h1; exact h1) Hok.out)
 have Hg5 := Lib.hid hg5
 have Hw5 := Lib.hid hw5
 clear b4 b5 CM hg5 hw5
 go_wp2_with fail
 simp only [← Hg5.out]
 rw [← Hw5.out]
 refine CE.out.mono ?_
 rintro e w6 ⟨A6, c6, rfl, hO6⟩
 have HO6 := Lib.hid hO6
 have B6 := Lib.hid (bstep B5.out hO6.2)
 have HR6 := Lib.hid (HR5.out.step hO6.2)
 obtain ⟨_, _, _, hRB6, _⟩ := HR6.out
 have y6 := hRB6.cell
 clear hRB6
 have CQ := Lib.hid (equalB_any A6 (some ⟨bA, oA, none⟩) (encT es).length n c6 c (encT es) (2 :: data) w6 hO6.sl (HA.out.below B6.out) (by rw [show encT es = 2 :: data by rw [Hdata.out]; rfl]; simp; omega))
 rw [show decide (encT es = 2 :: data) = true from decide_eq_true (by rw [Hdata.out]; rfl)] at CQ
 clear hO6 CE
 go_wp2_with fail
 refine CQ.out.mono ?_
 rintro e w7 ⟨rfl, q, rfl⟩
 have b7 : Below w6.heap.size w6 (w6.drewN q) := below_drewN (Below.refl _ _) q
 have B7 := Lib.hid (bstep B6.out b7)
 have HG7 := Lib.hid ((HG51.out.step HO6.out.2).step b7)
 have HG57 := Lib.hid ((HG5.out.step HO6.out.2).step b7)
 have HS7 := Lib.hid ((HS5.out.step HO6.out.2).step b7)
 obtain ⟨w7, hw7⟩ : ∃ w7, w7 = w6.drewN q := ⟨_, rfl⟩
 rw [← hw7] at B7 HG7 HG57 HS7 ⊢
 have z1 := HG7.out.cell
 have f1 := HG7.out.frozen
 have z5 := HG57.out.cell
 clear b7 hw7 CQ y6
 go_wp2
 generalize hW9 : ((((((((((w7.setCell ⟨g1, 0, none⟩ (Value.int .i64 2)).setCell ⟨g1, 1, none⟩ (Value.slice none 0 0)).setCell ⟨g1, 2, none⟩ (Value.slice B es.length d)).setCell ⟨g1, 3, none⟩ (Value.string ⟨#[]⟩)).setCell ⟨g1, 4, none⟩ (Value.slice none 0 0)).setCell ⟨g1, 5, none⟩ (Value.string ⟨#[]⟩)).setCell ⟨g1, 6, none⟩ (Value.string ⟨#[]⟩)).setCell ⟨g1, 7, none⟩ (Value.string ⟨#[]⟩)).setCell ⟨g1, 8, none⟩ (Value.int .i64 0)).setCell ⟨g1, 9, none⟩ (Value.string ⟨#[]⟩)) = W9
 have H9 := Lib.hid (obj_set HG7.out _ _ _ _ _ _ _ _ _ _ hW9)
 have HS9 := Lib.hid (HS7.out.keep (KeepT.of_fr H9.out.2 (fun k cs fr e => by subst e; exact Blk.type HG7.out (by decide) cs fr)))
 clear hW9 z1 f1 z5
 refine bodyPost_ret (res_obj (fn := Tryz.f94) (p := 2) (u := 3) rfl _ W9 g1 (treeA B es.length d) rfl H9.out.1 rfl) rfl ?_
 refine ⟨⟨B, d, rfl, HS9.out, fun a h0 ha => ?_⟩, ?_⟩
 ·obtain ⟨g, e1, e2, e3⟩ := HO3.out.form h0
  rw [ha] at e1
  cases e1
  exact e2
 ·exact B7.out.trans (H9.out.2.below B7.out.size (fun k e => by rw [e, Hg1.out]; exact Nat.le_refl _))
def FineT (es : List Ent3) : Prop := (okE es es.length && decide (es.length ≤ 4096)) = true ∧ ∀ x ∈ es, x.2.2.length = 32 ∧ x.1.length ≤ 100
theorem encT_len {es : List Ent3} (h : FineT es) : (encT es).length ≤ 600000 := by
 have h4 : es.length ≤ 4096 := of_decide_eq_true (Bool.and_eq_true_iff.1 h.1).2
 have h1 : ∀ l : List Ent3, (∀ x ∈ l, x.2.2.length = 32 ∧ x.1.length ≤ 100) → (l.flatMap layE).length ≤ 142 * l.length := by
  intro l
  induction l with
  | nil => intro _; simp
  | cons x t ih =>
   intro hx
   have h2 := hx x (by simp)
   have h3 := ih (fun y hy => hx y (by simp [hy]))
   have h5 := putNum_len_le (n := x.1.length) (by unfold top62; omega)
   have h6 : (layE x).length ≤ 142 := by
    unfold layE
    have e6 : (if x.2.1 then [1] else [0] : List UInt8).length = 1 := by split <;> rfl
    have e7 := h2.1
    have e8 := h2.2
    simp only [List.length_append, e6]
    omega
   rw [List.flatMap_cons, List.length_append, List.length_cons]
   omega
 have h2 := h1 es h.2
 have h5 := putNum_len_le (n := es.length) (by unfold top62; omega)
 unfold encT layTr
 simp only [List.length_append, List.length_cons, List.length_nil]
 omega
theorem decOk_tree {es : List Ent3} (h : FineT es) : DecOk (encT es) := fun V A n c hA hc => (objDec_tree A n c es V hA hc (Nat.le_trans (encT_len h) (by omega)) h.1 h.2).mono (by
 rintro e w' ⟨⟨B, d, rfl, _⟩, hb⟩
 exact ⟨⟨2, none, 0, 0, B, es.length, d, .none9, rfl⟩, hb⟩)
set_option maxRecDepth 100000 in
set_option maxHeartbeats 8000000 in
theorem sobjT_one (w : World) (q p pk m n : Nat) (cap : Int) (L : List DF) (R : List (List UInt8)) (id : List UInt8) (es : List Ent3) (hS : StoreAt w q p pk) (h : DiskAt w p m n cap L) (hO : Objs L R) (hg : getS R id = some (encT es)) (hfi : FineT es) (hl : id.length ≤ 9000000000000000000) :
  Calls Tryz.prog 53 #[.pointer (some ⟨q, 0, none⟩), S id, I 2] w fun e w' => ∃ (B : Option Addr) (d : Nat), e = .returned (.tuple #[.agg (treeA B es.length d), I 0]) ∧ SlT (fun _ => True) 129 w' 3 B es.length (ens es) ∧ Below w.heap.size w w' := by
 obtain ⟨g6, hg6⟩ : ∃ g6, g6 = w.heap.size := ⟨_, rfl⟩
 obtain ⟨w1, hw1⟩ : ∃ w1, w1 = w.alloc (.cells noObj 96) := ⟨_, rfl⟩
 have b1 : Below w.heap.size w w1 := by rw [hw1]; exact balloc (Below.refl _ _) _
 have HG1 : Hid (Blk w1 g6 96 noObj) := Lib.hid (by rw [hw1, hg6]; exact Blk.new w _ _)
 have B1 := Lib.hid b1
 have CG := Lib.hid (sget_any w1 q p pk m n cap L R id (hS.step b1) (h.step b1) hO hl)
 have Hg := Lib.hid hg
 have Hg6 := Lib.hid hg6
 have Hw1 := Lib.hid hw1
 clear hS h hO hg hl b1 hg6 hw1
 go_enter Tryz.func53, Tryz.ntmps53
 go_wp2_with fail
 simp only [← Hg6.out]
 rw [← Hw1.out]
 refine CG.out.mono ?_
 rintro e w2 hret
 rw [Hg.out] at hret
 obtain ⟨⟨A2, n2, c2, rfl, h6, h7, h8⟩, b2⟩ := hret
 have B2 := Lib.hid (bstep B1.out b2)
 have CD := Lib.hid (objDec_tree A2 n2 c2 es w2 h6 h7 (Nat.le_trans (encT_len hfi) (by omega)) hfi.1 hfi.2)
 have HG2 := Lib.hid (HG1.out.step b2)
 clear h6 h7 h8 b2 CG
 go_wp2_with fail
 refine CD.out.mono ?_
 rintro e w3 ⟨⟨B, c', rfl, hS3, _⟩, b3⟩
 obtain ⟨g10, hg10⟩ : ∃ g10, g10 = w3.heap.size := ⟨_, rfl⟩
 obtain ⟨w4, hw4⟩ : ∃ w4, w4 = w3.alloc (.cells (treeA B es.length c') 96) := ⟨_, rfl⟩
 have b4 : Below w3.heap.size w3 w4 := by rw [hw4]; exact balloc (Below.refl _ _) _
 have HG10 : Hid (Blk w4 g10 96 (treeA B es.length c')) := Lib.hid (by rw [hw4, hg10]; exact Blk.new w3 _ _)
 have B4 := Lib.hid (bstep (bstep B2.out b3) b4)
 have HG4 := Lib.hid ((HG2.out.step b3).step b4)
 have HS4 := Lib.hid (hS3.step b4)
 have y4 := HG4.out.cell
 have f4 := HG4.out.frozen
 rw [hw4] at y4 f4
 have Hw4 := Lib.hid hw4
 clear hS3 b3 b4 CD hw4 hg10
 go_wp2
 rw [← Hw4.out]
 generalize hW9 : ((((((((((w4.setCell ⟨g6, 0, none⟩ (Value.int .i64 2)).setCell ⟨g6, 1, none⟩ (Value.slice none 0 0)).setCell ⟨g6, 2, none⟩ (Value.slice B es.length c')).setCell ⟨g6, 3, none⟩ (Value.string ⟨#[]⟩)).setCell ⟨g6, 4, none⟩ (Value.slice none 0 0)).setCell ⟨g6, 5, none⟩ (Value.string ⟨#[]⟩)).setCell ⟨g6, 6, none⟩ (Value.string ⟨#[]⟩)).setCell ⟨g6, 7, none⟩ (Value.string ⟨#[]⟩)).setCell ⟨g6, 8, none⟩ (Value.int .i64 0)).setCell ⟨g6, 9, none⟩ (Value.string ⟨#[]⟩)) = W9
 have H9 := Lib.hid (obj_set HG4.out _ _ _ _ _ _ _ _ _ _ hW9)
 clear hW9 y4 f4
 refine bodyPost_ret (res_obj (fn := Tryz.f53) (p := 6) (u := 7) rfl _ W9 g6 (treeA B es.length c') rfl H9.out.1 rfl) rfl ?_
 exact ⟨B, c', rfl, HS4.out.keep (KeepT.of_fr H9.out.2 (fun k cs fr e => by subst e; exact Blk.type HG4.out (by decide) cs fr)), B4.out.trans (H9.out.2.below B4.out.size (fun k e => by rw [e, Hg6.out]; exact Nat.le_refl _))⟩
theorem getS_mem {L : List DF} {R : List (List UInt8)} (hO : Objs L R) {raw : List UInt8} (h : raw ∈ R) : getS R (sumL raw) = some raw := by
 unfold getS
 rw [if_pos (sumL_len raw)]
 rcases hg : getObj R (sumL raw) with _ | r
 ·exact absurd rfl (getObj_none hg raw h)
 ·obtain ⟨h1, h2⟩ := getObj_mem hg
  rw [hO.apart r h1 raw h h2]
end Go.Proofs.YtcednfmkiaelnaaGreatDoor
