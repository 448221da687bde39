/-
  dolmenref13.Check at whatever files, exactly. Conditions: the files can be read, no more than 1048576; no path is longer than 2147483648.
-/
import Derived.Test.YtcednfmkiaelnaaGreatDoorTKitTc
import Derived.Test.YtcednfmkiaelnaaGreatDoorTKitI
import Derived.Test.YtcednfmkiaelnaaGreatDoorTKitW
import Derived.Test.YtcednfmkiaelnaaGreatDoorTKitX
import Derived.BigQuiet
namespace Go.Proofs.YtcednfmkiaelnaaGreatDoor
open Go.RowKit
open PathLaw (named under)
theorem apart_step {l : List Fil} {k : Nat} {p id : List UInt8} (hk : l[k]? = some (p, id)) (hf : FineL (l.take (k + 1))) (h : ApartTo l k) (hn : ∀ j f, j < k → l[j]? = some f → under p f.1 = false) : ApartTo l (k + 1) := by
 have e : l.take (k + 1) = l.take k ++ [(p, id)] := by rw [List.take_add_one, hk]; rfl
 have hp : ∀ g ∈ l.take (k + 1), under p g.1 = false := fun g hg => by
  rw [e] at hg
  rcases List.mem_append.1 hg with h1 | h1
  ·obtain ⟨j, hj⟩ := List.mem_iff_getElem?.1 h1
   rw [List.getElem?_take] at hj
   split at hj
   ·rename_i hjk
    exact hn j g hjk hj
   ·cases hj
  ·have e2 : g = (p, id) := by simpa using h1
   rw [e2]
   exact PathLaw.under_irrefl p
 intro f hf1 g hg
 have hf2 := hf1
 rw [e] at hf2
 rcases List.mem_append.1 hf2 with h1 | h1
 ·have hg2 := hg
  rw [e] at hg2
  rcases List.mem_append.1 hg2 with h2 | h2
  ·exact h f h1 g h2
  ·have e2 : g = (p, id) := by simpa using h2
   rw [Bool.eq_false_iff]
   intro hu
   have h3 := under_lt hu
   have h4 := hf.1
   rw [e, List.map_append, List.pairwise_append] at h4
   have h5 := h4.2.2 f.1 (List.mem_map_of_mem h1) p (by simp)
   rw [e2] at h3
   exact List.lt_irrefl _ (List.lt_trans h3 h5)
 ·have e2 : f = (p, id) := by simpa using h1
  rw [e2]
  exact hp g hg
theorem no_apart2 {l : List Fil} {k j : Nat} {p id : List UInt8} {f : Fil} (hk : l[k]? = some (p, id)) (hj : l[j]? = some f) (hu : under p f.1 = true) : ¬ CheckP l := fun hc => by
 have h1 := hc.2.2.1 _ (List.mem_of_getElem? hk) f (List.mem_of_getElem? hj)
 simp only at h1
 rw [h1] at hu
 cases hu
def rc1Phi (b : Nat) (off : Nat) (n : Nat) (c : Nat) (k : Nat) (p : List UInt8) : Nat → Value → World → Prop
 | 0, v, _ => v = .slice (some ⟨b, off, none⟩) n c
 | 1, v, _ => v = I ((k : Int))
 | 2, v, _ => v = .pointer (some ⟨b, off + k * 2, none⟩)
 | 3, v, _ => v = .pointer (some ⟨b, off + k * 2, none⟩)
 | 4, v, _ => v = S p
 | 5, v, _ => v = .bool false
 | 6, v, _ => v = .bool true
 | 7, v, _ => v = .bool true
 | 8, v, _ => v = undef
 | 9, v, _ => v = undef
 | 10, v, _ => v = undef
 | 11, v, _ => v = undef
 | 12, v, _ => v = undef
 | 13, v, _ => v = undef
 | 14, v, _ => v = undef
 | 15, v, _ => v = .bool true
 | 16, v, _ => v = .bool true
 | 17, v, _ => v = undef
 | 18, v, _ => v = undef
 | 19, v, _ => v = undef
 | 20, v, _ => v = undef
 | 21, v, _ => v = undef
 | 22, v, _ => v = undef
 | 23, v, _ => v = undef
 | 24, v, _ => v = undef
 | 25, v, _ => v = undef
 | 26, v, _ => v = undef
 | 27, v, _ => v = undef
 | 28, v, _ => v = undef
 | 29, v, _ => v = undef
 | 30, v, _ => v = undef
 | 31, v, _ => v = undef
 | 32, v, _ => v = undef
 | _, _, _ => True
theorem rc1Phi_mono {b : Nat} {off : Nat} {n : Nat} {c : Nat} {k : Nat} {p : List UInt8} : ∀ (j : Nat) (v : Value) (w w' : World), rc1Phi b off n c k p j v w → Below w.heap.size w w' → rc1Phi b off n c k p j v w' := by
 intro j v w w' h _
 match j, h with
 | 0, h => exact h
 | 1, h => exact h
 | 2, h => exact h
 | 3, h => exact h
 | 4, h => exact h
 | 5, h => exact h
 | 6, h => exact h
 | 7, h => exact h
 | 8, h => exact h
 | 9, h => exact h
 | 10, h => exact h
 | 11, h => exact h
 | 12, h => exact h
 | 13, h => exact h
 | 14, h => exact h
 | 15, h => exact h
 | 16, h => exact h
 | 17, h => exact h
 | 18, h => exact h
 | 19, h => exact h
 | 20, h => exact h
 | 21, h => exact h
 | 22, h => exact h
 | 23, h => exact h
 | 24, h => exact h
 | 25, h => exact h
 | 26, h => exact h
 | 27, h => exact h
 | 28, h => exact h
 | 29, h => exact h
 | 30, h => exact h
 | 31, h => exact h
 | 32, h => exact h
 | (n + 33), _ => trivial
def rc2Phi (b : Nat) (off : Nat) (n : Nat) (c : Nat) (k : Nat) (p : List UInt8) (id : List UInt8) : Nat → Value → World → Prop
 | 0, v, _ => v = .slice (some ⟨b, off, none⟩) n c
 | 1, v, _ => v = I ((k : Int))
 | 2, v, _ => v = .pointer (some ⟨b, off + k * 2, none⟩)
 | 3, v, _ => v = .pointer (some ⟨b, off + k * 2, none⟩)
 | 4, v, _ => v = S p
 | 5, v, _ => v = .bool true
 | 6, v, _ => v = .bool false
 | 7, v, _ => v = .bool false
 | 8, v, _ => v = .slice (some ⟨b, off, none⟩) n c
 | 9, v, _ => v = I ((k : Int))
 | 10, v, _ => v = .pointer (some ⟨b, off + k * 2, none⟩)
 | 11, v, _ => v = .pointer (some ⟨b, off + k * 2 + 1, none⟩)
 | 12, v, _ => v = S id
 | 13, v, _ => v = I ((id.length : Int))
 | 14, v, _ => v = .bool true
 | 15, v, _ => v = .bool true
 | 16, v, _ => v = .bool true
 | 17, v, _ => v = undef
 | 18, v, _ => v = undef
 | 19, v, _ => v = undef
 | 20, v, _ => v = undef
 | 21, v, _ => v = undef
 | 22, v, _ => v = undef
 | 23, v, _ => v = undef
 | 24, v, _ => v = undef
 | 25, v, _ => v = undef
 | 26, v, _ => v = undef
 | 27, v, _ => v = undef
 | 28, v, _ => v = undef
 | 29, v, _ => v = undef
 | 30, v, _ => v = undef
 | 31, v, _ => v = undef
 | 32, v, _ => v = undef
 | _, _, _ => True
theorem rc2Phi_mono {b : Nat} {off : Nat} {n : Nat} {c : Nat} {k : Nat} {p : List UInt8} {id : List UInt8} : ∀ (j : Nat) (v : Value) (w w' : World), rc2Phi b off n c k p id j v w → Below w.heap.size w w' → rc2Phi b off n c k p id j v w' := by
 intro j v w w' h _
 match j, h with
 | 0, h => exact h
 | 1, h => exact h
 | 2, h => exact h
 | 3, h => exact h
 | 4, h => exact h
 | 5, h => exact h
 | 6, h => exact h
 | 7, h => exact h
 | 8, h => exact h
 | 9, h => exact h
 | 10, h => exact h
 | 11, h => exact h
 | 12, h => exact h
 | 13, h => exact h
 | 14, h => exact h
 | 15, h => exact h
 | 16, h => exact h
 | 17, h => exact h
 | 18, h => exact h
 | 19, h => exact h
 | 20, h => exact h
 | 21, h => exact h
 | 22, h => exact h
 | 23, h => exact h
 | 24, h => exact h
 | 25, h => exact h
 | 26, h => exact h
 | 27, h => exact h
 | 28, h => exact h
 | 29, h => exact h
 | 30, h => exact h
 | 31, h => exact h
 | 32, h => exact h
 | (n + 33), _ => trivial
def rc3Phi (b : Nat) (off : Nat) (n : Nat) (c : Nat) (k : Nat) (p : List UInt8) (id : List UInt8) (prev : List UInt8) (b0 : Bool) (ge : Bool) : Nat → Value → World → Prop
 | 0, v, _ => v = .slice (some ⟨b, off, none⟩) n c
 | 1, v, _ => v = I ((k : Int))
 | 2, v, _ => v = .pointer (some ⟨b, off + k * 2, none⟩)
 | 3, v, _ => v = .pointer (some ⟨b, off + k * 2, none⟩)
 | 4, v, _ => v = S p
 | 5, v, _ => v = .bool true
 | 6, v, _ => v = .bool false
 | 7, v, _ => v = .bool false
 | 8, v, _ => v = .slice (some ⟨b, off, none⟩) n c
 | 9, v, _ => v = I ((k : Int))
 | 10, v, _ => v = .pointer (some ⟨b, off + k * 2, none⟩)
 | 11, v, _ => v = .pointer (some ⟨b, off + k * 2 + 1, none⟩)
 | 12, v, _ => v = S id
 | 13, v, _ => v = I ((id.length : Int))
 | 14, v, _ => v = .bool false
 | 15, v, _ => v = .bool false
 | 16, v, _ => v = .bool false
 | 17, v, _ => v = I ((k : Int))
 | 18, v, _ => v = .bool b0
 | 19, v, _ => v = .bool b0
 | 20, v, _ => (b0 = true → v = .slice (some ⟨b, off, none⟩) n c)
 | 21, v, _ => (b0 = true → v = I ((k : Int)))
 | 22, v, _ => (b0 = true → v = I (((k - 1 : Nat) : Int)))
 | 23, v, _ => (b0 = true → v = .pointer (some ⟨b, off + (k - 1) * 2, none⟩))
 | 24, v, _ => (b0 = true → v = .pointer (some ⟨b, off + (k - 1) * 2, none⟩))
 | 25, v, _ => (b0 = true → v = S prev)
 | 26, v, _ => (b0 = true → v = .slice (some ⟨b, off, none⟩) n c)
 | 27, v, _ => (b0 = true → v = I ((k : Int)))
 | 28, v, _ => (b0 = true → v = .pointer (some ⟨b, off + k * 2, none⟩))
 | 29, v, _ => (b0 = true → v = .pointer (some ⟨b, off + k * 2, none⟩))
 | 30, v, _ => (b0 = true → v = S p)
 | 31, v, _ => (b0 = true → v = .bool ge)
 | 32, v, _ => v = .bool (b0 && ge)
 | _, _, _ => True
theorem rc3Phi_mono {b : Nat} {off : Nat} {n : Nat} {c : Nat} {k : Nat} {p : List UInt8} {id : List UInt8} {prev : List UInt8} {b0 : Bool} {ge : Bool} : ∀ (j : Nat) (v : Value) (w w' : World), rc3Phi b off n c k p id prev b0 ge j v w → Below w.heap.size w w' → rc3Phi b off n c k p id prev b0 ge j v w' := by
 intro j v w w' h _
 match j, h with
 | 0, h => exact h
 | 1, h => exact h
 | 2, h => exact h
 | 3, h => exact h
 | 4, h => exact h
 | 5, h => exact h
 | 6, h => exact h
 | 7, h => exact h
 | 8, h => exact h
 | 9, h => exact h
 | 10, h => exact h
 | 11, h => exact h
 | 12, h => exact h
 | 13, h => exact h
 | 14, h => exact h
 | 15, h => exact h
 | 16, h => exact h
 | 17, h => exact h
 | 18, h => exact h
 | 19, h => exact h
 | 20, h => exact h
 | 21, h => exact h
 | 22, h => exact h
 | 23, h => exact h
 | 24, h => exact h
 | 25, h => exact h
 | 26, h => exact h
 | 27, h => exact h
 | 28, h => exact h
 | 29, h => exact h
 | 30, h => exact h
 | 31, h => exact h
 | 32, h => exact h
 | (n + 33), _ => trivial
set_option maxRecDepth 100000 in
set_option maxHeartbeats 8000000 in
theorem rcheck13_any (A : Option Addr) (n c : Nat) (l : List Fil) (w : World) (hA : Sl w 2 A n (fls l)) (hn : n ≤ 1048576) (hP : ∀ f ∈ l, f.1.length ≤ 2147483648) :
  Calls Tryz.prog 10 #[.slice A n c] w fun e w' => ∃ z : Int, e = .returned (I z) ∧ ((z = 0 ∧ CheckP l) ∨ (z = 1 ∧ ¬ CheckP l)) ∧ Below w.heap.size w w' := by
 have HA := Lib.hid hA
 have HP := Lib.hid hP
 have Hln : Hid (l.length = n) := Lib.hid (fls_count hA)
 have hways : decide ((4096 : Int) < (n : Int)) = true ∨ (decide ((4096 : Int) < (n : Int)) = false ∧ n ≤ 4096) := by
  by_cases h : n ≤ 4096
  ·exact .inr ⟨decide_eq_false (by omega), h⟩
  ·exact .inl (decide_eq_true (by omega))
 clear hA hP
 go_enter Tryz.func10, Tryz.ntmps10
 rcases hways with g1 | ⟨g1, h4⟩
 ·have HX : Hid (¬ CheckP l) := Lib.hid (fun h => by have h1 := h.2.2.2; rw [Hln.out] at h1; have := of_decide_eq_true g1; omega)
  clear hn
  go_wp2
  go_ret
  exact ⟨1, rfl, .inr ⟨rfl, HX.out⟩, Below.refl _ _⟩
 ·clear hn
  go_wp2
  go_loopw [2, 3, 4] (fun s2 s3 s4 wr => ∃ k : Nat, s2 = I 0 ∧ s3 = .int .i64 k ∧ Hid (k ≤ n) ∧ Hid (FineL (l.take k) ∧ ApartTo l k) ∧ Hid (Below w.heap.size w wr)) (fun _ s3 _ _ => n - (intOf s3).toNat)
  case atStart => exact ⟨0, rfl, rfl, Lib.hid (Nat.zero_le _), Lib.hid ⟨fine_nil, fun f hf => by simp at hf⟩, Lib.hid (Below.refl _ _)⟩
  case round =>
   obtain ⟨k, rfl, rfl, hk, hfi, hb⟩ := hrel
   by_cases hlt : k < n
   ·obtain ⟨b, off, f, rfl, _, hf, _, _⟩ := (HA.out.below hb.out).fil hlt
    have Hf := Lib.hid hf
    clear hf
    obtain ⟨p, id⟩ := f
    have hgp0 : p.length ≤ 2147483648 := HP.out _ (List.mem_of_getElem? Hf.out)
    have Hgp0 := Lib.hid hgp0
    obtain ⟨W, hWe⟩ : ∃ W, W = wr := ⟨_, rfl⟩
    subst hWe
    have HX0 : Hid (∀ V, Below W.heap.size W V → V.cell? ⟨b, off + k * 2, none⟩ = some (S p) ∧ V.cell? ⟨b, off + k * 2 + 1, none⟩ = some (S id)) := Lib.hid (fun V hV => by
     obtain ⟨b', off', f', e1, _, hf', z0, z1⟩ := (HA.out.below (bstep hb.out hV)).fil hlt
     cases e1
     obtain rfl : f' = (p, id) := Option.some.inj (hf'.symm.trans Hf.out)
     exact ⟨z0, z1⟩)
    have HBW := Lib.hid hb.out
    obtain ⟨prev, hprev⟩ : ∃ prev, prev = ((l[k - 1]?).map (·.1)).getD [] := ⟨_, rfl⟩
    obtain ⟨b0, hb00⟩ : ∃ b0, b0 = decide (0 < k) := ⟨_, rfl⟩
    have hb0 := Lib.hid hb00
    have Hk1 : Hid (b0 = true → 1 ≤ k) := Lib.hid (fun h => by rw [hb00] at h; have := of_decide_eq_true h; omega)
    have Hpq : Hid (b0 = true → ∃ q, l[k - 1]? = some q ∧ q.1 = prev) := Lib.hid (fun h0 => by
     have h1 := Hk1.out h0
     obtain ⟨b', off', f', e1, _, hf', z0, _⟩ := (HA.out.below hb.out).fil (k := k - 1) (by omega)
     exact ⟨f', hf', by rw [hprev, hf']; rfl⟩)
    have Hpv : Hid (∀ V, Below W.heap.size W V → b0 = true → V.cell? ⟨b, off + (k - 1) * 2, none⟩ = some (S prev)) := Lib.hid (fun V h h0 => by
     have h1 := Hk1.out h0
     obtain ⟨b', off', f', e1, _, hf', z0, _⟩ := (HA.out.below (bstep hb.out h)).fil (k := k - 1) (by omega)
     cases e1
     rw [hprev, hf']
     exact z0)
    have Hb0f : Hid (b0 = false → k = 0) := Lib.hid (fun h => by rw [hb00] at h; have := of_decide_eq_false h; omega)
    obtain ⟨ge, hge⟩ : ∃ ge, ge = (!Op.bytesLess prev p) := ⟨_, rfl⟩
    have Hge := Lib.hid hge.symm
    have Hge2 : Hid (ge = false → prev < p) := Lib.hid (fun h => by
     rw [hge, Go.Proofs.bytesLess_eq] at h
     simpa using h)
    clear hb00 hprev hge hgp0
    rcases hnm : PathLaw.named p with _ | _
    ·have C5 : Hid (∀ W', Calls Tryz.prog 12 #[S p] W' fun e w' => e = .returned (.bool false) ∧ Below W'.heap.size W' w') := Lib.hid (fun W' => by
      have h1 := rnamed_any p W' Hgp0.out
      rw [hnm] at h1
      exact h1)
     have HNO : Hid (¬ CheckP l) := Lib.hid (no_named Hf.out hnm)
     clear hnm
     go_wp2
     have H32 : Hid (true = true) := Lib.hid rfl
     refine wp_region_guards (by kernel_rfl) 33 (by kernel_rfl) ?_ (rc1Phi b off n c k p) rc1Phi_mono (fun i o hi ho a w hb hs hm => ?_) (fun o ho a w hb hs hm => ?_)
     ·exact dst_lt9 (n := 64) (by kernel_rfl)
     ·exact match i, hi, ho with
        | 0, _, ho => by
          cases ho
          rw [if_pos (wanted_none _ rfl)]
          refine wp_value (st_move rfl ((hs.keeps (by kernel_rfl)).trans rfl)) ⟨_, rfl, rfl, Below.refl _ _⟩
        | 1, _, ho => by
          cases ho
          rw [if_pos (wanted_none _ rfl)]
          refine wp_value (st_move rfl ((hs.keeps (by kernel_rfl)).trans rfl)) ⟨_, rfl, rfl, Below.refl _ _⟩
        | 2, _, ho => by
          cases ho
          rw [if_pos (wanted_none _ rfl)]
          have h1 := eval_getD (hm.get 0 14 (by kernel_rfl)); have h2 := eval_getD (hm.get 1 15 (by kernel_rfl)); unfold Oper.wp; simp only [execOp]; go_simp; exact ⟨_, rfl, rfl, Below.refl _ _⟩
        | 3, _, ho => by
          cases ho
          rw [if_pos (wanted_none _ rfl)]
          have h1 := eval_getD (hm.get 2 16 (by kernel_rfl)); unfold Oper.wp; simp only [execOp]; go_simp; exact ⟨_, rfl, rfl, Below.refl _ _⟩
        | 4, _, ho => by
          cases ho
          rw [if_pos (wanted_none _ rfl)]
          have hx := (HX0.out w hb).1; have h1 := eval_getD (hm.get 3 17 (by kernel_rfl)); unfold Oper.wp; simp only [execOp]; go_simp; exact ⟨_, rfl, rfl, Below.refl _ _⟩
        | 5, _, ho => by
          cases ho
          rw [if_pos (wanted_none _ rfl)]
          have h1 := eval_getD (hm.get 4 18 (by kernel_rfl)); unfold Oper.wp; simp only [execOp]; go_simp; refine (C5.out w).mono ?_; rintro e w' ⟨rfl, hb'⟩; exact ⟨_, rfl, rfl, hb'⟩
        | 6, _, ho => by
          cases ho
          rw [if_pos (wanted_none _ rfl)]
          have h1 := eval_getD (hm.get 5 19 (by kernel_rfl)); unfold Oper.wp; simp only [execOp]; go_simp; exact ⟨_, rfl, rfl, Below.refl _ _⟩
        | 7, _, ho => by
          cases ho
          rw [if_pos (wanted_none _ rfl)]
          refine wp_value (st_move rfl (hm.get 6 20 (by kernel_rfl))) ⟨_, rfl, rfl, Below.refl _ _⟩
        | 8, _, ho => by
          cases ho
          generalize hW : Region.wanted _ _ = W
          obtain rfl : W = (true == false) := hW.symm.trans (wanted_of rfl rfl rfl (show a.eval (.tmp 21) = .bool true from (hm.get 7 21 (by kernel_rfl))))
          clear hW
          rw [if_neg (show ¬ (true == false) = true by decide)]
          exact rfl
        | 9, _, ho => by
          cases ho
          generalize hW : Region.wanted _ _ = W
          obtain rfl : W = (true == false) := hW.symm.trans (wanted_of rfl rfl rfl (show a.eval (.tmp 21) = .bool true from (hm.get 7 21 (by kernel_rfl))))
          clear hW
          rw [if_neg (show ¬ (true == false) = true by decide)]
          exact rfl
        | 10, _, ho => by
          cases ho
          generalize hW : Region.wanted _ _ = W
          obtain rfl : W = (true == false) := hW.symm.trans (wanted_of rfl rfl rfl (show a.eval (.tmp 21) = .bool true from (hm.get 7 21 (by kernel_rfl))))
          clear hW
          rw [if_neg (show ¬ (true == false) = true by decide)]
          exact rfl
        | 11, _, ho => by
          cases ho
          generalize hW : Region.wanted _ _ = W
          obtain rfl : W = (true == false) := hW.symm.trans (wanted_of rfl rfl rfl (show a.eval (.tmp 21) = .bool true from (hm.get 7 21 (by kernel_rfl))))
          clear hW
          rw [if_neg (show ¬ (true == false) = true by decide)]
          exact rfl
        | 12, _, ho => by
          cases ho
          generalize hW : Region.wanted _ _ = W
          obtain rfl : W = (true == false) := hW.symm.trans (wanted_of rfl rfl rfl (show a.eval (.tmp 21) = .bool true from (hm.get 7 21 (by kernel_rfl))))
          clear hW
          rw [if_neg (show ¬ (true == false) = true by decide)]
          exact rfl
        | 13, _, ho => by
          cases ho
          generalize hW : Region.wanted _ _ = W
          obtain rfl : W = (true == false) := hW.symm.trans (wanted_of rfl rfl rfl (show a.eval (.tmp 21) = .bool true from (hm.get 7 21 (by kernel_rfl))))
          clear hW
          rw [if_neg (show ¬ (true == false) = true by decide)]
          exact rfl
        | 14, _, ho => by
          cases ho
          generalize hW : Region.wanted _ _ = W
          obtain rfl : W = (true == false) := hW.symm.trans (wanted_of rfl rfl rfl (show a.eval (.tmp 21) = .bool true from (hm.get 7 21 (by kernel_rfl))))
          clear hW
          rw [if_neg (show ¬ (true == false) = true by decide)]
          exact rfl
        | 15, _, ho => by
          cases ho
          rw [if_pos (wanted_none _ rfl)]
          have h1 := eval_getD (hm.get 7 21 (by kernel_rfl)); unfold Oper.wp; simp only [execOp]; go_simp; exact ⟨_, rfl, rfl, Below.refl _ _⟩
        | 16, _, ho => by
          cases ho
          rw [if_pos (wanted_none _ rfl)]
          refine wp_value (st_move rfl (hm.get 15 29 (by kernel_rfl))) ⟨_, rfl, rfl, Below.refl _ _⟩
        | 17, _, ho => by
          cases ho
          generalize hW : Region.wanted _ _ = W
          obtain rfl : W = (true == false) := hW.symm.trans (wanted_of rfl rfl rfl (show a.eval (.tmp 30) = .bool true from (hm.get 16 30 (by kernel_rfl))))
          clear hW
          rw [if_neg (show ¬ (true == false) = true by decide)]
          exact rfl
        | 18, _, ho => by
          cases ho
          generalize hW : Region.wanted _ _ = W
          obtain rfl : W = (true == false) := hW.symm.trans (wanted_of rfl rfl rfl (show a.eval (.tmp 30) = .bool true from (hm.get 16 30 (by kernel_rfl))))
          clear hW
          rw [if_neg (show ¬ (true == false) = true by decide)]
          exact rfl
        | 19, _, ho => by
          cases ho
          generalize hW : Region.wanted _ _ = W
          obtain rfl : W = (true == false) := hW.symm.trans (wanted_of rfl rfl rfl (show a.eval (.tmp 30) = .bool true from (hm.get 16 30 (by kernel_rfl))))
          clear hW
          rw [if_neg (show ¬ (true == false) = true by decide)]
          exact rfl
        | 20, _, ho => by
          cases ho
          rw [if_neg (show ¬ Region.wanted _ _ = true by rw [wanted_undef rfl rfl rfl (show a.eval (.tmp 33) = undef from (hm.get 19 33 (by kernel_rfl)))]; decide)]
          exact rfl
        | 21, _, ho => by
          cases ho
          rw [if_neg (show ¬ Region.wanted _ _ = true by rw [wanted_undef rfl rfl rfl (show a.eval (.tmp 33) = undef from (hm.get 19 33 (by kernel_rfl)))]; decide)]
          exact rfl
        | 22, _, ho => by
          cases ho
          rw [if_neg (show ¬ Region.wanted _ _ = true by rw [wanted_undef rfl rfl rfl (show a.eval (.tmp 33) = undef from (hm.get 19 33 (by kernel_rfl)))]; decide)]
          exact rfl
        | 23, _, ho => by
          cases ho
          rw [if_neg (show ¬ Region.wanted _ _ = true by rw [wanted_undef rfl rfl rfl (show a.eval (.tmp 33) = undef from (hm.get 19 33 (by kernel_rfl)))]; decide)]
          exact rfl
        | 24, _, ho => by
          cases ho
          rw [if_neg (show ¬ Region.wanted _ _ = true by rw [wanted_undef rfl rfl rfl (show a.eval (.tmp 33) = undef from (hm.get 19 33 (by kernel_rfl)))]; decide)]
          exact rfl
        | 25, _, ho => by
          cases ho
          rw [if_neg (show ¬ Region.wanted _ _ = true by rw [wanted_undef rfl rfl rfl (show a.eval (.tmp 33) = undef from (hm.get 19 33 (by kernel_rfl)))]; decide)]
          exact rfl
        | 26, _, ho => by
          cases ho
          rw [if_neg (show ¬ Region.wanted _ _ = true by rw [wanted_undef rfl rfl rfl (show a.eval (.tmp 33) = undef from (hm.get 19 33 (by kernel_rfl)))]; decide)]
          exact rfl
        | 27, _, ho => by
          cases ho
          rw [if_neg (show ¬ Region.wanted _ _ = true by rw [wanted_undef rfl rfl rfl (show a.eval (.tmp 33) = undef from (hm.get 19 33 (by kernel_rfl)))]; decide)]
          exact rfl
        | 28, _, ho => by
          cases ho
          rw [if_neg (show ¬ Region.wanted _ _ = true by rw [wanted_undef rfl rfl rfl (show a.eval (.tmp 33) = undef from (hm.get 19 33 (by kernel_rfl)))]; decide)]
          exact rfl
        | 29, _, ho => by
          cases ho
          rw [if_neg (show ¬ Region.wanted _ _ = true by rw [wanted_undef rfl rfl rfl (show a.eval (.tmp 33) = undef from (hm.get 19 33 (by kernel_rfl)))]; decide)]
          exact rfl
        | 30, _, ho => by
          cases ho
          rw [if_neg (show ¬ Region.wanted _ _ = true by rw [wanted_undef rfl rfl rfl (show a.eval (.tmp 33) = undef from (hm.get 19 33 (by kernel_rfl)))]; decide)]
          exact rfl
        | 31, _, ho => by
          cases ho
          rw [if_neg (show ¬ Region.wanted _ _ = true by rw [wanted_undef rfl rfl rfl (show a.eval (.tmp 33) = undef from (hm.get 19 33 (by kernel_rfl)))]; decide)]
          exact rfl
        | 32, _, ho => by
          cases ho
          generalize hW : Region.wanted _ _ = W
          obtain rfl : W = (true == false) := hW.symm.trans (wanted_of rfl rfl rfl (show a.eval (.tmp 30) = .bool true from (hm.get 16 30 (by kernel_rfl))))
          clear hW
          rw [if_neg (show ¬ (true == false) = true by decide)]
          exact rfl
        | (n + 33), hi, _ => absurd hi (by omega)
     ·have e1 : a.eval (.tmp 30) = .bool true := by cases ho; exact hm.get 16 30 (by kernel_rfl)
      have hfr := hs.frame [14, 15, 16, 17, 18, 19, 20, 21, 22, 23, 24, 25, 26, 27, 28, 29, 30, 31, 32, 33, 34, 35, 36, 37, 38, 39, 40, 41, 42, 43, 44, 45, 46, 47] (by kernel_rfl)
      cases ho
      rw [hfr]
      simp only [List.foldl_cons, List.foldl_nil, e1]
      clear hfr hs hm e1 
      generalize a.eval (.tmp 14) = u14, a.eval (.tmp 15) = u15, a.eval (.tmp 16) = u16, a.eval (.tmp 17) = u17, a.eval (.tmp 18) = u18, a.eval (.tmp 19) = u19, a.eval (.tmp 20) = u20, a.eval (.tmp 21) = u21, a.eval (.tmp 22) = u22, a.eval (.tmp 23) = u23, a.eval (.tmp 24) = u24, a.eval (.tmp 25) = u25, a.eval (.tmp 26) = u26, a.eval (.tmp 27) = u27, a.eval (.tmp 28) = u28, a.eval (.tmp 29) = u29, a.eval (.tmp 31) = u31, a.eval (.tmp 32) = u32, a.eval (.tmp 33) = u33, a.eval (.tmp 34) = u34, a.eval (.tmp 35) = u35, a.eval (.tmp 36) = u36, a.eval (.tmp 37) = u37, a.eval (.tmp 38) = u38, a.eval (.tmp 39) = u39, a.eval (.tmp 40) = u40, a.eval (.tmp 41) = u41, a.eval (.tmp 42) = u42, a.eval (.tmp 43) = u43, a.eval (.tmp 44) = u44, a.eval (.tmp 45) = u45, a.eval (.tmp 46) = u46, a.eval (.tmp 47) = u47
      unfold Oper.wp
      simp only [execOp]
      go_simp
      clear a
      have BX := Lib.hid (bstep HBW.out hb)
      clear Hpv Hk1 C5
      go_wp2
      go_ret
      exact ⟨1, rfl, .inr ⟨rfl, HNO.out⟩, BX.out⟩
    ·have C5 : Hid (∀ W', Calls Tryz.prog 12 #[S p] W' fun e w' => e = .returned (.bool true) ∧ Below W'.heap.size W' w') := Lib.hid (fun W' => by
      have h1 := rnamed_any p W' Hgp0.out
      rw [hnm] at h1
      exact h1)
     have Hnm := Lib.hid hnm
     clear hnm
     by_cases h32 : id.length = 32
     ·have H32 : Hid (((id.length : Int) != 32) = false) := Lib.hid (by simp; omega)
      have Hi := Lib.hid h32
      clear h32
      go_wp2
      refine wp_region_guards (by kernel_rfl) 33 (by kernel_rfl) ?_ (rc3Phi b off n c k p id prev b0 ge) rc3Phi_mono (fun i o hi ho a w hb hs hm => ?_) (fun o ho a w hb hs hm => ?_)
      ·exact dst_lt9 (n := 64) (by kernel_rfl)
      ·exact match i, hi, ho with
         | 0, _, ho => by
           cases ho
           rw [if_pos (wanted_none _ rfl)]
           refine wp_value (st_move rfl ((hs.keeps (by kernel_rfl)).trans rfl)) ⟨_, rfl, rfl, Below.refl _ _⟩
         | 1, _, ho => by
           cases ho
           rw [if_pos (wanted_none _ rfl)]
           refine wp_value (st_move rfl ((hs.keeps (by kernel_rfl)).trans rfl)) ⟨_, rfl, rfl, Below.refl _ _⟩
         | 2, _, ho => by
           cases ho
           rw [if_pos (wanted_none _ rfl)]
           have h1 := eval_getD (hm.get 0 14 (by kernel_rfl)); have h2 := eval_getD (hm.get 1 15 (by kernel_rfl)); unfold Oper.wp; simp only [execOp]; go_simp; exact ⟨_, rfl, rfl, Below.refl _ _⟩
         | 3, _, ho => by
           cases ho
           rw [if_pos (wanted_none _ rfl)]
           have h1 := eval_getD (hm.get 2 16 (by kernel_rfl)); unfold Oper.wp; simp only [execOp]; go_simp; exact ⟨_, rfl, rfl, Below.refl _ _⟩
         | 4, _, ho => by
           cases ho
           rw [if_pos (wanted_none _ rfl)]
           have hx := (HX0.out w hb).1; have h1 := eval_getD (hm.get 3 17 (by kernel_rfl)); unfold Oper.wp; simp only [execOp]; go_simp; exact ⟨_, rfl, rfl, Below.refl _ _⟩
         | 5, _, ho => by
           cases ho
           rw [if_pos (wanted_none _ rfl)]
           have h1 := eval_getD (hm.get 4 18 (by kernel_rfl)); unfold Oper.wp; simp only [execOp]; go_simp; refine (C5.out w).mono ?_; rintro e w' ⟨rfl, hb'⟩; exact ⟨_, rfl, rfl, hb'⟩
         | 6, _, ho => by
           cases ho
           rw [if_pos (wanted_none _ rfl)]
           have h1 := eval_getD (hm.get 5 19 (by kernel_rfl)); unfold Oper.wp; simp only [execOp]; go_simp; exact ⟨_, rfl, rfl, Below.refl _ _⟩
         | 7, _, ho => by
           cases ho
           rw [if_pos (wanted_none _ rfl)]
           refine wp_value (st_move rfl (hm.get 6 20 (by kernel_rfl))) ⟨_, rfl, rfl, Below.refl _ _⟩
         | 8, _, ho => by
           cases ho
           generalize hW : Region.wanted _ _ = W
           obtain rfl : W = (false == false) := hW.symm.trans (wanted_of rfl rfl rfl (show a.eval (.tmp 21) = .bool false from (hm.get 7 21 (by kernel_rfl))))
           clear hW
           rw [if_pos (show (false == false) = true by decide)]
           refine wp_value (st_move rfl ((hs.keeps (by kernel_rfl)).trans rfl)) ⟨_, rfl, rfl, Below.refl _ _⟩
         | 9, _, ho => by
           cases ho
           generalize hW : Region.wanted _ _ = W
           obtain rfl : W = (false == false) := hW.symm.trans (wanted_of rfl rfl rfl (show a.eval (.tmp 21) = .bool false from (hm.get 7 21 (by kernel_rfl))))
           clear hW
           rw [if_pos (show (false == false) = true by decide)]
           refine wp_value (st_move rfl ((hs.keeps (by kernel_rfl)).trans rfl)) ⟨_, rfl, rfl, Below.refl _ _⟩
         | 10, _, ho => by
           cases ho
           generalize hW : Region.wanted _ _ = W
           obtain rfl : W = (false == false) := hW.symm.trans (wanted_of rfl rfl rfl (show a.eval (.tmp 21) = .bool false from (hm.get 7 21 (by kernel_rfl))))
           clear hW
           rw [if_pos (show (false == false) = true by decide)]
           have h1 := eval_getD (hm.get 8 22 (by kernel_rfl)); have h2 := eval_getD (hm.get 9 23 (by kernel_rfl)); unfold Oper.wp; simp only [execOp]; go_simp; exact ⟨_, rfl, rfl, Below.refl _ _⟩
         | 11, _, ho => by
           cases ho
           generalize hW : Region.wanted _ _ = W
           obtain rfl : W = (false == false) := hW.symm.trans (wanted_of rfl rfl rfl (show a.eval (.tmp 21) = .bool false from (hm.get 7 21 (by kernel_rfl))))
           clear hW
           rw [if_pos (show (false == false) = true by decide)]
           refine wp_value (st_field rfl (hm.get 10 24 (by kernel_rfl)) (by kernel_rfl)) ⟨_, rfl, rfl, Below.refl _ _⟩
         | 12, _, ho => by
           cases ho
           generalize hW : Region.wanted _ _ = W
           obtain rfl : W = (false == false) := hW.symm.trans (wanted_of rfl rfl rfl (show a.eval (.tmp 21) = .bool false from (hm.get 7 21 (by kernel_rfl))))
           clear hW
           rw [if_pos (show (false == false) = true by decide)]
           have hx := (HX0.out w hb).2; have h1 := eval_getD (hm.get 11 25 (by kernel_rfl)); unfold Oper.wp; simp only [execOp]; go_simp; exact ⟨_, rfl, rfl, Below.refl _ _⟩
         | 13, _, ho => by
           cases ho
           generalize hW : Region.wanted _ _ = W
           obtain rfl : W = (false == false) := hW.symm.trans (wanted_of rfl rfl rfl (show a.eval (.tmp 21) = .bool false from (hm.get 7 21 (by kernel_rfl))))
           clear hW
           rw [if_pos (show (false == false) = true by decide)]
           have h1 := eval_getD (hm.get 12 26 (by kernel_rfl)); unfold Oper.wp; simp only [execOp]; go_simp; exact ⟨_, rfl, (show Value.int _ _ = Value.int _ _ by first | rfl | simp), Below.refl _ _⟩
         | 14, _, ho => by
           cases ho
           generalize hW : Region.wanted _ _ = W
           obtain rfl : W = (false == false) := hW.symm.trans (wanted_of rfl rfl rfl (show a.eval (.tmp 21) = .bool false from (hm.get 7 21 (by kernel_rfl))))
           clear hW
           rw [if_pos (show (false == false) = true by decide)]
           have h1 := eval_getD (hm.get 13 27 (by kernel_rfl)); unfold Oper.wp; simp only [execOp]; go_simp; exact ⟨_, rfl, (show Value.bool _ = Value.bool _ by first | rw [H32.out] | (simp; done) | rfl), Below.refl _ _⟩
         | 15, _, ho => by
           cases ho
           rw [if_pos (wanted_none _ rfl)]
           have h1 := eval_getD (hm.get 7 21 (by kernel_rfl)); have h3 := eval_getD (hm.get 14 28 (by kernel_rfl)); unfold Oper.wp; simp only [execOp]; go_simp; exact ⟨_, rfl, rfl, Below.refl _ _⟩
         | 16, _, ho => by
           cases ho
           rw [if_pos (wanted_none _ rfl)]
           refine wp_value (st_move rfl (hm.get 15 29 (by kernel_rfl))) ⟨_, rfl, rfl, Below.refl _ _⟩
         | 17, _, ho => by
           cases ho
           generalize hW : Region.wanted _ _ = W
           obtain rfl : W = (false == false) := hW.symm.trans (wanted_of rfl rfl rfl (show a.eval (.tmp 30) = .bool false from (hm.get 16 30 (by kernel_rfl))))
           clear hW
           rw [if_pos (show (false == false) = true by decide)]
           refine wp_value (st_move rfl ((hs.keeps (by kernel_rfl)).trans rfl)) ⟨_, rfl, rfl, Below.refl _ _⟩
         | 18, _, ho => by
           cases ho
           generalize hW : Region.wanted _ _ = W
           obtain rfl : W = (false == false) := hW.symm.trans (wanted_of rfl rfl rfl (show a.eval (.tmp 30) = .bool false from (hm.get 16 30 (by kernel_rfl))))
           clear hW
           rw [if_pos (show (false == false) = true by decide)]
           have h1 := eval_getD (hm.get 17 31 (by kernel_rfl)); unfold Oper.wp; simp only [execOp]; go_simp; exact ⟨_, rfl, (show Value.bool _ = Value.bool _ by rw [hb0.out]), Below.refl _ _⟩
         | 19, _, ho => by
           cases ho
           generalize hW : Region.wanted _ _ = W
           obtain rfl : W = (false == false) := hW.symm.trans (wanted_of rfl rfl rfl (show a.eval (.tmp 30) = .bool false from (hm.get 16 30 (by kernel_rfl))))
           clear hW
           rw [if_pos (show (false == false) = true by decide)]
           refine wp_value (st_move rfl (hm.get 18 32 (by kernel_rfl))) ⟨_, rfl, rfl, Below.refl _ _⟩
         | 20, _, ho => by
           cases ho
           generalize hW : Region.wanted _ _ = W
           obtain rfl : W = (b0 == true) := hW.symm.trans (wanted_of rfl rfl rfl (show a.eval (.tmp 33) = .bool b0 from (hm.get 19 33 (by kernel_rfl))))
           clear hW
           rcases fls_tru (b0) with hf | hf
           ·rw [if_neg (show ¬ (b0 == true) = true by rw [hf]; decide)]; exact fun h => Bool.noConfusion (h.symm.trans hf)
           ·rw [if_pos (show (b0 == true) = true by rw [hf]; decide)]
            refine wp_value (st_move rfl ((hs.keeps (by kernel_rfl)).trans rfl)) ⟨_, rfl, fun _ => rfl, Below.refl _ _⟩
         | 21, _, ho => by
           cases ho
           generalize hW : Region.wanted _ _ = W
           obtain rfl : W = (b0 == true) := hW.symm.trans (wanted_of rfl rfl rfl (show a.eval (.tmp 33) = .bool b0 from (hm.get 19 33 (by kernel_rfl))))
           clear hW
           rcases fls_tru (b0) with hf | hf
           ·rw [if_neg (show ¬ (b0 == true) = true by rw [hf]; decide)]; exact fun h => Bool.noConfusion (h.symm.trans hf)
           ·rw [if_pos (show (b0 == true) = true by rw [hf]; decide)]
            refine wp_value (st_move rfl ((hs.keeps (by kernel_rfl)).trans rfl)) ⟨_, rfl, fun _ => rfl, Below.refl _ _⟩
         | 22, _, ho => by
           cases ho
           generalize hW : Region.wanted _ _ = W
           obtain rfl : W = (b0 == true) := hW.symm.trans (wanted_of rfl rfl rfl (show a.eval (.tmp 33) = .bool b0 from (hm.get 19 33 (by kernel_rfl))))
           clear hW
           rcases fls_tru (b0) with hf | hf
           ·rw [if_neg (show ¬ (b0 == true) = true by rw [hf]; decide)]; exact fun h => Bool.noConfusion (h.symm.trans hf)
           ·rw [if_pos (show (b0 == true) = true by rw [hf]; decide)]
            have hk1 := Hk1.out hf; have hv : IntKind.i64.wrap ((k : Int) - 1) = ((k - 1 : Nat) : Int) := (by rw [IntWalk.i64_in _ (by omega)]; try omega); have h1 := eval_getD ((hm.get 21 35 (by kernel_rfl)) hf); unfold Oper.wp; simp only [execOp]; go_simp; exact ⟨_, rfl, fun _ => (show Value.int _ _ = Value.int _ _ by first | rfl | rw [hv] | (congr 1; omega)), Below.refl _ _⟩
         | 23, _, ho => by
           cases ho
           generalize hW : Region.wanted _ _ = W
           obtain rfl : W = (b0 == true) := hW.symm.trans (wanted_of rfl rfl rfl (show a.eval (.tmp 33) = .bool b0 from (hm.get 19 33 (by kernel_rfl))))
           clear hW
           rcases fls_tru (b0) with hf | hf
           ·rw [if_neg (show ¬ (b0 == true) = true by rw [hf]; decide)]; exact fun h => Bool.noConfusion (h.symm.trans hf)
           ·rw [if_pos (show (b0 == true) = true by rw [hf]; decide)]
            have hk1 := Hk1.out hf; have hlt1 : k - 1 < n := (by omega); have h1 := eval_getD ((hm.get 20 34 (by kernel_rfl)) hf); have h2 := eval_getD ((hm.get 22 36 (by kernel_rfl)) hf); unfold Oper.wp; simp only [execOp]; go_simp; exact ⟨_, rfl, fun _ => rfl, Below.refl _ _⟩
         | 24, _, ho => by
           cases ho
           generalize hW : Region.wanted _ _ = W
           obtain rfl : W = (b0 == true) := hW.symm.trans (wanted_of rfl rfl rfl (show a.eval (.tmp 33) = .bool b0 from (hm.get 19 33 (by kernel_rfl))))
           clear hW
           rcases fls_tru (b0) with hf | hf
           ·rw [if_neg (show ¬ (b0 == true) = true by rw [hf]; decide)]; exact fun h => Bool.noConfusion (h.symm.trans hf)
           ·rw [if_pos (show (b0 == true) = true by rw [hf]; decide)]
            have h1 := eval_getD ((hm.get 23 37 (by kernel_rfl)) hf); unfold Oper.wp; simp only [execOp]; go_simp; exact ⟨_, rfl, fun _ => rfl, Below.refl _ _⟩
         | 25, _, ho => by
           cases ho
           generalize hW : Region.wanted _ _ = W
           obtain rfl : W = (b0 == true) := hW.symm.trans (wanted_of rfl rfl rfl (show a.eval (.tmp 33) = .bool b0 from (hm.get 19 33 (by kernel_rfl))))
           clear hW
           rcases fls_tru (b0) with hf | hf
           ·rw [if_neg (show ¬ (b0 == true) = true by rw [hf]; decide)]; exact fun h => Bool.noConfusion (h.symm.trans hf)
           ·rw [if_pos (show (b0 == true) = true by rw [hf]; decide)]
            have hx := Hpv.out w hb hf; have h1 := eval_getD ((hm.get 24 38 (by kernel_rfl)) hf); unfold Oper.wp; simp only [execOp]; go_simp; exact ⟨_, rfl, fun _ => rfl, Below.refl _ _⟩
         | 26, _, ho => by
           cases ho
           generalize hW : Region.wanted _ _ = W
           obtain rfl : W = (b0 == true) := hW.symm.trans (wanted_of rfl rfl rfl (show a.eval (.tmp 33) = .bool b0 from (hm.get 19 33 (by kernel_rfl))))
           clear hW
           rcases fls_tru (b0) with hf | hf
           ·rw [if_neg (show ¬ (b0 == true) = true by rw [hf]; decide)]; exact fun h => Bool.noConfusion (h.symm.trans hf)
           ·rw [if_pos (show (b0 == true) = true by rw [hf]; decide)]
            refine wp_value (st_move rfl ((hs.keeps (by kernel_rfl)).trans rfl)) ⟨_, rfl, fun _ => rfl, Below.refl _ _⟩
         | 27, _, ho => by
           cases ho
           generalize hW : Region.wanted _ _ = W
           obtain rfl : W = (b0 == true) := hW.symm.trans (wanted_of rfl rfl rfl (show a.eval (.tmp 33) = .bool b0 from (hm.get 19 33 (by kernel_rfl))))
           clear hW
           rcases fls_tru (b0) with hf | hf
           ·rw [if_neg (show ¬ (b0 == true) = true by rw [hf]; decide)]; exact fun h => Bool.noConfusion (h.symm.trans hf)
           ·rw [if_pos (show (b0 == true) = true by rw [hf]; decide)]
            refine wp_value (st_move rfl ((hs.keeps (by kernel_rfl)).trans rfl)) ⟨_, rfl, fun _ => rfl, Below.refl _ _⟩
         | 28, _, ho => by
           cases ho
           generalize hW : Region.wanted _ _ = W
           obtain rfl : W = (b0 == true) := hW.symm.trans (wanted_of rfl rfl rfl (show a.eval (.tmp 33) = .bool b0 from (hm.get 19 33 (by kernel_rfl))))
           clear hW
           rcases fls_tru (b0) with hf | hf
           ·rw [if_neg (show ¬ (b0 == true) = true by rw [hf]; decide)]; exact fun h => Bool.noConfusion (h.symm.trans hf)
           ·rw [if_pos (show (b0 == true) = true by rw [hf]; decide)]
            have h1 := eval_getD ((hm.get 26 40 (by kernel_rfl)) hf); have h2 := eval_getD ((hm.get 27 41 (by kernel_rfl)) hf); unfold Oper.wp; simp only [execOp]; go_simp; exact ⟨_, rfl, fun _ => rfl, Below.refl _ _⟩
         | 29, _, ho => by
           cases ho
           generalize hW : Region.wanted _ _ = W
           obtain rfl : W = (b0 == true) := hW.symm.trans (wanted_of rfl rfl rfl (show a.eval (.tmp 33) = .bool b0 from (hm.get 19 33 (by kernel_rfl))))
           clear hW
           rcases fls_tru (b0) with hf | hf
           ·rw [if_neg (show ¬ (b0 == true) = true by rw [hf]; decide)]; exact fun h => Bool.noConfusion (h.symm.trans hf)
           ·rw [if_pos (show (b0 == true) = true by rw [hf]; decide)]
            have h1 := eval_getD ((hm.get 28 42 (by kernel_rfl)) hf); unfold Oper.wp; simp only [execOp]; go_simp; exact ⟨_, rfl, fun _ => rfl, Below.refl _ _⟩
         | 30, _, ho => by
           cases ho
           generalize hW : Region.wanted _ _ = W
           obtain rfl : W = (b0 == true) := hW.symm.trans (wanted_of rfl rfl rfl (show a.eval (.tmp 33) = .bool b0 from (hm.get 19 33 (by kernel_rfl))))
           clear hW
           rcases fls_tru (b0) with hf | hf
           ·rw [if_neg (show ¬ (b0 == true) = true by rw [hf]; decide)]; exact fun h => Bool.noConfusion (h.symm.trans hf)
           ·rw [if_pos (show (b0 == true) = true by rw [hf]; decide)]
            have hx := (HX0.out w hb).1; have h1 := eval_getD ((hm.get 29 43 (by kernel_rfl)) hf); unfold Oper.wp; simp only [execOp]; go_simp; exact ⟨_, rfl, fun _ => rfl, Below.refl _ _⟩
         | 31, _, ho => by
           cases ho
           generalize hW : Region.wanted _ _ = W
           obtain rfl : W = (b0 == true) := hW.symm.trans (wanted_of rfl rfl rfl (show a.eval (.tmp 33) = .bool b0 from (hm.get 19 33 (by kernel_rfl))))
           clear hW
           rcases fls_tru (b0) with hf | hf
           ·rw [if_neg (show ¬ (b0 == true) = true by rw [hf]; decide)]; exact fun h => Bool.noConfusion (h.symm.trans hf)
           ·rw [if_pos (show (b0 == true) = true by rw [hf]; decide)]
            have h1 := eval_getD ((hm.get 25 39 (by kernel_rfl)) hf); have h2 := eval_getD ((hm.get 30 44 (by kernel_rfl)) hf); unfold Oper.wp; simp only [execOp]; go_simp; exact ⟨_, rfl, fun _ => (show Value.bool _ = Value.bool _ by first | rw [Hge.out] | (simp; done) | rfl), Below.refl _ _⟩
         | 32, _, ho => by
           cases ho
           generalize hW : Region.wanted _ _ = W
           obtain rfl : W = (false == false) := hW.symm.trans (wanted_of rfl rfl rfl (show a.eval (.tmp 30) = .bool false from (hm.get 16 30 (by kernel_rfl))))
           clear hW
           rw [if_pos (show (false == false) = true by decide)]
           have h1 := eval_getD (hm.get 19 33 (by kernel_rfl))
           have h2 := (hm.get 31 45 (by kernel_rfl))
           rcases fls_tru (b0) with hg | hg
           ·rw [hg] at h1
            unfold Oper.wp; simp only [execOp]; go_simp
            exact ⟨_, rfl, (show Value.bool _ = Value.bool _ by first | (rw [hg]; simp) | simp), Below.refl _ _⟩
           ·rw [hg] at h1
            have h3 := eval_getD (h2 hg)
            unfold Oper.wp; simp only [execOp]; go_simp
            exact ⟨_, rfl, (show Value.bool _ = Value.bool _ by first | (rw [hg]; simp) | simp), Below.refl _ _⟩
         | (n + 33), hi, _ => absurd hi (by omega)
      ·have e1 : a.eval (.tmp 30) = .bool false := by cases ho; exact hm.get 16 30 (by kernel_rfl)
       have e2 : a.eval (.tmp 46) = .bool (b0 && ge) := by cases ho; exact hm.get 32 46 (by kernel_rfl)
       have hfr := hs.frame [14, 15, 16, 17, 18, 19, 20, 21, 22, 23, 24, 25, 26, 27, 28, 29, 30, 31, 32, 33, 34, 35, 36, 37, 38, 39, 40, 41, 42, 43, 44, 45, 46, 47] (by kernel_rfl)
       cases ho
       rw [hfr]
       simp only [List.foldl_cons, List.foldl_nil, e1, e2]
       clear hfr hs hm e1 e2
       generalize a.eval (.tmp 14) = u14, a.eval (.tmp 15) = u15, a.eval (.tmp 16) = u16, a.eval (.tmp 17) = u17, a.eval (.tmp 18) = u18, a.eval (.tmp 19) = u19, a.eval (.tmp 20) = u20, a.eval (.tmp 21) = u21, a.eval (.tmp 22) = u22, a.eval (.tmp 23) = u23, a.eval (.tmp 24) = u24, a.eval (.tmp 25) = u25, a.eval (.tmp 26) = u26, a.eval (.tmp 27) = u27, a.eval (.tmp 28) = u28, a.eval (.tmp 29) = u29, a.eval (.tmp 31) = u31, a.eval (.tmp 32) = u32, a.eval (.tmp 33) = u33, a.eval (.tmp 34) = u34, a.eval (.tmp 35) = u35, a.eval (.tmp 36) = u36, a.eval (.tmp 37) = u37, a.eval (.tmp 38) = u38, a.eval (.tmp 39) = u39, a.eval (.tmp 40) = u40, a.eval (.tmp 41) = u41, a.eval (.tmp 42) = u42, a.eval (.tmp 43) = u43, a.eval (.tmp 44) = u44, a.eval (.tmp 45) = u45, a.eval (.tmp 47) = u47
       unfold Oper.wp
       simp only [execOp]
       go_simp
       clear a
       have BX := Lib.hid (bstep HBW.out hb)
       have HF2 : Hid ((b0 && ge) = false → FineL (l.take (k + 1))) := Lib.hid (fun h => by
        refine fine_snoc hfi.out.1 Hf.out Hnm.out Hi.out ?_
        cases hb1 : b0 with
        | false => exact .inl (Hb0f.out hb1)
        | true =>
         rw [hb1] at h
         obtain ⟨q, hq, hq2⟩ := Hpq.out hb1
         exact .inr ⟨q, hq, by rw [hq2]; exact Hge2.out (by simpa using h)⟩)
       have HNR : Hid ((b0 && ge) = true → ¬ CheckP l) := Lib.hid (fun h => by
        obtain ⟨h1, h2⟩ := Bool.and_eq_true_iff.1 h
        obtain ⟨q, hq, hq2⟩ := Hpq.out h1
        refine no_rise Hf.out (Hk1.out h1) hq ?_
        rw [hq2]
        have h3 := Hge.out
        rw [h2, Go.Proofs.bytesLess_eq] at h3
        simpa using h3)
       clear Hpv Hk1 C5 hb0 Hpq Hb0f Hge Hge2 Hnm Hi
       cases hz : (b0 && ge) with
       | true =>
        have HNO := Lib.hid (HNR.out hz)
        go_wp2
        go_ret
        exact ⟨1, rfl, .inr ⟨rfl, HNO.out⟩, BX.out⟩
       | false =>
        have HF3 := Lib.hid (HF2.out hz)
        have HX2 : Hid (∀ V, Below w.heap.size w V → V.cell? ⟨b, off + k * 2, none⟩ = some (S p)) := Lib.hid (fun V hV => (HX0.out V (hb.trans (hV.mono hb.size))).1)
        have HAB : Hid (∀ V, Below w.heap.size w V → Sl V 2 (some ⟨b, off, none⟩) n (fls l)) := Lib.hid (fun V hV => HA.out.below (bstep BX.out hV))
        clear HF2 HNR hz
        go_wp2
        go_loopw [2, 4] (fun s2 s4 wr' => ∃ j : Nat, s2 = I 0 ∧ s4 = .int .i64 j ∧ Hid (j ≤ k) ∧ Hid (∀ i f, i < j → l[i]? = some f → under p f.1 = false) ∧ Hid (Below w.heap.size w wr')) (fun _ s4 _ => k - (intOf s4).toNat)
        case atStart => exact ⟨0, rfl, rfl, Lib.hid (Nat.zero_le _), Lib.hid (fun i f h => absurd h (by omega)), Lib.hid (Below.refl _ _)⟩
        case round =>
         obtain ⟨j, rfl, rfl, hj, hno, hbj⟩ := hrel
         have BXj := Lib.hid (bstep BX.out hbj.out)
         by_cases hjk : j < k
         ·have z0 := HX2.out wr hbj.out
          obtain ⟨b2, off2, f2, e2, _, hf2, z2, _⟩ := (HAB.out wr hbj.out).fil (k := j) (by omega)
          cases e2
          have hjn : j < n := by omega
          have Hf2 := Lib.hid hf2
          clear hf2
          obtain ⟨p2, id2⟩ := f2
          obtain ⟨u, hu⟩ : ∃ u, u = under p p2 := ⟨_, rfl⟩
          have CU : Hid (∀ V, Calls Tryz.prog 14 #[S p, S p2] V fun e w' => e = .returned (.bool u) ∧ ∃ m, w' = V.drewN m) := Lib.hid (fun V => by
           rw [hu]
           refine (runder_any p p2 V (Nat.le_trans Hgp0.out (by decide))).mono ?_
           rintro e w' ⟨rfl, rfl⟩
           exact ⟨rfl, 0, rfl⟩)
          have Hu := Lib.hid hu
          clear hu
          cases hu2 : u with
          | true =>
           rw [hu2] at CU Hu
           have HNO : Hid (¬ CheckP l) := Lib.hid (no_apart2 Hf.out Hf2.out Hu.out.symm)
           clear hu2
           go_wp2
           go_quiet ((go_at_call 14; exact Calls.quiet_of (CU.out _)))
           go_wp2
           go_ret
           exact ⟨1, rfl, .inr ⟨rfl, HNO.out⟩, below_drewN BXj.out _⟩
          | false =>
           rw [hu2] at CU Hu
           have HN2 : Hid (∀ i f, i < j + 1 → l[i]? = some f → under p f.1 = false) := Lib.hid (fun i f h1 h2 => by
            by_cases hij : i = j
            ·subst hij
             rw [Hf2.out] at h2
             cases h2
             exact Hu.out.symm
            ·exact hno.out i f (by omega) h2)
           clear hu2
           go_wp2
           go_quiet ((go_at_call 14; exact Calls.quiet_of (CU.out _)))
           go_wp2
           go_roundw
           case rel => exact ⟨j + 1, rfl, by go_num, Lib.hid hjk, HN2, Lib.hid (below_drewN hbj.out _)⟩
           case measure => simp [intOf]; omega
         ·obtain rfl : k = j := by have := hj.out; omega
          have HA3 : Hid (FineL (l.take (k + 1)) ∧ ApartTo l (k + 1)) := Lib.hid ⟨HF3.out, apart_step Hf.out HF3.out hfi.out.2 (fun i f h1 h2 => hno.out i f h1 h2)⟩
          go_wp2
          go_roundw
          case rel => exact ⟨k + 1, rfl, by go_num, Lib.hid hlt, HA3, BXj⟩
          case measure => simp [intOf]; omega
     ·have H32 : Hid (((id.length : Int) != 32) = true) := Lib.hid (by simp; omega)
      have HNO : Hid (¬ CheckP l) := Lib.hid (no_id Hf.out h32)
      clear h32
      go_wp2
      refine wp_region_guards (by kernel_rfl) 33 (by kernel_rfl) ?_ (rc2Phi b off n c k p id) rc2Phi_mono (fun i o hi ho a w hb hs hm => ?_) (fun o ho a w hb hs hm => ?_)
      ·exact dst_lt9 (n := 64) (by kernel_rfl)
      ·exact match i, hi, ho with
         | 0, _, ho => by
           cases ho
           rw [if_pos (wanted_none _ rfl)]
           refine wp_value (st_move rfl ((hs.keeps (by kernel_rfl)).trans rfl)) ⟨_, rfl, rfl, Below.refl _ _⟩
         | 1, _, ho => by
           cases ho
           rw [if_pos (wanted_none _ rfl)]
           refine wp_value (st_move rfl ((hs.keeps (by kernel_rfl)).trans rfl)) ⟨_, rfl, rfl, Below.refl _ _⟩
         | 2, _, ho => by
           cases ho
           rw [if_pos (wanted_none _ rfl)]
           have h1 := eval_getD (hm.get 0 14 (by kernel_rfl)); have h2 := eval_getD (hm.get 1 15 (by kernel_rfl)); unfold Oper.wp; simp only [execOp]; go_simp; exact ⟨_, rfl, rfl, Below.refl _ _⟩
         | 3, _, ho => by
           cases ho
           rw [if_pos (wanted_none _ rfl)]
           have h1 := eval_getD (hm.get 2 16 (by kernel_rfl)); unfold Oper.wp; simp only [execOp]; go_simp; exact ⟨_, rfl, rfl, Below.refl _ _⟩
         | 4, _, ho => by
           cases ho
           rw [if_pos (wanted_none _ rfl)]
           have hx := (HX0.out w hb).1; have h1 := eval_getD (hm.get 3 17 (by kernel_rfl)); unfold Oper.wp; simp only [execOp]; go_simp; exact ⟨_, rfl, rfl, Below.refl _ _⟩
         | 5, _, ho => by
           cases ho
           rw [if_pos (wanted_none _ rfl)]
           have h1 := eval_getD (hm.get 4 18 (by kernel_rfl)); unfold Oper.wp; simp only [execOp]; go_simp; refine (C5.out w).mono ?_; rintro e w' ⟨rfl, hb'⟩; exact ⟨_, rfl, rfl, hb'⟩
         | 6, _, ho => by
           cases ho
           rw [if_pos (wanted_none _ rfl)]
           have h1 := eval_getD (hm.get 5 19 (by kernel_rfl)); unfold Oper.wp; simp only [execOp]; go_simp; exact ⟨_, rfl, rfl, Below.refl _ _⟩
         | 7, _, ho => by
           cases ho
           rw [if_pos (wanted_none _ rfl)]
           refine wp_value (st_move rfl (hm.get 6 20 (by kernel_rfl))) ⟨_, rfl, rfl, Below.refl _ _⟩
         | 8, _, ho => by
           cases ho
           generalize hW : Region.wanted _ _ = W
           obtain rfl : W = (false == false) := hW.symm.trans (wanted_of rfl rfl rfl (show a.eval (.tmp 21) = .bool false from (hm.get 7 21 (by kernel_rfl))))
           clear hW
           rw [if_pos (show (false == false) = true by decide)]
           refine wp_value (st_move rfl ((hs.keeps (by kernel_rfl)).trans rfl)) ⟨_, rfl, rfl, Below.refl _ _⟩
         | 9, _, ho => by
           cases ho
           generalize hW : Region.wanted _ _ = W
           obtain rfl : W = (false == false) := hW.symm.trans (wanted_of rfl rfl rfl (show a.eval (.tmp 21) = .bool false from (hm.get 7 21 (by kernel_rfl))))
           clear hW
           rw [if_pos (show (false == false) = true by decide)]
           refine wp_value (st_move rfl ((hs.keeps (by kernel_rfl)).trans rfl)) ⟨_, rfl, rfl, Below.refl _ _⟩
         | 10, _, ho => by
           cases ho
           generalize hW : Region.wanted _ _ = W
           obtain rfl : W = (false == false) := hW.symm.trans (wanted_of rfl rfl rfl (show a.eval (.tmp 21) = .bool false from (hm.get 7 21 (by kernel_rfl))))
           clear hW
           rw [if_pos (show (false == false) = true by decide)]
           have h1 := eval_getD (hm.get 8 22 (by kernel_rfl)); have h2 := eval_getD (hm.get 9 23 (by kernel_rfl)); unfold Oper.wp; simp only [execOp]; go_simp; exact ⟨_, rfl, rfl, Below.refl _ _⟩
         | 11, _, ho => by
           cases ho
           generalize hW : Region.wanted _ _ = W
           obtain rfl : W = (false == false) := hW.symm.trans (wanted_of rfl rfl rfl (show a.eval (.tmp 21) = .bool false from (hm.get 7 21 (by kernel_rfl))))
           clear hW
           rw [if_pos (show (false == false) = true by decide)]
           refine wp_value (st_field rfl (hm.get 10 24 (by kernel_rfl)) (by kernel_rfl)) ⟨_, rfl, rfl, Below.refl _ _⟩
         | 12, _, ho => by
           cases ho
           generalize hW : Region.wanted _ _ = W
           obtain rfl : W = (false == false) := hW.symm.trans (wanted_of rfl rfl rfl (show a.eval (.tmp 21) = .bool false from (hm.get 7 21 (by kernel_rfl))))
           clear hW
           rw [if_pos (show (false == false) = true by decide)]
           have hx := (HX0.out w hb).2; have h1 := eval_getD (hm.get 11 25 (by kernel_rfl)); unfold Oper.wp; simp only [execOp]; go_simp; exact ⟨_, rfl, rfl, Below.refl _ _⟩
         | 13, _, ho => by
           cases ho
           generalize hW : Region.wanted _ _ = W
           obtain rfl : W = (false == false) := hW.symm.trans (wanted_of rfl rfl rfl (show a.eval (.tmp 21) = .bool false from (hm.get 7 21 (by kernel_rfl))))
           clear hW
           rw [if_pos (show (false == false) = true by decide)]
           have h1 := eval_getD (hm.get 12 26 (by kernel_rfl)); unfold Oper.wp; simp only [execOp]; go_simp; exact ⟨_, rfl, (show Value.int _ _ = Value.int _ _ by first | rfl | simp), Below.refl _ _⟩
         | 14, _, ho => by
           cases ho
           generalize hW : Region.wanted _ _ = W
           obtain rfl : W = (false == false) := hW.symm.trans (wanted_of rfl rfl rfl (show a.eval (.tmp 21) = .bool false from (hm.get 7 21 (by kernel_rfl))))
           clear hW
           rw [if_pos (show (false == false) = true by decide)]
           have h1 := eval_getD (hm.get 13 27 (by kernel_rfl)); unfold Oper.wp; simp only [execOp]; go_simp; exact ⟨_, rfl, (show Value.bool _ = Value.bool _ by first | rw [H32.out] | (simp; done) | rfl), Below.refl _ _⟩
         | 15, _, ho => by
           cases ho
           rw [if_pos (wanted_none _ rfl)]
           have h1 := eval_getD (hm.get 7 21 (by kernel_rfl)); have h3 := eval_getD (hm.get 14 28 (by kernel_rfl)); unfold Oper.wp; simp only [execOp]; go_simp; exact ⟨_, rfl, rfl, Below.refl _ _⟩
         | 16, _, ho => by
           cases ho
           rw [if_pos (wanted_none _ rfl)]
           refine wp_value (st_move rfl (hm.get 15 29 (by kernel_rfl))) ⟨_, rfl, rfl, Below.refl _ _⟩
         | 17, _, ho => by
           cases ho
           generalize hW : Region.wanted _ _ = W
           obtain rfl : W = (true == false) := hW.symm.trans (wanted_of rfl rfl rfl (show a.eval (.tmp 30) = .bool true from (hm.get 16 30 (by kernel_rfl))))
           clear hW
           rw [if_neg (show ¬ (true == false) = true by decide)]
           exact rfl
         | 18, _, ho => by
           cases ho
           generalize hW : Region.wanted _ _ = W
           obtain rfl : W = (true == false) := hW.symm.trans (wanted_of rfl rfl rfl (show a.eval (.tmp 30) = .bool true from (hm.get 16 30 (by kernel_rfl))))
           clear hW
           rw [if_neg (show ¬ (true == false) = true by decide)]
           exact rfl
         | 19, _, ho => by
           cases ho
           generalize hW : Region.wanted _ _ = W
           obtain rfl : W = (true == false) := hW.symm.trans (wanted_of rfl rfl rfl (show a.eval (.tmp 30) = .bool true from (hm.get 16 30 (by kernel_rfl))))
           clear hW
           rw [if_neg (show ¬ (true == false) = true by decide)]
           exact rfl
         | 20, _, ho => by
           cases ho
           rw [if_neg (show ¬ Region.wanted _ _ = true by rw [wanted_undef rfl rfl rfl (show a.eval (.tmp 33) = undef from (hm.get 19 33 (by kernel_rfl)))]; decide)]
           exact rfl
         | 21, _, ho => by
           cases ho
           rw [if_neg (show ¬ Region.wanted _ _ = true by rw [wanted_undef rfl rfl rfl (show a.eval (.tmp 33) = undef from (hm.get 19 33 (by kernel_rfl)))]; decide)]
           exact rfl
         | 22, _, ho => by
           cases ho
           rw [if_neg (show ¬ Region.wanted _ _ = true by rw [wanted_undef rfl rfl rfl (show a.eval (.tmp 33) = undef from (hm.get 19 33 (by kernel_rfl)))]; decide)]
           exact rfl
         | 23, _, ho => by
           cases ho
           rw [if_neg (show ¬ Region.wanted _ _ = true by rw [wanted_undef rfl rfl rfl (show a.eval (.tmp 33) = undef from (hm.get 19 33 (by kernel_rfl)))]; decide)]
           exact rfl
         | 24, _, ho => by
           cases ho
           rw [if_neg (show ¬ Region.wanted _ _ = true by rw [wanted_undef rfl rfl rfl (show a.eval (.tmp 33) = undef from (hm.get 19 33 (by kernel_rfl)))]; decide)]
           exact rfl
         | 25, _, ho => by
           cases ho
           rw [if_neg (show ¬ Region.wanted _ _ = true by rw [wanted_undef rfl rfl rfl (show a.eval (.tmp 33) = undef from (hm.get 19 33 (by kernel_rfl)))]; decide)]
           exact rfl
         | 26, _, ho => by
           cases ho
           rw [if_neg (show ¬ Region.wanted _ _ = true by rw [wanted_undef rfl rfl rfl (show a.eval (.tmp 33) = undef from (hm.get 19 33 (by kernel_rfl)))]; decide)]
           exact rfl
         | 27, _, ho => by
           cases ho
           rw [if_neg (show ¬ Region.wanted _ _ = true by rw [wanted_undef rfl rfl rfl (show a.eval (.tmp 33) = undef from (hm.get 19 33 (by kernel_rfl)))]; decide)]
           exact rfl
         | 28, _, ho => by
           cases ho
           rw [if_neg (show ¬ Region.wanted _ _ = true by rw [wanted_undef rfl rfl rfl (show a.eval (.tmp 33) = undef from (hm.get 19 33 (by kernel_rfl)))]; decide)]
           exact rfl
         | 29, _, ho => by
           cases ho
           rw [if_neg (show ¬ Region.wanted _ _ = true by rw [wanted_undef rfl rfl rfl (show a.eval (.tmp 33) = undef from (hm.get 19 33 (by kernel_rfl)))]; decide)]
           exact rfl
         | 30, _, ho => by
           cases ho
           rw [if_neg (show ¬ Region.wanted _ _ = true by rw [wanted_undef rfl rfl rfl (show a.eval (.tmp 33) = undef from (hm.get 19 33 (by kernel_rfl)))]; decide)]
           exact rfl
         | 31, _, ho => by
           cases ho
           rw [if_neg (show ¬ Region.wanted _ _ = true by rw [wanted_undef rfl rfl rfl (show a.eval (.tmp 33) = undef from (hm.get 19 33 (by kernel_rfl)))]; decide)]
           exact rfl
         | 32, _, ho => by
           cases ho
           generalize hW : Region.wanted _ _ = W
           obtain rfl : W = (true == false) := hW.symm.trans (wanted_of rfl rfl rfl (show a.eval (.tmp 30) = .bool true from (hm.get 16 30 (by kernel_rfl))))
           clear hW
           rw [if_neg (show ¬ (true == false) = true by decide)]
           exact rfl
         | (n + 33), hi, _ => absurd hi (by omega)
      ·have e1 : a.eval (.tmp 30) = .bool true := by cases ho; exact hm.get 16 30 (by kernel_rfl)
       have hfr := hs.frame [14, 15, 16, 17, 18, 19, 20, 21, 22, 23, 24, 25, 26, 27, 28, 29, 30, 31, 32, 33, 34, 35, 36, 37, 38, 39, 40, 41, 42, 43, 44, 45, 46, 47] (by kernel_rfl)
       cases ho
       rw [hfr]
       simp only [List.foldl_cons, List.foldl_nil, e1]
       clear hfr hs hm e1 
       generalize a.eval (.tmp 14) = u14, a.eval (.tmp 15) = u15, a.eval (.tmp 16) = u16, a.eval (.tmp 17) = u17, a.eval (.tmp 18) = u18, a.eval (.tmp 19) = u19, a.eval (.tmp 20) = u20, a.eval (.tmp 21) = u21, a.eval (.tmp 22) = u22, a.eval (.tmp 23) = u23, a.eval (.tmp 24) = u24, a.eval (.tmp 25) = u25, a.eval (.tmp 26) = u26, a.eval (.tmp 27) = u27, a.eval (.tmp 28) = u28, a.eval (.tmp 29) = u29, a.eval (.tmp 31) = u31, a.eval (.tmp 32) = u32, a.eval (.tmp 33) = u33, a.eval (.tmp 34) = u34, a.eval (.tmp 35) = u35, a.eval (.tmp 36) = u36, a.eval (.tmp 37) = u37, a.eval (.tmp 38) = u38, a.eval (.tmp 39) = u39, a.eval (.tmp 40) = u40, a.eval (.tmp 41) = u41, a.eval (.tmp 42) = u42, a.eval (.tmp 43) = u43, a.eval (.tmp 44) = u44, a.eval (.tmp 45) = u45, a.eval (.tmp 46) = u46, a.eval (.tmp 47) = u47
       unfold Oper.wp
       simp only [execOp]
       go_simp
       clear a
       have BX := Lib.hid (bstep HBW.out hb)
       clear Hpv Hk1 C5
       go_wp2
       go_ret
       exact ⟨1, rfl, .inr ⟨rfl, HNO.out⟩, BX.out⟩
   ·obtain rfl : n = k := by have := hk.out; omega
    have hall : l.take n = l := List.take_of_length_le (by rw [Hln.out]; exact Nat.le_refl _)
    have HX : Hid (CheckP l) := Lib.hid (by
     have h1 := hfi.out.1
     have h2 := hfi.out.2
     unfold ApartTo at h2
     rw [hall] at h1 h2
     exact ⟨h1.1, h1.2, h2, by rw [Hln.out]; exact h4⟩)
    clear hall hfi
    go_wp2
    go_ret
    exact ⟨0, rfl, .inl ⟨rfl, HX.out⟩, hb.out⟩
end Go.Proofs.YtcednfmkiaelnaaGreatDoor
