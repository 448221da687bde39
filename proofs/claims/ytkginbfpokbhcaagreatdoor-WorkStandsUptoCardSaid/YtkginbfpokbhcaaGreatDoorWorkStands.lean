/-
  dolmenlaw20.WorkStands returns true. Conditions: the files can be read, are no more than 1048576, and their paths no longer than 1048576 bytes; MaxLen holds an int.
-/
import Derived.Test.YtkginbfpokbhcaaGreatDoorAwake20
import Derived.Test.YtkginbfpokbhcaaGreatDoorMine20
import Derived.Test.YtkginbfpokbhcaaGreatDoorStands20
import Derived.Test.YtkginbfpokbhcaaGreatDoorWorkSteps
import Derived.Test.YtkginbfpokbhcaaGreatDoorKitX
import Derived.Test.YtkginbfpokbhcaaGreatDoorSames
import Derived.Test.YtkginbfpokbhcaaGreatDoorSort13
import Derived.Test.YtkginbfpokbhcaaGreatDoorCheckG
import Derived.BigQuiet
namespace Go.Proofs.YtkginbfpokbhcaaGreatDoor
open Go.RowKit
open DiffLaw (fid ofPaths lay put)

def ws9Phi (E : Nat → Prop) (b off n c i p : Nat) (pt id : List UInt8) : Nat → Value → World → Prop
  | 0, v, _ => v = .pointer (some ⟨p, 0, none⟩)
  | 1, v, _ => v = .slice (some ⟨b, off, none⟩) n c
  | 2, v, _ => v = I ((i : Int))
  | 3, v, _ => v = .pointer (some ⟨b, off + i * 2, none⟩)
  | 4, v, _ => v = .pointer (some ⟨b, off + i * 2, none⟩)
  | 5, v, _ => v = S pt
  | 6, v, _ => v = .slice (some ⟨b, off, none⟩) n c
  | 7, v, _ => v = I ((i : Int))
  | 8, v, _ => v = .pointer (some ⟨b, off + i * 2, none⟩)
  | 9, v, _ => v = .pointer (some ⟨b, off + i * 2 + 1, none⟩)
  | 10, v, _ => v = S id
  | 11, v, w => ∃ (A' : Option Addr) (c' : Nat), v = .slice A' 32 c' ∧ SlF E w 1 A' 32 (u8s id)
  | 12, _, _ => True
  | _, _, _ => True
theorem ws9Phi_mono {E : Nat → Prop} {b off n c i p : Nat} {pt id : List UInt8} : ∀ (j : Nat) (v : Value) (w w' : World), ws9Phi E b off n c i p pt id j v w → Fr E w w' → ws9Phi E b off n c i p pt id j v w' := by
  intro j v w w' h hb9
  match j, h with
  | 0, h => exact h
  | 1, h => exact h
  | 2, h => exact h
  | 3, h => exact h
  | 4, h => exact h
  | 5, h => exact h
  | 6, h => exact h
  | 7, h => exact h
  | 8, h => exact h
  | 9, h => exact h
  | 10, h => exact h
  | 11, h => obtain ⟨A', c', e, hS⟩ := h; exact ⟨A', c', e, hS.fr hb9⟩
  | 12, h => exact trivial
  | (n + 13), _ => trivial
def ws23Phi (b6 o6 t c6 i j co g c5 : Nat) (Ao A5 : Option Addr) (p new : List UInt8) : Nat → Value → World → Prop
  | 0, v, _ => v = .slice Ao j co
  | 1, v, _ => v = .slice (some ⟨b6, o6, none⟩) t c6
  | 2, v, _ => v = I ((i : Int))
  | 3, v, _ => v = .pointer (some ⟨b6, o6 + i * 2, none⟩)
  | 4, v, _ => v = .pointer (some ⟨b6, o6 + i * 2, none⟩)
  | 5, v, _ => v = S p
  | 6, v, _ => v = .slice (some ⟨b6, o6, none⟩) t c6
  | 7, v, _ => v = I ((i : Int))
  | 8, v, _ => v = .pointer (some ⟨b6, o6 + i * 2, none⟩)
  | 9, v, _ => v = .pointer (some ⟨b6, o6 + i * 2 + 1, none⟩)
  | 10, v, _ => v = S new
  | 11, v, _ => v = .agg #[S p, S new]
  | 12, v, _ => v = .slice (some ⟨g, 0, none⟩) 1 1
  | 13, v, _ => v = .slice A5 (j + 1) c5
  | _, _, _ => True
theorem good_of_fine2 {l : List Fil} (h : FineL l) : DiffLaw.Good l := ⟨h.1, fun f hf e => by have := (h.2 f hf).2; rw [e] at this; simp at this⟩
theorem put_len2 (l : List Fil) (p i : List UInt8) : (put l p i).length ≤ l.length + 1 := by
  unfold DiffLaw.put
  rw [List.length_append]
  exact Nat.add_le_add (List.length_filter_le _ _) (by split <;> simp)
theorem sl_conv {w : World} {o : Obj} {id : List UInt8} {p q N : Nat} (hcell : ∀ (i : Nat) (x : UInt8), id[i]? = some x → (w.alloc o).cell? ⟨w.heap.size, i, none⟩ = some (U8 x)) (hl : id.length = 32) (hp : p < N) (hq : q < N) (hN : N ≤ w.heap.size) :
    SlF (fun k => k = p ∨ k = q) (w.drew.alloc o) 1 (some ⟨w.heap.size, 0, none⟩) 32 (u8s id) := by
  refine ⟨⟨by simp [hl], fun _ => ⟨_, _, rfl, by simp, fun k hk => ?_⟩⟩, fun b off _ e hE => ?_⟩
  · obtain ⟨x, hx⟩ : ∃ x, id[k]? = some x := ⟨id[k]'(by omega), List.getElem?_eq_getElem _⟩
    rw [Nat.zero_add]
    refine (hcell k x hx).trans ?_
    simp [hx]
  · cases e
    rcases hE with h | h <;> omega
theorem own_stepW {w w' : World} {base sz n : Nat} {e : TypeId} {v : Value} {xs : List Value} (h : w.ownsRow base e sz v n xs) (hb : Below w.heap.size w w') : w'.ownsRow base e sz v n xs :=
  h.kept (row := none) ⟨hb.os, hb.tape, hb.output, hb.size, fun i hi _ => hb.block i hi⟩ (by cases v.ownBlock <;> simp)
def wsJ (W : World) (p q nn : Nat) (cap : Int) (L : List DF) (s bs : List UInt8) : Nat → Value → World → Prop
  | 0, _, w => Below W.heap.size W w
  | _ + 1, u, w => ∃ z : Int, u = I z ∧ PutOut W p q nn cap L s bs z w
theorem wsJ.step {W : World} {p q nn : Nat} {cap : Int} {L : List DF} {s bs : List UInt8} : ∀ (k : Nat) (u : Value) (w w' : World), wsJ W p q nn cap L s bs k u w → Below w.heap.size w w' → wsJ W p q nn cap L s bs k u w'
  | 0, _, _, _, h, hb => bstep h hb
  | _ + 1, _, _, _, ⟨z, e, h⟩, hb => ⟨z, e, h.step hb⟩
theorem wsJ.fr {W : World} {p q nn : Nat} {cap : Int} {L : List DF} {s bs : List UInt8} : ∀ (k : Nat) (u : Value) (w : World), wsJ W p q nn cap L s bs k u w → Fr (fun k => k = p ∨ k = q) W w
  | 0, _, _, h => Fr.of_below h
  | _ + 1, _, _, ⟨_, _, h⟩ => h.1
set_option maxHeartbeats 8000000 in
set_option maxRecDepth 100000 in
theorem workStands_law (A B : Option Addr) (n m c d : Nat) (a0 b0 : List Fil) (w : World) (hA : Sl w 2 A n (fls a0)) (hB : Sl w 2 B m (fls b0)) (hn : n ≤ 1048576) (hm : m ≤ 1048576) (hP : ∀ f ∈ a0, f.1.length ≤ 1048576) (hQ : ∀ f ∈ b0, f.1.length ≤ 1048576) (hM : MaxL w) :
    Calls Tryz.prog 3 #[.slice A n c, .slice B m d] w fun e w' => e = .returned (.bool true) ∧ Below w.heap.size w w' := by
  obtain ⟨i0, hi0, hi1, hi2, hi3⟩ := info_parts Tryz.infoRFil
  have CW := Lib.hid (awake20_any w hM)
  have HA := Lib.hid hA
  have HB := Lib.hid hB
  have HM := Lib.hid hM
  have HP := Lib.hid hP
  have HQ := Lib.hid hQ
  have Hl := Lib.hid (fls_count hA)
  have Hlb := Lib.hid (fls_count hB)
  have Hn := Lib.hid hn
  have Hm := Lib.hid hm
  clear hA hB hM hP hQ hn hm
  go_enter Tryz.func3, Tryz.ntmps3
  go_wp2_with (first
    | (go_at_call 10; refine CW.out.mono ?_; rintro e w1 ⟨rfl, b1⟩; have B1 := Lib.hid b1; have M1 := Lib.hid (mine20_any w1 A n c a0 (HA.out.below b1) (by have := Hn.out; omega)); clear b1)
    | (go_at_call 12; (with_reducible refine M1.out.mono ?_); rintro e w2 ⟨A2, c2, rfl, hO2⟩; have B2 := Lib.hid (bstep B1.out hO2.2); have CK := Lib.hid (checkG_any A2 n c2 a0 w2 hO2.sl Hn.out (fun f hf => Nat.le_trans (HP.out f hf) (by omega)) (HM.out.step B2.out)); clear M1 hO2))
  refine CK.out.mono ?_
  rintro e w3 ⟨z, rfl, hz, b3⟩
  have B3 := Lib.hid (bstep B2.out b3)
  have HZ := Lib.hid hz
  clear hz b3
  rcases Decidable.em (z = 0) with rfl | hzn
  rotate_left
  · have hzb : (z != 0) = true := bne_iff_ne.2 hzn
    go_wp2
    go_ret
    exact ⟨rfl, B3.out⟩
  have HFa := Lib.hid (HZ.out rfl)
  have M3 := Lib.hid (mine20_any w3 B m d b0 (HB.out.below B3.out) (by have := Hm.out; omega))
  clear HZ CK
  go_wp2_with fail
  refine M3.out.mono ?_
  rintro e w4 ⟨A4, c4, rfl, hO4⟩
  have B4 := Lib.hid (bstep B3.out hO4.2)
  have CK := Lib.hid (checkG_any A4 m c4 b0 w4 hO4.sl Hm.out (fun f hf => Nat.le_trans (HQ.out f hf) (by omega)) (HM.out.step B4.out))
  clear M3 hO4
  go_wp2_with fail
  refine CK.out.mono ?_
  rintro e w5 ⟨z, rfl, hz, b5⟩
  have B5 := Lib.hid (bstep B4.out b5)
  have HZ := Lib.hid hz
  clear hz b5 CK
  have hways : (z != 0) = true ∨ ((z != 0) = false ∧ decide ((60 : Int) < (n : Int)) = true) ∨ ((z != 0) = false ∧ decide ((60 : Int) < (n : Int)) = false ∧ decide ((60 : Int) < (m : Int)) = true) ∨ ((z != 0) = false ∧ decide ((60 : Int) < (n : Int)) = false ∧ decide ((60 : Int) < (m : Int)) = false ∧ z = 0 ∧ n ≤ 60 ∧ m ≤ 60) := by
    by_cases h1 : z = 0
    · have e1 : (z != 0) = false := by rw [h1]; rfl
      by_cases h2 : 60 < n
      · exact .inr (.inl ⟨e1, decide_eq_true (by omega)⟩)
      · by_cases h3 : 60 < m
        · exact .inr (.inr (.inl ⟨e1, decide_eq_false (by omega), decide_eq_true (by omega)⟩))
        · exact .inr (.inr (.inr ⟨e1, decide_eq_false (by omega), decide_eq_false (by omega), h1, by omega, by omega⟩))
    · exact .inl (bne_iff_ne.2 h1)
  rcases hways with d1 | ⟨d1, d2⟩ | ⟨d1, d2, d3⟩ | ⟨d1, d2, d3, rfl, hn, hm⟩
  · go_wp2
    go_ret
    exact ⟨rfl, B5.out⟩
  · go_wp2
    go_ret
    exact ⟨rfl, B5.out⟩
  · go_wp2
    go_ret
    exact ⟨rfl, B5.out⟩
  have HFb := Lib.hid (HZ.out rfl)
  clear HZ
  have HPa : Hid (∀ f ∈ a0, f.1.length ≤ 2147483648) := Lib.hid (fun f hf => Nat.le_trans (HP.out f hf) (by decide))
  have HPb : Hid (∀ f ∈ b0, f.1.length ≤ 2147483648) := Lib.hid (fun f hf => Nat.le_trans (HQ.out f hf) (by decide))
  have Hn1 := Lib.hid hn
  have Hm1 := Lib.hid hm
  clear hn hm
  have CN : Hid (Calls Tryz.prog 13 #[.int .i64 1099511627776] w5 _) := Lib.hid (dnew_ok 1099511627776 w5 (by decide) (by decide))
  go_wp2_with fail
  refine CN.out.mono ?_
  rintro e w6 ⟨p, q, rfl, hp, hq, hD, b6⟩
  have hpl := hD.lt
  have hql := hD.map.lt
  have Hpq := Lib.hid (And.intro (And.intro hp hq) (And.intro hpl hql))
  have HD := Lib.hid hD
  have B6 := Lib.hid b6
  have HE5 : Hid (∀ k, (k = p ∨ k = q) → w5.heap.size ≤ k) := Lib.hid (fun k e => by omega)
  have HE6 : Hid (∀ k, (k = p ∨ k = q) → k < w6.heap.size) := Lib.hid (fun k e => by omega)
  clear hp hq hpl hql hD b6 CN
  go_wp2
  go_loopw [8, 9] (fun s8 s9 wr => ∃ (i co nn : Nat) (Ao : Option Addr) (L : List DF), s9 = .int .i64 i ∧ s8 = .slice Ao i co ∧ Hid (i ≤ n) ∧ Hid (DiskAt wr p q nn 1099511627776 L ∧ (costs L : Int) ≤ 1099511627776 ∧ nn ≤ i * 100000 ∧ WInv L (a0.take i)) ∧ Hid (wr.ownsRow w6.heap.size 33 2 (.slice Ao i co) i (fls (a0.take i)) ∧ w6.heap.size ≤ wr.heap.size ∧ Below w5.heap.size w5 wr)) (fun _ s9 _ => n - (intOf s9).toNat)
  case atStart => exact ⟨0, 0, 0, none, [], rfl, rfl, Lib.hid (Nat.zero_le _), Lib.hid ⟨HD.out, by decide, Nat.zero_le _, WInv.nil_⟩, Lib.hid ⟨(Ow.nil_ (Below.refl _ w6)).1, Nat.le_refl _, B6.out⟩⟩
  case round =>
    obtain ⟨i, co, nn, Ao, L, rfl, rfl, hi, hDL, hO⟩ := hrel
    by_cases hlt : i < n
    · obtain ⟨W, hW⟩ : ∃ W, W = wr := ⟨_, rfl⟩
      subst hW
      obtain ⟨b, off, x, rfl, hb, hx, _⟩ := HA.out.fil hlt
      obtain ⟨pt, id⟩ := x
      have Hx := Lib.hid hx
      have hmem : (pt, id) ∈ a0 := List.mem_of_getElem? hx
      have Hid32 : Hid (id.length = 32) := Lib.hid (HFa.out.2 _ hmem).2
      have Hpt : Hid (pt.length ≤ 2147483648) := Lib.hid (HPa.out _ hmem)
      have hbw : b < w5.heap.size := Nat.lt_of_lt_of_le hb B5.out.size
      have hAW : Sl W 2 (some ⟨b, off, none⟩) n (fls a0) := HA.out.below (bstep B5.out hO.out.2.2)
      have hpW : p < W.heap.size := Nat.lt_of_lt_of_le Hpq.out.2.1 hO.out.2.1
      have hqW : q < W.heap.size := Nat.lt_of_lt_of_le Hpq.out.2.2 hO.out.2.1
      have HX : Hid (∀ w', Fr (fun k => k = p ∨ k = q) W w' → w'.cell? ⟨b, off + i * 2, none⟩ = some (S pt) ∧ w'.cell? ⟨b, off + i * 2 + 1, none⟩ = some (S id)) := Lib.hid (fun w' hf => by
        obtain ⟨b2, o2, y, e1, hb2, hy, y0, y1⟩ := hAW.fil hlt
        cases e1
        obtain rfl : (pt, id) = y := Option.some.inj (hx.symm.trans hy)
        have hne : ¬ (b = p ∨ b = q) := by have := Hpq.out.1; omega
        exact ⟨(hf.cell (p := ⟨b, off + i * 2, none⟩) hb2 hne).trans y0, (hf.cell (p := ⟨b, off + i * 2 + 1, none⟩) hb2 hne).trans y1⟩)
      have HMW := Lib.hid (HM.out.step (bstep B5.out hO.out.2.2))
      have CP : Hid (∀ w', Below W.heap.size W w' → ∀ (A' : Option Addr) (c' : Nat), Sl w' 1 A' 32 (u8s id) → Calls Tryz.prog 14 #[.pointer (some ⟨p, 0, none⟩), S pt, .slice A' 32 c', .int .i64 1] w' fun e w2 => ∃ z : Int, e = .returned (I z) ∧ PutOut w' p q nn 1099511627776 L pt id z w2) := Lib.hid (fun w' hb A' c' hS =>
        wput_one w' p q nn _ L pt A' c' id (hDL.out.1.step hb) Hpt.out (HMW.out.step hb) hS (by decide) hDL.out.2.1 (by have := hDL.out.2.2.1; have := Hn1.out; simp only [maxLen]; omega))
      clear hx hmem hbw hAW hb
      go_wp2
      refine wp_region_chain (by kernel_rfl) 13 (by kernel_rfl) ?_ [12] (by kernel_rfl) (fun w w' => Fr (fun k => k = p ∨ k = q) w w') (fun _ _ hb => Fr.of_below hb) (ws9Phi (fun k => k = p ∨ k = q) b off n c i p pt id) ws9Phi_mono (wsJ W p q nn 1099511627776 L pt id) wsJ.step ⟨undef, below_drewN (Below.refl _ W) 1⟩ (fun i o hi hiC ho a w k u hj hs hm => ?_) (fun t i o ht ho a w u hj hs hm => ?_) (fun o ho a w9 u hj hu hs hm => ?_)
      · exact dst_ltC2 (n := 131) (by kernel_rfl)
      · have hfr := wsJ.fr _ _ _ hj
        exact match i, hi, hiC, ho with
          | 0, _, _, ho => by
              cases ho
              rw [if_pos (wanted_none _ rfl)]
              refine wp_value (st_move rfl ((hs.keeps (by kernel_rfl)).trans rfl)) ⟨_, rfl, rfl, Below.refl _ _⟩
          | 1, _, _, ho => by
              cases ho
              rw [if_pos (wanted_none _ rfl)]
              refine wp_value (st_move rfl ((hs.keeps (by kernel_rfl)).trans rfl)) ⟨_, rfl, rfl, Below.refl _ _⟩
          | 2, _, _, ho => by
              cases ho
              rw [if_pos (wanted_none _ rfl)]
              refine wp_value (st_move rfl ((hs.keeps (by kernel_rfl)).trans rfl)) ⟨_, rfl, rfl, Below.refl _ _⟩
          | 3, _, _, ho => by
              cases ho
              rw [if_pos (wanted_none _ rfl)]
              have h1 := eval_getD (hm.get 1 47 (by kernel_rfl)); have h2 := eval_getD (hm.get 2 48 (by kernel_rfl)); unfold Oper.wp; simp only [execOp]; go_simp; exact ⟨_, rfl, rfl, Below.refl _ _⟩
          | 4, _, _, ho => by
              cases ho
              rw [if_pos (wanted_none _ rfl)]
              have h1 := eval_getD (hm.get 3 49 (by kernel_rfl)); unfold Oper.wp; simp only [execOp]; go_simp; exact ⟨_, rfl, rfl, Below.refl _ _⟩
          | 5, _, _, ho => by
              cases ho
              rw [if_pos (wanted_none _ rfl)]
              have hx := (HX.out w hfr).1; have h1 := eval_getD (hm.get 4 50 (by kernel_rfl)); unfold Oper.wp; simp only [execOp]; go_simp; exact ⟨_, rfl, rfl, Below.refl _ _⟩
          | 6, _, _, ho => by
              cases ho
              rw [if_pos (wanted_none _ rfl)]
              refine wp_value (st_move rfl ((hs.keeps (by kernel_rfl)).trans rfl)) ⟨_, rfl, rfl, Below.refl _ _⟩
          | 7, _, _, ho => by
              cases ho
              rw [if_pos (wanted_none _ rfl)]
              refine wp_value (st_move rfl ((hs.keeps (by kernel_rfl)).trans rfl)) ⟨_, rfl, rfl, Below.refl _ _⟩
          | 8, _, _, ho => by
              cases ho
              rw [if_pos (wanted_none _ rfl)]
              have h1 := eval_getD (hm.get 6 52 (by kernel_rfl)); have h2 := eval_getD (hm.get 7 53 (by kernel_rfl)); unfold Oper.wp; simp only [execOp]; go_simp; exact ⟨_, rfl, rfl, Below.refl _ _⟩
          | 9, _, _, ho => by
              cases ho
              rw [if_pos (wanted_none _ rfl)]
              have h1 := eval_getD (hm.get 8 54 (by kernel_rfl)); unfold Oper.wp; simp only [execOp]; go_simp; exact ⟨_, rfl, rfl, Below.refl _ _⟩
          | 10, _, _, ho => by
              cases ho
              rw [if_pos (wanted_none _ rfl)]
              have hx := (HX.out w hfr).2; have h1 := eval_getD (hm.get 9 55 (by kernel_rfl)); unfold Oper.wp; simp only [execOp]; go_simp; exact ⟨_, rfl, rfl, Below.refl _ _⟩
          | 11, _, _, ho => by
              cases ho
              rw [if_pos (wanted_none _ rfl)]
              have h1 := eval_getD (hm.get 10 56 (by kernel_rfl)); have hs9 := hfr.size; obtain ⟨cc, o, hrun, hcell⟩ := conv_bytes w id; have hSl := sl_conv hcell Hid32.out hpW hqW hs9; unfold Oper.wp; simp only [execOp]; go_simp; rw [Hid32.out]; exact ⟨_, rfl, ⟨_, _, rfl, hSl⟩, balloc (Below.refl _ w).drew o⟩
          | 12, _, hiC, _ => absurd (by decide) hiC
          | (n + 13), hi, _, _ => absurd hi (by omega)

      · exact match t, ht, hj with
        | 0, ht, hj => by
            cases ht
            cases ho
            obtain ⟨A', c', e11, hS⟩ := hm.get 11 57 (by kernel_rfl)
            have h1 := eval_getD (hm.get 0 46 (by kernel_rfl))
            have h2 := eval_getD (hm.get 5 51 (by kernel_rfl))
            have h3 := eval_getD e11
            unfold Oper.wp; simp only [execOp]; go_simp
            refine (CP.out w hj A' c' hS.1).mono ?_
            rintro e w2 ⟨z, rfl, f2, hz⟩
            exact ⟨_, rfl, trivial, ⟨z, rfl, (Fr.of_below hj).trans f2, hz⟩, f2⟩
        | (t + 1), ht, _ => by cases ht
      · have e58 : a.eval (.tmp 58) = u := hu 0 12 58 _ rfl rfl rfl rfl
        obtain ⟨z, rfl, hfr9, hz⟩ := hj
        have hfr := hs.frame [46, 47, 48, 49, 50, 51, 52, 53, 54, 55, 56, 57, 58, 59] (by kernel_rfl)
        have HF9 := Lib.hid hfr9
        have HZ := Lib.hid hz
        have B9 : Hid (Below w5.heap.size w5 w9) := Lib.hid (hO.out.2.2.trans (hfr9.below (Nat.le_trans B6.out.size hO.out.2.1) HE5.out))
        cases ho
        rw [hfr]
        simp only [List.foldl_cons, List.foldl_nil, e58]
        clear hfr hs hm hu e58 hfr9 hz CP HMW
        generalize a.eval (.tmp 46) = u46
        generalize a.eval (.tmp 47) = u47
        generalize a.eval (.tmp 48) = u48
        generalize a.eval (.tmp 49) = u49
        generalize a.eval (.tmp 50) = u50
        generalize a.eval (.tmp 51) = u51
        generalize a.eval (.tmp 52) = u52
        generalize a.eval (.tmp 53) = u53
        generalize a.eval (.tmp 54) = u54
        generalize a.eval (.tmp 55) = u55
        generalize a.eval (.tmp 56) = u56
        generalize a.eval (.tmp 57) = u57
        unfold Oper.wp
        simp only [execOp]
        go_simp
        clear a
        have hzz : (z != 0) = true ∨ ((z != 0) = false ∧ z = 0) := by
          by_cases h : z = 0
          · exact .inr ⟨by rw [h]; rfl, h⟩
          · exact .inl (bne_iff_ne.2 h)
        rcases hzz with hzb | ⟨hzb, hz0⟩
        · go_wp2
          go_ret
          exact ⟨rfl, bstep B5.out B9.out⟩
        · obtain ⟨hw, hd, n', h2, h3, h4⟩ := HZ.out hz0
          have HD9 := Lib.hid h4
          have HI9 := Lib.hid (And.intro h3 (And.intro h2 (hDL.out.2.2.2.put (pt, id) hw hd (wbytes 1 id))))
          have hown := own_fr hO.out.1 HF9.out HE6.out
          have Hown := Lib.hid hown
          have hsz : w6.heap.size ≤ w9.heap.size := Nat.le_trans hO.out.2.1 HF9.out.size
          have Hsz := Lib.hid hsz
          obtain ⟨B8, hB8, hO8⟩ := ow_cut hown hsz
          have HB8 := Lib.hid hB8
          have HO8 := Lib.hid hO8
          obtain ⟨u0, u1⟩ := HX.out w9 HF9.out
          have q1 : i + 1 ≤ maxLen := by have := Hn1.out; simp only [maxLen]; omega
          have q2 : (i + 1) * 32 ≤ 140737488355328 := by have := Hn1.out; omega
          clear hw h2 h3 h4 hown hB8 hO8 HZ hsz hz0
          go_wp2_with (at_builtin; refine wpList_append_sl _ rfl (.tmp 60) (.tmp 65) _ rfl B8 33 i0 _ 2 32 Tryz.underlying22 hi0 hi1 hi2 hi3 rfl (by omega) Ao i co _ rfl (HO8.out.alloc _) (some ⟨w9.heap.size, 0, none⟩) 1 _ (fls [(pt, id)]) rfl (sl_fil w9 _ (pt, id)) (one_fls _) q1 q2 ?_; intro A5 c5 w5' hO5 hg5 hat5; have HO5 := Lib.hid hO5; have HG5 := Lib.hid hg5; clear hO5 hg5 hat5)
          have hal := balloc (Below.refl _ w9) (.cells #[S pt, S id] 33)
          have hown2 := own_stepW Hown.out hal
          have HE : Hid (fls (a0.take i) ++ fls [(pt, id)] = fls (a0.take (i + 1))) := Lib.hid (by rw [List.take_add_one, Hx.out, fls_append]; rfl)
          have HR : Hid (w5'.ownsRow w6.heap.size 33 2 (.slice A5 (i + 1) c5) (i + 1) (fls (a0.take (i + 1)))) := Lib.hid (by rw [← HE.out, ← HB8.out]; exact HO5.out.1)
          have HS5 : Hid (w6.heap.size ≤ w5'.heap.size ∧ Below w5.heap.size w5 w5') := Lib.hid ⟨by have := HO5.out.2.size; rw [HB8.out] at this; exact this, (bstep B9.out hal).grown HG5.out (Nat.le_trans B6.out.size (Nat.le_trans Hsz.out hal.size)) (fun k hk => Nat.le_trans B6.out.size (hown2.lt k hk).1)⟩
          have HD5 : Hid (DiskAt w5' p q n' 1099511627776 (putF (dropF L (shName (wname pt))) (wname pt) hd (wbytes 1 id)) ∧ (costs (putF (dropF L (shName (wname pt))) (wname pt) hd (wbytes 1 id)) : Int) ≤ 1099511627776 ∧ n' ≤ (i + 1) * 100000 ∧ WInv (putF (dropF L (shName (wname pt))) (wname pt) hd (wbytes 1 id)) (a0.take (i + 1))) := Lib.hid ⟨disk_append (HD9.out.step hal) hown2 (by decide) Hpq.out.2.1 Hpq.out.2.2 HG5.out, HI9.out.1, by have := HI9.out.2.1; have := hDL.out.2.2.1; omega, by rw [List.take_add_one, Hx.out]; exact HI9.out.2.2⟩
          clear hal hown2
          go_roundw
          case rel => exact ⟨i + 1, c5, n', A5, _, by go_num, rfl, Lib.hid hlt, HD5, Lib.hid ⟨HR.out, HS5.out⟩⟩
          case measure => simp [intOf]; omega
    · obtain rfl : n = i := by have := hi.out; omega
      rw [List.take_of_length_le (by rw [Hl.out]; exact Nat.le_refl _)] at hO hDL
      obtain ⟨W7, hW7⟩ : ∃ W7, W7 = wr := ⟨_, rfl⟩
      subst hW7
      have HS7 : Hid (Sl W7 2 Ao n (fls a0)) := Lib.hid (Sl.of_own hO.out.1)
      have HD7 := Lib.hid hDL.out.1
      have HW := Lib.hid hDL.out.2.2.2
      have B7 := Lib.hid (bstep B5.out hO.out.2.2)
      clear hO hDL HD B6 Hpq HE5 HE6 hlt hi
      have CM := Lib.hid (mine20_any W7 A n c a0 (HA.out.below B7.out) (by have := Hn1.out; omega))
      go_wp2_with fail
      refine CM.out.mono ?_
      rintro e w8 ⟨A8, c8, rfl, hO8⟩
      have B8 := Lib.hid (bstep B7.out hO8.2)
      have HO8 := Lib.hid hO8
      clear CM hO8
      have CM := Lib.hid (mine20_any w8 B m d b0 (HB.out.below B8.out) (by have := Hm1.out; omega))
      go_wp2_with fail
      refine CM.out.mono ?_
      rintro e w9 ⟨A9, c9, rfl, hO9⟩
      have B9 := Lib.hid (bstep B8.out hO9.2)
      have B79 := Lib.hid (bstep HO8.out.2 hO9.2)
      have CS := Lib.hid (wsteps_any w9 p q nn 1099511627776 L A8 A9 n m c8 c9 a0 b0 (HD7.out.step B79.out) (by have := HW.out.1; have := Hn1.out; have := Hl.out; omega) (HM.out.step B9.out) (HO8.out.keep hO9.2).sl hO9.sl (by have := Hn1.out; omega) (by have := Hm1.out; omega) HPa.out HPb.out)
      clear CM hO9 HO8
      go_wp2_with fail
      refine CS.out.mono ?_
      rintro e w10 ⟨A10, t, c10, ns, ps, rfl, hpm, _, hps, hO10⟩
      have B10 := Lib.hid (bstep B9.out hO10.2)
      obtain ⟨sts, hsts⟩ : ∃ sts, sts = stepsOf ns (ofPaths ps a0 b0) b0 := ⟨_, rfl⟩
      rw [← hsts] at hO10
      have htl : sts.length = t := fls_count hO10.sl
      have Htl := Lib.hid htl
      have Ht : Hid (t ≤ 1000) := Lib.hid (by
        have h1 := steps_len (ns := ns) hps
        rw [← hsts] at h1
        have h2 := hpm.length_eq
        rw [List.length_map] at h2
        have := HW.out.1; have := Hn1.out; have := Hm1.out; have := Hl.out; have := Hlb.out
        omega)
      have HE : Hid (∀ s : List Fil, s.Perm (lay a0 sts) → (s.map (fun x : Fil => x.1)).Pairwise (· ≤ ·) → s = b0) := Lib.hid (fun s hp hs => stands (good_of_fine2 HFa.out) (good_of_fine2 HFb.out) hps (fun f hf => hpm.mem_iff.2 (HW.out.2 f hf).2) (fun f hf => (HW.out.2 f hf).1) (hsts ▸ hp) hs)
      have HL := Lib.hid hO10.sl
      have HS10 := Lib.hid (HS7.out.below (bstep B79.out hO10.2))
      clear CS hpm hps hO10 hsts htl HS7 HD7 HW B79
      have Hcl : Hid (∀ k, k ≤ t → (lay a0 (sts.take k)).length ≤ n + k) := Lib.hid (fun k => by
        induction k with
        | zero => intro _; simp [DiffLaw.lay, Hl.out]
        | succ k ih =>
          intro hk
          have h1 := ih (by omega)
          obtain ⟨y, hy⟩ : ∃ y, sts[k]? = some y := ⟨sts[k]'(by rw [Htl.out]; omega), List.getElem?_eq_getElem _⟩
          have e : sts.take (k + 1) = sts.take k ++ [y] := by rw [List.take_add_one, hy]; rfl
          rw [e, DiffLaw.lay_snoc]
          exact Nat.le_trans (put_len2 _ _ _) (by omega))
      go_wp2
      go_loopw [8, 11] (fun s8 s11 wr => ∃ (i mm cm : Nat) (Am : Option Addr), s11 = .int .i64 i ∧ s8 = .slice Am mm cm ∧ Hid (i ≤ t) ∧ Hid (Sl wr 2 Am mm (fls (lay a0 (sts.take i)))) ∧ Hid (Below w10.heap.size w10 wr)) (fun _ s11 _ => t - (intOf s11).toNat)
      case atStart => exact ⟨0, n, co, Ao, rfl, rfl, Lib.hid (Nat.zero_le _), Lib.hid (by simpa [DiffLaw.lay] using HS10.out), Lib.hid (Below.refl _ _)⟩
      case round =>
        obtain ⟨i, mm, cm, Am, rfl, rfl, hi, hS, hb⟩ := hrel
        by_cases hlt : i < t
        · obtain ⟨b6, o6, x, rfl, hb6, hx, x60, x61⟩ := HL.out.fil hlt
          have Hx := Lib.hid hx
          clear hx
          obtain ⟨p, new⟩ := x
          obtain ⟨W2, hW⟩ : ∃ W, W = wr := ⟨_, rfl⟩
          subst hW
          have Hlw : Hid (∀ w', Below W2.heap.size W2 w' → w'.cell? ⟨b6, o6 + i * 2, none⟩ = some (S p) ∧ w'.cell? ⟨b6, o6 + i * 2 + 1, none⟩ = some (S new)) := Lib.hid (fun w' h => ⟨((bstep hb.out h).cell (p := ⟨b6, o6 + i * 2, none⟩) hb6).trans x60, ((bstep hb.out h).cell (p := ⟨b6, o6 + i * 2 + 1, none⟩) hb6).trans x61⟩)
          have HSm := Lib.hid hS.out
          obtain ⟨made, hmade⟩ : ∃ made, made = lay a0 (sts.take i) := ⟨_, rfl⟩
          rw [← hmade] at HSm
          have Hmade := Lib.hid hmade
          have BX := Lib.hid hb.out
          have Hmm : Hid (mm ≤ 2000) := Lib.hid (by
            have h1 := Hcl.out i (Nat.le_of_lt hlt)
            rw [← Hmade.out, fls_count HSm.out] at h1
            have := Hn1.out; have := Ht.out
            omega)
          clear hmade x60 x61
          go_wp2
          go_loopw [12, 13] (fun s12 s13 wi => ∃ (k j co : Nat) (Ao : Option Addr), s13 = .int .i64 k ∧ s12 = .slice Ao j co ∧ Hid (k ≤ mm) ∧ Hid (j ≤ k) ∧ Hid (Ow W2 wi 33 2 Ao j co (fls ((made.take k).filter (fun f => !decide (f.1 = p)))))) (fun _ s13 _ => mm - (intOf s13).toNat)
          case atStart => exact ⟨0, 0, 0, none, rfl, rfl, Lib.hid (Nat.zero_le _), Lib.hid (Nat.le_refl _), Lib.hid (Ow.nil_ (Below.refl _ _))⟩
          case round =>
            obtain ⟨k, j, co, Ao, rfl, rfl, hk, hj, hO⟩ := hrel
            by_cases hlk : k < mm
            · obtain ⟨bm, om, y, rfl, hbm, hy, y0, y1⟩ := (HSm.out.below hO.out.2).fil hlk
              obtain ⟨z0, _⟩ := Hlw.out wr hO.out.2
              have HY : Hid (∀ w', Below W2.heap.size W2 w' → w'.cell? ⟨bm, om + k * 2, none⟩ = some (S y.1) ∧ w'.cell? ⟨bm, om + k * 2 + 1, none⟩ = some (S y.2)) := Lib.hid (fun w' hb' => by
                obtain ⟨b2, off2, y', e1, _, hy', v0, v1⟩ := (HSm.out.below hb').fil hlk
                cases e1
                obtain rfl : y = y' := Option.some.inj (hy.symm.trans hy')
                exact ⟨v0, v1⟩)
              have Hy := Lib.hid hy
              clear hy
              have hmm9 : mm ≤ 2000 := Hmm.out
              have ht9 : t ≤ 1000 := Ht.out
              rcases Decidable.em (y.1 = p) with hp | hp
              · have hO2 : Hid (Ow W2 wr 33 2 Ao j co (fls ((made.take (k + 1)).filter (fun f => !decide (f.1 = p))))) := Lib.hid (by
                  have e : (made.take (k + 1)).filter (fun f => !decide (f.1 = p)) = (made.take k).filter (fun f => !decide (f.1 = p)) := by
                    rw [List.take_add_one, Hy.out, List.filter_append]
                    simp [hp]
                  rw [e]
                  exact hO.out)
                have d1 : (y.1 == p) = true := beq_iff_eq.2 hp
                clear hp
                go_wp2
                go_quiet (fail)
                go_wp2
                go_roundw
                case rel => exact ⟨k + 1, j, co, Ao, by go_num, rfl, Lib.hid hlk, Lib.hid (Nat.le_succ_of_le hj.out), Lib.hid (hO2.out.drewN _)⟩
                case measure => simp [intOf]; omega
              · have d1 : (y.1 == p) = false := beq_eq_false_iff_ne.2 hp
                have Hp := Lib.hid hp
                have q1 : j + 1 ≤ maxLen := by have := hj.out; have := Hmm.out; simp only [maxLen]; omega
                have q2 : (j + 1) * 32 ≤ 140737488355328 := by have := hj.out; have := Hmm.out; omega
                clear hp
                go_wp2
                go_quiet (fail)
                obtain ⟨w9, hw9⟩ : ∃ w9, wr.drewN nq = w9 := ⟨_, rfl⟩
                have b9 : Below W2.heap.size W2 w9 := by rw [← hw9]; exact below_drewN hO.out.2 _
                have HO9 : Hid (Ow W2 w9 33 2 Ao j co (fls ((made.take k).filter (fun f => !decide (f.1 = p))))) := Lib.hid (by rw [← hw9]; exact hO.out.drewN _)
                rw [hw9]
                obtain ⟨u0, u1⟩ := HY.out w9 b9
                clear hw9 b9 y0 y1 z0 d1
                go_wp2_with (at_builtin; refine wpList_append_sl _ rfl (.tmp 96) (.tmp 101) _ rfl W2 33 i0 _ 2 32 Tryz.underlying22 hi0 hi1 hi2 hi3 rfl (by omega) Ao j co _ rfl (HO9.out.alloc _) (some ⟨w9.heap.size, 0, none⟩) 1 _ (fls [y]) rfl (sl_fil w9 _ y) (one_fls _) q1 q2 ?_; intro A5 c5 w5 hO5 hg5 hat5; have HO5 := Lib.hid hO5; clear hO5 hg5 hat5)
                have HO7 : Hid (Ow W2 w5 33 2 A5 (j + 1) c5 (fls ((made.take (k + 1)).filter (fun f => !decide (f.1 = p))))) := Lib.hid (by
                  have e : (made.take (k + 1)).filter (fun f => !decide (f.1 = p)) = (made.take k).filter (fun f => !decide (f.1 = p)) ++ [y] := by
                    rw [List.take_add_one, Hy.out, List.filter_append]
                    simp [Hp.out]
                  rw [e, fls_append]
                  exact HO5.out)
                clear HO5
                go_roundw
                case rel => exact ⟨k + 1, j + 1, c5, A5, by go_num, rfl, Lib.hid hlk, Lib.hid (Nat.succ_le_succ hj.out), HO7⟩
                case measure => simp [intOf]; omega
            · obtain rfl : k = mm := by have := hk.out; omega
              have hlm : made.length = k := fls_count HSm.out
              rw [List.take_of_length_le (by omega)] at hO
              have e2 : sts.take (i + 1) = sts.take i ++ [(p, new)] := by rw [List.take_add_one, Hx.out]; rfl
              obtain ⟨W3, hW3⟩ : ∃ W3, W3 = wr := ⟨_, rfl⟩
              subst hW3
              have HB3 := Lib.hid (bstep BX.out hO.out.2)
              obtain ⟨z0, z2⟩ := Hlw.out W3 hO.out.2
              have ht9 : t ≤ 1000 := Ht.out
              cases new with
              | nil =>
                have HF : Hid (Sl W3 2 Ao j (fls (lay a0 (sts.take (i + 1))))) := Lib.hid (by
                  rw [e2, DiffLaw.lay_snoc, ← Hmade.out]
                  simpa [DiffLaw.put] using hO.out.sl)
                clear e2 hlm
                go_wp2
                go_roundw
                case rel => exact ⟨i + 1, j, co, Ao, by go_num, rfl, Lib.hid hlt, HF, HB3⟩
                case measure => simp [intOf]; omega
              | cons n1 n2 =>
                have HF : Hid (∀ (W4 : World) (A5 : Option Addr), Sl W4 2 A5 (j + 1) (fls (made.filter (fun f => !decide (f.1 = p))) ++ fls [(p, n1 :: n2)]) → Sl W4 2 A5 (j + 1) (fls (lay a0 (sts.take (i + 1))))) := Lib.hid (fun W4 A5 h => by
                  rw [e2, DiffLaw.lay_snoc, ← Hmade.out]
                  simpa [DiffLaw.put, fls_append] using h)
                clear e2 hlm
                have Hj : Hid (j + 1 ≤ maxLen ∧ (j + 1) * 32 ≤ 140737488355328) := Lib.hid (by have h1 := hj.out; have h2 := Hmm.out; simp only [maxLen]; omega)
                obtain ⟨W, hW⟩ : ∃ W, W = W3 := ⟨_, rfl⟩
                subst hW
                have HO6 := Lib.hid (hO.out.drew.alloc (.cells #[S p, S (n1 :: n2)] 33))
                have hS6 := sl_fil W.drew 33 (p, n1 :: n2)
                obtain ⟨A5, c5, w5, hrun, hO5, hg5, _⟩ := run_append_sl (P := Tryz.prog) _ W2.heap.size 22 22 33 i0 _ 2 32 Tryz.underlying22 hi0 hi1 hi2 hi3 rfl (by decide) (.slice Ao j co) j (fls (made.filter (fun f => !decide (f.1 = p)))) HO6.out.1 _ 1 1 (fls [(p, n1 :: n2)]) hS6 (one_fls _) Hj.out.1 Hj.out.2 HO6.out.2.size
                have hb5 : Below W2.heap.size W2 w5 := HO6.out.2.grown hg5 HO6.out.2.size (fun k hk => (HO6.out.1.lt k hk).1)
                have HO5 : Hid (Sl w5 2 A5 (j + 1) (fls (lay a0 (sts.take (i + 1))))) := Lib.hid (HF.out w5 A5 (Sl.of_own hO5))
                have HB := Lib.hid (CJ.bel (w0 := W2) (W0 := W.drew) (W1 := W.drew.alloc (.cells #[S p, S (n1 :: n2)] 33)) (W2 := w5) hO.out.2.drew HO6.out.2 hb5)
                have HB5 := Lib.hid (bstep BX.out hb5)
                have Hrun := Lib.hid hrun
                have Hx2 := Hlw
                clear hS6 hrun hO5 hg5 hb5 HO6 HF Hj
                obtain ⟨g, hg⟩ : ∃ g, g = W.heap.size := ⟨_, rfl⟩
                have Hg := Lib.hid hg
                clear hg
                go_wp2
                clear z0 z2
                refine wp_region_pairR (by kernel_rfl) 14 (by kernel_rfl) ?_ (fun q v => ws23Phi b6 o6 t c10 i j co g c5 Ao A5 p (n1 :: n2) q v W) 12 13 (by kernel_rfl) (fun w w' => w' = w) (fun _ => rfl) (CJ W.drew (W.drew.alloc (.cells #[S p, S (n1 :: n2)] 33)) w5) CJ.step rfl (fun i o hi hi1 hi2 ho a w k' hk hk2 hs hm => ?_) (fun o ho a w hj hs hm => ?_) (fun o ho a w hj hs hm => ?_) (fun o ho a w hj hs hm => ?_)
                · exact dst_ltC2 (n := 131) (by kernel_rfl)
                · obtain ⟨y0, y1⟩ := Hx2.out w (HB.out k' w hk)
                  exact match i, hi, ho, hi1, hi2 with
                  | 0, _, ho, _, _ => by
                      cases ho
                      rw [if_pos (wanted_none _ rfl)]
                      refine wp_value (st_move rfl ((hs.keeps (by kernel_rfl)).trans rfl)) ⟨_, rfl, rfl, rfl⟩
                  | 1, _, ho, _, _ => by
                      cases ho
                      rw [if_pos (wanted_none _ rfl)]
                      refine wp_value (st_move rfl ((hs.keeps (by kernel_rfl)).trans rfl)) ⟨_, rfl, rfl, rfl⟩
                  | 2, _, ho, _, _ => by
                      cases ho
                      rw [if_pos (wanted_none _ rfl)]
                      refine wp_value (st_move rfl ((hs.keeps (by kernel_rfl)).trans rfl)) ⟨_, rfl, rfl, rfl⟩
                  | 3, _, ho, _, _ => by
                      cases ho
                      rw [if_pos (wanted_none _ rfl)]
                      have h1 := eval_getD (hm.get 1 110 (by kernel_rfl)); have h2 := eval_getD (hm.get 2 111 (by kernel_rfl)); unfold Oper.wp; simp only [execOp]; go_simp; (first | exact ⟨_, rfl, rfl⟩ | exact ⟨_, rfl, rfl, rfl⟩)
                  | 4, _, ho, _, _ => by
                      cases ho
                      rw [if_pos (wanted_none _ rfl)]
                      have h1 := eval_getD (hm.get 3 112 (by kernel_rfl)); unfold Oper.wp; simp only [execOp]; go_simp; (first | exact ⟨_, rfl, rfl⟩ | exact ⟨_, rfl, rfl, rfl⟩)
                  | 5, _, ho, _, _ => by
                      cases ho
                      rw [if_pos (wanted_none _ rfl)]
                      have h1 := eval_getD (hm.get 4 113 (by kernel_rfl)); unfold Oper.wp; simp only [execOp]; go_simp; (first | exact ⟨_, rfl, rfl⟩ | exact ⟨_, rfl, rfl, rfl⟩)
                  | 6, _, ho, _, _ => by
                      cases ho
                      rw [if_pos (wanted_none _ rfl)]
                      refine wp_value (st_move rfl ((hs.keeps (by kernel_rfl)).trans rfl)) ⟨_, rfl, rfl, rfl⟩
                  | 7, _, ho, _, _ => by
                      cases ho
                      rw [if_pos (wanted_none _ rfl)]
                      refine wp_value (st_move rfl ((hs.keeps (by kernel_rfl)).trans rfl)) ⟨_, rfl, rfl, rfl⟩
                  | 8, _, ho, _, _ => by
                      cases ho
                      rw [if_pos (wanted_none _ rfl)]
                      have h1 := eval_getD (hm.get 6 115 (by kernel_rfl)); have h2 := eval_getD (hm.get 7 116 (by kernel_rfl)); unfold Oper.wp; simp only [execOp]; go_simp; (first | exact ⟨_, rfl, rfl⟩ | exact ⟨_, rfl, rfl, rfl⟩)
                  | 9, _, ho, _, _ => by
                      cases ho
                      rw [if_pos (wanted_none _ rfl)]
                      have h1 := eval_getD (hm.get 8 117 (by kernel_rfl)); unfold Oper.wp; simp only [execOp]; go_simp; (first | exact ⟨_, rfl, rfl⟩ | exact ⟨_, rfl, rfl, rfl⟩)
                  | 10, _, ho, _, _ => by
                      cases ho
                      rw [if_pos (wanted_none _ rfl)]
                      have h1 := eval_getD (hm.get 9 118 (by kernel_rfl)); unfold Oper.wp; simp only [execOp]; go_simp; (first | exact ⟨_, rfl, rfl⟩ | exact ⟨_, rfl, rfl, rfl⟩)
                  | 11, _, ho, _, _ => by
                      cases ho
                      rw [if_pos (wanted_none _ rfl)]
                      have h1 := eval_getD (hm.get 5 114 (by kernel_rfl)); have h2 := eval_getD (hm.get 10 119 (by kernel_rfl)); unfold Oper.wp; simp only [execOp]; go_simp; (first | exact ⟨_, rfl, rfl⟩ | exact ⟨_, rfl, rfl, rfl⟩)
                  | 12, _, _, h, _ => absurd rfl h
                  | 13, _, _, _, h => absurd rfl h
                  | (n + 14), hi, _, _, _ => absurd hi (by omega)

                · cases ho
                  obtain rfl : w = W.drew := hj
                  have h1 := eval_getD (hm.get 11 120 (by kernel_rfl))
                  unfold Oper.wp
                  simp only [execOp]
                  go_simp
                  exact ⟨_, rfl, show Value.slice _ _ _ = Value.slice _ _ _ by rw [Hg.out], rfl⟩
                · have hj1 : w = W.drew.alloc (.cells #[S p, S (n1 :: n2)] 33) := hj
                  subst hj1
                  obtain ⟨h1, h2, h3, h4, h5⟩ : a.eval (.tmp 109) = .slice Ao j co ∧ a.eval (.tmp 121) = .slice (some ⟨g, 0, none⟩) 1 1 ∧ o.op = .call { callee := .builtin .append, args := #[.tmp 109, .tmp 121], argTypes := #[22, 22] } ∧ o.dst = some 122 ∧ o.type = 22 := by
                    cases ho
                    exact ⟨hm.get 0 109 (by kernel_rfl), hm.get 12 121 (by kernel_rfl), rfl, rfl, rfl⟩
                  rw [Hg.out] at h2
                  have hr := Hrun.out
                  simp only [World.size_drew] at hr
                  unfold Oper.wp execOp
                  simp only [h3, h5, resolve, invoke, builtin, Sem.run_bind, Sem.run_pure, Result.andThen_ok, List.map_toArray, List.map_cons, List.map_nil, h1, h2, hr]
                  exact ⟨_, rfl, rfl, rfl⟩
                · have e1 : a.eval (.tmp 122) = .slice A5 (j + 1) c5 := by cases ho; exact hm.get 13 122 (by kernel_rfl)
                  have hfr := hs.frame [109, 110, 111, 112, 113, 114, 115, 116, 117, 118, 119, 120, 121, 122] (by kernel_rfl)
                  cases ho
                  obtain rfl : w = w5 := hj
                  rw [hfr]
                  simp only [List.foldl_cons, List.foldl_nil, e1]
                  clear hfr hs hm e1
                  generalize a.eval (.tmp 109) = u109
                  generalize a.eval (.tmp 110) = u110
                  generalize a.eval (.tmp 111) = u111
                  generalize a.eval (.tmp 112) = u112
                  generalize a.eval (.tmp 113) = u113
                  generalize a.eval (.tmp 114) = u114
                  generalize a.eval (.tmp 115) = u115
                  generalize a.eval (.tmp 116) = u116
                  generalize a.eval (.tmp 117) = u117
                  generalize a.eval (.tmp 118) = u118
                  generalize a.eval (.tmp 119) = u119
                  generalize a.eval (.tmp 120) = u120
                  generalize a.eval (.tmp 121) = u121
                  unfold Oper.wp
                  simp only [execOp]
                  go_simp
                  clear a
                  go_wp2
                  go_roundw
                  case rel => exact ⟨_, j + 1, c5, A5, by go_num, rfl, Lib.hid hlt, HO5, HB5⟩
                  case measure => simp [intOf]; omega
        · obtain rfl : i = t := by have := hi.out; omega
          rw [List.take_of_length_le (by rw [Htl.out]; exact Nat.le_refl _)] at hS
          have Hml : Hid (mm ≤ 2000000) := Lib.hid (by
            have h1 := Hcl.out i (Nat.le_refl _)
            rw [List.take_of_length_le (by rw [Htl.out]; exact Nat.le_refl _), fls_count hS.out] at h1
            have := Hn1.out; have := Ht.out
            omega)
          have BX := Lib.hid (bstep B10.out hb.out)
          have CS := Lib.hid (sorted13_any Am mm cm _ wr hS.out Hml.out)
          go_wp2_with fail
          refine CS.out.mono ?_
          rintro e w15 ⟨A15, c15, out, rfl, hpm, hrise, _, hO15⟩
          have B15 := Lib.hid (bstep BX.out hO15.2)
          have HE2 := Lib.hid (HE.out out hpm hrise)
          have CQ := Lib.hid (sameFiles_any w15 A15 B mm m c15 d out b0 hO15.sl (HB.out.below B15.out) (by have := Hml.out; omega))
          rw [decide_eq_true HE2.out] at CQ
          clear CS hpm hrise hO15
          go_wp2_with fail
          refine CQ.out.mono ?_
          rintro e w16 ⟨rfl, j16, rfl⟩
          go_wp2
          go_ret
          exact ⟨rfl, below_drewN B15.out _⟩
theorem workStands_walk (A : Option Addr) (n c : Nat) (a : List Fil) (B : Option Addr) (m d : Nat) (b : List Fil) (w : World) (hA : Sl w 2 A n (fls a)) (hn : n ≤ 1048576) (hP : ∀ f ∈ a, f.1.length ≤ 1048576) (hB : Sl w 2 B m (fls b)) (hm : m ≤ 1048576) (hQ : ∀ f ∈ b, f.1.length ≤ 1048576) (hM : MaxL w) :
    Calls Tryz.prog 3 #[.slice A n c, .slice B m d] w fun e w' => e = .returned (.bool true) ∧ Below w.heap.size w w' := workStands_law A B n m c d a b w hA hB hn hm hP hQ hM
end Go.Proofs.YtkginbfpokbhcaaGreatDoor
