/-
  dolmenlaw16.PairMoves returns true. Conditions: the files can be read, are no more than 1048576, and their paths no longer than 1048576 bytes; the other name is no longer either; MaxLen holds an int.
-/
import Derived.Test.YtkginbfpokbhcaaGreatDoorAwake16
import Derived.Test.YtkginbfpokbhcaaGreatDoorPairCopy
import Derived.Test.YtkginbfpokbhcaaGreatDoorSames
import Derived.Test.YtkginbfpokbhcaaGreatDoorSort13
import Derived.Test.YtkginbfpokbhcaaGreatDoorCheckG
import Derived.Test.YtkginbfpokbhcaaGreatDoorMovesLaw
namespace Go.Proofs.YtkginbfpokbhcaaGreatDoor
open Go.RowKit Go.Shelf
open DiffLaw (fid ofPaths)

theorem and16 (z : Int) : 0 ≤ bits BinOp.and IntKind.i64 z 65535 ∧ bits BinOp.and IntKind.i64 z 65535 ≤ 65535 := by
  have e : bits BinOp.and IntKind.i64 z 65535 = IntKind.i64.wrap (((BitVec.ofInt 64 z &&& BitVec.ofInt 64 65535).toNat : Nat) : Int) := rfl
  have h1 : (BitVec.ofInt 64 z &&& BitVec.ofInt 64 65535).toNat ≤ 65535 := by
    rw [BitVec.toNat_and]
    exact Nat.le_trans Nat.and_le_right (by decide)
  rw [e, IntWalk.i64_in _ (by omega)]
  omega
theorem fls_set {l : List Fil} {k : Nat} {x : Fil} (h : l[k]? = some x) (too : List UInt8) : (fls l).set (k * 2) (S too) = fls (l.set k (too, x.2)) := by
  obtain ⟨h1, h2⟩ := List.getElem?_eq_some_iff.1 h
  have e : l = l.take k ++ x :: l.drop (k + 1) := by rw [← h2, ← List.drop_eq_getElem_cons h1, List.take_append_drop]
  have hk : (l.take k).length = k := by rw [List.length_take]; omega
  have hk2 : (fls (l.take k)).length = k * 2 := by rw [fls_len, hk]
  generalize l.take k = a at e hk hk2
  generalize l.drop (k + 1) = b at e
  subst e
  rw [fls_append, List.set_append_right _ _ (by omega), hk2, Nat.sub_self, List.set_append_right _ _ (by omega), hk, Nat.sub_self, List.set_cons_zero, fls_append]
  rfl
theorem good_of_fine {l : List Fil} (h : FineL l) : DiffLaw.Good l := ⟨h.1, fun f hf e => by have := (h.2 f hf).2; rw [e] at this; simp at this⟩
theorem gone_iff (c : Chg3) : goneB c = true ↔ (c.2.2 = [] ∧ c.2.1 ≠ []) := by simp [goneB]
theorem fresh_iff (c : Chg3) : freshB c = true ↔ (c.2.1 = [] ∧ c.2.2 ≠ []) := by simp [freshB]
theorem set_short {l m : List Fil} {k N : Nat} {too id : List UInt8} (h : ∀ f ∈ l, f.1.length ≤ N) (ht : too.length ≤ N) (hm : m.Perm (l.set k (too, id))) : ∀ f ∈ m, f.1.length ≤ N := by
  intro f hf
  rcases List.mem_or_eq_of_mem_set (hm.mem_iff.1 hf) with h1 | rfl
  · exact h f h1
  · exact ht
theorem Ow.frozen {w0 w : World} {e : TypeId} {sz n c g : Nat} {xs : List Value} (h : Ow w0 w e sz (some ⟨g, 0, none⟩) n c xs) (i : Nat) : w.frozen? ⟨g, i, none⟩ = false := by
  rcases h.1.2 with ⟨hv, _⟩ | ⟨g', cap, cur, hv, _, hh, _⟩
  · injection hv with h1
    cases h1
  · injection hv with h1
    cases h1
    simp [World.frozen?, hh]
set_option maxHeartbeats 8000000 in
set_option maxRecDepth 100000 in
theorem pairMoves_law (A : Option Addr) (n c : Nat) (l : List Fil) (at_ : Int) (too : List UInt8) (w : World) (hA : Sl w 2 A n (fls l)) (hn : n ≤ 1048576) (hP : ∀ f ∈ l, f.1.length ≤ 1048576) (ht : too.length ≤ 1048576) (hM : MaxL w) :
    Calls Tryz.prog 7 #[.slice A n c, I at_, S too] w fun e w' => e = .returned (.bool true) ∧ Below w.heap.size w w' := by
  obtain ⟨i0, hi0, hz0, hz1, hz2⟩ := info_parts Tryz.infoRFil
  have CW := Lib.hid (awake16_any w)
  have HA := Lib.hid hA
  have HM := Lib.hid hM
  have HP := Lib.hid hP
  have Ht := Lib.hid ht
  have hl := fls_count hA
  have Hl := Lib.hid hl
  clear hA hM hP ht hl
  have hways : n = 0 ∨ (((n : Int) == 0) = false ∧ decide (n = 0) = false ∧ decide ((n : Int) = 0) = false ∧ decide ((100 : Int) < (n : Int)) = true) ∨ (((n : Int) == 0) = false ∧ decide (n = 0) = false ∧ decide ((n : Int) = 0) = false ∧ decide ((100 : Int) < (n : Int)) = false ∧ 0 < n ∧ n ≤ 100) := by
    by_cases h0 : n = 0
    · exact .inl h0
    · have e1 : ((n : Int) == 0) = false := beq_eq_false_iff_ne.2 (by omega)
      have e2 : decide (n = 0) = false := decide_eq_false h0
      have e3 : decide ((n : Int) = 0) = false := decide_eq_false (by omega)
      by_cases h1 : 100 < n
      · exact .inr (.inl ⟨e1, e2, e3, decide_eq_true (by omega)⟩)
      · exact .inr (.inr ⟨e1, e2, e3, decide_eq_false (by omega), by omega, by omega⟩)
  rcases hways with rfl | ⟨e1, e2, e3, d1⟩ | ⟨e1, e2, e3, d1, hpos, hle⟩
  · go_enter Tryz.func7, Tryz.ntmps7
    go_wp2_with (go_at_call 24; refine CW.out.mono ?_; rintro e w1 ⟨rfl, b1⟩)
    go_ret
    exact ⟨rfl, b1⟩
  · go_enter Tryz.func7, Tryz.ntmps7
    go_wp2_with (go_at_call 24; refine CW.out.mono ?_; rintro e w1 ⟨rfl, b1⟩)
    go_ret
    exact ⟨rfl, b1⟩
  · go_enter Tryz.func7, Tryz.ntmps7
    have Hn := Lib.hid hn
    clear hn
    go_wp2_with (first
      | (go_at_call 24; refine CW.out.mono ?_; rintro e w1 ⟨rfl, b1⟩; have B1 := Lib.hid b1; have M1 := Lib.hid (mine16_any w1 A n c l (HA.out.below b1) (by have := Hn.out; omega)); clear b1)
      | (go_at_call 28; (with_reducible refine M1.out.mono ?_); rintro e w2 ⟨A2, c2, rfl, hO2⟩; have B2 := Lib.hid (bstep B1.out hO2.2); have CK := Lib.hid (checkG_any A2 n c2 l w2 hO2.sl Hn.out (fun f hf => Nat.le_trans (HP.out f hf) (by omega)) (HM.out.step B2.out)); clear M1 hO2))
    refine CK.out.mono ?_
    rintro e w3 ⟨z, rfl, hz, b3⟩
    have B3 := Lib.hid (bstep B2.out b3)
    have HZ := Lib.hid hz
    clear hz b3
    rcases Decidable.em (z = 0) with rfl | hzn
    rotate_left
    · have hzb : (z != 0) = true := bne_iff_ne.2 hzn
      go_wp2
      go_ret
      exact ⟨rfl, B3.out⟩
    · have HF := Lib.hid (HZ.out rfl)
      clear HZ
      obtain ⟨b0, h0⟩ := and16 at_
      obtain ⟨k, hk⟩ : ∃ k : Nat, k = (bits BinOp.and IntKind.i64 at_ 65535 % (n : Int)).toNat := ⟨_, rfl⟩
      have h1 := Int.emod_lt_of_pos (bits BinOp.and IntKind.i64 at_ 65535) (show (0 : Int) < n by omega)
      have hmd0 := Int.emod_nonneg (bits BinOp.and IntKind.i64 at_ 65535) (show (n : Int) ≠ 0 by omega)
      have hkn : k < n := by omega
      have hke : (bits BinOp.and IntKind.i64 at_ 65535).tmod (n : Int) = (k : Int) := by rw [Int.tmod_eq_emod_of_nonneg b0]; omega
      have Hk := Lib.hid hke
      clear hk h1 hmd0 b0 h0
      obtain ⟨bA, oA, x, eA, hbA, hx, x0, x1⟩ := (HA.out.below B3.out).fil hkn
      have Hx := Lib.hid hx
      subst eA
      have HS3 := Lib.hid (HA.out.below B3.out)
      have q1 : 0 + n ≤ maxLen := by simp only [maxLen]; omega
      have q2 : (0 + n) * 32 ≤ 140737488355328 := by omega
      clear hx x0 x1
      go_wp2_with (at_builtin; refine wpList_append_sl _ rfl (.tmp 33) (.tmp 34) _ rfl w3 33 i0 _ 2 32 Tryz.underlying22 hi0 hz0 hz1 hz2 rfl (by decide) none 0 0 [] rfl (Ow.nil_ (Below.refl _ _)) _ n c (fls l) rfl HS3.out (one_fls _) q1 q2 ?_; intro A4 c4 w4 hO4 hg4 hat4; rw [Nat.zero_add, List.nil_append] at hO4; obtain ⟨g, rfl, hg0, hg1⟩ := hO4.form hpos; obtain ⟨bB, oB, y, eB, _, hy, y0, _⟩ := hO4.sl.fil hkn; cases eB; obtain rfl : x = y := Option.some.inj (Hx.out.symm.trans hy); have hfz := hO4.frozen; have HO4 := Lib.hid hO4; have Hg0 := Lib.hid hg0; simp only [Nat.zero_add] at y0; clear hO4 hg4 hat4 hy hg0)
      refine Exists.elim (show ∃ W, W = w4.setCell ⟨g, k * 2, none⟩ (S too) from ⟨_, rfl⟩) fun W hW => ?_
      rw [show w4.setCell ⟨g, k * 2, none⟩ (Value.string ⟨too.toArray⟩) = W from hW.symm]
      have HO5 : Hid (Ow w3 W 33 2 (some ⟨g, 0, none⟩) n c4 (fls (l.set k (too, x.2)))) := Lib.hid (by rw [hW, ← fls_set Hx.out]; exact HO4.out.set_ _ _)
      have B5 := Lib.hid (bstep B3.out HO5.out.2)
      clear y0 hfz hW HO4
      have CS := Lib.hid (sorted13_any (some ⟨g, 0, none⟩) n c4 _ W HO5.out.sl (by omega))
      refine CS.out.mono ?_
      rintro e w6 ⟨A6, c6, out, rfl, hpm, hrise, hc6, hO6⟩
      have B6 := Lib.hid (bstep B5.out hO6.2)
      have HO6 := Lib.hid hO6
      have Hpm := Lib.hid hpm
      have HPo := Lib.hid (set_short HP.out Ht.out hpm)
      have M6 := Lib.hid (mine16_any w6 A6 n c6 out hO6.sl (by omega))
      clear hpm hrise hO6 CS
      go_wp2_with fail
      refine M6.out.mono ?_
      rintro e w7 ⟨A7, c7, rfl, hO7⟩
      have B7 := Lib.hid (bstep B6.out hO7.2)
      have CK7 := Lib.hid (checkG_any A7 n c7 out w7 hO7.sl Hn.out (fun f hf => Nat.le_trans (HPo.out f hf) (by omega)) (HM.out.step B7.out))
      have HO7 := Lib.hid hO7
      clear hO7 M6
      go_wp2_with fail
      refine CK7.out.mono ?_
      rintro e w8 ⟨z, rfl, hz, b8⟩
      have B8 := Lib.hid (bstep B7.out b8)
      have BB8 := Lib.hid (bstep HO7.out.2 b8)
      have HZ := Lib.hid hz
      obtain ⟨b', o', x', e', _, hx', x0, x1⟩ := (HA.out.below B8.out).fil hkn
      cases e'
      obtain rfl : x = x' := Option.some.inj (Hx.out.symm.trans hx')
      clear hz b8 hx'
      have hways : (z != 0) = true ∨ ((z != 0) = false ∧ z = 0 ∧ (too == x.1) = true) ∨ ((z != 0) = false ∧ z = 0 ∧ (too == x.1) = false ∧ too ≠ x.1) := by
        by_cases h1 : z = 0
        · subst h1
          by_cases h2 : too = x.1
          · exact .inr (.inl ⟨rfl, rfl, beq_iff_eq.2 h2⟩)
          · exact .inr (.inr ⟨rfl, rfl, beq_eq_false_iff_ne.2 h2, h2⟩)
        · exact .inl (bne_iff_ne.2 h1)
      rcases hways with d2 | ⟨d2, rfl, d3⟩ | ⟨d2, rfl, d3, hne⟩
      · go_wp2
        go_ret
        exact ⟨rfl, B8.out⟩
      · go_wp2
        go_ret
        exact ⟨rfl, B8.out⟩
      · have HF8 := Lib.hid (HZ.out rfl)
        have Hne := Lib.hid hne
        have M8 := Lib.hid (mine16_any w8 (some ⟨bA, oA, none⟩) n c l (HA.out.below B8.out) (by omega))
        go_wp2_with fail
        refine M8.out.mono ?_
        rintro e w9 ⟨A9, c9, rfl, hO9⟩
        have B9 := Lib.hid (bstep B8.out hO9.2)
        have HO9 := Lib.hid hO9
        have M9 := Lib.hid (mine16_any w9 A6 n c6 out (HO6.out.sl.below (bstep BB8.out hO9.2)) (by omega))
        clear M8 hO9 x0 x1
        go_wp2_with fail
        refine M9.out.mono ?_
        rintro e w10 ⟨A10, c10, rfl, hO10⟩
        have B10 := Lib.hid (bstep B9.out hO10.2)
        have CD := Lib.hid (pairDiff_any A9 A10 n n c9 c10 l out w10 (HO9.out.keep hO10.2).sl hO10.sl (by omega) (by omega) (fun f hf => Nat.le_trans (HP.out f hf) (by simp only [maxLen]; omega)) (fun f hf => Nat.le_trans (HPo.out f hf) (by simp only [maxLen]; omega)))
        clear M9 hO10
        go_wp2_with fail
        refine CD.out.mono ?_
        rintro e w11 ⟨A11, t, c11, ps, rfl, ht, hps, hO11⟩
        have B11 := Lib.hid (bstep B10.out hO11.2)
        obtain ⟨f1, f2⟩ := DiffLaw.moves (good_of_fine HF.out) (show l[k]? = some (x.1, x.2) from Hx.out) Hpm.out (good_of_fine HF8.out) Hne.out hps (fun e => by have h := (HF.out.2 x (List.mem_of_getElem? Hx.out)).2; rw [e] at h; simp at h) gone_iff fresh_iff
        have CR := Lib.hid (renames1_any none A11 t c11 _ w11 x.1 too x.2 hO11.sl ht f1 f2)
        clear CD hO11 hps ht f1 f2
        go_wp2_with fail
        refine CR.out.mono ?_
        rintro e w12 ⟨A12, c12, rfl, hS12, b12⟩
        have B12 := Lib.hid (bstep B11.out b12)
        obtain ⟨g8, o8, x8, e8, _, hx8, x80, x81, x82⟩ := hS12.rn (k := 0) (by omega)
        cases hx8
        subst e8
        obtain ⟨b', o', x', e', _, hx', x0, x1⟩ := (HA.out.below B12.out).fil hkn
        cases e'
        obtain rfl : x = x' := Option.some.inj (Hx.out.symm.trans hx')
        simp only [Nat.zero_mul, Nat.add_zero] at x80 x81 x82
        have kE := ren_eql
        have kG := ren_guard
        clear CR hS12 b12 hx' x1
        go_wp2
        go_quiet (fail)
        go_wp2
        go_ret
        exact ⟨rfl, below_drewN B12.out _⟩
theorem pairMoves_walk (A : Option Addr) (n c : Nat) (l : List Fil) (at_ : Int) (too : List UInt8) (w : World) (hA : Sl w 2 A n (fls l)) (hn : n ≤ 1048576) (hP : ∀ f ∈ l, f.1.length ≤ 1048576) (ht : too.length ≤ 1048576) (hM : MaxL w) :
    Calls Tryz.prog 7 #[.slice A n c, I at_, S too] w fun e w' => e = .returned (.bool true) ∧ Below w.heap.size w w' := pairMoves_law A n c l at_ too w hA hn hP ht hM
end Go.Proofs.YtkginbfpokbhcaaGreatDoor
