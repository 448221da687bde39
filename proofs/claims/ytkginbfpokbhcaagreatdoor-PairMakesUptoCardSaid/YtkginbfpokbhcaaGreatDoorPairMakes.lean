/-
  dolmenlaw16.PairMakes returns true. Conditions: the files can be read, are no more than 1048576, and their paths no longer than 1048576 bytes; MaxLen holds an int.
-/
import Derived.Test.YtkginbfpokbhcaaGreatDoorAwake16
import Derived.Test.YtkginbfpokbhcaaGreatDoorPairCopy
import Derived.Test.YtkginbfpokbhcaaGreatDoorSames
import Derived.Test.YtkginbfpokbhcaaGreatDoorSort13
import Derived.Test.YtkginbfpokbhcaaGreatDoorCheckG
import Derived.Test.YtkginbfpokbhcaaGreatDoorFindF
import Derived.BigQuiet
namespace Go.Proofs.YtkginbfpokbhcaaGreatDoor
open Go.RowKit
open DiffLaw (fid ofPaths lay put)

def mk1Phi (A : Option Addr) (b6 o6 b7 o7 t c6 c7 i n c : Nat) (a0 : List Fil) (p old new : List UInt8) : Nat → Value → World → Prop
  | 0, v, _ => v = .slice (some ⟨b7, o7, none⟩) t c7
  | 1, v, _ => v = I ((i : Int))
  | 2, v, _ => v = .pointer (some ⟨b7, o7 + i * 3, none⟩)
  | 3, v, _ => v = .pointer (some ⟨b7, o7 + i * 3, none⟩)
  | 4, v, _ => v = S p
  | 5, v, _ => v = .slice (some ⟨b6, o6, none⟩) t c6
  | 6, v, _ => v = I ((i : Int))
  | 7, v, _ => v = .pointer (some ⟨b6, o6 + i * 3, none⟩)
  | 8, v, _ => v = .pointer (some ⟨b6, o6 + i * 3, none⟩)
  | 9, v, _ => v = S p
  | 10, v, _ => v = .bool false
  | 11, v, _ => v = .bool false
  | 12, v, _ => v = .slice (some ⟨b7, o7, none⟩) t c7
  | 13, v, _ => v = I ((i : Int))
  | 14, v, _ => v = .pointer (some ⟨b7, o7 + i * 3, none⟩)
  | 15, v, _ => v = .pointer (some ⟨b7, o7 + i * 3 + 1, none⟩)
  | 16, v, _ => v = S new
  | 17, v, _ => v = .slice (some ⟨b6, o6, none⟩) t c6
  | 18, v, _ => v = I ((i : Int))
  | 19, v, _ => v = .pointer (some ⟨b6, o6 + i * 3, none⟩)
  | 20, v, _ => v = .pointer (some ⟨b6, o6 + i * 3 + 2, none⟩)
  | 21, v, _ => v = S new
  | 22, v, _ => v = .bool false
  | 23, v, _ => v = .bool false
  | 24, v, _ => v = .bool false
  | 25, v, _ => v = .slice (some ⟨b7, o7, none⟩) t c7
  | 26, v, _ => v = I ((i : Int))
  | 27, v, _ => v = .pointer (some ⟨b7, o7 + i * 3, none⟩)
  | 28, v, _ => v = .pointer (some ⟨b7, o7 + i * 3 + 2, none⟩)
  | 29, v, _ => v = S old
  | 30, v, _ => v = .slice (some ⟨b6, o6, none⟩) t c6
  | 31, v, _ => v = I ((i : Int))
  | 32, v, _ => v = .pointer (some ⟨b6, o6 + i * 3, none⟩)
  | 33, v, _ => v = .pointer (some ⟨b6, o6 + i * 3 + 1, none⟩)
  | 34, v, _ => v = S old
  | 35, v, _ => v = .bool false
  | 36, v, _ => v = .bool false
  | 37, v, _ => v = .bool false
  | 38, v, _ => v = .slice A n c
  | 39, v, w => ∃ (A' : Option Addr) (c' : Nat), v = .slice A' n c' ∧ Sl w 2 A' n (fls a0)
  | 40, v, _ => v = .slice (some ⟨b6, o6, none⟩) t c6
  | 41, v, _ => v = I ((i : Int))
  | 42, v, _ => v = .pointer (some ⟨b6, o6 + i * 3, none⟩)
  | 43, v, _ => v = .pointer (some ⟨b6, o6 + i * 3, none⟩)
  | 44, v, _ => v = S p
  | 45, v, _ => v = S old
  | 46, v, _ => v = .slice (some ⟨b6, o6, none⟩) t c6
  | 47, v, _ => v = I ((i : Int))
  | 48, v, _ => v = .pointer (some ⟨b6, o6 + i * 3, none⟩)
  | 49, v, _ => v = .pointer (some ⟨b6, o6 + i * 3 + 1, none⟩)
  | 50, v, _ => v = S old
  | 51, v, _ => v = .bool false
  | _, _, _ => True
theorem mk1Phi_mono {A : Option Addr} {b6 o6 b7 o7 t c6 c7 i n c : Nat} {a0 : List Fil} {p old new : List UInt8} : ∀ (j : Nat) (v : Value) (w w' : World), mk1Phi A b6 o6 b7 o7 t c6 c7 i n c a0 p old new j v w → Below w.heap.size w w' → mk1Phi A b6 o6 b7 o7 t c6 c7 i n c a0 p old new j v w' := by
  intro j v w w' h hb9
  match j, h with
  | 0, h => exact h
  | 1, h => exact h
  | 2, h => exact h
  | 3, h => exact h
  | 4, h => exact h
  | 5, h => exact h
  | 6, h => exact h
  | 7, h => exact h
  | 8, h => exact h
  | 9, h => exact h
  | 10, h => exact h
  | 11, h => exact h
  | 12, h => exact h
  | 13, h => exact h
  | 14, h => exact h
  | 15, h => exact h
  | 16, h => exact h
  | 17, h => exact h
  | 18, h => exact h
  | 19, h => exact h
  | 20, h => exact h
  | 21, h => exact h
  | 22, h => exact h
  | 23, h => exact h
  | 24, h => exact h
  | 25, h => exact h
  | 26, h => exact h
  | 27, h => exact h
  | 28, h => exact h
  | 29, h => exact h
  | 30, h => exact h
  | 31, h => exact h
  | 32, h => exact h
  | 33, h => exact h
  | 34, h => exact h
  | 35, h => exact h
  | 36, h => exact h
  | 37, h => exact h
  | 38, h => exact h
  | 39, h => obtain ⟨A', c', h1, h2⟩ := h; exact ⟨A', c', h1, h2.below hb9⟩
  | 40, h => exact h
  | 41, h => exact h
  | 42, h => exact h
  | 43, h => exact h
  | 44, h => exact h
  | 45, h => exact h
  | 46, h => exact h
  | 47, h => exact h
  | 48, h => exact h
  | 49, h => exact h
  | 50, h => exact h
  | 51, h => exact h
  | (n + 52), _ => trivial
def mk2Phi (b6 o6 t c6 i j co g c5 : Nat) (Ao A5 : Option Addr) (p new : List UInt8) : Nat → Value → World → Prop
  | 0, v, _ => v = .slice Ao j co
  | 1, v, _ => v = .slice (some ⟨b6, o6, none⟩) t c6
  | 2, v, _ => v = I ((i : Int))
  | 3, v, _ => v = .pointer (some ⟨b6, o6 + i * 3, none⟩)
  | 4, v, _ => v = .pointer (some ⟨b6, o6 + i * 3, none⟩)
  | 5, v, _ => v = S p
  | 6, v, _ => v = .slice (some ⟨b6, o6, none⟩) t c6
  | 7, v, _ => v = I ((i : Int))
  | 8, v, _ => v = .pointer (some ⟨b6, o6 + i * 3, none⟩)
  | 9, v, _ => v = .pointer (some ⟨b6, o6 + i * 3 + 2, none⟩)
  | 10, v, _ => v = S new
  | 11, v, _ => v = .agg #[S p, S new]
  | 12, v, _ => v = .slice (some ⟨g, 0, none⟩) 1 1
  | 13, v, _ => v = .slice A5 (j + 1) c5
  | _, _, _ => True
theorem good_of_fine' {l : List Fil} (h : FineL l) : DiffLaw.Good l := ⟨h.1, fun f hf e => by have := (h.2 f hf).2; rw [e] at this; simp at this⟩
def tgt (c : Chg3) : List UInt8 × List UInt8 := (c.1, c.2.2)
theorem put_length (l : List Fil) (p i : List UInt8) : (put l p i).length ≤ l.length + 1 := by
  unfold DiffLaw.put
  rw [List.length_append]
  exact Nat.add_le_add (List.length_filter_le _ _) (by split <;> simp)
set_option maxHeartbeats 8000000 in
set_option maxRecDepth 100000 in
theorem pairMakes_law (A B : Option Addr) (n m c d : Nat) (a0 b0 : List Fil) (w : World) (hA : Sl w 2 A n (fls a0)) (hB : Sl w 2 B m (fls b0)) (hn : n ≤ 1048576) (hm : m ≤ 1048576) (hP : ∀ f ∈ a0, f.1.length ≤ 1048576) (hQ : ∀ f ∈ b0, f.1.length ≤ 1048576) (hM : MaxL w) :
    Calls Tryz.prog 8 #[.slice A n c, .slice B m d] w fun e w' => e = .returned (.bool true) ∧ Below w.heap.size w w' := by
  obtain ⟨i0, hi0, hi1, hi2, hi3⟩ := info_parts Tryz.infoRFil
  have CW := Lib.hid (awake16_any w)
  have HA := Lib.hid hA
  have HB := Lib.hid hB
  have HM := Lib.hid hM
  have HP := Lib.hid hP
  have HQ := Lib.hid hQ
  have Hl := Lib.hid (fls_count hA)
  have Hlb := Lib.hid (fls_count hB)
  have Hn := Lib.hid hn
  have Hm := Lib.hid hm
  clear hA hB hM hP hQ hn hm
  go_enter Tryz.func8, Tryz.ntmps8
  go_wp2_with (first
    | (go_at_call 24; refine CW.out.mono ?_; rintro e w1 ⟨rfl, b1⟩; have B1 := Lib.hid b1; have M1 := Lib.hid (mine16_any w1 A n c a0 (HA.out.below b1) (by have := Hn.out; omega)); clear b1)
    | (go_at_call 28; (with_reducible refine M1.out.mono ?_); rintro e w2 ⟨A2, c2, rfl, hO2⟩; have B2 := Lib.hid (bstep B1.out hO2.2); have CK := Lib.hid (checkG_any A2 n c2 a0 w2 hO2.sl Hn.out (fun f hf => Nat.le_trans (HP.out f hf) (by omega)) (HM.out.step B2.out)); clear M1 hO2))
  refine CK.out.mono ?_
  rintro e w3 ⟨z, rfl, hz, b3⟩
  have B3 := Lib.hid (bstep B2.out b3)
  have HZ := Lib.hid hz
  clear hz b3
  rcases Decidable.em (z = 0) with rfl | hzn
  rotate_left
  · have hzb : (z != 0) = true := bne_iff_ne.2 hzn
    go_wp2
    go_ret
    exact ⟨rfl, B3.out⟩
  have HFa := Lib.hid (HZ.out rfl)
  have M3 := Lib.hid (mine16_any w3 B m d b0 (HB.out.below B3.out) (by have := Hm.out; omega))
  clear HZ CK
  go_wp2_with fail
  refine M3.out.mono ?_
  rintro e w4 ⟨A4, c4, rfl, hO4⟩
  have B4 := Lib.hid (bstep B3.out hO4.2)
  have CK := Lib.hid (checkG_any A4 m c4 b0 w4 hO4.sl Hm.out (fun f hf => Nat.le_trans (HQ.out f hf) (by omega)) (HM.out.step B4.out))
  clear M3 hO4
  go_wp2_with fail
  refine CK.out.mono ?_
  rintro e w5 ⟨z, rfl, hz, b5⟩
  have B5 := Lib.hid (bstep B4.out b5)
  have HZ := Lib.hid hz
  clear hz b5 CK
  have hways : (z != 0) = true ∨ ((z != 0) = false ∧ decide ((100 : Int) < (n : Int)) = true) ∨ ((z != 0) = false ∧ decide ((100 : Int) < (n : Int)) = false ∧ decide ((100 : Int) < (m : Int)) = true) ∨ ((z != 0) = false ∧ decide ((100 : Int) < (n : Int)) = false ∧ decide ((100 : Int) < (m : Int)) = false ∧ z = 0 ∧ n ≤ 100 ∧ m ≤ 100) := by
    by_cases h1 : z = 0
    · have e1 : (z != 0) = false := by rw [h1]; rfl
      by_cases h2 : 100 < n
      · exact .inr (.inl ⟨e1, decide_eq_true (by omega)⟩)
      · by_cases h3 : 100 < m
        · exact .inr (.inr (.inl ⟨e1, decide_eq_false (by omega), decide_eq_true (by omega)⟩))
        · exact .inr (.inr (.inr ⟨e1, decide_eq_false (by omega), decide_eq_false (by omega), h1, by omega, by omega⟩))
    · exact .inl (bne_iff_ne.2 h1)
  rcases hways with d1 | ⟨d1, d2⟩ | ⟨d1, d2, d3⟩ | ⟨d1, d2, d3, rfl, hn, hm⟩
  · go_wp2
    go_ret
    exact ⟨rfl, B5.out⟩
  · go_wp2
    go_ret
    exact ⟨rfl, B5.out⟩
  · go_wp2
    go_ret
    exact ⟨rfl, B5.out⟩
  have HFb := Lib.hid (HZ.out rfl)
  clear HZ
  have HPa : Hid (∀ f ∈ a0, f.1.length ≤ maxLen) := Lib.hid (fun f hf => Nat.le_trans (HP.out f hf) (by decide))
  have HPb : Hid (∀ f ∈ b0, f.1.length ≤ maxLen) := Lib.hid (fun f hf => Nat.le_trans (HQ.out f hf) (by decide))
  have Hn1 := Lib.hid hn
  have Hm1 := Lib.hid hm
  clear hn hm
  have CM := Lib.hid (mine16_any w5 A n c a0 (HA.out.below B5.out) (by have := Hn.out; omega))
  go_wp2_with fail
  refine CM.out.mono ?_
  rintro e w6 ⟨A6, c6, rfl, hO6⟩
  have B6 := Lib.hid (bstep B5.out hO6.2)
  have HO6 := Lib.hid hO6
  clear CM hO6
  have CM := Lib.hid (mine16_any w6 B m d b0 (HB.out.below B6.out) (by have := Hm.out; omega))
  go_wp2_with fail
  refine CM.out.mono ?_
  rintro e w7 ⟨A7, c7, rfl, hO7⟩
  have B7 := Lib.hid (bstep B6.out hO7.2)
  have CD := Lib.hid (pairDiff_any A6 A7 n m c6 c7 a0 b0 w7 (HO6.out.keep hO7.2).sl hO7.sl (by have := Hn1.out; omega) (by have := Hm1.out; omega) HPa.out HPb.out)
  clear CM hO7 HO6
  go_wp2_with fail
  refine CD.out.mono ?_
  rintro e w8 ⟨A8, t, c8, ps, rfl, ht, hps, hO8⟩
  have B8 := Lib.hid (bstep B7.out hO8.2)
  have HPs := Lib.hid hps
  have Ht := Lib.hid ht
  have HL8 := Lib.hid hO8.sl
  clear CD hO8 hps ht
  have CM := Lib.hid (mine16_any w8 B m d b0 (HB.out.below B8.out) (by have := Hm.out; omega))
  go_wp2_with fail
  refine CM.out.mono ?_
  rintro e w9 ⟨A9, c9, rfl, hO9⟩
  have B9 := Lib.hid (bstep B8.out hO9.2)
  have HO9 := Lib.hid hO9
  have HL9 := Lib.hid (HL8.out.below hO9.2)
  clear CM hO9
  have CM := Lib.hid (mine16_any w9 A n c a0 (HA.out.below B9.out) (by have := Hn.out; omega))
  go_wp2_with fail
  refine CM.out.mono ?_
  rintro e w10 ⟨A10, c10, rfl, hO10⟩
  have B10 := Lib.hid (bstep B9.out hO10.2)
  have HL10 := Lib.hid (HL9.out.below hO10.2)
  have CD := Lib.hid (pairDiff_any A9 A10 m n c9 c10 b0 a0 w10 (HO9.out.keep hO10.2).sl hO10.sl (by have := Hm1.out; omega) (by have := Hn1.out; omega) HPb.out HPa.out)
  clear CM hO10 HO9
  go_wp2_with fail
  refine CD.out.mono ?_
  rintro e w11 ⟨A11, t2, c11, qs, rfl, _, hqs, hO11⟩
  obtain rfl := DiffLaw.paths_swap HPs.out hqs
  rw [DiffLaw.swap_eq] at hO11
  obtain ⟨cs, hcs⟩ : ∃ cs, cs = ofPaths ps a0 b0 := ⟨_, rfl⟩
  have Hcs := Lib.hid hcs
  rw [← hcs] at hO11
  have HL11 := Lib.hid (HL10.out.below hO11.2)
  rw [← hcs] at HL11
  have htl : cs.length = t := cgs_count HL11.out
  have htl2 : (cs.map fun c => (c.1, c.2.2, c.2.1)).length = t2 := cgs_count hO11.sl
  obtain rfl : t2 = t := by rw [← htl, ← htl2, List.length_map]
  have B11 := Lib.hid (bstep B10.out hO11.2)
  have HR11 := Lib.hid hO11.sl
  have Htl := Lib.hid htl
  clear CD hO11 hqs hcs htl htl2
  have hne : ((t2 : Int) != (t2 : Int)) = false := by simp
  have CM := Lib.hid (mine16_any w11 A n c a0 (HA.out.below B11.out) (by have := Hn.out; omega))
  go_wp2_with fail
  refine CM.out.mono ?_
  rintro e w12 ⟨A12, c12, rfl, hO12⟩
  have B12 := Lib.hid (bstep B11.out hO12.2)
  have HO12 := Lib.hid hO12
  have HL12 := Lib.hid (HL11.out.below hO12.2)
  have HR12 := Lib.hid (HR11.out.below hO12.2)
  clear CM hO12
  have CM := Lib.hid (mine16_any w12 A n c a0 (HA.out.below B12.out) (by have := Hn.out; omega))
  go_wp2_with fail
  refine CM.out.mono ?_
  rintro e w13 ⟨A13, c13, rfl, hO13⟩
  have B13 := Lib.hid (bstep B12.out hO13.2)
  have CD := Lib.hid (pairDiff_any A12 A13 n n c12 c13 a0 a0 w13 (HO12.out.keep hO13.2).sl hO13.sl (by have := Hn1.out; omega) (by have := Hn1.out; omega) HPa.out HPa.out)
  have HL13 := Lib.hid (HL12.out.below hO13.2)
  have HR13 := Lib.hid (HR12.out.below hO13.2)
  clear CM hO13 HO12
  go_wp2_with fail
  refine CD.out.mono ?_
  rintro e w14 ⟨A14, t3, c14, rs, rfl, _, _, hO14⟩
  rw [DiffLaw.same_nil] at hO14
  obtain rfl : 0 = t3 := cgs_count hO14.sl
  have B14 := Lib.hid (bstep B13.out hO14.2)
  have HL := Lib.hid (HL13.out.below hO14.2)
  have HR := Lib.hid (HR13.out.below hO14.2)
  clear CD hO14 HL8 HL9 HL10 HL11 HL12 HL13 HR11 HR12 HR13
  have HA14 := Lib.hid (HA.out.below B14.out)
  obtain ⟨t, htt⟩ : ∃ t, t = t2 := ⟨_, rfl⟩
  subst htt
  have Hcl : Hid (∀ k, k ≤ t → (lay a0 ((cs.take k).map tgt)).length ≤ n + k) := Lib.hid (fun k => by
    induction k with
    | zero => intro _; simp [DiffLaw.lay, Hl.out]
    | succ k ih =>
      intro hk
      have h1 := ih (by omega)
      obtain ⟨y, hy⟩ : ∃ y, cs[k]? = some y := ⟨cs[k]'(by rw [Htl.out]; omega), List.getElem?_eq_getElem _⟩
      have e : (cs.take (k + 1)).map tgt = (cs.take k).map tgt ++ [tgt y] := by rw [List.take_add_one, hy]; simp
      rw [e, DiffLaw.lay_snoc]
      exact Nat.le_trans (put_length _ _ _) (by omega))
  go_wp2
  go_loopw [8, 9] (fun s8 s9 wr => ∃ (i mm cm : Nat) (Am : Option Addr), s9 = .int .i64 i ∧ s8 = .slice Am mm cm ∧ Hid (i ≤ t) ∧ Hid (Sl wr 2 Am mm (fls (lay a0 ((cs.take i).map tgt)))) ∧ Hid (Below w14.heap.size w14 wr)) (fun _ s9 _ => t - (intOf s9).toNat)
  case atStart => exact ⟨0, n, c, A, rfl, rfl, Lib.hid (Nat.zero_le _), Lib.hid (by simpa [DiffLaw.lay] using HA14.out), Lib.hid (Below.refl _ _)⟩
  case round =>
    obtain ⟨i, mm, cm, Am, rfl, rfl, hi, hS, hb⟩ := hrel
    by_cases hlt : i < t
    · obtain ⟨b6, o6, x, rfl, hb6, hx, x60, x61, x62⟩ := HL.out.cg hlt
      obtain ⟨b7, o7, y, rfl, hb7, hy, x70, x71, x72⟩ := HR.out.cg hlt
      rw [List.getElem?_map, hx] at hy
      simp only [Option.map_some, Option.some.injEq] at hy
      subst hy
      have Hx := Lib.hid hx
      clear hx
      obtain ⟨p, old, new⟩ := x
      obtain ⟨W, hW⟩ : ∃ W, W = wr := ⟨_, rfl⟩
      subst hW
      have Hl0 : Hid (∀ w', Below W.heap.size W w' → w'.cell? ⟨b6, o6 + i * 3, none⟩ = some (S p)) := Lib.hid (fun w' h => ((bstep hb.out h).cell (p := ⟨b6, o6 + i * 3, none⟩) hb6).trans x60)
      have Hl1 : Hid (∀ w', Below W.heap.size W w' → w'.cell? ⟨b6, o6 + i * 3 + 1, none⟩ = some (S old)) := Lib.hid (fun w' h => ((bstep hb.out h).cell (p := ⟨b6, o6 + i * 3 + 1, none⟩) hb6).trans x61)
      have Hl2 : Hid (∀ w', Below W.heap.size W w' → w'.cell? ⟨b6, o6 + i * 3 + 2, none⟩ = some (S new)) := Lib.hid (fun w' h => ((bstep hb.out h).cell (p := ⟨b6, o6 + i * 3 + 2, none⟩) hb6).trans x62)
      have Hr0 : Hid (∀ w', Below W.heap.size W w' → w'.cell? ⟨b7, o7 + i * 3, none⟩ = some (S p)) := Lib.hid (fun w' h => ((bstep hb.out h).cell (p := ⟨b7, o7 + i * 3, none⟩) hb7).trans x70)
      have Hr1 : Hid (∀ w', Below W.heap.size W w' → w'.cell? ⟨b7, o7 + i * 3 + 1, none⟩ = some (S new)) := Lib.hid (fun w' h => ((bstep hb.out h).cell (p := ⟨b7, o7 + i * 3 + 1, none⟩) hb7).trans x71)
      have Hr2 : Hid (∀ w', Below W.heap.size W w' → w'.cell? ⟨b7, o7 + i * 3 + 2, none⟩ = some (S old)) := Lib.hid (fun w' h => ((bstep hb.out h).cell (p := ⟨b7, o7 + i * 3 + 2, none⟩) hb7).trans x72)
      have HAw : Hid (∀ w', Below W.heap.size W w' → Sl w' 2 A n (fls a0)) := Lib.hid (fun w' h => HA14.out.below (bstep hb.out h))
      have Hn2 : Hid (n ≤ 2000000) := Lib.hid (by have := Hn.out; omega)
      have Hn3 : Hid (n ≤ 1000000000) := Lib.hid (by have := Hn.out; omega)
      have Hfid : Hid (fid a0 p = old) := Lib.hid (by
        have h1 := List.mem_of_getElem? Hx.out
        rw [Hcs.out] at h1
        exact (DiffLaw.of_mem h1).2.1.symm)
      clear x60 x61 x62 x70 x71 x72
      go_wp2
      refine wp_region_guards (by kernel_rfl) 52 (by kernel_rfl) ?_ (mk1Phi A b6 o6 b7 o7 t c8 c11 i n c a0 p old new) mk1Phi_mono (fun i o hi ho a w hb hs hm => ?_) (fun o ho a2 W2 hb2 hs hm => ?_)
      · exact dst_lt9 (n := 170) (by kernel_rfl)
      · exact match i, hi, ho with
          | 0, _, ho => by
              cases ho
              rw [if_pos (wanted_none _ rfl)]
              refine wp_value (st_move rfl ((hs.keeps (by kernel_rfl)).trans rfl)) ⟨_, rfl, rfl, Below.refl _ _⟩
          | 1, _, ho => by
              cases ho
              rw [if_pos (wanted_none _ rfl)]
              refine wp_value (st_move rfl ((hs.keeps (by kernel_rfl)).trans rfl)) ⟨_, rfl, rfl, Below.refl _ _⟩
          | 2, _, ho => by
              cases ho
              rw [if_pos (wanted_none _ rfl)]
              have h1 := eval_getD (hm.get 0 65 (by kernel_rfl)); have h2 := eval_getD (hm.get 1 66 (by kernel_rfl)); unfold Oper.wp; simp only [execOp]; go_simp; exact ⟨_, rfl, rfl, Below.refl _ _⟩
          | 3, _, ho => by
              cases ho
              rw [if_pos (wanted_none _ rfl)]
              have h1 := eval_getD (hm.get 2 67 (by kernel_rfl)); unfold Oper.wp; simp only [execOp]; go_simp; exact ⟨_, rfl, rfl, Below.refl _ _⟩
          | 4, _, ho => by
              cases ho
              rw [if_pos (wanted_none _ rfl)]
              have hx := (Hr0.out w hb); have h1 := eval_getD (hm.get 3 68 (by kernel_rfl)); unfold Oper.wp; simp only [execOp]; go_simp; exact ⟨_, rfl, rfl, Below.refl _ _⟩
          | 5, _, ho => by
              cases ho
              rw [if_pos (wanted_none _ rfl)]
              refine wp_value (st_move rfl ((hs.keeps (by kernel_rfl)).trans rfl)) ⟨_, rfl, rfl, Below.refl _ _⟩
          | 6, _, ho => by
              cases ho
              rw [if_pos (wanted_none _ rfl)]
              refine wp_value (st_move rfl ((hs.keeps (by kernel_rfl)).trans rfl)) ⟨_, rfl, rfl, Below.refl _ _⟩
          | 7, _, ho => by
              cases ho
              rw [if_pos (wanted_none _ rfl)]
              have h1 := eval_getD (hm.get 5 70 (by kernel_rfl)); have h2 := eval_getD (hm.get 6 71 (by kernel_rfl)); unfold Oper.wp; simp only [execOp]; go_simp; exact ⟨_, rfl, rfl, Below.refl _ _⟩
          | 8, _, ho => by
              cases ho
              rw [if_pos (wanted_none _ rfl)]
              have h1 := eval_getD (hm.get 7 72 (by kernel_rfl)); unfold Oper.wp; simp only [execOp]; go_simp; exact ⟨_, rfl, rfl, Below.refl _ _⟩
          | 9, _, ho => by
              cases ho
              rw [if_pos (wanted_none _ rfl)]
              have hx := (Hl0.out w hb); have h1 := eval_getD (hm.get 8 73 (by kernel_rfl)); unfold Oper.wp; simp only [execOp]; go_simp; exact ⟨_, rfl, rfl, Below.refl _ _⟩
          | 10, _, ho => by
              cases ho
              rw [if_pos (wanted_none _ rfl)]
              have h1 := eval_getD (hm.get 4 69 (by kernel_rfl)); have h2 := eval_getD (hm.get 9 74 (by kernel_rfl)); unfold Oper.wp; simp only [execOp]; go_simp; exact ⟨_, rfl, (show Value.bool _ = Value.bool _ by first | rfl | simp), Below.refl _ _⟩
          | 11, _, ho => by
              cases ho
              rw [if_pos (wanted_none _ rfl)]
              refine wp_value (st_move rfl (hm.get 10 75 (by kernel_rfl))) ⟨_, rfl, rfl, Below.refl _ _⟩
          | 12, _, ho => by
              cases ho
              generalize hW : Region.wanted _ _ = W
              obtain rfl : W = (false == false) := hW.symm.trans (wanted_of rfl rfl rfl (show a.eval (.tmp 76) = .bool false from (hm.get 11 76 (by kernel_rfl))))
              clear hW
              rw [if_pos (show (false == false) = true by decide)]
              refine wp_value (st_move rfl ((hs.keeps (by kernel_rfl)).trans rfl)) ⟨_, rfl, rfl, Below.refl _ _⟩
          | 13, _, ho => by
              cases ho
              generalize hW : Region.wanted _ _ = W
              obtain rfl : W = (false == false) := hW.symm.trans (wanted_of rfl rfl rfl (show a.eval (.tmp 76) = .bool false from (hm.get 11 76 (by kernel_rfl))))
              clear hW
              rw [if_pos (show (false == false) = true by decide)]
              refine wp_value (st_move rfl ((hs.keeps (by kernel_rfl)).trans rfl)) ⟨_, rfl, rfl, Below.refl _ _⟩
          | 14, _, ho => by
              cases ho
              generalize hW : Region.wanted _ _ = W
              obtain rfl : W = (false == false) := hW.symm.trans (wanted_of rfl rfl rfl (show a.eval (.tmp 76) = .bool false from (hm.get 11 76 (by kernel_rfl))))
              clear hW
              rw [if_pos (show (false == false) = true by decide)]
              have h1 := eval_getD (hm.get 12 77 (by kernel_rfl)); have h2 := eval_getD (hm.get 13 78 (by kernel_rfl)); unfold Oper.wp; simp only [execOp]; go_simp; exact ⟨_, rfl, rfl, Below.refl _ _⟩
          | 15, _, ho => by
              cases ho
              generalize hW : Region.wanted _ _ = W
              obtain rfl : W = (false == false) := hW.symm.trans (wanted_of rfl rfl rfl (show a.eval (.tmp 76) = .bool false from (hm.get 11 76 (by kernel_rfl))))
              clear hW
              rw [if_pos (show (false == false) = true by decide)]
              have h1 := eval_getD (hm.get 14 79 (by kernel_rfl)); unfold Oper.wp; simp only [execOp]; go_simp; exact ⟨_, rfl, rfl, Below.refl _ _⟩
          | 16, _, ho => by
              cases ho
              generalize hW : Region.wanted _ _ = W
              obtain rfl : W = (false == false) := hW.symm.trans (wanted_of rfl rfl rfl (show a.eval (.tmp 76) = .bool false from (hm.get 11 76 (by kernel_rfl))))
              clear hW
              rw [if_pos (show (false == false) = true by decide)]
              have hx := (Hr1.out w hb); have h1 := eval_getD (hm.get 15 80 (by kernel_rfl)); unfold Oper.wp; simp only [execOp]; go_simp; exact ⟨_, rfl, rfl, Below.refl _ _⟩
          | 17, _, ho => by
              cases ho
              generalize hW : Region.wanted _ _ = W
              obtain rfl : W = (false == false) := hW.symm.trans (wanted_of rfl rfl rfl (show a.eval (.tmp 76) = .bool false from (hm.get 11 76 (by kernel_rfl))))
              clear hW
              rw [if_pos (show (false == false) = true by decide)]
              refine wp_value (st_move rfl ((hs.keeps (by kernel_rfl)).trans rfl)) ⟨_, rfl, rfl, Below.refl _ _⟩
          | 18, _, ho => by
              cases ho
              generalize hW : Region.wanted _ _ = W
              obtain rfl : W = (false == false) := hW.symm.trans (wanted_of rfl rfl rfl (show a.eval (.tmp 76) = .bool false from (hm.get 11 76 (by kernel_rfl))))
              clear hW
              rw [if_pos (show (false == false) = true by decide)]
              refine wp_value (st_move rfl ((hs.keeps (by kernel_rfl)).trans rfl)) ⟨_, rfl, rfl, Below.refl _ _⟩
          | 19, _, ho => by
              cases ho
              generalize hW : Region.wanted _ _ = W
              obtain rfl : W = (false == false) := hW.symm.trans (wanted_of rfl rfl rfl (show a.eval (.tmp 76) = .bool false from (hm.get 11 76 (by kernel_rfl))))
              clear hW
              rw [if_pos (show (false == false) = true by decide)]
              have h1 := eval_getD (hm.get 17 82 (by kernel_rfl)); have h2 := eval_getD (hm.get 18 83 (by kernel_rfl)); unfold Oper.wp; simp only [execOp]; go_simp; exact ⟨_, rfl, rfl, Below.refl _ _⟩
          | 20, _, ho => by
              cases ho
              generalize hW : Region.wanted _ _ = W
              obtain rfl : W = (false == false) := hW.symm.trans (wanted_of rfl rfl rfl (show a.eval (.tmp 76) = .bool false from (hm.get 11 76 (by kernel_rfl))))
              clear hW
              rw [if_pos (show (false == false) = true by decide)]
              have h1 := eval_getD (hm.get 19 84 (by kernel_rfl)); unfold Oper.wp; simp only [execOp]; go_simp; exact ⟨_, rfl, rfl, Below.refl _ _⟩
          | 21, _, ho => by
              cases ho
              generalize hW : Region.wanted _ _ = W
              obtain rfl : W = (false == false) := hW.symm.trans (wanted_of rfl rfl rfl (show a.eval (.tmp 76) = .bool false from (hm.get 11 76 (by kernel_rfl))))
              clear hW
              rw [if_pos (show (false == false) = true by decide)]
              have hx := (Hl2.out w hb); have h1 := eval_getD (hm.get 20 85 (by kernel_rfl)); unfold Oper.wp; simp only [execOp]; go_simp; exact ⟨_, rfl, rfl, Below.refl _ _⟩
          | 22, _, ho => by
              cases ho
              generalize hW : Region.wanted _ _ = W
              obtain rfl : W = (false == false) := hW.symm.trans (wanted_of rfl rfl rfl (show a.eval (.tmp 76) = .bool false from (hm.get 11 76 (by kernel_rfl))))
              clear hW
              rw [if_pos (show (false == false) = true by decide)]
              have h1 := eval_getD (hm.get 16 81 (by kernel_rfl)); have h2 := eval_getD (hm.get 21 86 (by kernel_rfl)); unfold Oper.wp; simp only [execOp]; go_simp; exact ⟨_, rfl, (show Value.bool _ = Value.bool _ by first | rfl | simp), Below.refl _ _⟩
          | 23, _, ho => by
              cases ho
              rw [if_pos (wanted_none _ rfl)]
              have h1 := eval_getD (hm.get 11 76 (by kernel_rfl)); have h3 := eval_getD (hm.get 22 87 (by kernel_rfl)); unfold Oper.wp; simp only [execOp]; go_simp; exact ⟨_, rfl, rfl, Below.refl _ _⟩
          | 24, _, ho => by
              cases ho
              rw [if_pos (wanted_none _ rfl)]
              refine wp_value (st_move rfl (hm.get 23 88 (by kernel_rfl))) ⟨_, rfl, rfl, Below.refl _ _⟩
          | 25, _, ho => by
              cases ho
              generalize hW : Region.wanted _ _ = W
              obtain rfl : W = (false == false) := hW.symm.trans (wanted_of rfl rfl rfl (show a.eval (.tmp 89) = .bool false from (hm.get 24 89 (by kernel_rfl))))
              clear hW
              rw [if_pos (show (false == false) = true by decide)]
              refine wp_value (st_move rfl ((hs.keeps (by kernel_rfl)).trans rfl)) ⟨_, rfl, rfl, Below.refl _ _⟩
          | 26, _, ho => by
              cases ho
              generalize hW : Region.wanted _ _ = W
              obtain rfl : W = (false == false) := hW.symm.trans (wanted_of rfl rfl rfl (show a.eval (.tmp 89) = .bool false from (hm.get 24 89 (by kernel_rfl))))
              clear hW
              rw [if_pos (show (false == false) = true by decide)]
              refine wp_value (st_move rfl ((hs.keeps (by kernel_rfl)).trans rfl)) ⟨_, rfl, rfl, Below.refl _ _⟩
          | 27, _, ho => by
              cases ho
              generalize hW : Region.wanted _ _ = W
              obtain rfl : W = (false == false) := hW.symm.trans (wanted_of rfl rfl rfl (show a.eval (.tmp 89) = .bool false from (hm.get 24 89 (by kernel_rfl))))
              clear hW
              rw [if_pos (show (false == false) = true by decide)]
              have h1 := eval_getD (hm.get 25 90 (by kernel_rfl)); have h2 := eval_getD (hm.get 26 91 (by kernel_rfl)); unfold Oper.wp; simp only [execOp]; go_simp; exact ⟨_, rfl, rfl, Below.refl _ _⟩
          | 28, _, ho => by
              cases ho
              generalize hW : Region.wanted _ _ = W
              obtain rfl : W = (false == false) := hW.symm.trans (wanted_of rfl rfl rfl (show a.eval (.tmp 89) = .bool false from (hm.get 24 89 (by kernel_rfl))))
              clear hW
              rw [if_pos (show (false == false) = true by decide)]
              have h1 := eval_getD (hm.get 27 92 (by kernel_rfl)); unfold Oper.wp; simp only [execOp]; go_simp; exact ⟨_, rfl, rfl, Below.refl _ _⟩
          | 29, _, ho => by
              cases ho
              generalize hW : Region.wanted _ _ = W
              obtain rfl : W = (false == false) := hW.symm.trans (wanted_of rfl rfl rfl (show a.eval (.tmp 89) = .bool false from (hm.get 24 89 (by kernel_rfl))))
              clear hW
              rw [if_pos (show (false == false) = true by decide)]
              have hx := (Hr2.out w hb); have h1 := eval_getD (hm.get 28 93 (by kernel_rfl)); unfold Oper.wp; simp only [execOp]; go_simp; exact ⟨_, rfl, rfl, Below.refl _ _⟩
          | 30, _, ho => by
              cases ho
              generalize hW : Region.wanted _ _ = W
              obtain rfl : W = (false == false) := hW.symm.trans (wanted_of rfl rfl rfl (show a.eval (.tmp 89) = .bool false from (hm.get 24 89 (by kernel_rfl))))
              clear hW
              rw [if_pos (show (false == false) = true by decide)]
              refine wp_value (st_move rfl ((hs.keeps (by kernel_rfl)).trans rfl)) ⟨_, rfl, rfl, Below.refl _ _⟩
          | 31, _, ho => by
              cases ho
              generalize hW : Region.wanted _ _ = W
              obtain rfl : W = (false == false) := hW.symm.trans (wanted_of rfl rfl rfl (show a.eval (.tmp 89) = .bool false from (hm.get 24 89 (by kernel_rfl))))
              clear hW
              rw [if_pos (show (false == false) = true by decide)]
              refine wp_value (st_move rfl ((hs.keeps (by kernel_rfl)).trans rfl)) ⟨_, rfl, rfl, Below.refl _ _⟩
          | 32, _, ho => by
              cases ho
              generalize hW : Region.wanted _ _ = W
              obtain rfl : W = (false == false) := hW.symm.trans (wanted_of rfl rfl rfl (show a.eval (.tmp 89) = .bool false from (hm.get 24 89 (by kernel_rfl))))
              clear hW
              rw [if_pos (show (false == false) = true by decide)]
              have h1 := eval_getD (hm.get 30 95 (by kernel_rfl)); have h2 := eval_getD (hm.get 31 96 (by kernel_rfl)); unfold Oper.wp; simp only [execOp]; go_simp; exact ⟨_, rfl, rfl, Below.refl _ _⟩
          | 33, _, ho => by
              cases ho
              generalize hW : Region.wanted _ _ = W
              obtain rfl : W = (false == false) := hW.symm.trans (wanted_of rfl rfl rfl (show a.eval (.tmp 89) = .bool false from (hm.get 24 89 (by kernel_rfl))))
              clear hW
              rw [if_pos (show (false == false) = true by decide)]
              have h1 := eval_getD (hm.get 32 97 (by kernel_rfl)); unfold Oper.wp; simp only [execOp]; go_simp; exact ⟨_, rfl, rfl, Below.refl _ _⟩
          | 34, _, ho => by
              cases ho
              generalize hW : Region.wanted _ _ = W
              obtain rfl : W = (false == false) := hW.symm.trans (wanted_of rfl rfl rfl (show a.eval (.tmp 89) = .bool false from (hm.get 24 89 (by kernel_rfl))))
              clear hW
              rw [if_pos (show (false == false) = true by decide)]
              have hx := (Hl1.out w hb); have h1 := eval_getD (hm.get 33 98 (by kernel_rfl)); unfold Oper.wp; simp only [execOp]; go_simp; exact ⟨_, rfl, rfl, Below.refl _ _⟩
          | 35, _, ho => by
              cases ho
              generalize hW : Region.wanted _ _ = W
              obtain rfl : W = (false == false) := hW.symm.trans (wanted_of rfl rfl rfl (show a.eval (.tmp 89) = .bool false from (hm.get 24 89 (by kernel_rfl))))
              clear hW
              rw [if_pos (show (false == false) = true by decide)]
              have h1 := eval_getD (hm.get 29 94 (by kernel_rfl)); have h2 := eval_getD (hm.get 34 99 (by kernel_rfl)); unfold Oper.wp; simp only [execOp]; go_simp; exact ⟨_, rfl, (show Value.bool _ = Value.bool _ by first | rfl | simp), Below.refl _ _⟩
          | 36, _, ho => by
              cases ho
              rw [if_pos (wanted_none _ rfl)]
              have h1 := eval_getD (hm.get 24 89 (by kernel_rfl)); have h3 := eval_getD (hm.get 35 100 (by kernel_rfl)); unfold Oper.wp; simp only [execOp]; go_simp; exact ⟨_, rfl, rfl, Below.refl _ _⟩
          | 37, _, ho => by
              cases ho
              rw [if_pos (wanted_none _ rfl)]
              refine wp_value (st_move rfl (hm.get 36 101 (by kernel_rfl))) ⟨_, rfl, rfl, Below.refl _ _⟩
          | 38, _, ho => by
              cases ho
              generalize hW : Region.wanted _ _ = W
              obtain rfl : W = (false == false) := hW.symm.trans (wanted_of rfl rfl rfl (show a.eval (.tmp 102) = .bool false from (hm.get 37 102 (by kernel_rfl))))
              clear hW
              rw [if_pos (show (false == false) = true by decide)]
              refine wp_value (st_move rfl ((hs.keeps (by kernel_rfl)).trans rfl)) ⟨_, rfl, rfl, Below.refl _ _⟩
          | 39, _, ho => by
              cases ho
              generalize hW : Region.wanted _ _ = W
              obtain rfl : W = (false == false) := hW.symm.trans (wanted_of rfl rfl rfl (show a.eval (.tmp 102) = .bool false from (hm.get 37 102 (by kernel_rfl))))
              clear hW
              rw [if_pos (show (false == false) = true by decide)]
              have h1 := eval_getD (hm.get 38 103 (by kernel_rfl)); unfold Oper.wp; simp only [execOp]; go_simp; refine (mine16_any w A n c a0 (HAw.out w hb) Hn2.out).mono ?_; rintro e w' ⟨A', c', rfl, hO'⟩; exact ⟨_, rfl, ⟨A', c', rfl, hO'.sl⟩, hO'.2⟩
          | 40, _, ho => by
              cases ho
              generalize hW : Region.wanted _ _ = W
              obtain rfl : W = (false == false) := hW.symm.trans (wanted_of rfl rfl rfl (show a.eval (.tmp 102) = .bool false from (hm.get 37 102 (by kernel_rfl))))
              clear hW
              rw [if_pos (show (false == false) = true by decide)]
              refine wp_value (st_move rfl ((hs.keeps (by kernel_rfl)).trans rfl)) ⟨_, rfl, rfl, Below.refl _ _⟩
          | 41, _, ho => by
              cases ho
              generalize hW : Region.wanted _ _ = W
              obtain rfl : W = (false == false) := hW.symm.trans (wanted_of rfl rfl rfl (show a.eval (.tmp 102) = .bool false from (hm.get 37 102 (by kernel_rfl))))
              clear hW
              rw [if_pos (show (false == false) = true by decide)]
              refine wp_value (st_move rfl ((hs.keeps (by kernel_rfl)).trans rfl)) ⟨_, rfl, rfl, Below.refl _ _⟩
          | 42, _, ho => by
              cases ho
              generalize hW : Region.wanted _ _ = W
              obtain rfl : W = (false == false) := hW.symm.trans (wanted_of rfl rfl rfl (show a.eval (.tmp 102) = .bool false from (hm.get 37 102 (by kernel_rfl))))
              clear hW
              rw [if_pos (show (false == false) = true by decide)]
              have h1 := eval_getD (hm.get 40 105 (by kernel_rfl)); have h2 := eval_getD (hm.get 41 106 (by kernel_rfl)); unfold Oper.wp; simp only [execOp]; go_simp; exact ⟨_, rfl, rfl, Below.refl _ _⟩
          | 43, _, ho => by
              cases ho
              generalize hW : Region.wanted _ _ = W
              obtain rfl : W = (false == false) := hW.symm.trans (wanted_of rfl rfl rfl (show a.eval (.tmp 102) = .bool false from (hm.get 37 102 (by kernel_rfl))))
              clear hW
              rw [if_pos (show (false == false) = true by decide)]
              have h1 := eval_getD (hm.get 42 107 (by kernel_rfl)); unfold Oper.wp; simp only [execOp]; go_simp; exact ⟨_, rfl, rfl, Below.refl _ _⟩
          | 44, _, ho => by
              cases ho
              generalize hW : Region.wanted _ _ = W
              obtain rfl : W = (false == false) := hW.symm.trans (wanted_of rfl rfl rfl (show a.eval (.tmp 102) = .bool false from (hm.get 37 102 (by kernel_rfl))))
              clear hW
              rw [if_pos (show (false == false) = true by decide)]
              have hx := (Hl0.out w hb); have h1 := eval_getD (hm.get 43 108 (by kernel_rfl)); unfold Oper.wp; simp only [execOp]; go_simp; exact ⟨_, rfl, rfl, Below.refl _ _⟩
          | 45, _, ho => by
              cases ho
              generalize hW : Region.wanted _ _ = W
              obtain rfl : W = (false == false) := hW.symm.trans (wanted_of rfl rfl rfl (show a.eval (.tmp 102) = .bool false from (hm.get 37 102 (by kernel_rfl))))
              clear hW
              rw [if_pos (show (false == false) = true by decide)]
              refine Exists.elim (show ∃ (A' : Option Addr) (c' : Nat), a.eval (.tmp 104) = .slice A' n c' ∧ Sl w 2 A' n (fls a0) from (hm.get 39 104 (by kernel_rfl))) fun A' h8 => ?_; refine Exists.elim h8 fun c' h9 => ?_; have h1 := eval_getD h9.1; have h2 := eval_getD (hm.get 44 109 (by kernel_rfl)); unfold Oper.wp; simp only [execOp]; go_simp; refine (treeFind_any A' n c' a0 p w h9.2 Hn3.out).mono ?_; rintro e w' ⟨rfl, hb'⟩; exact ⟨_, rfl, (show S _ = S _ by rw [Hfid.out]), hb'⟩
          | 46, _, ho => by
              cases ho
              generalize hW : Region.wanted _ _ = W
              obtain rfl : W = (false == false) := hW.symm.trans (wanted_of rfl rfl rfl (show a.eval (.tmp 102) = .bool false from (hm.get 37 102 (by kernel_rfl))))
              clear hW
              rw [if_pos (show (false == false) = true by decide)]
              refine wp_value (st_move rfl ((hs.keeps (by kernel_rfl)).trans rfl)) ⟨_, rfl, rfl, Below.refl _ _⟩
          | 47, _, ho => by
              cases ho
              generalize hW : Region.wanted _ _ = W
              obtain rfl : W = (false == false) := hW.symm.trans (wanted_of rfl rfl rfl (show a.eval (.tmp 102) = .bool false from (hm.get 37 102 (by kernel_rfl))))
              clear hW
              rw [if_pos (show (false == false) = true by decide)]
              refine wp_value (st_move rfl ((hs.keeps (by kernel_rfl)).trans rfl)) ⟨_, rfl, rfl, Below.refl _ _⟩
          | 48, _, ho => by
              cases ho
              generalize hW : Region.wanted _ _ = W
              obtain rfl : W = (false == false) := hW.symm.trans (wanted_of rfl rfl rfl (show a.eval (.tmp 102) = .bool false from (hm.get 37 102 (by kernel_rfl))))
              clear hW
              rw [if_pos (show (false == false) = true by decide)]
              have h1 := eval_getD (hm.get 46 111 (by kernel_rfl)); have h2 := eval_getD (hm.get 47 112 (by kernel_rfl)); unfold Oper.wp; simp only [execOp]; go_simp; exact ⟨_, rfl, rfl, Below.refl _ _⟩
          | 49, _, ho => by
              cases ho
              generalize hW : Region.wanted _ _ = W
              obtain rfl : W = (false == false) := hW.symm.trans (wanted_of rfl rfl rfl (show a.eval (.tmp 102) = .bool false from (hm.get 37 102 (by kernel_rfl))))
              clear hW
              rw [if_pos (show (false == false) = true by decide)]
              have h1 := eval_getD (hm.get 48 113 (by kernel_rfl)); unfold Oper.wp; simp only [execOp]; go_simp; exact ⟨_, rfl, rfl, Below.refl _ _⟩
          | 50, _, ho => by
              cases ho
              generalize hW : Region.wanted _ _ = W
              obtain rfl : W = (false == false) := hW.symm.trans (wanted_of rfl rfl rfl (show a.eval (.tmp 102) = .bool false from (hm.get 37 102 (by kernel_rfl))))
              clear hW
              rw [if_pos (show (false == false) = true by decide)]
              have hx := (Hl1.out w hb); have h1 := eval_getD (hm.get 49 114 (by kernel_rfl)); unfold Oper.wp; simp only [execOp]; go_simp; exact ⟨_, rfl, rfl, Below.refl _ _⟩
          | 51, _, ho => by
              cases ho
              generalize hW : Region.wanted _ _ = W
              obtain rfl : W = (false == false) := hW.symm.trans (wanted_of rfl rfl rfl (show a.eval (.tmp 102) = .bool false from (hm.get 37 102 (by kernel_rfl))))
              clear hW
              rw [if_pos (show (false == false) = true by decide)]
              have h1 := eval_getD (hm.get 45 110 (by kernel_rfl)); have h2 := eval_getD (hm.get 50 115 (by kernel_rfl)); unfold Oper.wp; simp only [execOp]; go_simp; exact ⟨_, rfl, (show Value.bool _ = Value.bool _ by first | rfl | simp), Below.refl _ _⟩
          | (n + 52), hi, _ => absurd hi (by omega)

      · have e1 : a2.eval (.tmp 102) = .bool false := by cases ho; exact hm.get 37 102 (by kernel_rfl)
        have e2 : a2.eval (.tmp 116) = .bool false := by cases ho; exact hm.get 51 116 (by kernel_rfl)
        have hfr := hs.frame [65, 66, 67, 68, 69, 70, 71, 72, 73, 74, 75, 76, 77, 78, 79, 80, 81, 82, 83, 84, 85, 86, 87, 88, 89, 90, 91, 92, 93, 94, 95, 96, 97, 98, 99, 100, 101, 102, 103, 104, 105, 106, 107, 108, 109, 110, 111, 112, 113, 114, 115, 116, 117] (by kernel_rfl)
        cases ho
        rw [hfr]
        simp only [List.foldl_cons, List.foldl_nil, e1, e2]
        clear hfr hs hm e1 e2
        generalize a2.eval (.tmp 65) = u65
        generalize a2.eval (.tmp 66) = u66
        generalize a2.eval (.tmp 67) = u67
        generalize a2.eval (.tmp 68) = u68
        generalize a2.eval (.tmp 69) = u69
        generalize a2.eval (.tmp 70) = u70
        generalize a2.eval (.tmp 71) = u71
        generalize a2.eval (.tmp 72) = u72
        generalize a2.eval (.tmp 73) = u73
        generalize a2.eval (.tmp 74) = u74
        generalize a2.eval (.tmp 75) = u75
        generalize a2.eval (.tmp 76) = u76
        generalize a2.eval (.tmp 77) = u77
        generalize a2.eval (.tmp 78) = u78
        generalize a2.eval (.tmp 79) = u79
        generalize a2.eval (.tmp 80) = u80
        generalize a2.eval (.tmp 81) = u81
        generalize a2.eval (.tmp 82) = u82
        generalize a2.eval (.tmp 83) = u83
        generalize a2.eval (.tmp 84) = u84
        generalize a2.eval (.tmp 85) = u85
        generalize a2.eval (.tmp 86) = u86
        generalize a2.eval (.tmp 87) = u87
        generalize a2.eval (.tmp 88) = u88
        generalize a2.eval (.tmp 89) = u89
        generalize a2.eval (.tmp 90) = u90
        generalize a2.eval (.tmp 91) = u91
        generalize a2.eval (.tmp 92) = u92
        generalize a2.eval (.tmp 93) = u93
        generalize a2.eval (.tmp 94) = u94
        generalize a2.eval (.tmp 95) = u95
        generalize a2.eval (.tmp 96) = u96
        generalize a2.eval (.tmp 97) = u97
        generalize a2.eval (.tmp 98) = u98
        generalize a2.eval (.tmp 99) = u99
        generalize a2.eval (.tmp 100) = u100
        generalize a2.eval (.tmp 101) = u101
        generalize a2.eval (.tmp 103) = u103
        generalize a2.eval (.tmp 104) = u104
        generalize a2.eval (.tmp 105) = u105
        generalize a2.eval (.tmp 106) = u106
        generalize a2.eval (.tmp 107) = u107
        generalize a2.eval (.tmp 108) = u108
        generalize a2.eval (.tmp 109) = u109
        generalize a2.eval (.tmp 110) = u110
        generalize a2.eval (.tmp 111) = u111
        generalize a2.eval (.tmp 112) = u112
        generalize a2.eval (.tmp 113) = u113
        generalize a2.eval (.tmp 114) = u114
        generalize a2.eval (.tmp 115) = u115
        unfold Oper.wp
        simp only [execOp]
        go_simp
        clear a2
        have BX := Lib.hid (bstep hb.out hb2)
        have Hlw : Hid (∀ w', Below W2.heap.size W2 w' → w'.cell? ⟨b6, o6 + i * 3, none⟩ = some (S p) ∧ w'.cell? ⟨b6, o6 + i * 3 + 2, none⟩ = some (S new)) := Lib.hid (fun w' h => ⟨Hl0.out w' (bstep hb2 h), Hl2.out w' (bstep hb2 h)⟩)
        have HSm := Lib.hid (hS.out.below hb2)
        obtain ⟨made, hmade⟩ : ∃ made, made = lay a0 ((cs.take i).map tgt) := ⟨_, rfl⟩
        rw [← hmade] at HSm
        have Hmade := Lib.hid hmade
        have Hmm : Hid (mm ≤ 200000000) := Lib.hid (by
          have h1 := Hcl.out i (Nat.le_of_lt hlt)
          rw [← Hmade.out, fls_count HSm.out] at h1
          have := Hn.out; have := Ht.out
          omega)
        clear hb2 hmade Hl0 Hl1 Hl2 Hr0 Hr1 Hr2 HAw Hn2 Hn3
        go_wp2
        go_loopw [10, 11] (fun s10 s11 wi => ∃ (k j co : Nat) (Ao : Option Addr), s11 = .int .i64 k ∧ s10 = .slice Ao j co ∧ Hid (k ≤ mm) ∧ Hid (j ≤ k) ∧ Hid (Ow W2 wi 33 2 Ao j co (fls ((made.take k).filter (fun f => !decide (f.1 = p)))))) (fun _ s11 _ => mm - (intOf s11).toNat)
        case atStart => exact ⟨0, 0, 0, none, rfl, rfl, Lib.hid (Nat.zero_le _), Lib.hid (Nat.le_refl _), Lib.hid (Ow.nil_ (Below.refl _ _))⟩
        case round =>
          obtain ⟨k, j, co, Ao, rfl, rfl, hk, hj, hO⟩ := hrel
          by_cases hlk : k < mm
          · obtain ⟨bm, om, y, rfl, hbm, hy, y0, y1⟩ := (HSm.out.below hO.out.2).fil hlk
            obtain ⟨z0, _⟩ := Hlw.out wr hO.out.2
            have HY : Hid (∀ w', Below W2.heap.size W2 w' → w'.cell? ⟨bm, om + k * 2, none⟩ = some (S y.1) ∧ w'.cell? ⟨bm, om + k * 2 + 1, none⟩ = some (S y.2)) := Lib.hid (fun w' hb' => by
              obtain ⟨b2, off2, y', e1, _, hy', v0, v1⟩ := (HSm.out.below hb').fil hlk
              cases e1
              obtain rfl : y = y' := Option.some.inj (hy.symm.trans hy')
              exact ⟨v0, v1⟩)
            have Hy := Lib.hid hy
            clear hy
            have hmm9 : mm ≤ 200000000 := Hmm.out
            rcases Decidable.em (y.1 = p) with hp | hp
            · have hO2 : Hid (Ow W2 wr 33 2 Ao j co (fls ((made.take (k + 1)).filter (fun f => !decide (f.1 = p))))) := Lib.hid (by
                have e : (made.take (k + 1)).filter (fun f => !decide (f.1 = p)) = (made.take k).filter (fun f => !decide (f.1 = p)) := by
                  rw [List.take_add_one, Hy.out, List.filter_append]
                  simp [hp]
                rw [e]
                exact hO.out)
              have d1 : (y.1 == p) = true := beq_iff_eq.2 hp
              clear hp
              go_wp2
              go_quiet (fail)
              go_wp2
              go_roundw
              case rel => exact ⟨k + 1, j, co, Ao, by go_num, rfl, Lib.hid hlk, Lib.hid (Nat.le_succ_of_le hj.out), Lib.hid (hO2.out.drewN _)⟩
              case measure => simp [intOf]; omega
            · have d1 : (y.1 == p) = false := beq_eq_false_iff_ne.2 hp
              have Hp := Lib.hid hp
              have q1 : j + 1 ≤ maxLen := by have := hj.out; have := Hmm.out; simp only [maxLen]; omega
              have q2 : (j + 1) * 32 ≤ 140737488355328 := by have := hj.out; have := Hmm.out; omega
              clear hp
              go_wp2
              go_quiet (fail)
              obtain ⟨w9, hw9⟩ : ∃ w9, wr.drewN nq = w9 := ⟨_, rfl⟩
              have b9 : Below W2.heap.size W2 w9 := by rw [← hw9]; exact below_drewN hO.out.2 _
              have HO9 : Hid (Ow W2 w9 33 2 Ao j co (fls ((made.take k).filter (fun f => !decide (f.1 = p))))) := Lib.hid (by rw [← hw9]; exact hO.out.drewN _)
              rw [hw9]
              obtain ⟨u0, u1⟩ := HY.out w9 b9
              clear hw9 b9 y0 y1 z0 d1
              go_wp2_with (at_builtin; refine wpList_append_sl _ rfl (.tmp 135) (.tmp 140) _ rfl W2 33 i0 _ 2 32 Tryz.underlying22 hi0 hi1 hi2 hi3 rfl (by omega) Ao j co _ rfl (HO9.out.alloc _) (some ⟨w9.heap.size, 0, none⟩) 1 _ (fls [y]) rfl (sl_fil w9 _ y) (one_fls _) q1 q2 ?_; intro A5 c5 w5 hO5 hg5 hat5; have HO5 := Lib.hid hO5; clear hO5 hg5 hat5)
              have HO7 : Hid (Ow W2 w5 33 2 A5 (j + 1) c5 (fls ((made.take (k + 1)).filter (fun f => !decide (f.1 = p))))) := Lib.hid (by
                have e : (made.take (k + 1)).filter (fun f => !decide (f.1 = p)) = (made.take k).filter (fun f => !decide (f.1 = p)) ++ [y] := by
                  rw [List.take_add_one, Hy.out, List.filter_append]
                  simp [Hp.out]
                rw [e, fls_append]
                exact HO5.out)
              clear HO5
              go_roundw
              case rel => exact ⟨k + 1, j + 1, c5, A5, by go_num, rfl, Lib.hid hlk, Lib.hid (Nat.succ_le_succ hj.out), HO7⟩
              case measure => simp [intOf]; omega
          · obtain rfl : k = mm := by have := hk.out; omega
            have hlm : made.length = k := fls_count HSm.out
            rw [List.take_of_length_le (by omega)] at hO
            have e2 : (cs.take (i + 1)).map tgt = (cs.take i).map tgt ++ [(p, new)] := by rw [List.take_add_one, Hx.out]; simp [tgt]
            obtain ⟨W3, hW3⟩ : ∃ W3, W3 = wr := ⟨_, rfl⟩
            subst hW3
            have HB3 := Lib.hid (bstep BX.out hO.out.2)
            obtain ⟨z0, z2⟩ := Hlw.out W3 hO.out.2
            have ht9 : t ≤ 1000000 := Ht.out
            cases new with
            | nil =>
              have HF : Hid (Sl W3 2 Ao j (fls (lay a0 ((cs.take (i + 1)).map tgt)))) := Lib.hid (by
                rw [e2, DiffLaw.lay_snoc, ← Hmade.out]
                simpa [DiffLaw.put] using hO.out.sl)
              clear e2 hlm
              go_wp2
              go_roundw
              case rel => exact ⟨i + 1, j, co, Ao, by go_num, rfl, Lib.hid hlt, HF, HB3⟩
              case measure => simp [intOf]; omega
            | cons n1 n2 =>
              have HF : Hid (∀ (W4 : World) (A5 : Option Addr), Sl W4 2 A5 (j + 1) (fls (made.filter (fun f => !decide (f.1 = p))) ++ fls [(p, n1 :: n2)]) → Sl W4 2 A5 (j + 1) (fls (lay a0 ((cs.take (i + 1)).map tgt)))) := Lib.hid (fun W4 A5 h => by
                rw [e2, DiffLaw.lay_snoc, ← Hmade.out]
                simpa [DiffLaw.put, fls_append] using h)
              clear e2 hlm
              have Hj : Hid (j + 1 ≤ maxLen ∧ (j + 1) * 32 ≤ 140737488355328) := Lib.hid (by have h1 := hj.out; have h2 := Hmm.out; simp only [maxLen]; omega)
              obtain ⟨W, hW⟩ : ∃ W, W = W3 := ⟨_, rfl⟩
              subst hW
              have HO6 := Lib.hid (hO.out.drew.alloc (.cells #[S p, S (n1 :: n2)] 33))
              have hS6 := sl_fil W.drew 33 (p, n1 :: n2)
              obtain ⟨A5, c5, w5, hrun, hO5, hg5, _⟩ := run_append_sl (P := Tryz.prog) _ W2.heap.size 22 22 33 i0 _ 2 32 Tryz.underlying22 hi0 hi1 hi2 hi3 rfl (by decide) (.slice Ao j co) j (fls (made.filter (fun f => !decide (f.1 = p)))) HO6.out.1 _ 1 1 (fls [(p, n1 :: n2)]) hS6 (one_fls _) Hj.out.1 Hj.out.2 HO6.out.2.size
              have hb5 : Below W2.heap.size W2 w5 := HO6.out.2.grown hg5 HO6.out.2.size (fun k hk => (HO6.out.1.lt k hk).1)
              have HO5 : Hid (Sl w5 2 A5 (j + 1) (fls (lay a0 ((cs.take (i + 1)).map tgt)))) := Lib.hid (HF.out w5 A5 (Sl.of_own hO5))
              have HB := Lib.hid (CJ.bel (w0 := W2) (W0 := W.drew) (W1 := W.drew.alloc (.cells #[S p, S (n1 :: n2)] 33)) (W2 := w5) hO.out.2.drew HO6.out.2 hb5)
              have HB5 := Lib.hid (bstep BX.out hb5)
              have Hrun := Lib.hid hrun
              have Hx2 := Hlw
              clear hS6 hrun hO5 hg5 hb5 HO6 HF Hj
              obtain ⟨g, hg⟩ : ∃ g, g = W.heap.size := ⟨_, rfl⟩
              have Hg := Lib.hid hg
              clear hg
              go_wp2
              clear z0 z2
              refine wp_region_pairR (by kernel_rfl) 14 (by kernel_rfl) ?_ (fun q v => mk2Phi b6 o6 t c8 i j co g c5 Ao A5 p (n1 :: n2) q v W) 12 13 (by kernel_rfl) (fun w w' => w' = w) (fun _ => rfl) (CJ W.drew (W.drew.alloc (.cells #[S p, S (n1 :: n2)] 33)) w5) CJ.step rfl (fun i o hi hi1 hi2 ho a w k' hk hk2 hs hm => ?_) (fun o ho a w hj hs hm => ?_) (fun o ho a w hj hs hm => ?_) (fun o ho a w hj hs hm => ?_)
              · exact dst_ltC2 (n := 170) (by kernel_rfl)
              · obtain ⟨y0, y1⟩ := Hx2.out w (HB.out k' w hk)
                exact match i, hi, ho, hi1, hi2 with
                | 0, _, ho, _, _ => by
                    cases ho
                    rw [if_pos (wanted_none _ rfl)]
                    refine wp_value (st_move rfl ((hs.keeps (by kernel_rfl)).trans rfl)) ⟨_, rfl, rfl, rfl⟩
                | 1, _, ho, _, _ => by
                    cases ho
                    rw [if_pos (wanted_none _ rfl)]
                    refine wp_value (st_move rfl ((hs.keeps (by kernel_rfl)).trans rfl)) ⟨_, rfl, rfl, rfl⟩
                | 2, _, ho, _, _ => by
                    cases ho
                    rw [if_pos (wanted_none _ rfl)]
                    refine wp_value (st_move rfl ((hs.keeps (by kernel_rfl)).trans rfl)) ⟨_, rfl, rfl, rfl⟩
                | 3, _, ho, _, _ => by
                    cases ho
                    rw [if_pos (wanted_none _ rfl)]
                    have h1 := eval_getD (hm.get 1 149 (by kernel_rfl)); have h2 := eval_getD (hm.get 2 150 (by kernel_rfl)); unfold Oper.wp; simp only [execOp]; go_simp; (first | exact ⟨_, rfl, rfl⟩ | exact ⟨_, rfl, rfl, rfl⟩)
                | 4, _, ho, _, _ => by
                    cases ho
                    rw [if_pos (wanted_none _ rfl)]
                    have h1 := eval_getD (hm.get 3 151 (by kernel_rfl)); unfold Oper.wp; simp only [execOp]; go_simp; (first | exact ⟨_, rfl, rfl⟩ | exact ⟨_, rfl, rfl, rfl⟩)
                | 5, _, ho, _, _ => by
                    cases ho
                    rw [if_pos (wanted_none _ rfl)]
                    have h1 := eval_getD (hm.get 4 152 (by kernel_rfl)); unfold Oper.wp; simp only [execOp]; go_simp; (first | exact ⟨_, rfl, rfl⟩ | exact ⟨_, rfl, rfl, rfl⟩)
                | 6, _, ho, _, _ => by
                    cases ho
                    rw [if_pos (wanted_none _ rfl)]
                    refine wp_value (st_move rfl ((hs.keeps (by kernel_rfl)).trans rfl)) ⟨_, rfl, rfl, rfl⟩
                | 7, _, ho, _, _ => by
                    cases ho
                    rw [if_pos (wanted_none _ rfl)]
                    refine wp_value (st_move rfl ((hs.keeps (by kernel_rfl)).trans rfl)) ⟨_, rfl, rfl, rfl⟩
                | 8, _, ho, _, _ => by
                    cases ho
                    rw [if_pos (wanted_none _ rfl)]
                    have h1 := eval_getD (hm.get 6 154 (by kernel_rfl)); have h2 := eval_getD (hm.get 7 155 (by kernel_rfl)); unfold Oper.wp; simp only [execOp]; go_simp; (first | exact ⟨_, rfl, rfl⟩ | exact ⟨_, rfl, rfl, rfl⟩)
                | 9, _, ho, _, _ => by
                    cases ho
                    rw [if_pos (wanted_none _ rfl)]
                    have h1 := eval_getD (hm.get 8 156 (by kernel_rfl)); unfold Oper.wp; simp only [execOp]; go_simp; (first | exact ⟨_, rfl, rfl⟩ | exact ⟨_, rfl, rfl, rfl⟩)
                | 10, _, ho, _, _ => by
                    cases ho
                    rw [if_pos (wanted_none _ rfl)]
                    have h1 := eval_getD (hm.get 9 157 (by kernel_rfl)); unfold Oper.wp; simp only [execOp]; go_simp; (first | exact ⟨_, rfl, rfl⟩ | exact ⟨_, rfl, rfl, rfl⟩)
                | 11, _, ho, _, _ => by
                    cases ho
                    rw [if_pos (wanted_none _ rfl)]
                    have h1 := eval_getD (hm.get 5 153 (by kernel_rfl)); have h2 := eval_getD (hm.get 10 158 (by kernel_rfl)); unfold Oper.wp; simp only [execOp]; go_simp; (first | exact ⟨_, rfl, rfl⟩ | exact ⟨_, rfl, rfl, rfl⟩)
                | 12, _, _, h, _ => absurd rfl h
                | 13, _, _, _, h => absurd rfl h
                | (n + 14), hi, _, _, _ => absurd hi (by omega)

              · cases ho
                obtain rfl : w = W.drew := hj
                have h1 := eval_getD (hm.get 11 159 (by kernel_rfl))
                unfold Oper.wp
                simp only [execOp]
                go_simp
                exact ⟨_, rfl, show Value.slice _ _ _ = Value.slice _ _ _ by rw [Hg.out], rfl⟩
              · have hj1 : w = W.drew.alloc (.cells #[S p, S (n1 :: n2)] 33) := hj
                subst hj1
                obtain ⟨h1, h2, h3, h4, h5⟩ : a.eval (.tmp 148) = .slice Ao j co ∧ a.eval (.tmp 160) = .slice (some ⟨g, 0, none⟩) 1 1 ∧ o.op = .call { callee := .builtin .append, args := #[.tmp 148, .tmp 160], argTypes := #[22, 22] } ∧ o.dst = some 161 ∧ o.type = 22 := by
                  cases ho
                  exact ⟨hm.get 0 148 (by kernel_rfl), hm.get 12 160 (by kernel_rfl), rfl, rfl, rfl⟩
                rw [Hg.out] at h2
                have hr := Hrun.out
                simp only [World.size_drew] at hr
                unfold Oper.wp execOp
                simp only [h3, h5, resolve, invoke, builtin, Sem.run_bind, Sem.run_pure, Result.andThen_ok, List.map_toArray, List.map_cons, List.map_nil, h1, h2, hr]
                exact ⟨_, rfl, rfl, rfl⟩
              · have e1 : a.eval (.tmp 161) = .slice A5 (j + 1) c5 := by cases ho; exact hm.get 13 161 (by kernel_rfl)
                have hfr := hs.frame [148, 149, 150, 151, 152, 153, 154, 155, 156, 157, 158, 159, 160, 161] (by kernel_rfl)
                cases ho
                obtain rfl : w = w5 := hj
                rw [hfr]
                simp only [List.foldl_cons, List.foldl_nil, e1]
                clear hfr hs hm e1
                generalize a.eval (.tmp 148) = u148
                generalize a.eval (.tmp 149) = u149
                generalize a.eval (.tmp 150) = u150
                generalize a.eval (.tmp 151) = u151
                generalize a.eval (.tmp 152) = u152
                generalize a.eval (.tmp 153) = u153
                generalize a.eval (.tmp 154) = u154
                generalize a.eval (.tmp 155) = u155
                generalize a.eval (.tmp 156) = u156
                generalize a.eval (.tmp 157) = u157
                generalize a.eval (.tmp 158) = u158
                generalize a.eval (.tmp 159) = u159
                generalize a.eval (.tmp 160) = u160
                unfold Oper.wp
                simp only [execOp]
                go_simp
                clear a
                go_wp2
                go_roundw
                case rel => exact ⟨_, j + 1, c5, A5, by go_num, rfl, Lib.hid hlt, HO5, HB5⟩
                case measure => simp [intOf]; omega
    · obtain rfl : i = t := by have := hi.out; omega
      rw [List.take_of_length_le (by rw [Htl.out]; exact Nat.le_refl _)] at hS
      have Hml : Hid (mm ≤ 2000000) := Lib.hid (by
        have h1 := Hcl.out i (Nat.le_refl _)
        rw [List.take_of_length_le (by rw [Htl.out]; exact Nat.le_refl _), fls_count hS.out] at h1
        have := Hn1.out; have := Ht.out
        omega)
      have BX := Lib.hid (bstep B14.out hb.out)
      have CS := Lib.hid (sorted13_any Am mm cm _ wr hS.out Hml.out)
      go_wp2_with fail
      refine CS.out.mono ?_
      rintro e w15 ⟨A15, c15, out, rfl, hpm, hrise, _, hO15⟩
      have B15 := Lib.hid (bstep BX.out hO15.2)
      rw [Hcs.out] at hpm
      have HE := Lib.hid (DiffLaw.makes (good_of_fine' HFa.out) (good_of_fine' HFb.out) HPs.out hpm hrise)
      have CQ := Lib.hid (sameFiles_any w15 A15 B mm m c15 d out b0 hO15.sl (HB.out.below B15.out) (by have := Hml.out; omega))
      rw [decide_eq_true HE.out] at CQ
      clear CS hpm hrise hO15
      go_wp2_with fail
      refine CQ.out.mono ?_
      rintro e w16 ⟨rfl, j16, rfl⟩
      go_wp2
      go_ret
      exact ⟨rfl, below_drewN B15.out _⟩
theorem pairMakes_walk (A : Option Addr) (n c : Nat) (a : List Fil) (B : Option Addr) (m d : Nat) (b : List Fil) (w : World) (hA : Sl w 2 A n (fls a)) (hn : n ≤ 1048576) (hP : ∀ f ∈ a, f.1.length ≤ 1048576) (hB : Sl w 2 B m (fls b)) (hm : m ≤ 1048576) (hQ : ∀ f ∈ b, f.1.length ≤ 1048576) (hM : MaxL w) :
    Calls Tryz.prog 8 #[.slice A n c, .slice B m d] w fun e w' => e = .returned (.bool true) ∧ Below w.heap.size w w' := pairMakes_law A B n m c d a b w hA hB hn hm hP hQ hM
end Go.Proofs.YtkginbfpokbhcaaGreatDoor
