/-
  dolmenlaw16.PairDiffs returns true. Conditions: the files can be read; a path's length is an int.
-/
import Derived.Test.YtkginbfpokbhcaaGreatDoorAwake16
import Derived.Test.YtkginbfpokbhcaaGreatDoorPairCopy
import Derived.Test.YtkginbfpokbhcaaGreatDoorSames
namespace Go.Proofs.YtkginbfpokbhcaaGreatDoor
open Go.RowKit Go.Shelf
open DiffLaw (fid ofPaths)

set_option maxHeartbeats 4000000 in
set_option maxRecDepth 100000 in
theorem pairDiffs_law (A B : Option Addr) (n m c d : Nat) (a b : List Fil) (w : World) (hA : Sl w 2 A n (fls a)) (hB : Sl w 2 B m (fls b)) (hpa : ∀ f ∈ a, f.1.length ≤ maxLen) (hpb : ∀ f ∈ b, f.1.length ≤ maxLen) :
    Calls Tryz.prog 6 #[.slice A n c, .slice B m d] w fun e w' => e = .returned (.bool true) ∧ Below w.heap.size w w' := by
  have CW := Lib.hid (awake16_any w)
  have HA := Lib.hid hA
  have HB := Lib.hid hB
  clear hA hB
  have hways : decide ((300 : Int) < (n : Int)) = true ∨ (decide ((300 : Int) < (n : Int)) = false ∧ decide ((300 : Int) < (m : Int)) = true) ∨ (decide ((300 : Int) < (n : Int)) = false ∧ decide ((300 : Int) < (m : Int)) = false ∧ n ≤ 300 ∧ m ≤ 300) := by
    by_cases h1 : 300 < n
    · exact .inl (decide_eq_true (by omega))
    · by_cases h2 : 300 < m
      · exact .inr (.inl ⟨decide_eq_false (by omega), decide_eq_true (by omega)⟩)
      · exact .inr (.inr ⟨decide_eq_false (by omega), decide_eq_false (by omega), by omega, by omega⟩)
  rcases hways with d1 | ⟨d1, d2⟩ | ⟨d1, d2, hn, hm⟩
  · go_enter Tryz.func6, Tryz.ntmps6
    go_wp2_with (go_at_call 24; refine CW.out.mono ?_; rintro e w1 ⟨rfl, b1⟩)
    go_ret
    exact ⟨rfl, b1⟩
  · go_enter Tryz.func6, Tryz.ntmps6
    go_wp2_with (go_at_call 24; refine CW.out.mono ?_; rintro e w1 ⟨rfl, b1⟩)
    go_ret
    exact ⟨rfl, b1⟩
  · have Hn := Lib.hid hn
    have Hm := Lib.hid hm
    have HPA := Lib.hid hpa
    have HPB := Lib.hid hpb
    clear hn hm hpa hpb
    go_enter Tryz.func6, Tryz.ntmps6
    go_wp2_with (first
      | (go_at_call 24; refine CW.out.mono ?_; rintro e w1 ⟨rfl, b1⟩; have B1 := Lib.hid b1; have M1 := Lib.hid (mine16_any w1 A n c a (HA.out.below b1) (by have := Hn.out; omega)); clear b1)
      | (go_at_call 28; (with_reducible refine M1.out.mono ?_); rintro e w2 ⟨A2, c2, rfl, hO2⟩; have B2 := Lib.hid (bstep B1.out hO2.2); have HO2 := Lib.hid hO2; have M2 := Lib.hid (mine16_any w2 B m d b (HB.out.below B2.out) (by have := Hm.out; omega)); clear M1 hO2)
      | (go_at_call 28; (with_reducible refine M2.out.mono ?_); rintro e w3 ⟨A3, c3, rfl, hO3⟩; have B3 := Lib.hid (bstep B2.out hO3.2); have CD := Lib.hid (pairDiff_any A2 A3 n m c2 c3 a b w3 (HO2.out.keep hO3.2).sl hO3.sl (by have := Hn.out; omega) (by have := Hm.out; omega) HPA.out HPB.out); clear M2 hO3)
      | (go_at_call 27; refine CD.out.mono ?_; rintro e w4 ⟨A4, t, c4, ps, rfl, ht, hps, hO4⟩; have B4 := Lib.hid (bstep B3.out hO4.2); have HPs := Lib.hid hps; have Ht := Lib.hid ht; have CC := Lib.hid (changes16_any w4 A4 t c4 _ hO4.sl (by have := Ht.out; omega)); clear hps ht hO4)
      | (go_at_call 26; refine CC.out.mono ?_; rintro e w5 ⟨A5, c5, rfl, hO5⟩; have B5 := Lib.hid (bstep B4.out hO5.2); have HO5 := Lib.hid hO5; have CR := Lib.hid (rdiff_any A B n m c d a b w5 (HA.out.below B5.out) (HB.out.below B5.out) (by have := Hn.out; omega) (by have := Hm.out; omega)); clear hO5)
      | (go_at_call 29; refine CR.out.mono ?_; rintro e w6 ⟨A6, t6, c6, qs, rfl, hqs, hO6⟩; have B6 := Lib.hid (bstep B5.out hO6.2); have EQ := DiffLaw.paths_eq HPs.out hqs; have CS := Lib.hid (sameChanges_any w6 A5 A6 t t6 c5 c6 _ _ (HO5.out.keep hO6.2).sl hO6.sl (by have := Ht.out; omega)); rw [decide_eq_true (by rw [EQ])] at CS; clear EQ hqs hO6)
      | (go_at_call 25; refine CS.out.mono ?_; rintro e w7 ⟨rfl, j7, rfl⟩))
    go_ret
    exact ⟨rfl, below_drewN B6.out _⟩
theorem pairDiffs_walk (A : Option Addr) (n c : Nat) (a : List Fil) (B : Option Addr) (m d : Nat) (b : List Fil) (w : World) (hA : Sl w 2 A n (fls a)) (hpa : ∀ f ∈ a, f.1.length ≤ maxLen) (hB : Sl w 2 B m (fls b)) (hpb : ∀ f ∈ b, f.1.length ≤ maxLen) (_ : MaxL w) :
    Calls Tryz.prog 6 #[.slice A n c, .slice B m d] w fun e w' => e = .returned (.bool true) ∧ Below w.heap.size w w' := pairDiffs_law A B n m c d a b w hA hB hpa hpb
end Go.Proofs.YtkginbfpokbhcaaGreatDoor
