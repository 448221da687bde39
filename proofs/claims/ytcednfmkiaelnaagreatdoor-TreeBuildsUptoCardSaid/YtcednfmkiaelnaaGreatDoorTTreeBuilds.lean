/-
  dolmenlaw13.TreeBuilds: the law's walk. Conditions: the files can be read; no text is longer than 1048576; MaxLen holds an int.
-/
import Derived.Test.YtcednfmkiaelnaaGreatDoorTRBuilt
import Derived.Test.YtcednfmkiaelnaaGreatDoorTKitTf
import Derived.Test.YtcednfmkiaelnaaGreatDoorTCopy13
import Derived.Test.YtcednfmkiaelnaaGreatDoorTKitN
import Derived.Test.YtcednfmkiaelnaaGreatDoorTKitDf
namespace Go.Proofs.YtcednfmkiaelnaaGreatDoor
open Go.RowKit
open TreeLaw
open PathLaw (Bs under)
open DiffLaw (fid)
set_option maxRecDepth 100000 in
set_option maxHeartbeats 8000000 in
theorem treeBuilds_law (A : Option Addr) (n c : Nat) (l : List Fil) (p d : Bs) (w : World) (hA : Sl w 2 A n (fls l)) (hn : n ≤ 1048576) (hP : ∀ f ∈ l, f.1.length ≤ 1048576) (hp : p.length ≤ 1048576) (hd : d.length ≤ 1048576) (hM : MaxL w) :
  Calls Tryz.prog 3 #[.slice A n c, S p, S d] w fun e w' => e = .returned (.bool true) ∧ Below w.heap.size w w' := by
 have hln := fls_count hA
 have hP2 : ∀ f ∈ l, f.1.length ≤ 2147483648 := fun f hf => Nat.le_trans (hP f hf) (by decide)
 have hz : ∃ (z : Int) (root : Bs) (all : List Bs), ((CheckP l ∧ z = 0 ∧ root = rootL l ∧ all = treesL l) ∨ (¬ CheckP l ∧ z = 1 ∧ root = [] ∧ all = [])) ∧ all.length ≤ 151 * n + 1 := by
  by_cases hc : CheckP l
  ·exact ⟨0, _, _, .inl ⟨hc, rfl, rfl, rfl⟩, by rw [← hln]; exact trees_len hc⟩
  ·exact ⟨1, [], [], .inr ⟨hc, rfl, rfl, rfl⟩, by simp⟩
 obtain ⟨z, root, all, hz, hal⟩ := hz
 have C1 := Lib.hid (awake13_any w hM)
 have CM := Lib.hid (fun V (hV : Below w.heap.size w V) (h : n ≤ 200) => mine13_any V A n c l (hA.below hV) (by omega))
 have CB : Hid (∀ (V : World) (A' : Option Addr) (c' : Nat), Below w.heap.size w V → Sl V 2 A' n (fls l) → Calls Tryz.prog 6 #[.slice A' n c'] V fun e w' => (∃ A3 c3 hs, e = .returned (.tuple #[.slice A3 all.length c3, S root, I z]) ∧ SlT (fun _ => True) 38 w' 1 A3 all.length (hs.map Hd.v) ∧ RowsAt w' hs all) ∧ Below V.heap.size V w') := Lib.hid (fun V A' c' hV hS => (tbuild_any V A' n c' l hS hn hP2 (hM.step hV)).mono (by
  rintro e w' ⟨h1, h2⟩
  refine ⟨?_, h2⟩
  rcases hz with ⟨hc, rfl, rfl, rfl⟩ | ⟨hc, rfl, rfl, rfl⟩
  ·rcases h1 with ⟨_, A3, c3, hs, h3, h4, h5⟩ | ⟨h3, _⟩
   ·exact ⟨A3, c3, hs, h3, h4, h5⟩
   ·exact absurd hc h3
  ·rcases h1 with ⟨h3, _⟩ | ⟨_, h3⟩
   ·exact absurd h3 hc
   ·exact ⟨none, 0, [], h3, SlT.nil_, rfl, fun i h raw h4 => by simp at h4⟩))
 have CR : Hid (∀ V, Below w.heap.size w V → Calls Tryz.prog 8 #[.slice A n c] V fun e w' => (∃ A3 c3 hs, e = .returned (.tuple #[.slice A3 all.length c3, S root, I z]) ∧ SlT (fun _ => True) 38 w' 1 A3 all.length (hs.map Hd.v) ∧ RowsAt w' hs all) ∧ Below V.heap.size V w') := Lib.hid (fun V hV => (rBuild_any V A n c l (hA.below hV) hn hP2).mono (by
  rintro e w' ⟨h1, h2⟩
  refine ⟨?_, h2⟩
  rcases hz with ⟨hc, rfl, rfl, rfl⟩ | ⟨hc, rfl, rfl, rfl⟩
  ·rcases h1 with ⟨_, A3, c3, hs, h3, h4, h5⟩ | ⟨h3, _⟩
   ·exact ⟨A3, c3, hs, h3, h4, h5⟩
   ·exact absurd hc h3
  ·rcases h1 with ⟨h3, _⟩ | ⟨_, h3⟩
   ·exact absurd h3 hc
   ·exact ⟨none, 0, [], h3, SlT.nil_, rfl, fun i h raw h4 => by simp at h4⟩))
 have CK : Hid (∀ (V : World) (A' : Option Addr) (c' : Nat), Below w.heap.size w V → Sl V 2 A' n (fls l) → Calls Tryz.prog 9 #[.slice A' n c'] V fun e w' => e = .returned (I z) ∧ Below V.heap.size V w') := Lib.hid (fun V A' c' hV hS => (checkX_any A' n c' l V hS hn hP2 (hM.step hV)).mono (by
  rintro e w' ⟨z', rfl, h1, h2⟩
  refine ⟨?_, h2⟩
  rcases hz with ⟨hc, rfl, _, _⟩ | ⟨hc, rfl, _, _⟩ <;> rcases h1 with ⟨rfl, h3⟩ | ⟨rfl, h3⟩
  ·rfl
  ·exact absurd hc h3
  ·exact absurd h3 hc
  ·rfl))
 have CL : Hid (∀ V, Below w.heap.size w V → Calls Tryz.prog 10 #[.slice A n c] V fun e w' => e = .returned (I z) ∧ Below V.heap.size V w') := Lib.hid (fun V hV => (rcheck13_any A n c l V (hA.below hV) hn hP2).mono (by
  rintro e w' ⟨z', rfl, h1, h2⟩
  refine ⟨?_, h2⟩
  rcases hz with ⟨hc, rfl, _, _⟩ | ⟨hc, rfl, _, _⟩ <;> rcases h1 with ⟨rfl, h3⟩ | ⟨rfl, h3⟩
  ·rfl
  ·exact absurd hc h3
  ·exact absurd h3 hc
  ·rfl))
 have CN := Lib.hid (fun V (hV : Below w.heap.size w V) => named_any p V (by omega) (hM.step hV))
 have CO := Lib.hid (fun V => rnamed_any p V (by omega))
 have CU := Lib.hid (fun V => under_any p d V (by omega))
 have CV := Lib.hid (fun V => runder_any p d V (Nat.le_trans hp (by decide)))
 have CF := Lib.hid (fun V A' c' (hS : Sl V 2 A' n (fls l)) => treeFind_any A' n c' l p V hS (by omega))
 have CG := Lib.hid (fun V (hV : Below w.heap.size w V) => rfind13_any A n c l p V (hA.below hV) (by omega))
 have Hal := Lib.hid hal
 obtain ⟨nb, hnb⟩ : ∃ b, PathLaw.named p = b := ⟨_, rfl⟩
 obtain ⟨ub, hub⟩ : ∃ b, under p d = b := ⟨_, rfl⟩
 obtain ⟨fb, hfb⟩ : ∃ b, fid l p = b := ⟨_, rfl⟩
 rw [hnb] at CN CO
 rw [hub] at CU CV
 rw [hfb] at CF CG
 clear hA hP hP2 hp hd hM hz hal hln hnb hub hfb
 go_enter Tryz.func3, Tryz.ntmps3
 go_wp2_with fail
 refine C1.out.mono ?_
 rintro e w1 ⟨rfl, b1⟩
 have B1 := Lib.hid b1
 clear b1 C1
 by_cases h2 : 200 < n
 ·have d0 : decide ((200 : Int) < (n : Int)) = true := decide_eq_true (by omega)
  go_wp2
  go_ret
  exact ⟨rfl, B1.out⟩
 ·have d0 : decide ((200 : Int) < (n : Int)) = false := decide_eq_false (by omega)
  have h200 : n ≤ 200 := by omega
  clear h2
  go_wp2_with fail
  refine (CM.out w1 B1.out h200).mono ?_
  rintro e w2 ⟨A2, c2, rfl, hO2⟩
  have B2 := Lib.hid (bstep B1.out hO2.2)
  have HO2 := Lib.hid hO2
  clear hO2
  go_wp2_with fail
  refine (CB.out w2 A2 c2 B2.out HO2.out.sl).mono ?_
  rintro e w3 ⟨⟨A3, c3, hs, rfl, h3, h4⟩, b3⟩
  have B3 := Lib.hid (bstep B2.out b3)
  have H3 := Lib.hid h3
  have H4 := Lib.hid h4
  clear h3 h4 b3 CB HO2
  go_wp2_with fail
  refine (CR.out w3 B3.out).mono ?_
  rintro e w4 ⟨⟨A4, c4, gs, rfl, h3, h4⟩, b4⟩
  have B4 := Lib.hid (bstep B3.out b4)
  have H5 := Lib.hid (H3.out.step b4)
  have H6 := Lib.hid (H4.out.keep (.of_below b4))
  have H7 := Lib.hid h3
  have H8 := Lib.hid h4
  clear h3 h4 b4 CR H3 H4
  go_wp2_with fail
  refine (CM.out w4 B4.out h200).mono ?_
  rintro e w5 ⟨A5, c5, rfl, hO5⟩
  have B5 := Lib.hid (bstep B4.out hO5.2)
  have CK5 := Lib.hid (CK.out w5 A5 c5 B5.out hO5.sl)
  have H5b := Lib.hid (H5.out.step hO5.2)
  have H6b := Lib.hid (H6.out.keep (.of_below hO5.2))
  have H7b := Lib.hid (H7.out.step hO5.2)
  have H8b := Lib.hid (H8.out.keep (.of_below hO5.2))
  clear hO5 CK H5 H6 H7 H8
  go_wp2_with fail
  refine CK5.out.mono ?_
  rintro e w6 ⟨rfl, b6⟩
  have B6 := Lib.hid (bstep B5.out b6)
  have b56 := Lib.hid b6
  clear b6 CK5
  go_wp2_with fail
  refine (CL.out w6 B6.out).mono ?_
  rintro e w7 ⟨rfl, b7⟩
  have B7 := Lib.hid (bstep B6.out b7)
  have b57 := Lib.hid (bstep b56.out b7)
  clear b7 CL b56
  go_wp2_with fail
  refine (CN.out w7 B7.out).mono ?_
  rintro e w8 ⟨rfl, b8⟩
  have B8 := Lib.hid (bstep B7.out b8)
  have b58 := Lib.hid (bstep b57.out b8)
  clear b8 CN b57
  go_wp2_with fail
  refine (CO.out w8).mono ?_
  rintro e w9 ⟨rfl, b9⟩
  have B9 := Lib.hid (bstep B8.out b9)
  have b59 := Lib.hid (bstep b58.out b9)
  clear b9 CO b58
  go_wp2_with fail
  refine (CU.out w9).mono ?_
  rintro e w10 ⟨rfl, rfl⟩
  go_wp2_with fail
  refine (CV.out w9).mono ?_
  rintro e w11 ⟨rfl, rfl⟩
  go_wp2_with fail
  refine (CM.out w9 B9.out h200).mono ?_
  rintro e w12 ⟨A12, c12, rfl, hO12⟩
  have B12 := Lib.hid (bstep B9.out hO12.2)
  have b5C := Lib.hid (bstep b59.out hO12.2)
  have CF12 := Lib.hid (CF.out w12 A12 c12 hO12.sl)
  clear hO12 CM CF b59 CU CV
  go_wp2_with fail
  refine CF12.out.mono ?_
  rintro e w13 ⟨rfl, b13⟩
  have B13 := Lib.hid (bstep B12.out b13)
  have b5D := Lib.hid (bstep b5C.out b13)
  clear b13 CF12 b5C
  go_wp2_with fail
  refine (CG.out w13 B13.out).mono ?_
  rintro e w14 ⟨rfl, hw14⟩
  have hw15 := hw14.symm
  subst hw15
  have H5 := Lib.hid (H5b.out.step b5D.out)
  have H6 := Lib.hid (H6b.out.keep (.of_below b5D.out))
  have H7 := Lib.hid (H7b.out.step b5D.out)
  have H8 := Lib.hid (H8b.out.keep (.of_below b5D.out))
  clear H5b H6b H7b H8b b5D CG
  obtain ⟨N, hN⟩ : ∃ N, N = all.length := ⟨_, rfl⟩
  have hN9 : N ≤ 40000 := by rw [hN]; have := Hal.out; omega
  rw [← hN] at H5 H7 ⊢
  have HN := Lib.hid hN
  clear hN h200
  go_wp2
  go_loopw [14] (fun i wr => ∃ k : Nat, i = .int .i64 k ∧ k ≤ N ∧ Hid (∃ m, wr = w13.drewN m)) (fun i _ => N - (intOf i).toNat)
  case atStart => exact ⟨0, rfl, Nat.zero_le _, Lib.hid ⟨0, rfl⟩⟩
  case round =>
   obtain ⟨k, rfl, hk, HW⟩ := hrel
   have HB : Hid (Below w13.heap.size w13 wr) := Lib.hid (by obtain ⟨m, rfl⟩ := HW.out; exact below_drewN (Below.refl _ _) m)
   have HW2 : Hid (∀ q, ∃ m, wr.drewN q = w13.drewN m) := Lib.hid (fun q => by obtain ⟨m, rfl⟩ := HW.out; exact ⟨m + q, World.drewN_drewN _ _ _⟩)
   by_cases hkN : k < N
   ·have d1 : decide ((k : Int) < (N : Int)) = true := decide_eq_true (by omega)
    obtain ⟨b1, o1, x, rfl, _, hx, x0⟩ := (H5.out.sl.below HB.out).hd hkN
    obtain ⟨b2, o2, y, rfl, _, hy, y0⟩ := (H7.out.sl.below HB.out).hd hkN
    obtain ⟨rx, hrx, hSx⟩ := (H6.out.keep (.of_below HB.out)).at hx
    obtain ⟨ry, hry, hSy⟩ := (H8.out.keep (.of_below HB.out)).at hy
    obtain rfl := Option.some.inj (hrx.symm.trans hry)
    have CS : Hid (∀ q, Calls Tryz.prog 17 #[.slice x.a x.n x.c, .slice y.a y.n y.c] (wr.drewN q) fun e w' => e = .returned (.bool true) ∧ ∃ m, w' = (wr.drewN q).drewN m) := Lib.hid (fun q => (sameB_any x.a y.a x.n y.n x.c y.c rx rx (wr.drewN q) (hSx.sl.below (below_drewN (Below.refl _ _) q)) (hSy.sl.below (below_drewN (Below.refl _ _) q))).mono (by
     rintro e w' ⟨rfl, rfl⟩
     exact ⟨by rw [decide_eq_true rfl], 0, rfl⟩))
    unfold Hd.v at x0 y0
    clear hx hy hrx hry hSx hSy
    go_wp2
    go_quiet ((go_at_call 17; exact Calls.quiet_of (CS.out _)))
    go_wp2
    go_roundw
    case rel => exact ⟨k + 1, by go_num, hkN, Lib.hid (HW2.out _)⟩
    case measure => simp [intOf]; omega
   ·obtain rfl : k = N := by omega
    have d1 : decide ((k : Int) < (k : Int)) = false := decide_eq_false (by omega)
    go_wp2
    go_ret
    exact ⟨rfl, bstep B13.out HB.out⟩
end Go.Proofs.YtcednfmkiaelnaaGreatDoor
