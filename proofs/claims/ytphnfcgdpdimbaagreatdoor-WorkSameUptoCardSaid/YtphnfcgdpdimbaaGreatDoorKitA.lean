/-
  Base texts, merged by a program (mkkit.py): words for slices, blocks, maps, regions that draw their order, the plain law of paths and of an index. Conditions: each lemma's own.
-/
import Derived.Test.YtphnfcgdpdimbaaGreatDoorWorkClobber
import Derived.Test.YtphnfcgdpdimbaaGreatDoorKitG
import Derived.Test.YtphnfcgdpdimbaaGreatDoorDiskNew
import Derived.Test.YtphnfcgdpdimbaaGreatDoorKitW
/-
  The document's example of layer 20: plain facts. No condition.
-/
namespace Go.Proofs.YtphnfcgdpdimbaaGreatDoor
open Go.RowKit
open DiffLaw (fid ofPaths)
open IdxLaw (Ent)

def i1 : List UInt8 := List.replicate 32 1
abbrev tA : List Fil := [([97], i1)]
abbrev chA : List Chg3 := [([97], [], i1)]
abbrev chB : List Chg3 := [([97], i1, [])]
theorem paths1 : DiffLaw.Paths [[97]] [] tA := by
  refine ⟨by decide, fun p => ?_⟩
  simp
theorem paths2 : DiffLaw.Paths [[97]] tA [] := by
  refine ⟨by decide, fun p => ?_⟩
  simp
theorem diff1 : ofPaths [[97]] [] tA = chA := by decide +kernel
theorem diff2 : ofPaths [[97]] tA [] = chB := by decide +kernel
abbrev LA (hd : Hd) : List DF := [(wname [97], hd, [7, 104, 105])]
theorem getF_A (hd : Hd) : getF (LA hd) (wname [97]) = some (wname [97], hd, [7, 104, 105]) := by rw [getF_cons, if_pos rfl]
theorem tk : takeNum [7, 104, 105] = some (7, [104, 105]) := by decide +kernel
theorem wkA : workedB [97] = true := by decide +kernel
theorem getE_A (hd : Hd) : getE (LA hd) [97] = 0 := by unfold getE; rw [if_pos wkA, getF_A]; simp only; rw [tk]
theorem getN_A (hd : Hd) : getN (LA hd) [97] = 7 := by unfold getN; rw [if_pos wkA, getF_A]; simp only; rw [tk]
theorem getB_A (hd : Hd) : getB (LA hd) [97] = [104, 105] := by unfold getB; rw [if_pos wkA, getF_A]; simp only; rw [tk]
theorem names_A {ns : List (List UInt8)} {hd : Hd} (h : ns.Perm ((LA hd).map (·.1))) : ns = [wname [97]] := List.perm_singleton.1 h
theorem list_A : listOf [wname [97]] = [[97]] := by decide +kernel
theorem lost_A (hd : Hd) : [[97]].filter (lostB (LA hd) [] chA []) = [[97]] := by
  have h : lostB (LA hd) [] chA [] [97] = true := by
    unfold lostB
    rw [getE_A, getB_A, show inWayB chA [97] = true by decide +kernel]
    have h2 := widL_len (l := [104, 105]) (by decide)
    have h3 : ¬ fid [] [97] = widL [104, 105] := fun e => by rw [← e] at h2; simp [fid] at h2
    rw [decide_eq_false h3]
    rfl
  rw [List.filter_cons, if_pos h]
  rfl
theorem steps_A1 : stepsOf [wname [97]] chA tA = [([97], i1)] := by decide +kernel
theorem steps_A2 : stepsOf [wname [97]] chB [] = [([97], [])] := by decide +kernel
theorem put_A : putBad [97] (7 : Nat) 2 = false := by decide +kernel
theorem wb_A : wbytes 7 [104, 105] = [7, 104, 105] := by decide +kernel
theorem stp_eql (w : World) (x y : Fil) : (binOp .eql 44 (.agg #[S x.1, S x.2]) (.agg #[S y.1, S y.2])).run Tryz.prog w = .ok (.bool (decide (x.1 = y.1 ∧ x.2 = y.2))) w := by
  rw [run_eql_struct, run_equalIn_struct w 9999 44 _ _ (by kernel_rfl) (by kernel_rfl)]
  simp only [Program.fieldsOf, Tryz.underlying44]
  by_cases h1 : x.1 = y.1 <;> by_cases h2 : x.2 = y.2 <;> simp [go_sem, Op.eqFields, h1, h2]
theorem stp_guard (w : World) (op : BinOp) (a b : Operand) (x y : Fil) : (eqGuard op 44 a b (.agg #[S x.1, S x.2]) (.agg #[S y.1, S y.2])).run Tryz.prog w = .ok () w := run_eqGuard_agg w op 44 a b _ _ (by kernel_rfl)
end Go.Proofs.YtphnfcgdpdimbaaGreatDoor

/-
  dolmenlaw20.awake: the document's example holds. Condition: MaxLen holds an int.
-/
namespace Go.Proofs.YtphnfcgdpdimbaaGreatDoor
open Go.RowKit Go.Shelf
open DiffLaw (fid ofPaths)
open IdxLaw (Ent)

theorem sl_two3 (w : World) (t : TypeId) (fr : Nat × Nat) (u v : Value) : Sl (w.alloc (.cells #[u, v] t fr)) 1 (some ⟨w.heap.size, 0, none⟩) 2 [u, v] := by
  refine ⟨rfl, fun _ => ⟨_, _, rfl, by simp, fun k hk => ?_⟩⟩
  rw [Nat.zero_add, World.cell?_alloc_mark]
  match k, hk with
  | 0, _ => rfl
  | 1, _ => rfl
def awPhi (A5 : Option Addr) (c5 : Nat) (g9 o9 c9 g10 o10 c10 g11 o11 c11 p : Nat) : Nat → Value → World → Prop
  | 0, v, _ => v = I 0
  | 1, v, _ => v = .bool true
  | 2, v, _ => v = .bool true
  | 3, v, _ => v = I 0
  | 4, v, _ => v = .bool true
  | 5, v, _ => v = .bool true
  | 6, v, _ => v = .bool true
  | 7, v, _ => v = .slice A5 2 c5
  | 8, v, _ => v = S ([104, 105])
  | 9, v, _ => v = .bool true
  | 10, v, _ => v = .bool true
  | 11, v, _ => v = .bool true
  | 12, v, _ => v = I 7
  | 13, v, _ => v = .bool true
  | 14, v, _ => v = .bool true
  | 15, v, _ => v = .bool true
  | 16, v, _ => v = .slice (some ⟨g9, o9, none⟩) 1 c9
  | 17, v, _ => v = I 1
  | 18, v, _ => v = .bool true
  | 19, v, _ => v = .bool true
  | 20, v, _ => v = .bool true
  | 21, v, _ => v = .slice (some ⟨g9, o9, none⟩) 1 c9
  | 22, v, _ => v = .pointer (some ⟨g9, o9, none⟩)
  | 23, v, _ => v = S ([97])
  | 24, v, _ => v = .bool true
  | 25, v, _ => v = .bool true
  | 26, v, _ => v = .bool true
  | 27, v, _ => v = .slice (some ⟨g10, o10, none⟩) 1 c10
  | 28, v, _ => v = I 1
  | 29, v, _ => v = .bool true
  | 30, v, _ => v = .bool true
  | 31, v, _ => v = .bool true
  | 32, v, _ => v = .slice (some ⟨g10, o10, none⟩) 1 c10
  | 33, v, _ => v = .pointer (some ⟨g10, o10, none⟩)
  | 34, v, _ => v = .agg #[S [97], S i1]
  | 35, v, _ => v = S i1
  | 36, v, _ => v = .agg #[S [97], S i1]
  | 37, v, _ => v = .bool true
  | 38, v, _ => v = .bool true
  | 39, v, _ => v = .bool true
  | 40, v, _ => v = .slice (some ⟨g11, o11, none⟩) 1 c11
  | 41, v, _ => v = I 1
  | 42, v, _ => v = .bool true
  | 43, v, _ => v = .bool true
  | 44, v, _ => v = .bool true
  | 45, v, _ => v = .slice (some ⟨g11, o11, none⟩) 1 c11
  | 46, v, _ => v = .pointer (some ⟨g11, o11, none⟩)
  | 47, v, _ => v = .agg #[S [97], S []]
  | 48, v, _ => v = .agg #[S [97], S []]
  | 49, v, _ => v = .bool true
  | 50, v, _ => v = .bool true
  | 51, v, _ => v = .bool true
  | 52, v, _ => v = .pointer (some ⟨p, 0, none⟩)
  | 53, v, _ => ∃ (A' : Option Addr) (c' : Nat), v = .slice A' 1 c'
  | 54, v, _ => v = I 1
  | 55, v, _ => v = .bool true
  | 56, v, _ => v = .bool true
  | 57, v, _ => v = .bool true
  | 58, v, _ => v = S (wname [97])
  | 59, v, _ => v = .bool true
  | 60, v, _ => v = .bool true
  | _, _, _ => True
theorem awPhi_mono {A5 : Option Addr} {c5 : Nat} {g9 o9 c9 g10 o10 c10 g11 o11 c11 p : Nat} : ∀ (j : Nat) (v : Value) (w w' : World), awPhi A5 c5 g9 o9 c9 g10 o10 c10 g11 o11 c11 p j v w → Below w.heap.size w w' → awPhi A5 c5 g9 o9 c9 g10 o10 c10 g11 o11 c11 p j v w' := by
  intro j v w w' h hb9
  match j, h with
  | 0, h => exact h
  | 1, h => exact h
  | 2, h => exact h
  | 3, h => exact h
  | 4, h => exact h
  | 5, h => exact h
  | 6, h => exact h
  | 7, h => exact h
  | 8, h => exact h
  | 9, h => exact h
  | 10, h => exact h
  | 11, h => exact h
  | 12, h => exact h
  | 13, h => exact h
  | 14, h => exact h
  | 15, h => exact h
  | 16, h => exact h
  | 17, h => exact h
  | 18, h => exact h
  | 19, h => exact h
  | 20, h => exact h
  | 21, h => exact h
  | 22, h => exact h
  | 23, h => exact h
  | 24, h => exact h
  | 25, h => exact h
  | 26, h => exact h
  | 27, h => exact h
  | 28, h => exact h
  | 29, h => exact h
  | 30, h => exact h
  | 31, h => exact h
  | 32, h => exact h
  | 33, h => exact h
  | 34, h => exact h
  | 35, h => exact h
  | 36, h => exact h
  | 37, h => exact h
  | 38, h => exact h
  | 39, h => exact h
  | 40, h => exact h
  | 41, h => exact h
  | 42, h => exact h
  | 43, h => exact h
  | 44, h => exact h
  | 45, h => exact h
  | 46, h => exact h
  | 47, h => exact h
  | 48, h => exact h
  | 49, h => exact h
  | 50, h => exact h
  | 51, h => exact h
  | 52, h => exact h
  | 53, h => exact h
  | 54, h => exact h
  | 55, h => exact h
  | 56, h => exact h
  | 57, h => exact h
  | 58, h => exact h
  | 59, h => exact h
  | 60, h => exact h
  | (n + 61), _ => trivial
set_option maxHeartbeats 8000000 in
set_option maxRecDepth 100000 in
theorem awake20_any (w : World) (hM : MaxL w) :
    Calls Tryz.prog 6 #[] w fun e w' => e = .returned (.bool true) ∧ Below w.heap.size w w' := by
  have C1 := Lib.hid (dnew_ok 1000 w (by omega) (by omega))
  have HM := Lib.hid hM
  have CI : Hid (∀ W, Calls Tryz.prog 25 #[.int .u8 1] W fun e w' => e = .returned (S i1) ∧ Below W.heap.size W w') := Lib.hid (fun W => id20_any 1 W)
  have CX := Lib.hid (fun W => new_any W)
  clear hM
  go_enter Tryz.func6, Tryz.ntmps6
  go_wp2_with fail
  refine C1.out.mono ?_
  rintro e w1 ⟨p, m, rfl, hp, hm, hD, b1⟩
  have HD := Lib.hid hD
  have B1 := Lib.hid b1
  have Hpm := Lib.hid (And.intro hp hm)
  clear hp hm hD b1 C1
  go_wp2_with fail
  refine (CX.out w1).mono ?_
  rintro e w2 ⟨q, mi, rfl, hI, hq, hmi, b2⟩
  have hpl := HD.out.lt
  have hml := HD.out.map.lt
  have HI := Lib.hid hI
  have B2 := Lib.hid (bstep B1.out b2)
  have Hne : Hid (¬ (q = p ∨ q = m) ∧ ¬ (mi = p ∨ mi = m)) := Lib.hid (by omega)
  have HD2 := Lib.hid (HD.out.step b2)
  have b3 := balloc (Below.refl _ w2) (.cells #[U8 104, U8 105] 5 (2, 3))
  have HS3 := sl_two3 w2 5 (2, 3) (U8 104) (U8 105)
  have CP : Hid (Calls Tryz.prog 8 #[.pointer (some ⟨p, 0, none⟩), S [97], .slice (some ⟨w2.heap.size, 0, none⟩) 2 2, .int .i64 7] (w2.alloc (.cells #[.int .u8 104, .int .u8 105] 5 (2, 3))) _) := Lib.hid (wput_good _ p m 0 1000 [] [97] (some ⟨w2.heap.size, 0, none⟩) 2 2 [104, 105] 7 (HD2.out.step b3) (HM.out.step (bstep B2.out b3)) HS3 put_A (by omega) (by decide) (by decide))
  have B3 := Lib.hid (bstep B2.out b3)
  have HI3 := Lib.hid (HI.out.step b3)
  have kc := Lib.run_convert_bytes_const (P := Tryz.prog) w2 27 5 #[.int .u8 104, .int .u8 105] 2 2 Tryz.underlying27 Tryz.underlying5
  clear hI hq hmi b2 b3 HS3 hpl hml CX
  go_wp2_with fail
  refine CP.out.mono ?_
  rintro e w4 (⟨_, h1, _⟩ | ⟨rfl, _, hd, n', hn', hD4, hF4⟩)
  · exfalso
    rw [wb_A] at h1
    simp [dropF, costs, wname] at h1
  rw [wb_A, show dropF ([] : List DF) (shName (wname [97])) = [] from rfl, show putF [] (wname [97]) hd [7, 104, 105] = LA hd from rfl] at hD4
  have HD4 := Lib.hid hD4
  have HF4 := Lib.hid hF4
  have hI4 : IdxAt w4 q mi [] 0 := HI3.out.fr hF4 Hne.out.1 Hne.out.2
  have HI4 := Lib.hid hI4
  have B4 : Hid (Below w.heap.size w w4) := Lib.hid (B3.out.trans (hF4.below B3.out.size (fun k e => by have := Hpm.out; omega)))
  have CG := wget_any w4 p m n' 1000 (LA hd) [97] hD4 (by decide) (HM.out.step B4.out)
  rw [getN_A, getE_A, getB_A] at CG
  have CG' := Lib.hid CG
  clear hD4 hF4 hI4 CG hn' CP
  go_wp2_with fail
  refine CG'.out.mono ?_
  rintro e w5 ⟨A5, k5, c5, rfl, hO5⟩
  obtain rfl : 2 = k5 := ow_len hO5
  have HO5 := Lib.hid hO5
  have B5 := Lib.hid (bstep B4.out hO5.2)
  have HD5 := Lib.hid (HD4.out.step hO5.2)
  have HI5 := Lib.hid (HI4.out.step hO5.2)
  clear hO5 CG'
  go_wp2_with fail
  refine (CI.out w5).mono ?_
  rintro e w6 ⟨rfl, b6⟩
  have hb6 := balloc b6 (.cells #[S [97], S i1] 79)
  have HT6 := Lib.hid (sl_fil w6 79 ([97], i1))
  have B7 := Lib.hid (bstep B5.out hb6)
  have HD7 := Lib.hid (HD5.out.step hb6)
  have HI7 := Lib.hid (HI5.out.step hb6)
  have HO7 := Lib.hid (HO5.out.sl.below hb6)
  have smA : smallC (LA hd) := by intro x hx; rw [List.mem_singleton] at hx; subst hx; simp
  have CCl := Lib.hid (clobber_any _ p m n' 1000 (LA hd) q mi 0 [] none (some ⟨w6.heap.size, 0, none⟩) 0 1 0 1 [] tA HD7.out (by simp) HI7.out (HM.out.step B7.out) smA Sl.nil_ HT6.out (by omega) (by omega) (by simp) (by simp))
  clear b6 hb6 smA
  go_wp2_with fail
  refine CCl.out.mono ?_
  rintro e w8 ⟨A9, n9, c9, ns, ps, rfl, hpm, hri, hps, hn9, hO9⟩
  obtain rfl := names_A hpm
  obtain rfl := DiffLaw.paths_eq hps paths1
  rw [diff1, list_A, lost_A] at hO9 hn9
  obtain rfl : n9 = 1 := hn9
  have HO9 := Lib.hid hO9
  have B8 := Lib.hid (bstep B7.out hO9.2)
  have HD8 := Lib.hid (HD7.out.step hO9.2)
  have HO8 := Lib.hid (HO7.out.below hO9.2)
  have HT8 := Lib.hid (HT6.out.below hO9.2)
  have CS1 := Lib.hid (wsteps_any w8 p m n' 1000 (LA hd) none (some ⟨w6.heap.size, 0, none⟩) 0 1 0 1 [] tA HD8.out (by simp) (HM.out.step B8.out) Sl.nil_ HT8.out (by omega) (by omega) (by simp) (by simp))
  clear hpm hri hps hO9 CCl
  go_wp2_with fail
  refine CS1.out.mono ?_
  rintro e w9 ⟨A10, n10, c10, ns, ps, rfl, hpm, hri, hps, hO10⟩
  obtain rfl := names_A hpm
  obtain rfl := DiffLaw.paths_eq hps paths1
  rw [diff1, steps_A1] at hO10
  obtain rfl : 1 = n10 := fls_count hO10.sl
  have HO10 := Lib.hid hO10
  have B9 := Lib.hid (bstep B8.out hO10.2)
  have HD9 := Lib.hid (HD8.out.step hO10.2)
  have HP9 := Lib.hid (HO8.out.below hO10.2)
  have HT9 := Lib.hid (HT8.out.below hO10.2)
  have HQ9 := Lib.hid (HO9.out.sl.below hO10.2)
  have CS2 := Lib.hid (wsteps_any w9 p m n' 1000 (LA hd) (some ⟨w6.heap.size, 0, none⟩) none 1 0 1 0 tA [] HD9.out (by simp) (HM.out.step B9.out) HT9.out Sl.nil_ (by omega) (by omega) (by simp) (by simp))
  clear hpm hri hps hO10 CS1
  go_wp2_with fail
  refine CS2.out.mono ?_
  rintro e W ⟨A11, n11, c11, ns, ps, rfl, hpm, hri, hps, hO11⟩
  obtain rfl := names_A hpm
  obtain rfl := DiffLaw.paths_eq hps paths2
  rw [diff2, steps_A2] at hO11
  obtain rfl : 1 = n11 := fls_count hO11.sl
  have BW := Lib.hid (bstep B9.out hO11.2)
  have HDW := Lib.hid (HD9.out.step hO11.2)
  have HV : Hid (∀ V, Below W.heap.size W V → (convert 27 9 (.slice A5 2 c5)).run Tryz.prog V = .ok (S [104, 105]) V) := Lib.hid (fun V hV => run_conv_str (P := Tryz.prog) V 27 9 5 A5 2 c5 _ Tryz.underlying27 Tryz.underlying5 Tryz.underlying9 ((HP9.out.below hO11.2).below hV))
  obtain ⟨g9, o9, s9, rfl, hs9, _⟩ := (HQ9.out.below hO11.2).str (k := 0) (by omega)
  have HR9 : Hid (∀ V, Below W.heap.size W V → V.cell? ⟨g9, o9, none⟩ = some (S [97])) := Lib.hid (fun V hV => by
    obtain ⟨b, o, x, e1, e2, e3⟩ := ((HQ9.out.below hO11.2).below hV).str (k := 0) (by omega)
    cases e1
    cases e2
    exact e3)
  obtain ⟨g10, o10, x10, rfl, _⟩ := (HO10.out.sl.below hO11.2).fil (k := 0) (by omega)
  have HR10 : Hid (∀ V, Below W.heap.size W V → V.cell? ⟨g10, o10, none⟩ = some (S [97]) ∧ V.cell? ⟨g10, o10 + 1, none⟩ = some (S i1)) := Lib.hid (fun V hV => by
    obtain ⟨b, o, x, e1, _, e2, e3, e4⟩ := ((HO10.out.sl.below hO11.2).below hV).fil (k := 0) (by omega)
    cases e1
    cases e2
    exact ⟨e3, e4⟩)
  obtain ⟨g11, o11, x11, rfl, _⟩ := hO11.sl.fil (k := 0) (by omega)
  have HR11 : Hid (∀ V, Below W.heap.size W V → V.cell? ⟨g11, o11, none⟩ = some (S [97]) ∧ V.cell? ⟨g11, o11 + 1, none⟩ = some (S [])) := Lib.hid (fun V hV => by
    obtain ⟨b, o, x, e1, _, e2, e3, e4⟩ := (hO11.sl.below hV).fil (k := 0) (by omega)
    cases e1
    cases e2
    exact ⟨e3, e4⟩)
  have CL : Hid (∀ V, Below W.heap.size W V → Calls Tryz.prog 28 #[.pointer (some ⟨p, 0, none⟩)] V fun e w' => ∃ A' c', e = .returned (.slice A' 1 c') ∧ Below V.heap.size V w') := Lib.hid (fun V hV => by
    refine (wlist_any V p m n' 1000 (LA hd) (HDW.out.step hV) (by simp) (HM.out.step (bstep BW.out hV))).mono ?_
    rintro e w' ⟨A', k', c', ns, rfl, hpm, _, hO⟩
    obtain rfl := names_A hpm
    rw [list_A] at hO
    obtain rfl : 1 = k' := strs_count hO.sl
    exact ⟨A', c', rfl, hO.2⟩)
  clear hpm hri hps hO11 CS2 hs9 HD7 HD8 HD9 HDW HT6 HT8 HT9 HO5 HO7 HO8 HO9 HO10 HP9 HQ9
  go_wp2
  refine wp_region_guards (by kernel_rfl) 61 (by kernel_rfl) ?_ (awPhi A5 c5 g9 o9 c9 g10 o10 c10 g11 o11 c11 p) awPhi_mono (fun i o hi ho a w hb hs hm => ?_) (fun o ho a w hb hs hm => ?_)
  · exact dst_lt9 (n := 101) (by kernel_rfl)
  · exact match i, hi, ho with
      | 0, _, ho => by
          cases ho
          rw [if_pos (wanted_none _ rfl)]
          refine wp_value (st_move rfl ((hs.keeps (by kernel_rfl)).trans rfl)) ⟨_, rfl, rfl, Below.refl _ _⟩
      | 1, _, ho => by
          cases ho
          rw [if_pos (wanted_none _ rfl)]
          have h1 := eval_getD (hm.get 0 40 (by kernel_rfl)); unfold Oper.wp; simp only [execOp]; go_simp; exact ⟨_, rfl, (show Value.bool _ = Value.bool _ by first | rfl | simp), Below.refl _ _⟩
      | 2, _, ho => by
          cases ho
          rw [if_pos (wanted_none _ rfl)]
          refine wp_value (st_move rfl (hm.get 1 41 (by kernel_rfl))) ⟨_, rfl, rfl, Below.refl _ _⟩
      | 3, _, ho => by
          cases ho
          generalize hW : Region.wanted _ _ = W
          obtain rfl : W = (true == true) := hW.symm.trans (wanted_of rfl rfl rfl (show a.eval (.tmp 42) = .bool true from (hm.get 2 42 (by kernel_rfl))))
          clear hW
          rw [if_pos (show (true == true) = true by decide)]
          refine wp_value (st_move rfl ((hs.keeps (by kernel_rfl)).trans rfl)) ⟨_, rfl, rfl, Below.refl _ _⟩
      | 4, _, ho => by
          cases ho
          generalize hW : Region.wanted _ _ = W
          obtain rfl : W = (true == true) := hW.symm.trans (wanted_of rfl rfl rfl (show a.eval (.tmp 42) = .bool true from (hm.get 2 42 (by kernel_rfl))))
          clear hW
          rw [if_pos (show (true == true) = true by decide)]
          have h1 := eval_getD (hm.get 3 43 (by kernel_rfl)); unfold Oper.wp; simp only [execOp]; go_simp; exact ⟨_, rfl, (show Value.bool _ = Value.bool _ by first | rfl | simp), Below.refl _ _⟩
      | 5, _, ho => by
          cases ho
          rw [if_pos (wanted_none _ rfl)]
          have h1 := eval_getD (hm.get 2 42 (by kernel_rfl)); have h3 := eval_getD (hm.get 4 44 (by kernel_rfl)); unfold Oper.wp; simp only [execOp]; go_simp; exact ⟨_, rfl, rfl, Below.refl _ _⟩
      | 6, _, ho => by
          cases ho
          rw [if_pos (wanted_none _ rfl)]
          refine wp_value (st_move rfl (hm.get 5 45 (by kernel_rfl))) ⟨_, rfl, rfl, Below.refl _ _⟩
      | 7, _, ho => by
          cases ho
          generalize hW : Region.wanted _ _ = W
          obtain rfl : W = (true == true) := hW.symm.trans (wanted_of rfl rfl rfl (show a.eval (.tmp 46) = .bool true from (hm.get 6 46 (by kernel_rfl))))
          clear hW
          rw [if_pos (show (true == true) = true by decide)]
          refine wp_value (st_move rfl ((hs.keeps (by kernel_rfl)).trans rfl)) ⟨_, rfl, rfl, Below.refl _ _⟩
      | 8, _, ho => by
          cases ho
          generalize hW : Region.wanted _ _ = W
          obtain rfl : W = (true == true) := hW.symm.trans (wanted_of rfl rfl rfl (show a.eval (.tmp 46) = .bool true from (hm.get 6 46 (by kernel_rfl))))
          clear hW
          rw [if_pos (show (true == true) = true by decide)]
          have hv := HV.out w hb; have h1 := eval_getD (hm.get 7 47 (by kernel_rfl)); unfold Oper.wp; simp only [execOp]; go_simp; exact ⟨_, rfl, rfl, Below.refl _ _⟩
      | 9, _, ho => by
          cases ho
          generalize hW : Region.wanted _ _ = W
          obtain rfl : W = (true == true) := hW.symm.trans (wanted_of rfl rfl rfl (show a.eval (.tmp 46) = .bool true from (hm.get 6 46 (by kernel_rfl))))
          clear hW
          rw [if_pos (show (true == true) = true by decide)]
          have h1 := eval_getD (hm.get 8 48 (by kernel_rfl)); unfold Oper.wp; simp only [execOp]; go_simp; exact ⟨_, rfl, (show Value.bool _ = Value.bool _ by first | rfl | simp), Below.refl _ _⟩
      | 10, _, ho => by
          cases ho
          rw [if_pos (wanted_none _ rfl)]
          have h1 := eval_getD (hm.get 6 46 (by kernel_rfl)); have h3 := eval_getD (hm.get 9 49 (by kernel_rfl)); unfold Oper.wp; simp only [execOp]; go_simp; exact ⟨_, rfl, rfl, Below.refl _ _⟩
      | 11, _, ho => by
          cases ho
          rw [if_pos (wanted_none _ rfl)]
          refine wp_value (st_move rfl (hm.get 10 50 (by kernel_rfl))) ⟨_, rfl, rfl, Below.refl _ _⟩
      | 12, _, ho => by
          cases ho
          generalize hW : Region.wanted _ _ = W
          obtain rfl : W = (true == true) := hW.symm.trans (wanted_of rfl rfl rfl (show a.eval (.tmp 51) = .bool true from (hm.get 11 51 (by kernel_rfl))))
          clear hW
          rw [if_pos (show (true == true) = true by decide)]
          refine wp_value (st_move rfl ((hs.keeps (by kernel_rfl)).trans rfl)) ⟨_, rfl, rfl, Below.refl _ _⟩
      | 13, _, ho => by
          cases ho
          generalize hW : Region.wanted _ _ = W
          obtain rfl : W = (true == true) := hW.symm.trans (wanted_of rfl rfl rfl (show a.eval (.tmp 51) = .bool true from (hm.get 11 51 (by kernel_rfl))))
          clear hW
          rw [if_pos (show (true == true) = true by decide)]
          have h1 := eval_getD (hm.get 12 52 (by kernel_rfl)); unfold Oper.wp; simp only [execOp]; go_simp; exact ⟨_, rfl, (show Value.bool _ = Value.bool _ by first | rfl | simp), Below.refl _ _⟩
      | 14, _, ho => by
          cases ho
          rw [if_pos (wanted_none _ rfl)]
          have h1 := eval_getD (hm.get 11 51 (by kernel_rfl)); have h3 := eval_getD (hm.get 13 53 (by kernel_rfl)); unfold Oper.wp; simp only [execOp]; go_simp; exact ⟨_, rfl, rfl, Below.refl _ _⟩
      | 15, _, ho => by
          cases ho
          rw [if_pos (wanted_none _ rfl)]
          refine wp_value (st_move rfl (hm.get 14 54 (by kernel_rfl))) ⟨_, rfl, rfl, Below.refl _ _⟩
      | 16, _, ho => by
          cases ho
          generalize hW : Region.wanted _ _ = W
          obtain rfl : W = (true == true) := hW.symm.trans (wanted_of rfl rfl rfl (show a.eval (.tmp 55) = .bool true from (hm.get 15 55 (by kernel_rfl))))
          clear hW
          rw [if_pos (show (true == true) = true by decide)]
          refine wp_value (st_move rfl ((hs.keeps (by kernel_rfl)).trans rfl)) ⟨_, rfl, rfl, Below.refl _ _⟩
      | 17, _, ho => by
          cases ho
          generalize hW : Region.wanted _ _ = W
          obtain rfl : W = (true == true) := hW.symm.trans (wanted_of rfl rfl rfl (show a.eval (.tmp 55) = .bool true from (hm.get 15 55 (by kernel_rfl))))
          clear hW
          rw [if_pos (show (true == true) = true by decide)]
          have h1 := eval_getD (hm.get 16 56 (by kernel_rfl)); unfold Oper.wp; simp only [execOp]; go_simp; exact ⟨_, rfl, (show Value.int _ _ = Value.int _ _ by first | rfl | simp), Below.refl _ _⟩
      | 18, _, ho => by
          cases ho
          generalize hW : Region.wanted _ _ = W
          obtain rfl : W = (true == true) := hW.symm.trans (wanted_of rfl rfl rfl (show a.eval (.tmp 55) = .bool true from (hm.get 15 55 (by kernel_rfl))))
          clear hW
          rw [if_pos (show (true == true) = true by decide)]
          have h1 := eval_getD (hm.get 17 57 (by kernel_rfl)); unfold Oper.wp; simp only [execOp]; go_simp; exact ⟨_, rfl, (show Value.bool _ = Value.bool _ by first | rfl | simp), Below.refl _ _⟩
      | 19, _, ho => by
          cases ho
          rw [if_pos (wanted_none _ rfl)]
          have h1 := eval_getD (hm.get 15 55 (by kernel_rfl)); have h3 := eval_getD (hm.get 18 58 (by kernel_rfl)); unfold Oper.wp; simp only [execOp]; go_simp; exact ⟨_, rfl, rfl, Below.refl _ _⟩
      | 20, _, ho => by
          cases ho
          rw [if_pos (wanted_none _ rfl)]
          refine wp_value (st_move rfl (hm.get 19 59 (by kernel_rfl))) ⟨_, rfl, rfl, Below.refl _ _⟩
      | 21, _, ho => by
          cases ho
          generalize hW : Region.wanted _ _ = W
          obtain rfl : W = (true == true) := hW.symm.trans (wanted_of rfl rfl rfl (show a.eval (.tmp 60) = .bool true from (hm.get 20 60 (by kernel_rfl))))
          clear hW
          rw [if_pos (show (true == true) = true by decide)]
          refine wp_value (st_move rfl ((hs.keeps (by kernel_rfl)).trans rfl)) ⟨_, rfl, rfl, Below.refl _ _⟩
      | 22, _, ho => by
          cases ho
          generalize hW : Region.wanted _ _ = W
          obtain rfl : W = (true == true) := hW.symm.trans (wanted_of rfl rfl rfl (show a.eval (.tmp 60) = .bool true from (hm.get 20 60 (by kernel_rfl))))
          clear hW
          rw [if_pos (show (true == true) = true by decide)]
          have h1 := eval_getD (hm.get 21 61 (by kernel_rfl)); unfold Oper.wp; simp only [execOp]; go_simp; exact ⟨_, rfl, (show Value.pointer _ = Value.pointer _ by first | rfl | simp), Below.refl _ _⟩
      | 23, _, ho => by
          cases ho
          generalize hW : Region.wanted _ _ = W
          obtain rfl : W = (true == true) := hW.symm.trans (wanted_of rfl rfl rfl (show a.eval (.tmp 60) = .bool true from (hm.get 20 60 (by kernel_rfl))))
          clear hW
          rw [if_pos (show (true == true) = true by decide)]
          have hx := HR9.out w hb; have h1 := eval_getD (hm.get 22 62 (by kernel_rfl)); unfold Oper.wp; simp only [execOp]; go_simp; exact ⟨_, rfl, rfl, Below.refl _ _⟩
      | 24, _, ho => by
          cases ho
          generalize hW : Region.wanted _ _ = W
          obtain rfl : W = (true == true) := hW.symm.trans (wanted_of rfl rfl rfl (show a.eval (.tmp 60) = .bool true from (hm.get 20 60 (by kernel_rfl))))
          clear hW
          rw [if_pos (show (true == true) = true by decide)]
          have h1 := eval_getD (hm.get 23 63 (by kernel_rfl)); unfold Oper.wp; simp only [execOp]; go_simp; exact ⟨_, rfl, (show Value.bool _ = Value.bool _ by first | rfl | simp), Below.refl _ _⟩
      | 25, _, ho => by
          cases ho
          rw [if_pos (wanted_none _ rfl)]
          have h1 := eval_getD (hm.get 20 60 (by kernel_rfl)); have h3 := eval_getD (hm.get 24 64 (by kernel_rfl)); unfold Oper.wp; simp only [execOp]; go_simp; exact ⟨_, rfl, rfl, Below.refl _ _⟩
      | 26, _, ho => by
          cases ho
          rw [if_pos (wanted_none _ rfl)]
          refine wp_value (st_move rfl (hm.get 25 65 (by kernel_rfl))) ⟨_, rfl, rfl, Below.refl _ _⟩
      | 27, _, ho => by
          cases ho
          generalize hW : Region.wanted _ _ = W
          obtain rfl : W = (true == true) := hW.symm.trans (wanted_of rfl rfl rfl (show a.eval (.tmp 66) = .bool true from (hm.get 26 66 (by kernel_rfl))))
          clear hW
          rw [if_pos (show (true == true) = true by decide)]
          refine wp_value (st_move rfl ((hs.keeps (by kernel_rfl)).trans rfl)) ⟨_, rfl, rfl, Below.refl _ _⟩
      | 28, _, ho => by
          cases ho
          generalize hW : Region.wanted _ _ = W
          obtain rfl : W = (true == true) := hW.symm.trans (wanted_of rfl rfl rfl (show a.eval (.tmp 66) = .bool true from (hm.get 26 66 (by kernel_rfl))))
          clear hW
          rw [if_pos (show (true == true) = true by decide)]
          have h1 := eval_getD (hm.get 27 67 (by kernel_rfl)); unfold Oper.wp; simp only [execOp]; go_simp; exact ⟨_, rfl, (show Value.int _ _ = Value.int _ _ by first | rfl | simp), Below.refl _ _⟩
      | 29, _, ho => by
          cases ho
          generalize hW : Region.wanted _ _ = W
          obtain rfl : W = (true == true) := hW.symm.trans (wanted_of rfl rfl rfl (show a.eval (.tmp 66) = .bool true from (hm.get 26 66 (by kernel_rfl))))
          clear hW
          rw [if_pos (show (true == true) = true by decide)]
          have h1 := eval_getD (hm.get 28 68 (by kernel_rfl)); unfold Oper.wp; simp only [execOp]; go_simp; exact ⟨_, rfl, (show Value.bool _ = Value.bool _ by first | rfl | simp), Below.refl _ _⟩
      | 30, _, ho => by
          cases ho
          rw [if_pos (wanted_none _ rfl)]
          have h1 := eval_getD (hm.get 26 66 (by kernel_rfl)); have h3 := eval_getD (hm.get 29 69 (by kernel_rfl)); unfold Oper.wp; simp only [execOp]; go_simp; exact ⟨_, rfl, rfl, Below.refl _ _⟩
      | 31, _, ho => by
          cases ho
          rw [if_pos (wanted_none _ rfl)]
          refine wp_value (st_move rfl (hm.get 30 70 (by kernel_rfl))) ⟨_, rfl, rfl, Below.refl _ _⟩
      | 32, _, ho => by
          cases ho
          generalize hW : Region.wanted _ _ = W
          obtain rfl : W = (true == true) := hW.symm.trans (wanted_of rfl rfl rfl (show a.eval (.tmp 71) = .bool true from (hm.get 31 71 (by kernel_rfl))))
          clear hW
          rw [if_pos (show (true == true) = true by decide)]
          refine wp_value (st_move rfl ((hs.keeps (by kernel_rfl)).trans rfl)) ⟨_, rfl, rfl, Below.refl _ _⟩
      | 33, _, ho => by
          cases ho
          generalize hW : Region.wanted _ _ = W
          obtain rfl : W = (true == true) := hW.symm.trans (wanted_of rfl rfl rfl (show a.eval (.tmp 71) = .bool true from (hm.get 31 71 (by kernel_rfl))))
          clear hW
          rw [if_pos (show (true == true) = true by decide)]
          have h1 := eval_getD (hm.get 32 72 (by kernel_rfl)); unfold Oper.wp; simp only [execOp]; go_simp; exact ⟨_, rfl, (show Value.pointer _ = Value.pointer _ by first | rfl | simp), Below.refl _ _⟩
      | 34, _, ho => by
          cases ho
          generalize hW : Region.wanted _ _ = W
          obtain rfl : W = (true == true) := hW.symm.trans (wanted_of rfl rfl rfl (show a.eval (.tmp 71) = .bool true from (hm.get 31 71 (by kernel_rfl))))
          clear hW
          rw [if_pos (show (true == true) = true by decide)]
          have hx := (HR10.out w hb).1; have hy := (HR10.out w hb).2; have h1 := eval_getD (hm.get 33 73 (by kernel_rfl)); unfold Oper.wp; simp only [execOp]; go_simp; exact ⟨_, rfl, rfl, Below.refl _ _⟩
      | 35, _, ho => by
          cases ho
          generalize hW : Region.wanted _ _ = W
          obtain rfl : W = (true == true) := hW.symm.trans (wanted_of rfl rfl rfl (show a.eval (.tmp 71) = .bool true from (hm.get 31 71 (by kernel_rfl))))
          clear hW
          rw [if_pos (show (true == true) = true by decide)]
          unfold Oper.wp; simp only [execOp]; go_simp; refine (CI.out w).mono ?_; rintro e w' ⟨rfl, hb'⟩; exact ⟨_, rfl, rfl, hb'⟩
      | 36, _, ho => by
          cases ho
          generalize hW : Region.wanted _ _ = W
          obtain rfl : W = (true == true) := hW.symm.trans (wanted_of rfl rfl rfl (show a.eval (.tmp 71) = .bool true from (hm.get 31 71 (by kernel_rfl))))
          clear hW
          rw [if_pos (show (true == true) = true by decide)]
          have h1 := eval_getD (hm.get 35 75 (by kernel_rfl)); unfold Oper.wp; simp only [execOp]; go_simp; exact ⟨_, rfl, rfl, Below.refl _ _⟩
      | 37, _, ho => by
          cases ho
          generalize hW : Region.wanted _ _ = W
          obtain rfl : W = (true == true) := hW.symm.trans (wanted_of rfl rfl rfl (show a.eval (.tmp 71) = .bool true from (hm.get 31 71 (by kernel_rfl))))
          clear hW
          rw [if_pos (show (true == true) = true by decide)]
          have kE := stp_eql; have kG := stp_guard; have h1 := eval_getD (hm.get 34 74 (by kernel_rfl)); have h2 := eval_getD (hm.get 36 76 (by kernel_rfl)); unfold Oper.wp; simp only [execOp]; go_simp; exact ⟨_, rfl, (show Value.bool _ = Value.bool _ by first | rfl | simp), Below.refl _ _⟩
      | 38, _, ho => by
          cases ho
          rw [if_pos (wanted_none _ rfl)]
          have h1 := eval_getD (hm.get 31 71 (by kernel_rfl)); have h3 := eval_getD (hm.get 37 77 (by kernel_rfl)); unfold Oper.wp; simp only [execOp]; go_simp; exact ⟨_, rfl, rfl, Below.refl _ _⟩
      | 39, _, ho => by
          cases ho
          rw [if_pos (wanted_none _ rfl)]
          refine wp_value (st_move rfl (hm.get 38 78 (by kernel_rfl))) ⟨_, rfl, rfl, Below.refl _ _⟩
      | 40, _, ho => by
          cases ho
          generalize hW : Region.wanted _ _ = W
          obtain rfl : W = (true == true) := hW.symm.trans (wanted_of rfl rfl rfl (show a.eval (.tmp 79) = .bool true from (hm.get 39 79 (by kernel_rfl))))
          clear hW
          rw [if_pos (show (true == true) = true by decide)]
          refine wp_value (st_move rfl ((hs.keeps (by kernel_rfl)).trans rfl)) ⟨_, rfl, rfl, Below.refl _ _⟩
      | 41, _, ho => by
          cases ho
          generalize hW : Region.wanted _ _ = W
          obtain rfl : W = (true == true) := hW.symm.trans (wanted_of rfl rfl rfl (show a.eval (.tmp 79) = .bool true from (hm.get 39 79 (by kernel_rfl))))
          clear hW
          rw [if_pos (show (true == true) = true by decide)]
          have h1 := eval_getD (hm.get 40 80 (by kernel_rfl)); unfold Oper.wp; simp only [execOp]; go_simp; exact ⟨_, rfl, (show Value.int _ _ = Value.int _ _ by first | rfl | simp), Below.refl _ _⟩
      | 42, _, ho => by
          cases ho
          generalize hW : Region.wanted _ _ = W
          obtain rfl : W = (true == true) := hW.symm.trans (wanted_of rfl rfl rfl (show a.eval (.tmp 79) = .bool true from (hm.get 39 79 (by kernel_rfl))))
          clear hW
          rw [if_pos (show (true == true) = true by decide)]
          have h1 := eval_getD (hm.get 41 81 (by kernel_rfl)); unfold Oper.wp; simp only [execOp]; go_simp; exact ⟨_, rfl, (show Value.bool _ = Value.bool _ by first | rfl | simp), Below.refl _ _⟩
      | 43, _, ho => by
          cases ho
          rw [if_pos (wanted_none _ rfl)]
          have h1 := eval_getD (hm.get 39 79 (by kernel_rfl)); have h3 := eval_getD (hm.get 42 82 (by kernel_rfl)); unfold Oper.wp; simp only [execOp]; go_simp; exact ⟨_, rfl, rfl, Below.refl _ _⟩
      | 44, _, ho => by
          cases ho
          rw [if_pos (wanted_none _ rfl)]
          refine wp_value (st_move rfl (hm.get 43 83 (by kernel_rfl))) ⟨_, rfl, rfl, Below.refl _ _⟩
      | 45, _, ho => by
          cases ho
          generalize hW : Region.wanted _ _ = W
          obtain rfl : W = (true == true) := hW.symm.trans (wanted_of rfl rfl rfl (show a.eval (.tmp 84) = .bool true from (hm.get 44 84 (by kernel_rfl))))
          clear hW
          rw [if_pos (show (true == true) = true by decide)]
          refine wp_value (st_move rfl ((hs.keeps (by kernel_rfl)).trans rfl)) ⟨_, rfl, rfl, Below.refl _ _⟩
      | 46, _, ho => by
          cases ho
          generalize hW : Region.wanted _ _ = W
          obtain rfl : W = (true == true) := hW.symm.trans (wanted_of rfl rfl rfl (show a.eval (.tmp 84) = .bool true from (hm.get 44 84 (by kernel_rfl))))
          clear hW
          rw [if_pos (show (true == true) = true by decide)]
          have h1 := eval_getD (hm.get 45 85 (by kernel_rfl)); unfold Oper.wp; simp only [execOp]; go_simp; exact ⟨_, rfl, (show Value.pointer _ = Value.pointer _ by first | rfl | simp), Below.refl _ _⟩
      | 47, _, ho => by
          cases ho
          generalize hW : Region.wanted _ _ = W
          obtain rfl : W = (true == true) := hW.symm.trans (wanted_of rfl rfl rfl (show a.eval (.tmp 84) = .bool true from (hm.get 44 84 (by kernel_rfl))))
          clear hW
          rw [if_pos (show (true == true) = true by decide)]
          have hx := (HR11.out w hb).1; have hy := (HR11.out w hb).2; have h1 := eval_getD (hm.get 46 86 (by kernel_rfl)); unfold Oper.wp; simp only [execOp]; go_simp; exact ⟨_, rfl, rfl, Below.refl _ _⟩
      | 48, _, ho => by
          cases ho
          generalize hW : Region.wanted _ _ = W
          obtain rfl : W = (true == true) := hW.symm.trans (wanted_of rfl rfl rfl (show a.eval (.tmp 84) = .bool true from (hm.get 44 84 (by kernel_rfl))))
          clear hW
          rw [if_pos (show (true == true) = true by decide)]
          unfold Oper.wp; simp only [execOp]; go_simp; exact ⟨_, rfl, rfl, Below.refl _ _⟩
      | 49, _, ho => by
          cases ho
          generalize hW : Region.wanted _ _ = W
          obtain rfl : W = (true == true) := hW.symm.trans (wanted_of rfl rfl rfl (show a.eval (.tmp 84) = .bool true from (hm.get 44 84 (by kernel_rfl))))
          clear hW
          rw [if_pos (show (true == true) = true by decide)]
          have kE := stp_eql; have kG := stp_guard; have h1 := eval_getD (hm.get 47 87 (by kernel_rfl)); have h2 := eval_getD (hm.get 48 88 (by kernel_rfl)); unfold Oper.wp; simp only [execOp]; go_simp; exact ⟨_, rfl, (show Value.bool _ = Value.bool _ by first | rfl | simp), Below.refl _ _⟩
      | 50, _, ho => by
          cases ho
          rw [if_pos (wanted_none _ rfl)]
          have h1 := eval_getD (hm.get 44 84 (by kernel_rfl)); have h3 := eval_getD (hm.get 49 89 (by kernel_rfl)); unfold Oper.wp; simp only [execOp]; go_simp; exact ⟨_, rfl, rfl, Below.refl _ _⟩
      | 51, _, ho => by
          cases ho
          rw [if_pos (wanted_none _ rfl)]
          refine wp_value (st_move rfl (hm.get 50 90 (by kernel_rfl))) ⟨_, rfl, rfl, Below.refl _ _⟩
      | 52, _, ho => by
          cases ho
          generalize hW : Region.wanted _ _ = W
          obtain rfl : W = (true == true) := hW.symm.trans (wanted_of rfl rfl rfl (show a.eval (.tmp 91) = .bool true from (hm.get 51 91 (by kernel_rfl))))
          clear hW
          rw [if_pos (show (true == true) = true by decide)]
          refine wp_value (st_move rfl ((hs.keeps (by kernel_rfl)).trans rfl)) ⟨_, rfl, rfl, Below.refl _ _⟩
      | 53, _, ho => by
          cases ho
          generalize hW : Region.wanted _ _ = W
          obtain rfl : W = (true == true) := hW.symm.trans (wanted_of rfl rfl rfl (show a.eval (.tmp 91) = .bool true from (hm.get 51 91 (by kernel_rfl))))
          clear hW
          rw [if_pos (show (true == true) = true by decide)]
          have h1 := eval_getD (hm.get 52 92 (by kernel_rfl)); unfold Oper.wp; simp only [execOp]; go_simp; refine (CL.out w hb).mono ?_; rintro e w' ⟨A', c', rfl, hb'⟩; exact ⟨_, rfl, ⟨A', c', rfl⟩, hb'⟩
      | 54, _, ho => by
          cases ho
          generalize hW : Region.wanted _ _ = W
          obtain rfl : W = (true == true) := hW.symm.trans (wanted_of rfl rfl rfl (show a.eval (.tmp 91) = .bool true from (hm.get 51 91 (by kernel_rfl))))
          clear hW
          rw [if_pos (show (true == true) = true by decide)]
          refine Exists.elim (show ∃ (A' : Option Addr) (c' : Nat), a.eval (.tmp 93) = .slice A' 1 c' from (hm.get 53 93 (by kernel_rfl))) fun A' h8 => ?_; refine Exists.elim h8 fun c' h9 => ?_; have h1 := eval_getD h9; unfold Oper.wp; simp only [execOp]; go_simp; exact ⟨_, rfl, (show Value.int _ _ = Value.int _ _ by first | rfl | simp), Below.refl _ _⟩
      | 55, _, ho => by
          cases ho
          generalize hW : Region.wanted _ _ = W
          obtain rfl : W = (true == true) := hW.symm.trans (wanted_of rfl rfl rfl (show a.eval (.tmp 91) = .bool true from (hm.get 51 91 (by kernel_rfl))))
          clear hW
          rw [if_pos (show (true == true) = true by decide)]
          have h1 := eval_getD (hm.get 54 94 (by kernel_rfl)); unfold Oper.wp; simp only [execOp]; go_simp; exact ⟨_, rfl, (show Value.bool _ = Value.bool _ by first | rfl | simp), Below.refl _ _⟩
      | 56, _, ho => by
          cases ho
          rw [if_pos (wanted_none _ rfl)]
          have h1 := eval_getD (hm.get 51 91 (by kernel_rfl)); have h3 := eval_getD (hm.get 55 95 (by kernel_rfl)); unfold Oper.wp; simp only [execOp]; go_simp; exact ⟨_, rfl, rfl, Below.refl _ _⟩
      | 57, _, ho => by
          cases ho
          rw [if_pos (wanted_none _ rfl)]
          refine wp_value (st_move rfl (hm.get 56 96 (by kernel_rfl))) ⟨_, rfl, rfl, Below.refl _ _⟩
      | 58, _, ho => by
          cases ho
          generalize hW : Region.wanted _ _ = W
          obtain rfl : W = (true == true) := hW.symm.trans (wanted_of rfl rfl rfl (show a.eval (.tmp 97) = .bool true from (hm.get 57 97 (by kernel_rfl))))
          clear hW
          rw [if_pos (show (true == true) = true by decide)]
          unfold Oper.wp; simp only [execOp]; go_simp; refine (wname_any [97] w (by decide)).mono ?_; rintro e w' ⟨rfl, rfl⟩; exact ⟨_, rfl, rfl, Below.refl _ _⟩
      | 59, _, ho => by
          cases ho
          generalize hW : Region.wanted _ _ = W
          obtain rfl : W = (true == true) := hW.symm.trans (wanted_of rfl rfl rfl (show a.eval (.tmp 97) = .bool true from (hm.get 57 97 (by kernel_rfl))))
          clear hW
          rw [if_pos (show (true == true) = true by decide)]
          have h1 := eval_getD (hm.get 58 98 (by kernel_rfl)); unfold Oper.wp; simp only [execOp]; go_simp; exact ⟨_, rfl, (show Value.bool _ = Value.bool _ by first | rfl | simp), Below.refl _ _⟩
      | 60, _, ho => by
          cases ho
          rw [if_pos (wanted_none _ rfl)]
          have h1 := eval_getD (hm.get 57 97 (by kernel_rfl)); have h3 := eval_getD (hm.get 59 99 (by kernel_rfl)); unfold Oper.wp; simp only [execOp]; go_simp; exact ⟨_, rfl, rfl, Below.refl _ _⟩
      | (n + 61), hi, _ => absurd hi (by omega)

  · have e1 : a.eval (.tmp 100) = .bool true := by cases ho; exact hm.get 60 100 (by kernel_rfl)
    have hfr := hs.frame [40, 41, 42, 43, 44, 45, 46, 47, 48, 49, 50, 51, 52, 53, 54, 55, 56, 57, 58, 59, 60, 61, 62, 63, 64, 65, 66, 67, 68, 69, 70, 71, 72, 73, 74, 75, 76, 77, 78, 79, 80, 81, 82, 83, 84, 85, 86, 87, 88, 89, 90, 91, 92, 93, 94, 95, 96, 97, 98, 99, 100, 0] (by kernel_rfl)
    cases ho
    rw [hfr]
    simp only [List.foldl_cons, List.foldl_nil, e1]
    clear hfr hs hm e1
    generalize a.eval (.tmp 40) = u40
    generalize a.eval (.tmp 41) = u41
    generalize a.eval (.tmp 42) = u42
    generalize a.eval (.tmp 43) = u43
    generalize a.eval (.tmp 44) = u44
    generalize a.eval (.tmp 45) = u45
    generalize a.eval (.tmp 46) = u46
    generalize a.eval (.tmp 47) = u47
    generalize a.eval (.tmp 48) = u48
    generalize a.eval (.tmp 49) = u49
    generalize a.eval (.tmp 50) = u50
    generalize a.eval (.tmp 51) = u51
    generalize a.eval (.tmp 52) = u52
    generalize a.eval (.tmp 53) = u53
    generalize a.eval (.tmp 54) = u54
    generalize a.eval (.tmp 55) = u55
    generalize a.eval (.tmp 56) = u56
    generalize a.eval (.tmp 57) = u57
    generalize a.eval (.tmp 58) = u58
    generalize a.eval (.tmp 59) = u59
    generalize a.eval (.tmp 60) = u60
    generalize a.eval (.tmp 61) = u61
    generalize a.eval (.tmp 62) = u62
    generalize a.eval (.tmp 63) = u63
    generalize a.eval (.tmp 64) = u64
    generalize a.eval (.tmp 65) = u65
    generalize a.eval (.tmp 66) = u66
    generalize a.eval (.tmp 67) = u67
    generalize a.eval (.tmp 68) = u68
    generalize a.eval (.tmp 69) = u69
    generalize a.eval (.tmp 70) = u70
    generalize a.eval (.tmp 71) = u71
    generalize a.eval (.tmp 72) = u72
    generalize a.eval (.tmp 73) = u73
    generalize a.eval (.tmp 74) = u74
    generalize a.eval (.tmp 75) = u75
    generalize a.eval (.tmp 76) = u76
    generalize a.eval (.tmp 77) = u77
    generalize a.eval (.tmp 78) = u78
    generalize a.eval (.tmp 79) = u79
    generalize a.eval (.tmp 80) = u80
    generalize a.eval (.tmp 81) = u81
    generalize a.eval (.tmp 82) = u82
    generalize a.eval (.tmp 83) = u83
    generalize a.eval (.tmp 84) = u84
    generalize a.eval (.tmp 85) = u85
    generalize a.eval (.tmp 86) = u86
    generalize a.eval (.tmp 87) = u87
    generalize a.eval (.tmp 88) = u88
    generalize a.eval (.tmp 89) = u89
    generalize a.eval (.tmp 90) = u90
    generalize a.eval (.tmp 91) = u91
    generalize a.eval (.tmp 92) = u92
    generalize a.eval (.tmp 93) = u93
    generalize a.eval (.tmp 94) = u94
    generalize a.eval (.tmp 95) = u95
    generalize a.eval (.tmp 96) = u96
    generalize a.eval (.tmp 97) = u97
    generalize a.eval (.tmp 98) = u98
    generalize a.eval (.tmp 99) = u99
    generalize a.eval (.tmp 0) = u0
    unfold Oper.wp
    simp only [execOp]
    go_simp
    clear a
    have BX := Lib.hid (bstep BW.out hb)
    clear hb
    go_wp2
    go_ret
    exact ⟨rfl, BX.out⟩
end Go.Proofs.YtphnfcgdpdimbaaGreatDoor
