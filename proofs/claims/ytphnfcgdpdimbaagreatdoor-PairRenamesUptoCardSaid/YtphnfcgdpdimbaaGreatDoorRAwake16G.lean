/-
  dolmenlaw16.awake: the document's example holds. Condition: MaxLen holds an int.
-/
import Derived.Test.YtphnfcgdpdimbaaGreatDoorRKitG
import Derived.Test.YtphnfcgdpdimbaaGreatDoorRKitDf
import Derived.Test.YtphnfcgdpdimbaaGreatDoorRKitPl
import Derived.Test.YtphnfcgdpdimbaaGreatDoorRKitSt
namespace Go.Proofs.YtphnfcgdpdimbaaGreatDoor
open Go.RowKit Go.Shelf
open DiffLaw (fid ofPaths)
def a1 : List UInt8 := List.replicate 32 1
def a2 : List UInt8 := List.replicate 32 2
abbrev awA : List Fil := [([120], a1), ([121], a2)]
abbrev awB : List Fil := [([120], a1), ([122], a2)]
theorem aw_paths : DiffLaw.Paths [[120], [121], [122]] awA awB := by
 refine ⟨by decide, fun p => ?_⟩
 simp
 constructor
 ·rintro (h | h | h) <;> simp [h]
 ·rintro ((h | h) | h | h) <;> simp [h]
theorem aw_diff : ofPaths [[120], [121], [122]] awA awB = [([121], a2, []), ([122], [], a2)] := by decide +kernel
theorem ren_eql (w : World) (x y : Ren) : (binOp .eql 71 (.agg #[S x.1, S x.2.1, I x.2.2]) (.agg #[S y.1, S y.2.1, I y.2.2])).run Tryz.prog w = .ok (.bool (decide (x.1 = y.1 ∧ x.2.1 = y.2.1 ∧ x.2.2 = y.2.2))) w := by
 rw [run_eql_struct, run_equalIn_struct w 9999 71 _ _ (by kernel_rfl) (by kernel_rfl)]
 simp only [Program.fieldsOf, Tryz.underlying71]
 by_cases h1 : x.1 = y.1 <;> by_cases h2 : x.2.1 = y.2.1 <;> by_cases h3 : x.2.2 = y.2.2 <;> simp [go_sem, Op.eqFields, h1, h2, h3]
theorem ren_guard (w : World) (op : BinOp) (a b : Operand) (x y : Ren) : (eqGuard op 71 a b (.agg #[S x.1, S x.2.1, I x.2.2]) (.agg #[S y.1, S y.2.1, I y.2.2])).run Tryz.prog w = .ok () w := run_eqGuard_agg w op 71 a b _ _ (by kernel_rfl)
theorem fls_two (w : World) (t : TypeId) (x y : Fil) : Sl (w.alloc (.cells #[S x.1, S x.2, S y.1, S y.2] t)) 2 (some ⟨w.heap.size, 0, none⟩) 2 (fls [x, y]) := by
 refine ⟨by simp [fls, flC], fun _ => ⟨_, _, rfl, by simp, fun k hk => ?_⟩⟩
 rw [Nat.zero_add]
 simp [fls, flC]
set_option maxHeartbeats 8000000 in
set_option maxRecDepth 100000 in
theorem awake16G_any (w : World) (hX : MaxL w) :
  Calls Tryz.prog 13 #[] w fun e w' => e = .returned (.bool true) ∧ Below w.heap.size w w' := by
 have C1 := Lib.hid (dnew_ok 1000 w (by omega) (by omega))
 have C2 := Lib.hid (fun W p m h => sopen_any W p m 0 1000 [] h (by simp) (by simp) rfl)
 have HX := Lib.hid hX
 clear hX
 have CI1 : Hid (∀ W, Calls Tryz.prog 52 #[.int .u8 1] W fun e w' => e = .returned (S a1) ∧ Below W.heap.size W w') := Lib.hid (fun W => id16_any 1 W)
 have CI2 : Hid (∀ W, Calls Tryz.prog 52 #[.int .u8 2] W fun e w' => e = .returned (S a2) ∧ Below W.heap.size W w') := Lib.hid (fun W => id16_any 2 W)
 go_enter Tryz.func13, Tryz.ntmps13
 go_wp2_with (first
  | (go_at_call 22; refine C1.out.mono ?_; rintro e w1 ⟨p, m, rfl, hp, hm, hD, b1⟩; have HD := Lib.hid hD; have B1 := Lib.hid b1; clear hp hm hD b1)
  | (go_at_call 50; refine (C2.out w1 p m HD.out).mono ?_; rintro e w2 ⟨q, pk, rfl, hq, hpk, hst, b2⟩; have HSt := Lib.hid hst; have HD2 := Lib.hid (HD.out.step b2); have B2 := Lib.hid (bstep B1.out b2); clear hq hpk b2 hst))
 refine (CI1.out _).mono ?_
 rintro e w3 ⟨rfl, b3⟩
 have B3 := Lib.hid (bstep B2.out b3)
 have D3 := Lib.hid b3
 clear b3
 go_wp2_with fail
 refine (CI2.out _).mono ?_
 rintro e w4 ⟨rfl, b4⟩
 have B4 := Lib.hid (bstep B3.out b4)
 have D4 := Lib.hid (bstep D3.out b4)
 have HA4 := Lib.hid (fls_two w4 79 ([120], a1) ([121], a2))
 have B4' := Lib.hid (balloc B4.out (.cells #[S [120], S a1, S [121], S a2] 79))
 have D4' := Lib.hid (balloc D4.out (.cells #[S [120], S a1, S [121], S a2] 79))
 clear b4
 go_wp2_with fail
 refine (CI1.out _).mono ?_
 rintro e w5 ⟨rfl, b5⟩
 have B5 := Lib.hid (bstep B4'.out b5)
 have D5 := Lib.hid (bstep D4'.out b5)
 have HA5 := Lib.hid (HA4.out.below b5)
 clear b5
 go_wp2_with fail
 refine (CI2.out _).mono ?_
 rintro e w6 ⟨rfl, b6⟩
 have B6 := Lib.hid (bstep B5.out b6)
 have D6 := Lib.hid (bstep D5.out b6)
 have HA6 := Lib.hid ((HA5.out.below b6).alloc (.cells #[S [120], S a1, S [122], S a2] 79))
 have HB6 := Lib.hid (fls_two w6 79 ([120], a1) ([122], a2))
 have B6' := Lib.hid (balloc B6.out (.cells #[S [120], S a1, S [122], S a2] 79))
 have D6' := Lib.hid (balloc D6.out (.cells #[S [120], S a1, S [122], S a2] 79))
 clear b6
 have CD := Lib.hid (pairDiff_any _ _ 2 2 2 2 awA awB _ HA6.out HB6.out (by omega) (by omega) (by decide) (by decide))
 go_wp2_with fail
 refine CD.out.mono ?_
 rintro e w7 ⟨A7, t, c7, ps, rfl, _, hps, hO7⟩
 obtain rfl := DiffLaw.paths_eq hps aw_paths
 rw [aw_diff] at hO7
 obtain rfl : 2 = t := cgs_count hO7.sl
 have HO7 := Lib.hid hO7
 have B7 := Lib.hid (bstep B6'.out hO7.2)
 have B27 := Lib.hid (bstep D6'.out hO7.2)
 have CR := Lib.hid (renamesG_any w7 q p pk m 0 2 c7 1000 A7 _ [] hO7.sl (by omega) ⟨HSt.out.step B27.out, ⟨[], HD2.out.step B27.out, Objs.nil_⟩, fun _ h => (nomatch h)⟩ (HX.out.step B7.out) (by decide))
 clear hO7 hps
 go_wp2_with fail
 refine CR.out.mono ?_
 rintro e w8 ⟨hret, b8⟩
 have hren : RenLaw.renM [([121], a2, []), ([122], [], a2)] (rdOf []) = .ok [([121], [122], 100)] := by kernel_rfl
 rw [hren] at hret
 obtain ⟨A8, c8, he8, hS8'⟩ := hret
 have he9 : e = .returned (.tuple #[.slice A8 1 c8, I 0]) := he8
 subst he9
 have hS8 : Sl w8 3 A8 1 (rns [([121], [122], 100)]) := hS8'
 have B8 := Lib.hid (bstep B7.out b8)
 obtain ⟨g7, o7, x7, e7, _, hx7, x70, x71, x72⟩ := (HO7.out.sl.below b8).cg (k := 0) (by omega)
 obtain ⟨g7', o7', y7, e7', _, hy7, y70, y71, y72⟩ := (HO7.out.sl.below b8).cg (k := 1) (by omega)
 obtain ⟨g8, o8, x8, e8, _, hx8, x80, x81, x82⟩ := hS8.rn (k := 0) (by omega)
 cases hx7
 cases hy7
 cases hx8
 subst e7 e8
 cases e7'
 have kE := ren_eql
 have kG := ren_guard
 clear HO7 CD CR HA4 HA5 HA6 HB6 hS8 b8 hS8' he8 hren
 simp only [Nat.zero_mul, Nat.one_mul, Nat.add_zero] at x70 x71 x72 y70 y71 y72 x80 x81 x82
 go_wp2
 go_ret
 exact ⟨rfl, B8.out⟩
end Go.Proofs.YtphnfcgdpdimbaaGreatDoor
