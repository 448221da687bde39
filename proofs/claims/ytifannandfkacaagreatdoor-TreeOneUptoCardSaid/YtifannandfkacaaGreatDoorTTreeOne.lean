/-
  dolmenlaw13.TreeOne: the law's walk. Conditions: the files can be read, no more than 1048576, no path longer than that; MaxLen holds an int.
-/
import Derived.Test.YtifannandfkacaaGreatDoorTTreeBack
import Derived.Test.YtifannandfkacaaGreatDoorTAndSet
import Derived.Test.YtifannandfkacaaGreatDoorTKitW
import Derived.Test.YtifannandfkacaaGreatDoorTKitX
import Derived.Test.YtifannandfkacaaGreatDoorTKitG
import Derived.BigQuiet
namespace Go.Proofs.YtifannandfkacaaGreatDoor
open Go.RowKit
open TreeLaw
open PathLaw (Bs)
def to21Phi (bA oA n c k g11 c11 : Nat) (cb : UInt8) (s1 s2 ic xi : List UInt8) (bq : Bool) : Nat → Value → World → Prop
 | 0, v, _ => v = .slice (some ⟨g11, 0, none⟩) n c11
 | 1, v, _ => v = I ((k : Int))
 | 2, v, _ => v = .pointer (some ⟨g11, k * 2, none⟩)
 | 3, v, _ => v = .pointer (some ⟨g11, k * 2 + 1, none⟩)
 | 4, v, _ => v = S ic
 | 5, v, _ => v = U8 cb
 | 6, v, _ => v = S ic
 | 7, v, _ => v = .bool true
 | 8, v, _ => v = .bool true
 | 9, v, _ => v = S s1
 | 10, v, _ => v = S s2
 | 11, v, _ => v = .bool bq
 | 12, v, _ => v = .slice (some ⟨bA, oA, none⟩) n c
 | 13, v, _ => v = I ((k : Int))
 | 14, v, _ => v = .pointer (some ⟨bA, oA + k * 2, none⟩)
 | 15, v, _ => v = .pointer (some ⟨bA, oA + k * 2 + 1, none⟩)
 | 16, v, _ => v = S xi
 | 17, v, _ => v = U8 cb
 | 18, v, _ => v = S ic
 | 19, v, _ => v = .bool bq
 | 20, v, _ => v = .bool true
 | 21, v, _ => v = .bool true
 | _, _, _ => True
theorem to21Phi_mono {bA oA n c k g11 c11 : Nat} {cb : UInt8} {s1 s2 ic xi : List UInt8} {bq : Bool} : ∀ (j : Nat) (v : Value) (w w' : World), to21Phi bA oA n c k g11 c11 cb s1 s2 ic xi bq j v w → Below w.heap.size w w' → to21Phi bA oA n c k g11 c11 cb s1 s2 ic xi bq j v w' := by
 intro j v w w' h _
 match j, h with
 | 0, h => exact h
 | 1, h => exact h
 | 2, h => exact h
 | 3, h => exact h
 | 4, h => exact h
 | 5, h => exact h
 | 6, h => exact h
 | 7, h => exact h
 | 8, h => exact h
 | 9, h => exact h
 | 10, h => exact h
 | 11, h => exact h
 | 12, h => exact h
 | 13, h => exact h
 | 14, h => exact h
 | 15, h => exact h
 | 16, h => exact h
 | 17, h => exact h
 | 18, h => exact h
 | 19, h => exact h
 | 20, h => exact h
 | 21, h => exact h
 | (n + 22), _ => trivial
set_option maxRecDepth 100000 in
set_option maxHeartbeats 16000000 in
theorem treeOne_law (A : Option Addr) (n c : Nat) (l : List Fil) (i : Int) (cb : UInt8) (w : World) (hA : Sl w 2 A n (fls l)) (hn : n ≤ 1048576) (hP : ∀ f ∈ l, f.1.length ≤ 1048576) (hM : MaxL w) :
  Calls Tryz.prog 6 #[.slice A n c, I i, U8 cb] w fun e w' => e = .returned (.bool true) ∧ Below w.heap.size w w' := by
 obtain ⟨i0, hi0, hz0, hz1, hz2⟩ := info_parts Tryz.infoRFil
 have C1 := Lib.hid (awake13_any w hM)
 have HA := Lib.hid hA
 have HP := Lib.hid hP
 have HM := Lib.hid hM
 have hln : l.length = n := fls_count hA
 have Hln := Lib.hid hln
 have C2 := Lib.hid both13_nil
 obtain ⟨ic, hic⟩ : ∃ ic, ic = List.replicate 32 cb := ⟨_, rfl⟩
 have CI : Hid (∀ V, Calls Tryz.prog 25 #[U8 cb] V fun e w' => e = .returned (S ic) ∧ Below V.heap.size V w') := Lib.hid (fun V => by rw [hic]; exact id13_any cb V)
 clear hA hP hM hln hic
 have hways : n = 0 ∨ (((n : Int) == 0) = false ∧ decide ((100 : Int) < (n : Int)) = true) ∨ (((n : Int) == 0) = false ∧ decide ((100 : Int) < (n : Int)) = false ∧ 0 < n ∧ n ≤ 100) := by
  by_cases h0 : n = 0
  ·exact .inl h0
  ·by_cases h1 : n ≤ 100
   ·exact .inr (.inr ⟨beq_eq_false_iff_ne.2 (by omega), decide_eq_false (by omega), by omega, h1⟩)
   ·exact .inr (.inl ⟨beq_eq_false_iff_ne.2 (by omega), decide_eq_true (by omega)⟩)
 clear hn
 go_enter Tryz.func6, Tryz.ntmps6
 go_wp2_with fail
 refine C1.out.mono ?_
 rintro e w1 ⟨rfl, b1⟩
 have B1 := Lib.hid b1
 clear b1 C1
 go_wp2_with fail
 refine (C2.out w1).mono ?_
 rintro e w2 ⟨q, t, p, pk, m, rfl, hS2, hD2, hp2, hm2, _, b2⟩
 have B2 := Lib.hid (bstep B1.out b2)
 have HS2 := Lib.hid hS2
 have HD2 := Lib.hid hD2
 have Hpm : Hid (w.heap.size ≤ p ∧ w.heap.size ≤ m) := Lib.hid ⟨Nat.le_trans B1.out.size hp2, Nat.le_trans B1.out.size hm2⟩
 clear hS2 hD2 hp2 hm2 b2 C2 B1
 rcases hways with rfl | ⟨g1, g2⟩ | ⟨g1, g2, hpos, hn1⟩
 ·go_wp2
  go_ret
  exact ⟨rfl, B2.out⟩
 ·go_wp2
  go_ret
  exact ⟨rfl, B2.out⟩
 ·obtain ⟨b0, h0⟩ := and16 i
  obtain ⟨k, hk⟩ : ∃ k : Nat, k = (bits BinOp.and IntKind.i64 i 65535 % (n : Int)).toNat := ⟨_, rfl⟩
  have h1 := Int.emod_lt_of_pos (bits BinOp.and IntKind.i64 i 65535) (show (0 : Int) < n by omega)
  have hmd0 := Int.emod_nonneg (bits BinOp.and IntKind.i64 i 65535) (show (n : Int) ≠ 0 by omega)
  have hkn : k < n := by omega
  have hke : (bits BinOp.and IntKind.i64 i 65535).tmod (n : Int) = (k : Int) := by rw [Int.tmod_eq_emod_of_nonneg b0]; omega
  have Hk := Lib.hid hke
  clear hk h1 hmd0 b0 h0
  obtain ⟨bA, oA, x, eA, hbA, hx, x0, x1⟩ := (HA.out.below B2.out).fil hkn
  have Hx := Lib.hid hx
  subst eA
  have HS3 := Lib.hid (HA.out.below B2.out)
  have q1 : 0 + n ≤ maxLen := by simp only [maxLen]; omega
  have q2 : (0 + n) * 32 ≤ 140737488355328 := by omega
  clear hx x0 x1
  go_wp2_with (at_builtin; refine wpList_append_sl _ rfl (.tmp 50) (.tmp 51) _ rfl w2 53 i0 _ 2 32 Tryz.underlying25 hi0 hz0 hz1 hz2 rfl (by decide) none 0 0 [] rfl (Ow.nil_ (Below.refl _ _)) _ n c (fls l) rfl HS3.out (one_fls _) q1 q2 ?_; intro A4 c4 w4 hO4 hg4 hat4; rw [Nat.zero_add, List.nil_append] at hO4; obtain ⟨g, rfl, hg0, hg1⟩ := hO4.form hpos; obtain ⟨bB, oB, y, eB, _, hy, _, y1⟩ := hO4.sl.fil hkn; cases eB; obtain rfl : x = y := Option.some.inj (Hx.out.symm.trans hy); have hfz := hO4.frozen; have HO4 := Lib.hid hO4; have Hg0 := Lib.hid hg0; simp only [Nat.zero_add] at y1; clear hO4 hg4 hat4 hy hg0)
  have Hl2 : Hid (∀ f ∈ l.set k (x.1, ic), f.1.length ≤ 1048576) := Lib.hid (fun f hf => by
   rcases List.mem_or_eq_of_mem_set hf with h1 | rfl
   ·exact HP.out f h1
   ·exact HP.out x (List.mem_of_getElem? Hx.out))
  refine (CI.out w4).mono ?_
  rintro e w5 ⟨rfl, b5⟩
  have HO5 := Lib.hid (HO4.out.keep b5)
  have y5 : w5.cell? ⟨g, k * 2 + 1, none⟩ = some (S x.2) := (b5.cell (p := ⟨g, k * 2 + 1, none⟩) (by exact hg1)).trans y1
  have f5 : w5.frozen? ⟨g, k * 2 + 1, none⟩ = false := HO5.out.frozen _
  clear b5 y1 hfz HO4
  go_wp2_with fail
  refine Exists.elim (show ∃ W, W = w5.setCell ⟨g, k * 2 + 1, none⟩ (S ic) from ⟨_, rfl⟩) fun W hW => ?_
  rw [show w5.setCell ⟨g, k * 2 + 1, none⟩ (Value.string ⟨ic.toArray⟩) = W from hW.symm]
  obtain ⟨kk, hkk⟩ : ∃ kk, kk = l.set k (x.1, ic) := ⟨_, rfl⟩
  have HO6 : Hid (Ow w2 W 53 2 (some ⟨g, 0, none⟩) n c4 (fls kk)) := Lib.hid (by rw [hW, hkk, ← fls_setId Hx.out]; exact HO5.out.set_ _ _)
  have B6 := Lib.hid (bstep B2.out HO6.out.2)
  have HS6 := Lib.hid (HS2.out.step HO6.out.2)
  have HD6 := Lib.hid (HD2.out.step HO6.out.2)
  have Hgp : Hid (g ≠ p ∧ g ≠ m) := Lib.hid (by
   have h1 := HD2.out.lt
   have h2 := HD2.out.map.lt
   have h5 := Hg0.out
   omega)
  rw [← hkk] at Hl2
  have Hkk := Lib.hid hkk
  have CM := Lib.hid (mine13_any W (some ⟨bA, oA, none⟩) n c l (HA.out.below B6.out) (by omega))
  clear y5 f5 hW HO5 HS2 HD2 hkk hg1
  refine CM.out.mono ?_
  rintro e w7 ⟨A7, c7, rfl, hO7⟩
  have B7 := Lib.hid (bstep B6.out hO7.2)
  have HS7 := Lib.hid (HS6.out.step hO7.2)
  have HD7 := Lib.hid (HD6.out.step hO7.2)
  have HK7 := Lib.hid (HO6.out.sl.below hO7.2)
  have C8 := Lib.hid (twrite_short w7 q p pk m 0 [] [] A7 n c7 l HS7.out HD7.out Objs.nil_ hO7.sl hn1 HP.out (HM.out.step B7.out) (by simp [costs]) (by decide))
  clear hO7 CM HS6 HD6
  go_wp2_with fail
  refine C8.out.mono ?_
  rintro e w8 ⟨z1, s1, R1, n1, L1, rfl, hz1, hi1, h98, hn1', hD8, hO8, hc8, hf8⟩
  have hlo : ∀ k, (k = p ∨ k = m) → w.heap.size ≤ k := fun k hk => by have := Hpm.out; rcases hk with rfl | rfl <;> omega
  have Hlo := Lib.hid hlo
  have B8 := Lib.hid (B7.out.trans (hf8.below B7.out.size hlo))
  have HS8 := Lib.hid (HS7.out.fr HD7.out hf8)
  have HD8 := Lib.hid hD8
  have HO8 := Lib.hid hO8
  have Hz1 := Lib.hid hz1
  have Hi1 := Lib.hid hi1
  have HK8 : Hid (Sl w8 2 (some ⟨g, 0, none⟩) n (fls kk)) := Lib.hid ((SlF.fr (E := fun j => j = p ∨ j = m) ⟨HK7.out, fun b off _ e hE => by cases e; have := Hgp.out; rcases hE with hE | hE <;> omega⟩ hf8).1)
  have Hb8 : Hid (n1 ≤ 2000000000 ∧ costs L1 ≤ 20000000000) := Lib.hid ⟨by omega, by simpa [costs] using hc8⟩
  have C9 := Lib.hid (mine13_any w8 (some ⟨g, 0, none⟩) n c4 kk HK8.out (by omega))
  clear h98 hz1 hi1 hn1' hD8 hO8 hc8 hf8 hlo C8 HS7 HD7 HK7
  go_wp2_with fail
  refine C9.out.mono ?_
  rintro e w9 ⟨A9, c9, rfl, hO9⟩
  have B9 := Lib.hid (bstep B8.out hO9.2)
  have HS9 := Lib.hid (HS8.out.step hO9.2)
  have HD9 := Lib.hid (HD8.out.step hO9.2)
  have C10 := Lib.hid (twrite_short w9 q p pk m n1 L1 R1 A9 n c9 kk HS9.out HD9.out HO8.out hO9.sl hn1 Hl2.out (HM.out.step B9.out) (by have := Hb8.out; omega) (by have := Hb8.out; omega))
  clear hO9 C9 HS8 HD8 HK8
  go_wp2_with fail
  refine C10.out.mono ?_
  rintro e w10 ⟨z2, s2, R2, n2, L2, rfl, hz2, hi2, hsub, h98, hD10, hO10, h99, hf10⟩
  have B10 := Lib.hid (B9.out.trans (hf10.below B9.out.size Hlo.out))
  have HS10 := Lib.hid (HS9.out.fr HD9.out hf10)
  have HD10 := Lib.hid hD10
  have HO10 := Lib.hid hO10
  have Hz2 := Lib.hid hz2
  have Hi2 := Lib.hid hi2
  have Hsub := Lib.hid hsub
  clear h98 h99 hz2 hi2 hsub hD10 hO10 hf10 C10 HS9 HD9
  rcases Hz1.out with h1 | h1 | h1
  ·rcases Hz2.out with h2 | h2 | h2
   ·obtain ⟨hc1, hs1, ha1⟩ := Hi1.out h1
    obtain ⟨hc2, hs2, ha2⟩ := Hi2.out h2
    have ha3 := AllIn.mono Hsub.out 151 l ha1
    have hxl : l[k]? = some x := Hx.out
    have hkl : k < l.length := by rw [Hln.out]; exact hkn
    have hkx : kk[k]? = some (x.1, ic) := by rw [Hkk.out, List.getElem?_set_self hkl]
    have hq : ∃ bq, (s1 == s2) = bq ∧ (x.2 == ic) = bq := by
     by_cases he : x.2 = ic
     ·refine ⟨true, ?_, by rw [he]; simp⟩
      have e1 : kk = l := by
       rw [Hkk.out, ← he]
       apply List.ext_getElem?
       intro i
       by_cases hi : i = k
       ·rw [hi, List.getElem?_set_self hkl, hxl]
       ·rw [List.getElem?_set_ne (fun e => hi e.symm)]
      rw [hs1, hs2, e1]
      simp
     ·refine ⟨false, beq_eq_false_iff_ne.2 fun h => he ?_, beq_eq_false_iff_ne.2 he⟩
      rw [hs1, hs2] at h
      have e1 := root_same HO10.out.apart hc1 hc2 ha3 ha2 h
      rw [← e1, hxl] at hkx
      exact congrArg Prod.snd (Option.some.inj hkx)
    have hko : ∀ i, i ≠ k → kk[i]? = l[i]? := fun i hi => by rw [Hkk.out, List.getElem?_set_ne (fun e => hi e.symm)]
    have Hkx := Lib.hid hkx
    have Hko := Lib.hid hko
    have hlk : kk.length = n := by rw [Hkk.out, List.length_set, Hln.out]
    have C11 := Lib.hid (tread_any w10 q R2 kk hc2 ha2 (objs_trees HS10.out HD10.out HO10.out) (HM.out.step B10.out))
    rw [← hs2, hlk] at C11
    obtain ⟨bq, hq1, hq2⟩ := hq
    have Hq := Lib.hid (And.intro hq1 hq2)
    subst h1 h2
    clear Hz1 Hz2 Hi1 Hi2 hc1 hs1 ha1 hc2 hs2 ha2 ha3 hxl hkl hkx hq1 hq2 hko hlk
    go_wp2_with fail
    refine C11.out.mono ?_
    rintro e w11 ⟨A11, c11, rfl, hO11⟩
    obtain ⟨g11, rfl, h98, h99⟩ := hO11.form hpos
    have B11 := Lib.hid (bstep B10.out hO11.2)
    have HY := Lib.hid hO11.sl
    have HL11 := Lib.hid (HA.out.below B11.out)
    clear hO11 C11 h98 h99 q1 q2 g1 g2 hi0 hz0 hz1 hz2 Hk hbA
    go_wp2
    go_loopw [6, 18] (fun s6 iv wr => ∃ (ix q' : Nat), s6 = .bool false ∧ iv = .int .i64 ix ∧ Hid (ix ≤ n) ∧ wr = w11.drewN q') (fun _ iv _ => n - (intOf iv).toNat)
    case atStart => exact ⟨0, 0, rfl, rfl, Lib.hid (Nat.zero_le _), rfl⟩
    case round =>
     obtain ⟨ix, q', rfl, rfl, hi, rfl⟩ := hrel
     by_cases hlt : ix < n
     ·obtain ⟨b1, o1, yk, e1, _, hyk, u0, u1⟩ := HY.out.fil hlt
      cases e1
      simp only [Nat.zero_add] at u0 u1
      obtain ⟨b2, o2, xl, e2, _, hxl, v0, v1⟩ := HL11.out.fil hlt
      cases e2
      rcases Decidable.em (ix = k) with hik | hik
      ·subst hik
       obtain rfl : (x.1, ic) = yk := Option.some.inj (Hkx.out.symm.trans hyk)
       obtain rfl : x = xl := Option.some.inj (Hx.out.symm.trans hxl)
       have hne : ((ix : Int) != (ix : Int)) = false := by simp
       clear hyk hxl
       obtain ⟨xp, xi⟩ := x
       go_wp2
       go_quiet (fail)
       go_wp2
       go_roundw
       case rel => exact ⟨ix + 1, _, rfl, by go_num, Lib.hid hlt, rfl⟩
       case measure => simp [intOf]; omega
      ·have hne : ((ix : Int) != (k : Int)) = true := bne_iff_ne.2 (by omega)
       have e9 := Hko.out ix hik
       rw [hyk, hxl] at e9
       obtain rfl : yk = xl := Option.some.inj e9
       clear hyk hxl e9 hik
       obtain ⟨yp, yi⟩ := yk
       go_wp2
       go_quiet (fail)
       go_wp2
       go_roundw
       case rel => exact ⟨ix + 1, _, rfl, by go_num, Lib.hid hlt, rfl⟩
       case measure => simp [intOf]; omega
     ·obtain rfl : n = ix := by have := hi.out; omega
      obtain ⟨b1, o1, yk, e1, _, hyk, _, _⟩ := HY.out.fil hkn
      cases e1
      obtain rfl : (x.1, ic) = yk := Option.some.inj (Hkx.out.symm.trans hyk)
      obtain ⟨xp, xi⟩ := x
      have U1 : Hid (∀ V, Below (w11.drewN q').heap.size (w11.drewN q') V → V.cell? ⟨g11, k * 2 + 1, none⟩ = some (S ic)) := Lib.hid (fun V hV => by
       obtain ⟨b2, o2, y2, e2, _, hy2, _, z1⟩ := (HY.out.below ((below_drewN (Below.refl _ w11) q').trans hV)).fil hkn
       cases e2
       rw [Hkx.out] at hy2
       cases hy2
       simpa using z1)
      have U2 : Hid (∀ V, Below (w11.drewN q').heap.size (w11.drewN q') V → V.cell? ⟨bA, oA + k * 2 + 1, none⟩ = some (S xi)) := Lib.hid (fun V hV => by
       obtain ⟨b2, o2, y2, e2, _, hy2, _, z1⟩ := (HL11.out.below ((below_drewN (Below.refl _ w11) q').trans hV)).fil hkn
       cases e2
       rw [Hx.out] at hy2
       cases hy2
       exact z1)
      have Bd : Hid (Below w.heap.size w (w11.drewN q')) := Lib.hid (below_drewN B11.out q')
      clear hyk
      go_wp2
      refine wp_region_guards (by kernel_rfl) 22 (by kernel_rfl) ?_ (to21Phi bA oA n c k g11 c11 cb s1 s2 ic xi bq) to21Phi_mono (fun i9 o hi ho a w hb hs hm => ?_) (fun o ho a w5 hb hs hm => ?_)
      ·exact dst_ltC2 (n := 165) (by kernel_rfl)
      ·exact match i9, hi, ho with
        | 0, _, ho => by
          cases ho
          rw [if_pos (wanted_none _ rfl)]
          refine wp_value (st_move rfl ((hs.keeps (by kernel_rfl)).trans rfl)) ⟨_, rfl, rfl, Below.refl _ _⟩
        | 1, _, ho => by
          cases ho
          rw [if_pos (wanted_none _ rfl)]
          refine wp_value (st_move rfl ((hs.keeps (by kernel_rfl)).trans rfl)) ⟨_, rfl, rfl, Below.refl _ _⟩
        | 2, _, ho => by
          cases ho
          rw [if_pos (wanted_none _ rfl)]
          have h1 := eval_getD (hm.get 0 143 (by kernel_rfl)); have h2 := eval_getD (hm.get 1 144 (by kernel_rfl)); unfold Oper.wp; simp only [execOp]; go_simp; exact ⟨_, rfl, (by first | rfl | simp), Below.refl _ _⟩
        | 3, _, ho => by
          cases ho
          rw [if_pos (wanted_none _ rfl)]
          refine wp_value (st_field rfl (hm.get 2 145 (by kernel_rfl)) (by kernel_rfl)) ⟨_, rfl, rfl, Below.refl _ _⟩
        | 4, _, ho => by
          cases ho
          rw [if_pos (wanted_none _ rfl)]
          have hx := U1.out w hb; have h1 := eval_getD (hm.get 3 146 (by kernel_rfl)); unfold Oper.wp; simp only [execOp]; go_simp; exact ⟨_, rfl, (by first | rfl | simp), Below.refl _ _⟩
        | 5, _, ho => by
          cases ho
          rw [if_pos (wanted_none _ rfl)]
          refine wp_value (st_move rfl ((hs.keeps (by kernel_rfl)).trans rfl)) ⟨_, rfl, rfl, Below.refl _ _⟩
        | 6, _, ho => by
          cases ho
          rw [if_pos (wanted_none _ rfl)]
          have h1 := eval_getD (hm.get 5 148 (by kernel_rfl)); unfold Oper.wp; simp only [execOp]; go_simp; refine (CI.out w).mono ?_; rintro e w6 ⟨rfl, b6⟩; exact ⟨_, rfl, rfl, b6⟩
        | 7, _, ho => by
          cases ho
          rw [if_pos (wanted_none _ rfl)]
          have h1 := eval_getD (hm.get 4 147 (by kernel_rfl)); have h2 := eval_getD (hm.get 6 149 (by kernel_rfl)); unfold Oper.wp; simp only [execOp]; go_simp; exact ⟨_, rfl, (by first | rfl | simp), Below.refl _ _⟩
        | 8, _, ho => by
          cases ho
          rw [if_pos (wanted_none _ rfl)]
          refine wp_value (st_move rfl (hm.get 7 150 (by kernel_rfl))) ⟨_, rfl, rfl, Below.refl _ _⟩
        | 9, _, ho => by
          cases ho
          generalize hW : Region.wanted _ _ = W
          obtain rfl : W = (true == true) := hW.symm.trans (wanted_of rfl rfl rfl (show a.eval (.tmp 151) = .bool true from (hm.get 8 151 (by kernel_rfl))))
          clear hW
          rw [if_pos (show (true == true) = true by decide)]
          refine wp_value (st_move rfl ((hs.keeps (by kernel_rfl)).trans rfl)) ⟨_, rfl, rfl, Below.refl _ _⟩
        | 10, _, ho => by
          cases ho
          generalize hW : Region.wanted _ _ = W
          obtain rfl : W = (true == true) := hW.symm.trans (wanted_of rfl rfl rfl (show a.eval (.tmp 151) = .bool true from (hm.get 8 151 (by kernel_rfl))))
          clear hW
          rw [if_pos (show (true == true) = true by decide)]
          refine wp_value (st_move rfl ((hs.keeps (by kernel_rfl)).trans rfl)) ⟨_, rfl, rfl, Below.refl _ _⟩
        | 11, _, ho => by
          cases ho
          generalize hW : Region.wanted _ _ = W
          obtain rfl : W = (true == true) := hW.symm.trans (wanted_of rfl rfl rfl (show a.eval (.tmp 151) = .bool true from (hm.get 8 151 (by kernel_rfl))))
          clear hW
          rw [if_pos (show (true == true) = true by decide)]
          have h1 := eval_getD (hm.get 9 152 (by kernel_rfl)); have h2 := eval_getD (hm.get 10 153 (by kernel_rfl)); unfold Oper.wp; simp only [execOp]; go_simp; exact ⟨_, rfl, (show Value.bool _ = Value.bool _ by rw [Hq.out.1]), Below.refl _ _⟩
        | 12, _, ho => by
          cases ho
          generalize hW : Region.wanted _ _ = W
          obtain rfl : W = (true == true) := hW.symm.trans (wanted_of rfl rfl rfl (show a.eval (.tmp 151) = .bool true from (hm.get 8 151 (by kernel_rfl))))
          clear hW
          rw [if_pos (show (true == true) = true by decide)]
          refine wp_value (st_move rfl ((hs.keeps (by kernel_rfl)).trans rfl)) ⟨_, rfl, rfl, Below.refl _ _⟩
        | 13, _, ho => by
          cases ho
          generalize hW : Region.wanted _ _ = W
          obtain rfl : W = (true == true) := hW.symm.trans (wanted_of rfl rfl rfl (show a.eval (.tmp 151) = .bool true from (hm.get 8 151 (by kernel_rfl))))
          clear hW
          rw [if_pos (show (true == true) = true by decide)]
          refine wp_value (st_move rfl ((hs.keeps (by kernel_rfl)).trans rfl)) ⟨_, rfl, rfl, Below.refl _ _⟩
        | 14, _, ho => by
          cases ho
          generalize hW : Region.wanted _ _ = W
          obtain rfl : W = (true == true) := hW.symm.trans (wanted_of rfl rfl rfl (show a.eval (.tmp 151) = .bool true from (hm.get 8 151 (by kernel_rfl))))
          clear hW
          rw [if_pos (show (true == true) = true by decide)]
          have h1 := eval_getD (hm.get 12 155 (by kernel_rfl)); have h2 := eval_getD (hm.get 13 156 (by kernel_rfl)); unfold Oper.wp; simp only [execOp]; go_simp; exact ⟨_, rfl, (by first | rfl | simp), Below.refl _ _⟩
        | 15, _, ho => by
          cases ho
          generalize hW : Region.wanted _ _ = W
          obtain rfl : W = (true == true) := hW.symm.trans (wanted_of rfl rfl rfl (show a.eval (.tmp 151) = .bool true from (hm.get 8 151 (by kernel_rfl))))
          clear hW
          rw [if_pos (show (true == true) = true by decide)]
          refine wp_value (st_field rfl (hm.get 14 157 (by kernel_rfl)) (by kernel_rfl)) ⟨_, rfl, rfl, Below.refl _ _⟩
        | 16, _, ho => by
          cases ho
          generalize hW : Region.wanted _ _ = W
          obtain rfl : W = (true == true) := hW.symm.trans (wanted_of rfl rfl rfl (show a.eval (.tmp 151) = .bool true from (hm.get 8 151 (by kernel_rfl))))
          clear hW
          rw [if_pos (show (true == true) = true by decide)]
          have hx := U2.out w hb; have h1 := eval_getD (hm.get 15 158 (by kernel_rfl)); unfold Oper.wp; simp only [execOp]; go_simp; exact ⟨_, rfl, (by first | rfl | simp), Below.refl _ _⟩
        | 17, _, ho => by
          cases ho
          generalize hW : Region.wanted _ _ = W
          obtain rfl : W = (true == true) := hW.symm.trans (wanted_of rfl rfl rfl (show a.eval (.tmp 151) = .bool true from (hm.get 8 151 (by kernel_rfl))))
          clear hW
          rw [if_pos (show (true == true) = true by decide)]
          refine wp_value (st_move rfl ((hs.keeps (by kernel_rfl)).trans rfl)) ⟨_, rfl, rfl, Below.refl _ _⟩
        | 18, _, ho => by
          cases ho
          generalize hW : Region.wanted _ _ = W
          obtain rfl : W = (true == true) := hW.symm.trans (wanted_of rfl rfl rfl (show a.eval (.tmp 151) = .bool true from (hm.get 8 151 (by kernel_rfl))))
          clear hW
          rw [if_pos (show (true == true) = true by decide)]
          have h1 := eval_getD (hm.get 17 160 (by kernel_rfl)); unfold Oper.wp; simp only [execOp]; go_simp; refine (CI.out w).mono ?_; rintro e w6 ⟨rfl, b6⟩; exact ⟨_, rfl, rfl, b6⟩
        | 19, _, ho => by
          cases ho
          generalize hW : Region.wanted _ _ = W
          obtain rfl : W = (true == true) := hW.symm.trans (wanted_of rfl rfl rfl (show a.eval (.tmp 151) = .bool true from (hm.get 8 151 (by kernel_rfl))))
          clear hW
          rw [if_pos (show (true == true) = true by decide)]
          have h1 := eval_getD (hm.get 16 159 (by kernel_rfl)); have h2 := eval_getD (hm.get 18 161 (by kernel_rfl)); unfold Oper.wp; simp only [execOp]; go_simp; exact ⟨_, rfl, (show Value.bool _ = Value.bool _ by rw [Hq.out.2]), Below.refl _ _⟩
        | 20, _, ho => by
          cases ho
          generalize hW : Region.wanted _ _ = W
          obtain rfl : W = (true == true) := hW.symm.trans (wanted_of rfl rfl rfl (show a.eval (.tmp 151) = .bool true from (hm.get 8 151 (by kernel_rfl))))
          clear hW
          rw [if_pos (show (true == true) = true by decide)]
          have h1 := eval_getD (hm.get 11 154 (by kernel_rfl)); have h2 := eval_getD (hm.get 19 162 (by kernel_rfl)); unfold Oper.wp; simp only [execOp]; go_simp; exact ⟨_, rfl, (by first | rfl | simp), Below.refl _ _⟩
        | 21, _, ho => by
          cases ho
          rw [if_pos (wanted_none _ rfl)]
          have h1 := eval_getD (hm.get 8 151 (by kernel_rfl)); have h3 := eval_getD (hm.get 20 163 (by kernel_rfl)); unfold Oper.wp; simp only [execOp]; go_simp; exact ⟨_, rfl, rfl, Below.refl _ _⟩
        | (n + 22), hi, _ => absurd hi (by omega)

      have e1 : a.eval (.tmp 164) = .bool true := by cases ho; exact hm.get 21 164 (by kernel_rfl)
      have hfr := hs.frame [143, 144, 145, 146, 147, 148, 149, 150, 151, 152, 153, 154, 155, 156, 157, 158, 159, 160, 161, 162, 163, 164, 6] (by kernel_rfl)
      have B9 := Lib.hid (bstep Bd.out hb)
      cases ho
      rw [hfr]
      simp only [List.foldl_cons, List.foldl_nil, e1]
      clear hfr hs hm e1 hb
      generalize a.eval (.tmp 143) = u143, a.eval (.tmp 144) = u144, a.eval (.tmp 145) = u145, a.eval (.tmp 146) = u146, a.eval (.tmp 147) = u147, a.eval (.tmp 148) = u148, a.eval (.tmp 149) = u149, a.eval (.tmp 150) = u150, a.eval (.tmp 151) = u151, a.eval (.tmp 152) = u152, a.eval (.tmp 153) = u153, a.eval (.tmp 154) = u154, a.eval (.tmp 155) = u155, a.eval (.tmp 156) = u156, a.eval (.tmp 157) = u157, a.eval (.tmp 158) = u158, a.eval (.tmp 159) = u159, a.eval (.tmp 160) = u160, a.eval (.tmp 161) = u161, a.eval (.tmp 162) = u162, a.eval (.tmp 163) = u163, a.eval (.tmp 6) = u6
      unfold Oper.wp
      simp only [execOp]
      go_simp
      clear a
      go_wp2
      go_ret
      exact ⟨rfl, B9.out⟩
   all_goals
    subst h1 h2
    clear Hz1 Hz2 Hi1 Hi2
    go_wp2
    go_ret
    exact ⟨rfl, B10.out⟩
  all_goals
   rcases Hz2.out with h2 | h2 | h2
   all_goals
    subst h1 h2
    clear Hz1 Hz2 Hi1 Hi2
    go_wp2
    go_ret
    exact ⟨rfl, B10.out⟩
end Go.Proofs.YtifannandfkacaaGreatDoor
