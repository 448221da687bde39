/-
  dolmenlaw13.TreeBack: the law's walk. Conditions: the files can be read, no more than 1048576, no path longer than that; MaxLen holds an int.
-/
import Derived.Test.YtifannandfkacaaGreatDoorTKitTf
import Derived.Test.YtifannandfkacaaGreatDoorTBoth13
import Derived.Test.YtifannandfkacaaGreatDoorTCopy13
import Derived.Test.YtifannandfkacaaGreatDoorTSames
import Derived.Test.YtifannandfkacaaGreatDoorTTreeInj
namespace Go.Proofs.YtifannandfkacaaGreatDoor
open Go.RowKit
open TreeLaw
open PathLaw (Bs)
theorem AllIn.mono {R R' : List Bs} (h : ∀ x ∈ R, x ∈ R') : ∀ (K : Nat) (l : List Fil), AllIn R K l → AllIn R' K l
 | 0, _, _ => trivial
 | K + 1, _, hi => ⟨h _ hi.1, fun d hd => AllIn.mono h K _ (hi.2 d hd)⟩
theorem needAll_le {all : List Bs} (h : ∀ x ∈ all, x.length ≤ 600000) : needAll all ≤ 720100 * all.length := by
 induction all with
 | nil => simp [needAll]
 | cons a t ih =>
  have h1 := ih (fun x hx => h x (by simp [hx]))
  have h2 := h a (by simp)
  have h3 : needP a.length = 100 + 6 * a.length / 5 := rfl
  rw [needAll_cons, List.length_cons]
  omega
def OutW (p m n : Nat) (cap : Int) (L : List DF) (R : List Bs) (l : List Fil) (w : World) (e : Ending) (w' : World) : Prop :=
 ∃ (z : Int) (s : Bs) (R' : List Bs) (n' : Nat) (L' : List DF), e = .returned (.tuple #[S s, I z]) ∧ (z = 0 ∨ z = 1 ∨ z = 7) ∧ (z = 0 → CheckP l ∧ s = rootL l ∧ AllIn R' 151 l) ∧ (∀ x ∈ R, x ∈ R') ∧ n' ≤ n + 2000000000 ∧ DiskAt w' p m n' cap L' ∧ Objs L' R' ∧ costs L' ≤ costs L + 20000000000 ∧ Fr (fun j => j = p ∨ j = m) w w'
set_option maxRecDepth 100000 in
theorem twrite_short (w : World) (q p pk m n : Nat) (L : List DF) (R : List Bs) (A : Option Addr) (na ca : Nat) (l : List Fil) (hS : StoreAt w q p pk) (h : DiskAt w p m n 1099511627776 L) (hO : Objs L R) (hA : Sl w 2 A na (fls l)) (hna : na ≤ 100) (hP : ∀ f ∈ l, f.1.length ≤ 1048576) (hM : MaxL w)
  (hL : costs L ≤ 100000000000) (hn : n ≤ 100000000000) : Calls Tryz.prog 21 #[.pointer (some ⟨q, 0, none⟩), .slice A na ca] w (OutW p m n 1099511627776 L R l w) := by
 have hl := fls_count hA
 have hneed : CheckP l → needAll (treesL l) ≤ 720100 * (treesL l).length := fun hc => needAll_le (fun x hx => by
  obtain ⟨es, rfl, he⟩ := trees_fine hc x hx
  exact encT_len he)
 refine (twrite_any w q p pk m n 1099511627776 L R A na ca l hS h hO hA (by omega) (fun f hf => Nat.le_trans (hP f hf) (by decide)) hM (by decide) (fun hc => by have h1 := hneed hc; have h2 := trees_len hc; omega) ?_).mono ?_
 ·have h2 : n + 100000 * (151 * na + 2) ≤ 200000000000 := by omega
  exact Nat.lt_of_le_of_lt h2 (by decide)
 ·rintro e w' (⟨hc, he, ⟨n', L', h1, h2, h3, h4⟩, hf⟩ | ⟨hc, he, hb⟩)
  ·have h5 := trees_len hc
   have h6 := hneed hc
   refine ⟨writeZ R l, _, writeR R l, n', L', he, ?_, fun h0 => ⟨hc, by rw [if_pos h0], write_in hc h0⟩, fun x hx => putAll_sub _ _ _ hx, ?_, h2, h3, ?_, hf⟩
   ·rcases putAll_or (treesL l) R with h0 | h0
    ·exact .inl h0
    ·exact .inr (.inr h0)
   ·omega
   ·omega
  ·exact ⟨1, [], R, n, L, he, .inr (.inl rfl), fun h0 => absurd h0 (by decide), fun _ hx => hx, by omega, h.step hb, hO, by omega, .of_below hb⟩
set_option maxRecDepth 100000 in
set_option maxHeartbeats 16000000 in
theorem treeBack_law (A : Option Addr) (n c : Nat) (l : List Fil) (B : Option Addr) (j d : Nat) (k : List Fil) (w : World) (hA : Sl w 2 A n (fls l)) (hn : n ≤ 1048576) (hP : ∀ f ∈ l, f.1.length ≤ 1048576) (hB : Sl w 2 B j (fls k)) (hj : j ≤ 1048576) (hQ : ∀ f ∈ k, f.1.length ≤ 1048576) (hM : MaxL w) :
  Calls Tryz.prog 5 #[.slice A n c, .slice B j d] w fun e w' => e = .returned (.bool true) ∧ Below w.heap.size w w' := by
 have C1 := Lib.hid (awake13_any w hM)
 have HA := Lib.hid hA
 have HB := Lib.hid hB
 have HP := Lib.hid hP
 have HQ := Lib.hid hQ
 have HM := Lib.hid hM
 have hln : l.length = n := fls_count hA
 have hlk : k.length = j := fls_count hB
 have Hln := Lib.hid hln
 have Hlk := Lib.hid hlk
 have C2 := Lib.hid both13_nil
 clear hA hB hP hQ hM hln hlk
 go_enter Tryz.func5, Tryz.ntmps5
 go_wp2_with fail
 refine C1.out.mono ?_
 rintro e w1 ⟨rfl, b1⟩
 have B1 := Lib.hid b1
 clear b1 C1
 go_wp2_with fail
 refine (C2.out w1).mono ?_
 rintro e w2 ⟨q, t, p, pk, m, rfl, hS2, hD2, hp2, hm2, _, b2⟩
 have B2 := Lib.hid (bstep B1.out b2)
 have HS2 := Lib.hid hS2
 have HD2 := Lib.hid hD2
 have Hpm : Hid (w.heap.size ≤ p ∧ w.heap.size ≤ m) := Lib.hid ⟨Nat.le_trans B1.out.size hp2, Nat.le_trans B1.out.size hm2⟩
 clear hS2 hD2 hp2 hm2 b2 C2 B1
 by_cases hn1 : n ≤ 100
 ·by_cases hj1 : j ≤ 100
  ·have g1 : decide ((100 : Int) < (n : Int)) = false := decide_eq_false (by omega)
   have g2 : decide ((100 : Int) < (j : Int)) = false := decide_eq_false (by omega)
   have C3 := Lib.hid (mine13_any w2 A n c l (HA.out.below B2.out) (by omega))
   clear hn hj
   go_wp2_with fail
   refine C3.out.mono ?_
   rintro e w3 ⟨A3, c3, rfl, hO3⟩
   have B3 := Lib.hid (bstep B2.out hO3.2)
   have HS3 := Lib.hid (HS2.out.step hO3.2)
   have HD3 := Lib.hid (HD2.out.step hO3.2)
   have C4 := Lib.hid (twrite_short w3 q p pk m 0 [] [] A3 n c3 l HS3.out HD3.out Objs.nil_ hO3.sl hn1 HP.out (HM.out.step B3.out) (by simp [costs]) (by decide))
   clear hO3 C3 HS2 HD2
   go_wp2_with fail
   refine C4.out.mono ?_
   rintro e w4 ⟨z1, s1, R1, n1, L1, rfl, hz1, hi1, _, hn1', hD4, hO4, hc4, hf4⟩
   have hlo : ∀ k, (k = p ∨ k = m) → w.heap.size ≤ k := fun k hk => by have := Hpm.out; rcases hk with rfl | rfl <;> omega
   have Hlo := Lib.hid hlo
   have B4 := Lib.hid (B3.out.trans (hf4.below B3.out.size hlo))
   have HS4 := Lib.hid (HS3.out.fr HD3.out hf4)
   have HD4 := Lib.hid hD4
   have HO4 := Lib.hid hO4
   have Hz1 := Lib.hid hz1
   have Hi1 := Lib.hid hi1
   have Hb4 : Hid (n1 ≤ 2000000000 ∧ costs L1 ≤ 20000000000) := Lib.hid ⟨by omega, by simpa [costs] using hc4⟩
   have C5 := Lib.hid (mine13_any w4 B j d k (HB.out.below B4.out) (by omega))
   clear hz1 hi1 hn1' hD4 hO4 hc4 hf4 hlo C4 HS3 HD3
   go_wp2_with fail
   refine C5.out.mono ?_
   rintro e w5 ⟨A5, c5, rfl, hO5⟩
   have B5 := Lib.hid (bstep B4.out hO5.2)
   have HS5 := Lib.hid (HS4.out.step hO5.2)
   have HD5 := Lib.hid (HD4.out.step hO5.2)
   have C6 := Lib.hid (twrite_short w5 q p pk m n1 L1 R1 A5 j c5 k HS5.out HD5.out HO4.out hO5.sl hj1 HQ.out (HM.out.step B5.out) (by have := Hb4.out; omega) (by have := Hb4.out; omega))
   clear hO5 C5 HS4 HD4
   go_wp2_with fail
   refine C6.out.mono ?_
   rintro e w6 ⟨z2, s2, R2, n2, L2, rfl, hz2, hi2, hsub, _, hD6, hO6, _, hf6⟩
   have B6 := Lib.hid (B5.out.trans (hf6.below B5.out.size Hlo.out))
   have HS6 := Lib.hid (HS5.out.fr HD5.out hf6)
   have HD6 := Lib.hid hD6
   have HO6 := Lib.hid hO6
   have Hz2 := Lib.hid hz2
   have Hi2 := Lib.hid hi2
   have Hsub := Lib.hid hsub
   clear hz2 hi2 hsub hD6 hO6 hf6 C6 HS5 HD5
   rcases Hz1.out with h1 | h1 | h1
   ·rcases Hz2.out with h2 | h2 | h2
    ·obtain ⟨hc1, hs1, ha1⟩ := Hi1.out h1
     obtain ⟨hc2, hs2, ha2⟩ := Hi2.out h2
     have ha3 := AllIn.mono Hsub.out 151 l ha1
     have hq : (s1 == s2) = decide (l = k) := by
      by_cases he : l = k
      ·rw [decide_eq_true he, hs1, hs2, he]
       simp
      ·rw [decide_eq_false he]
       refine beq_eq_false_iff_ne.2 fun h => he ?_
       rw [hs1, hs2] at h
       exact root_same HO6.out.apart hc1 hc2 ha3 ha2 h
     have C7 := Lib.hid (tread_any w6 q R2 l hc1 ha3 (objs_trees HS6.out HD6.out HO6.out) (HM.out.step B6.out))
     rw [← hs1] at C7
     have C8 := Lib.hid (fun V (hV : Below w6.heap.size w6 V) => tread_any V q R2 k hc2 ha2 (objs_trees (HS6.out.step hV) (HD6.out.step hV) HO6.out) (HM.out.step (bstep B6.out hV)))
     rw [← hs2] at C8
     have Hq := Lib.hid hq
     subst h1 h2
     clear Hz1 Hz2 Hi1 Hi2 hc1 hs1 ha1 hc2 hs2 ha2 ha3 hq
     rw [Hln.out] at C7
     rw [Hlk.out] at C8
     go_wp2_with fail
     refine C7.out.mono ?_
     rintro e w7 ⟨A7, c7, rfl, hO7⟩
     have B7 := Lib.hid (bstep B6.out hO7.2)
     have HL7 := Lib.hid hO7.sl
     have C8' := Lib.hid (C8.out w7 hO7.2)
     clear hO7 C7 C8
     go_wp2_with fail
     refine C8'.out.mono ?_
     rintro e w8 ⟨A8, c8, rfl, hO8⟩
     have B8 := Lib.hid (bstep B7.out hO8.2)
     have HL8 := Lib.hid (HL7.out.below hO8.2)
     have HK8 := Lib.hid hO8.sl
     have C9 := Lib.hid (theirs13_any w8 A7 n c7 l HL8.out (by omega))
     clear hO8 C8' HL7
     go_wp2_with fail
     refine C9.out.mono ?_
     rintro e w9 ⟨A9, c9, rfl, hO9⟩
     have B9 := Lib.hid (bstep B8.out hO9.2)
     have HK9 := Lib.hid (HK8.out.below hO9.2)
     have C10 := Lib.hid (sameFiles_any w9 A9 A n n c9 c l l hO9.sl (HA.out.below B9.out) (by omega))
     rw [show decide (l = l) = true from decide_eq_true rfl] at C10
     clear hO9 C9 HK8
     go_wp2_with fail
     refine C10.out.mono ?_
     rintro e w10 ⟨rfl, ⟨x10, hx10⟩⟩
     have b10 : Below w9.heap.size w9 w10 := by rw [hx10]; exact below_drewN (Below.refl _ _) _
     have B10 := Lib.hid (bstep B9.out b10)
     have HK10 := Lib.hid (HK9.out.below b10)
     have C11 := Lib.hid (theirs13_any w10 A8 j c8 k HK10.out (by omega))
     clear hx10 b10 C10 HK9
     go_wp2_with fail
     refine C11.out.mono ?_
     rintro e w11 ⟨A11, c11, rfl, hO11⟩
     have B11 := Lib.hid (bstep B10.out hO11.2)
     have C12 := Lib.hid (sameFiles_any w11 A11 B j j c11 d k k hO11.sl (HB.out.below B11.out) (by omega))
     rw [show decide (k = k) = true from decide_eq_true rfl] at C12
     clear hO11 C11
     go_wp2_with fail
     refine C12.out.mono ?_
     rintro e w12 ⟨rfl, ⟨x12, hx12⟩⟩
     have b12 : Below w11.heap.size w11 w12 := by rw [hx12]; exact below_drewN (Below.refl _ _) _
     have B12 := Lib.hid (bstep B11.out b12)
     have C13 := Lib.hid (sameFiles_any w12 A B n j c d l k (HA.out.below B12.out) (HB.out.below B12.out) (by omega))
     clear hx12 b12 C12
     have hq9 := Hq.out
     go_wp2_with fail
     refine C13.out.mono ?_
     rintro e w13 ⟨rfl, ⟨x13, hx13⟩⟩
     have b13 : Below w12.heap.size w12 w13 := by rw [hx13]; exact below_drewN (Below.refl _ _) _
     have B13 := Lib.hid (bstep B12.out b13)
     clear hx13 b13 C13
     go_wp2
     go_ret
     exact ⟨by first | rfl | simp, B13.out⟩
    all_goals
     subst h1 h2
     clear Hz1 Hz2 Hi1 Hi2
     go_wp2
     go_ret
     exact ⟨rfl, B6.out⟩
   all_goals
    rcases Hz2.out with h2 | h2 | h2
    all_goals
     subst h1 h2
     clear Hz1 Hz2 Hi1 Hi2
     go_wp2
     go_ret
     exact ⟨rfl, B6.out⟩
  ·have g1 : decide ((100 : Int) < (n : Int)) = false := decide_eq_false (by omega)
   have g2 : decide ((100 : Int) < (j : Int)) = true := decide_eq_true (by omega)
   clear hn hj
   go_wp2
   go_ret
   exact ⟨rfl, B2.out⟩
 ·have g1 : decide ((100 : Int) < (n : Int)) = true := decide_eq_true (by omega)
  clear hn hj
  go_wp2
  go_ret
  exact ⟨rfl, B2.out⟩
end Go.Proofs.YtifannandfkacaaGreatDoor
