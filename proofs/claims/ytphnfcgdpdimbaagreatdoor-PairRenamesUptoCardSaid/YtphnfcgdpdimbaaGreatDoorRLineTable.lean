/-
  line.longest: the table of longest common parts, and the closure that asks it. Conditions: slices read as lists; the table is within reach.
-/
import Derived.Test.YtphnfcgdpdimbaaGreatDoorRKitLa
import Derived.Deep.OwnRows
import Derived.BigRegion
import Derived.StillTailTactics
import Derived.IntWalk
import Derived.Deep.RegionHeld3
import Derived.Outline
namespace Go.Proofs.YtphnfcgdpdimbaaGreatDoor
open Go.RowKit
structure Tab (ss ss' : List (List UInt8)) (n n' : Nat) (m : Nat) (cs : Array Value) : Prop where
 size : cs.size = (n + 1) * (n' + 1)
 int : ∀ x, x < cs.size → ∃ z : Int, cs[x]? = some (I z)
 val : ∀ p q, p ≤ n → q ≤ n' → (m ≤ p * (n' + 1) + q ∨ q = n') → cs[p * (n' + 1) + q]? = some (I (LineLaw.L (ss.drop p) (ss'.drop q) : Nat))
theorem tab_lt {n n' p q : Nat} (hp : p ≤ n) (hq : q ≤ n') : p * (n' + 1) + q < (n + 1) * (n' + 1) := by
 have h1 : p * (n' + 1) ≤ n * (n' + 1) := Nat.mul_le_mul_right _ hp
 rw [Nat.add_mul, Nat.one_mul]; omega
theorem tab_start {ss ss' : List (List UInt8)} {n n' : Nat} (hl : ss.length = n) (hl' : ss'.length = n') : Tab ss ss' n n' (n * (n' + 1)) (madeCells #[I 0] ((n + 1) * (n' + 1))) := by
 have key : ∀ x, x < (n + 1) * (n' + 1) → (madeCells #[I 0] ((n + 1) * (n' + 1)))[x]? = some (I 0) := by
  intro x hx
  simp [madeCells, hx, Nat.mod_one]
 refine ⟨size_madeCells _ _, fun x hx => ⟨0, key x (by rwa [size_madeCells] at hx)⟩, fun p q hp hq h => ?_⟩
 rw [key _ (tab_lt hp hq)]
 have h0 : LineLaw.L (ss.drop p) (ss'.drop q) = 0 := by
  rcases h with h | h
  ·have : p = n := by
    rcases Nat.lt_or_ge p n with h1 | h1
    ·have : (p + 1) * (n' + 1) ≤ n * (n' + 1) := Nat.mul_le_mul_right _ h1
     rw [Nat.add_mul, Nat.one_mul] at this
     omega
    ·omega
   rw [List.drop_eq_nil_of_le (by omega), LineLaw.L_nil_left]
  ·rw [show ss'.drop q = [] from List.drop_eq_nil_of_le (by omega), LineLaw.L_nil_right]
 rw [h0]; rfl
theorem tab_next {ss ss' : List (List UInt8)} {n n' i j : Nat} {cs : Array Value} {v : Nat} (h : Tab ss ss' n n' (i * (n' + 1) + (j + 1)) cs) (hi : i < n) (hj : j < n') (hv : v = LineLaw.L (ss.drop i) (ss'.drop j)) :
  Tab ss ss' n n' (i * (n' + 1) + j) (cs.setIfInBounds (i * (n' + 1) + j) (I v)) := by
 have hlt : i * (n' + 1) + j < cs.size := by rw [h.size]; exact tab_lt (by omega) (by omega)
 refine ⟨by rw [Array.size_setIfInBounds]; exact h.size, fun x hx => ?_, fun p q hp hq hm => ?_⟩
 ·rw [Array.size_setIfInBounds] at hx
  by_cases e : i * (n' + 1) + j = x
  ·subst e; exact ⟨v, by simp [hlt]⟩
  ·rw [Array.getElem?_setIfInBounds_ne e]; exact h.int x hx
 ·by_cases e : i * (n' + 1) + j = p * (n' + 1) + q
  ·have e1 : i = p ∧ j = q := by
    rcases Nat.lt_trichotomy i p with h1 | h1 | h1
    ·have : (i + 1) * (n' + 1) ≤ p * (n' + 1) := Nat.mul_le_mul_right _ h1
     rw [Nat.add_mul, Nat.one_mul] at this; omega
    ·subst h1; exact ⟨rfl, by omega⟩
    ·have : (p + 1) * (n' + 1) ≤ i * (n' + 1) := Nat.mul_le_mul_right _ h1
     rw [Nat.add_mul, Nat.one_mul] at this; omega
   obtain ⟨rfl, rfl⟩ := e1
   simp [hlt, hv]
  ·rw [Array.getElem?_setIfInBounds_ne e]
   refine h.val p q hp hq ?_
   rcases hm with hm | hm
   ·left; omega
   ·exact .inr hm
theorem tab_row {ss ss' : List (List UInt8)} {n n' i : Nat} {cs : Array Value} (h : Tab ss ss' n n' ((i + 1) * (n' + 1)) cs) : Tab ss ss' n n' (i * (n' + 1) + n') cs := by
 refine ⟨h.size, h.int, fun p q hp hq hm => ?_⟩
 refine h.val p q hp hq ?_
 rcases hm with hm | hm
 ·rcases Nat.lt_or_ge (p * (n' + 1) + q) ((i + 1) * (n' + 1)) with h1 | h1
  ·right
   rw [Nat.add_mul, Nat.one_mul] at h1
   have h2 : p * (n' + 1) + q = i * (n' + 1) + n' := by omega
   rcases Nat.lt_trichotomy p i with h3 | h3 | h3
   ·have : (p + 1) * (n' + 1) ≤ i * (n' + 1) := Nat.mul_le_mul_right _ h3
    rw [Nat.add_mul, Nat.one_mul] at this; omega
   ·subst h3; omega
   ·have : (i + 1) * (n' + 1) ≤ p * (n' + 1) := Nat.mul_le_mul_right _ h3
    rw [Nat.add_mul, Nat.one_mul] at this; omega
  ·exact .inl h1
 ·exact .inr hm
theorem Tryz.infoInt : (Tryz.prog.info? 3).map (fun i => (i.zero, i.size, i.bytes)) = some (some (.int .i64 0), 1, 8) := by kernel_rfl
structure Tabs (wr : World) (b n' N : Nat) (cs : Array Value) : Prop where
 wide : Blk wr b 3 #[I ((n' : Int) + 1)]
 cells : Blk wr (b + 1) 3 cs
 row : Blk wr (b + 1 + 1) 49 #[.slice (some ⟨b + 1, 0, none⟩) N N]
theorem Tabs.set {wr : World} {b n' N : Nat} {cs : Array Value} (h : Tabs wr b n' N cs) (m o : Nat) (v : Value) : Tabs ((wr.drewN m).setCell ⟨b + 1, o, none⟩ v) b n' N (cs.setIfInBounds o v) :=
 ⟨(h.wide.drewN m).far (by simp) v, (h.cells.drewN m).set_ o v, (h.row.drewN m).far (by simp) v⟩
theorem L_eq {ss ss' : List (List UInt8)} {i j : Nat} {s s' : List UInt8} (hs : ss[i]? = some s) (hs' : ss'[j]? = some s') (e : s = s') : ((LineLaw.L (ss.drop (i + 1)) (ss'.drop (j + 1)) : Nat) : Int) + 1 = (LineLaw.L (ss.drop i) (ss'.drop j) : Nat) := by
 obtain ⟨h1, e1⟩ := List.getElem?_eq_some_iff.1 hs
 obtain ⟨h2, e2⟩ := List.getElem?_eq_some_iff.1 hs'
 rw [List.drop_eq_getElem_cons h1, List.drop_eq_getElem_cons h2, e1, e2, LineLaw.L_cons_cons, if_pos e]
 simp
theorem L_ne {ss ss' : List (List UInt8)} {i j : Nat} {s s' : List UInt8} (hs : ss[i]? = some s) (hs' : ss'[j]? = some s') (e : ¬ s = s') :
  (if LineLaw.L (ss.drop (i + 1)) (ss'.drop j) < LineLaw.L (ss.drop i) (ss'.drop (j + 1)) then ((LineLaw.L (ss.drop i) (ss'.drop (j + 1)) : Nat) : Int) else (LineLaw.L (ss.drop (i + 1)) (ss'.drop j) : Nat)) = (LineLaw.L (ss.drop i) (ss'.drop j) : Nat) := by
 obtain ⟨h1, e1⟩ := List.getElem?_eq_some_iff.1 hs
 obtain ⟨h2, e2⟩ := List.getElem?_eq_some_iff.1 hs'
 have h3 : LineLaw.L (ss.drop i) (ss'.drop j) = max (LineLaw.L (ss.drop (i + 1)) (ss'.drop j)) (LineLaw.L (ss.drop i) (ss'.drop (j + 1))) := by
  rw [List.drop_eq_getElem_cons h1, List.drop_eq_getElem_cons h2, e1, e2, LineLaw.L_cons_cons, if_neg e]
 rw [h3]
 split <;> omega
theorem keep_off {w : World} {m b o o' : Nat} {v u : Value} (h : w.cell? ⟨b, o', none⟩ = some v) (hne : o ≠ o') : ((w.drewN m).setCell ⟨b, o, none⟩ u).cell? ⟨b, o', none⟩ = some v := by
 rw [World.cell?_setCell_other _ _ _ _ (fun e => hne (congrArg Addr.off e))]; exact h
theorem keep_far {w : World} {m b b' o o' : Nat} {v u : Value} (h : w.cell? ⟨b', o', none⟩ = some v) (hne : b ≠ b') : ((w.drewN m).setCell ⟨b, o, none⟩ u).cell? ⟨b', o', none⟩ = some v := by
 rw [World.cell?_setCell_other _ _ _ _ (fun e => hne (congrArg Addr.block e))]; exact h
set_option maxHeartbeats 4000000 in
set_option maxRecDepth 100000 in
theorem longestL_any (A A' : Option Addr) (n n' c c' : Nat) (ss ss' : List (List UInt8)) (w : World) (hA : Sl w 1 A n (strs ss)) (hA' : Sl w 1 A' n' (strs ss')) (hN : (n + 1) * (n' + 1) ≤ 17592186044416) :
  Calls Tryz.prog 277 #[.slice A n c, .slice A' n' c'] w fun e w' => e = .returned (.func (.func 319) #[] #[.pointer (some ⟨w.heap.size + 1 + 1, 0, none⟩), .pointer (some ⟨w.heap.size, 0, none⟩)]) ∧
   (∃ cs, Tabs w' w.heap.size n' ((n + 1) * (n' + 1)) cs ∧ Tab ss ss' n n' 0 cs) ∧ Below w.heap.size w w' := by
 have hl := Lib.hid (strs_len hA)
 have hl' := Lib.hid (strs_len hA')
 have h1 : n + 1 ≤ (n + 1) * (n' + 1) := Nat.le_mul_of_pos_right _ (by omega)
 have h2 : n' + 1 ≤ (n + 1) * (n' + 1) := Nat.le_mul_of_pos_left _ (by omega)
 obtain ⟨N, hNe⟩ : ∃ N, (n + 1) * (n' + 1) = N := ⟨_, rfl⟩
 have hmul : ((n : Int) + 1) * ((n' : Int) + 1) = (N : Int) := by rw [← hNe]; simp
 have hmk := run_make_row' (P := Tryz.prog) 49 3 (I 0) 8 Tryz.underlying49 Tryz.infoInt rfl .i64 .i64 N (by omega) (by omega)
 have HNe := Lib.hid hNe
 rw [hNe] at h1 h2 hN
 clear hNe
 have HA := Lib.hid hA
 have HA' := Lib.hid hA'
 clear hA hA'
 go_enter Tryz.func277, Tryz.ntmps277
 go_wp2
 go_loopw [7] (fun i wr => ∃ (k : Nat) (cs : Array Value), k ≤ n ∧ i = .int .i64 ((k : Int) - 1) ∧ Tabs wr w.heap.size n' N cs ∧ Tab ss ss' n n' (k * (n' + 1)) cs ∧ Below w.heap.size w wr) (fun i _ => (intOf i + 1).toNat)
 case atStart =>
  refine ⟨n, madeCells #[I 0] N, Nat.le_refl _, rfl, ⟨?_, ?_, ?_⟩, by rw [← HNe.out]; exact tab_start hl.out hl'.out, ?_⟩
  ·exact ((Blk.new w _ _).alloc _).alloc _
  ·have h := (Blk.new (w.alloc (Obj.cells #[I ((n' : Int) + 1)] 3)) 3 (madeCells #[I 0] N)).alloc (.cells #[Value.slice (some ⟨w.heap.size + 1, 0, none⟩) N N] 49)
   simpa using h
  ·have h := Blk.new ((w.alloc (Obj.cells #[I ((n' : Int) + 1)] 3)).alloc (Obj.cells (madeCells #[I 0] N) 3)) 49 #[Value.slice (some ⟨w.heap.size + 1, 0, none⟩) N N]
   simpa using h
  ·exact balloc (balloc (balloc (Below.refl _ _) _) _) _
 case round =>
  obtain ⟨k, cs, hk, hi, hT, hG, hB⟩ := hrel
  have HT := Lib.hid hT
  have HG := Lib.hid hG
  have HB := Lib.hid hB
  clear hT hG hB hmk hmul
  by_cases hk0 : k = 0
  ·subst hk0
   subst hi
   go_wp2
   go_ret
   exact ⟨rfl, ⟨cs, by rw [HNe.out]; exact HT.out, by have := HG.out; rwa [Nat.zero_mul] at this⟩, HB.out⟩
  ·obtain ⟨i, rfl⟩ : ∃ i, k = i + 1 := ⟨k - 1, by omega⟩
   have hi' := hi
   rw [show ((i + 1 : Nat) : Int) - 1 = (i : Int) by omega] at hi'
   clear hi
   subst hi'
   obtain ⟨wo, hwo⟩ : ∃ wo : World, wo = wr := ⟨_, rfl⟩
   subst hwo
   go_wp2
   go_loopw [8] (fun j wr => ∃ (k : Nat) (cs : Array Value), k ≤ n' ∧ j = .int .i64 ((k : Int) - 1) ∧ Tabs wr w.heap.size n' N cs ∧ Tab ss ss' n n' (i * (n' + 1) + k) cs ∧ Below w.heap.size w wr) (fun j _ => (intOf j + 1).toNat)
   case atStart => exact ⟨n', cs, Nat.le_refl _, rfl, HT.out, tab_row HG.out, HB.out⟩
   case round =>
    obtain ⟨k, cs, hk, hj, hT, hG, hB⟩ := hrel
    by_cases hk0 : k = 0
    ·subst hk0
     subst hj
     have HT := Lib.hid hT
     have HG := Lib.hid hG
     have HB := Lib.hid hB
     clear hT hG hB
     go_wp2
     go_roundw
     case rel => exact ⟨i, cs, by omega, rfl, HT.out, HG.out, HB.out⟩
     case measure => simp [intOf]
    ·obtain ⟨j, rfl⟩ : ∃ j, k = j + 1 := ⟨k - 1, by omega⟩
     have hj' := hj
     rw [show ((j + 1 : Nat) : Int) - 1 = (j : Int) by omega] at hj'
     clear hj
     subst hj'
     obtain ⟨b, off, s, rfl, hs, hc⟩ := (HA.out.below hB).str (k := i) (by omega)
     obtain ⟨b', off', s', rfl, hs', hc'⟩ := (HA'.out.below hB).str (k := j) (by omega)
     obtain ⟨P, hP⟩ : ∃ P, i * (n' + 1) = P := ⟨_, rfl⟩
     obtain ⟨Q, hQ⟩ : ∃ Q, P + n' + 1 = Q := ⟨_, rfl⟩
     have hPm : (i : Int) * ((n' : Int) + 1) = (P : Int) := by rw [← hP]; simp
     have hQm : ((i : Int) + 1) * ((n' : Int) + 1) = (Q : Int) := by rw [Int.add_mul, hPm]; omega
     have hbd : Q + n' < N := by
      have := tab_lt (n := n) (n' := n') (p := i + 1) (q := n') (by omega) (by omega)
      rw [Nat.add_mul, hP, HNe.out] at this; omega
     have t1 := hG.val (i + 1) (j + 1) (by omega) (by omega) (.inl (by rw [Nat.add_mul]; omega))
     have t2 := hG.val (i + 1) j (by omega) (by omega) (.inl (by rw [Nat.add_mul]; omega))
     have t3 := hG.val i (j + 1) (by omega) (by omega) (.inl (by omega))
     obtain ⟨z, t0⟩ := hG.int (P + j) (by rw [hG.size, HNe.out]; omega)
     rw [Nat.add_mul, hP, Nat.one_mul, ← Nat.add_assoc, ← Nat.add_assoc, hQ] at t1
     rw [Nat.add_mul, hP, Nat.one_mul, ← Nat.add_assoc, hQ] at t2
     rw [hP, ← Nat.add_assoc] at t3
     have c0 := (hT.cells.cell _).trans t0
     have c1 := (hT.cells.cell _).trans t1
     have c2 := (hT.cells.cell _).trans t2
     have c3 := (hT.cells.cell _).trans t3
     have f0 := hT.cells.frozen (P + j)
     have r0 := hT.wide.cell 0
     have r2 := hT.row.cell 0
     simp at r0 r2
     have e1 : IntKind.i64.wrap ((i : Int) + 1) = (i : Int) + 1 := IntWalk.i64_in _ (by omega)
     have e2 : IntKind.i64.wrap (P : Int) = (P : Int) := IntWalk.i64_in _ (by omega)
     have e3 : IntKind.i64.wrap ((P : Int) + j) = (P : Int) + j := IntWalk.i64_in _ (by omega)
     have e4 : IntKind.i64.wrap (Q : Int) = (Q : Int) := IntWalk.i64_in _ (by omega)
     have e5 : IntKind.i64.wrap ((Q : Int) + j) = (Q : Int) + j := IntWalk.i64_in _ (by omega)
     have e6 : IntKind.i64.wrap ((P : Int) + j + 1) = (P : Int) + j + 1 := IntWalk.i64_in _ (by omega)
     have e7 : IntKind.i64.wrap ((Q : Int) + j + 1) = (Q : Int) + j + 1 := IntWalk.i64_in _ (by omega)
     have g1 : (0 : Int) ≤ (P : Int) + j := by omega
     have g2 : (P : Int) + j < N := by omega
     have g3 : (0 : Int) ≤ (Q : Int) + j := by omega
     have g4 : (Q : Int) + j < N := by omega
     have g5 : (0 : Int) ≤ (P : Int) + j + 1 := by omega
     have g6 : (P : Int) + j + 1 < N := by omega
     have g7 : (0 : Int) ≤ (Q : Int) + j + 1 := by omega
     have g8 : (Q : Int) + j + 1 < N := by omega
     have d1 : ((P : Int) + j).toNat = P + j := by omega
     have d2 : ((P : Int) + j + 1).toNat = P + j + 1 := by omega
     have d3 : ((Q : Int) + j).toNat = Q + j := by omega
     have d4 : ((Q : Int) + j + 1).toNat = Q + j + 1 := by omega
     have hPQ : P < Q := by omega
     have HQ := Lib.hid hQ
     have hLm : LineLaw.L (ss.drop (i + 1)) (ss'.drop (j + 1)) ≤ n := Nat.le_trans (LineLaw.L_le_left _ _) (by simp [hl.out])
     have e8 : IntKind.i64.wrap ((LineLaw.L (ss.drop (i + 1)) (ss'.drop (j + 1)) : Nat) + 1) = ((LineLaw.L (ss.drop (i + 1)) (ss'.drop (j + 1)) : Nat) : Int) + 1 := IntWalk.i64_in _ (by omega)
     clear hQ
     have HT := Lib.hid hT
     have HG := Lib.hid hG
     have HB := Lib.hid hB
     have HPP := Lib.hid hP
     have Hs := Lib.hid hs
     have Hs' := Lib.hid hs'
     clear hT hG hB hP hs hs' t0 t1 t2 t3
     go_wp2
     go_quiet (fail)
     go_wp2
     ·rename_i ht
      have Hss := Lib.hid (show s = s' by simpa using ht)
      go_region_held3 (fun w' => w'.cell? ⟨w.heap.size + 1, Q + j + 1, none⟩ = some (I (LineLaw.L (ss.drop (i + 1)) (ss'.drop (j + 1)) : Nat)) ∧ w'.cell? ⟨w.heap.size, 0, none⟩ = some (I ((n' : Int) + 1)) ∧ w'.cell? ⟨w.heap.size + 1 + 1, 0, none⟩ = some (.slice (some ⟨w.heap.size + 1, 0, none⟩) N N)) (first | (exact ⟨keep_off c1 (by omega), keep_far r0 (by omega), keep_far r2 (by omega)⟩) | go_keep) (fail)
      go_wp2
      go_roundw
      case rel =>
       rw [L_eq Hs.out Hs'.out Hss.out]
       exact ⟨j, _, by omega, rfl, HT.out.set _ _ _, by rw [← HPP.out]; exact tab_next HG.out (by omega) (by omega) rfl, (below_drewN HB.out _).setCell (by simp) _⟩
      case measure => simp [intOf]
     ·rename_i ht
      have Hss := Lib.hid (show ¬ s = s' by simpa using ht)
      go_region_held3 (fun w' => w'.cell? ⟨w.heap.size + 1, Q + j, none⟩ = some (I (LineLaw.L (ss.drop (i + 1)) (ss'.drop j) : Nat)) ∧ w'.cell? ⟨w.heap.size + 1, P + j + 1, none⟩ = some (I (LineLaw.L (ss.drop i) (ss'.drop (j + 1)) : Nat)) ∧ w'.cell? ⟨w.heap.size, 0, none⟩ = some (I ((n' : Int) + 1)) ∧ w'.cell? ⟨w.heap.size + 1 + 1, 0, none⟩ = some (.slice (some ⟨w.heap.size + 1, 0, none⟩) N N)) (first | (exact ⟨keep_off c2 (by omega), keep_off c3 (by omega), keep_far r0 (by omega), keep_far r2 (by omega)⟩) | go_keep) (fail)
      go_wp2
      go_roundw
      case rel =>
       rw [L_ne Hs.out Hs'.out Hss.out]
       exact ⟨j, _, by omega, rfl, HT.out.set _ _ _, by rw [← HPP.out]; exact tab_next HG.out (by omega) (by omega) rfl, (below_drewN HB.out _).setCell (by simp) _⟩
      case measure => simp [intOf]
end Go.Proofs.YtphnfcgdpdimbaaGreatDoor
