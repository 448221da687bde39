/-
  dolmenref15.table: the document's table of longest common parts, a row of rows. Conditions: slices read as lists, short ones.
-/
import Derived.Test.YtphnfcgdpdimbaaGreatDoorRLineTable
import Derived.Test.YtphnfcgdpdimbaaGreatDoorRKitW
namespace Go.Proofs.YtphnfcgdpdimbaaGreatDoor
open Go.RowKit
theorem Tryz.infoInts : (Tryz.prog.info? 49).map (fun i => (i.zero, i.size, i.bytes)) = some (some (.slice none 0 0), 1, 24) := by kernel_rfl
abbrev rowV (n' g : Nat) : Value := .slice (some ⟨g, 0, none⟩) (n' + 1) (n' + 1)
theorem sl_one' (w : World) (t : TypeId) (v : Value) (k : Nat) (hk : w.heap.size = k) : Sl (w.alloc (.cells #[v] t)) 1 (some ⟨k, 0, none⟩) 1 [v] := by subst hk; exact sl_one w t v
structure RB (w wr : World) (n' : Nat) (A : Option Addr) (m c : Nat) (gs : List Nat) (css : Nat → Array Value) : Prop where
 own : Ow w wr 49 1 A m c (gs.map (rowV n'))
 cells : ∀ p g, gs[p]? = some g → Blk wr g 3 (css p)
 ge : ∀ g ∈ gs, w.heap.size ≤ g
 nd : gs.Nodup
theorem RB.len {w wr : World} {n' m c : Nat} {A : Option Addr} {gs : List Nat} {css : Nat → Array Value} (h : RB w wr n' A m c gs css) : gs.length = m := by have := h.own.len; simpa using this
theorem RB.lt {w wr : World} {n' m c : Nat} {A : Option Addr} {gs : List Nat} {css : Nat → Array Value} (h : RB w wr n' A m c gs css) : ∀ g ∈ gs, g < wr.heap.size := by
 intro g hg
 obtain ⟨p, hp⟩ := List.getElem?_of_mem hg
 exact (h.cells p g hp).lt
theorem RB.add {w wr w' : World} {n' m c c' : Nat} {A A' : Option Addr} {gs : List Nat} {cs0 : Array Value} {t : TypeId} (ht : t = 49) (h : RB w wr n' A m c gs (fun _ => cs0))
  (hO : Ow w w' 49 1 A' (m + 1) c' (gs.map (rowV n') ++ [rowV n' wr.heap.size])) (hg : ((wr.alloc (.cells cs0 3)).alloc (.cells #[rowV n' wr.heap.size] t)).grownBy w' (Value.slice A m c).ownBlock) :
  RB w w' n' A' (m + 1) c' (gs ++ [wr.heap.size]) (fun _ => cs0) := by
 subst ht
 have hO0 := (h.own.alloc (.cells cs0 3)).alloc (.cells #[rowV n' wr.heap.size] 49)
 have hlen := h.len
 refine ⟨by simpa using hO, fun p g hp => ?_, fun g hm => ?_, ?_⟩
 ·rcases Nat.lt_or_ge p gs.length with hlt | hge
  ·rw [List.getElem?_append_left hlt] at hp
   have hb := ((h.cells p g hp).alloc (.cells cs0 3)).alloc (.cells #[rowV n' wr.heap.size] 49)
   exact hb.grown hg (row_ne hO0 hb (by decide))
  ·rw [List.getElem?_append_right hge] at hp
   have : g = wr.heap.size := by
    rcases Nat.eq_zero_or_pos (p - gs.length) with h0 | h0
    ·rw [h0] at hp; simpa using hp.symm
    ·rw [List.getElem?_eq_none (by simp; omega)] at hp; cases hp
   subst this
   have hb := (Blk.new wr 3 cs0).alloc (.cells #[rowV n' wr.heap.size] 49)
   exact hb.grown hg (row_ne hO0 hb (by decide))
 ·rcases List.mem_append.1 hm with hm | hm
  ·exact h.ge g hm
  ·simp at hm; subst hm; exact h.own.2.size
 ·rw [List.nodup_append]
  refine ⟨h.nd, by simp, fun a ha b hb => ?_⟩
  simp at hb; subst hb
  have := h.lt a ha
  omega
def put2 (css : Nat → Array Value) (i j : Nat) (v : Value) : Nat → Array Value := fun p => if p = i then (css i).setIfInBounds j v else css p
theorem RB.set {w wr : World} {n' m c : Nat} {A : Option Addr} {gs : List Nat} {css : Nat → Array Value} (h : RB w wr n' A m c gs css) {i g : Nat} (hi : gs[i]? = some g) (q j : Nat) (v : Value) :
  RB w ((wr.drewN q).setCell ⟨g, j, none⟩ v) n' A m c gs (put2 css i j v) := by
 have hb := (h.cells i g hi).drewN q
 have ho := h.own.drewN q
 refine ⟨ho.far (row_ne ho hb (by decide)) (h.ge g (List.mem_of_getElem? hi)) v, fun p g' hp => ?_, h.ge, h.nd⟩
 unfold put2
 split
 ·rename_i e
  subst e
  obtain rfl : g = g' := by rw [hi] at hp; exact Option.some.inj hp
  exact hb.set_ j v
 ·rename_i e
  have hne : g' ≠ g := by
   rintro rfl
   have hlt := (List.getElem?_eq_some_iff.1 hp).1
   exact e ((List.getElem?_inj hlt h.nd).1 (hp.trans hi.symm))
  exact ((h.cells p g' hp).drewN q).far hne v
theorem RB.drewN {w wr : World} {n' m c : Nat} {A : Option Addr} {gs : List Nat} {css : Nat → Array Value} (h : RB w wr n' A m c gs css) (q : Nat) : RB w (wr.drewN q) n' A m c gs css :=
 ⟨h.own.drewN q, fun p g hp => (h.cells p g hp).drewN q, h.ge, h.nd⟩
theorem RB.drew {w wr : World} {n' m c : Nat} {A : Option Addr} {gs : List Nat} {css : Nat → Array Value} (h : RB w wr n' A m c gs css) : RB w wr.drew n' A m c gs css :=
 ⟨h.own.drew, fun p g hp => (h.cells p g hp).drew, h.ge, h.nd⟩
theorem RB.facts {w wr : World} {n' m c : Nat} {A : Option Addr} {gs : List Nat} {css : Nat → Array Value} (h : RB w wr n' A m c gs css) {i : Nat} (hi : i + 1 < m) :
  ∃ r gi gj, A = some ⟨r, 0, none⟩ ∧ gs[i]? = some gi ∧ wr.cell? ⟨r, i, none⟩ = some (rowV n' gi) ∧ wr.cell? ⟨r, i + 1, none⟩ = some (rowV n' gj) ∧ gi ≠ gj ∧ r ≠ gi ∧
   (∀ q, wr.cell? ⟨gi, q, none⟩ = (css i)[q]?) ∧ (∀ q, wr.cell? ⟨gj, q, none⟩ = (css (i + 1))[q]?) ∧ (∀ q, wr.frozen? ⟨gi, q, none⟩ = false) ∧ gi < wr.heap.size ∧ gj < wr.heap.size ∧ r < wr.heap.size := by
 obtain ⟨r, rfl, hr0, hr1⟩ := h.own.form (by omega)
 have hl := h.len
 obtain ⟨gi, hgi⟩ : ∃ g, gs[i]? = some g := ⟨gs[i]'(by omega), List.getElem?_eq_getElem _⟩
 obtain ⟨gj, hgj⟩ : ∃ g, gs[i + 1]? = some g := ⟨gs[i + 1]'(by omega), List.getElem?_eq_getElem _⟩
 have bi := h.cells i gi hgi
 have bj := h.cells (i + 1) gj hgj
 have hne : gi ≠ gj := by
  rintro rfl
  have := (List.getElem?_inj (List.getElem?_eq_some_iff.1 hgi).1 h.nd).1 (hgi.trans hgj.symm)
  omega
 obtain ⟨b, off, e, _, hc⟩ := h.own.sl.2 (by omega)
 cases e
 have c1 := hc i (by omega)
 have c2 := hc (i + 1) (by omega)
 rw [List.getElem?_map, hgi, Nat.zero_add] at c1
 rw [List.getElem?_map, hgj, Nat.zero_add] at c2
 refine ⟨_, gi, gj, rfl, hgi, c1, c2, hne, fun e => row_ne h.own bi (by decide) (by simp [Value.ownBlock, e]), bi.cell, bj.cell, bi.frozen, bi.lt, bj.lt, hr1⟩
structure RTab (ss ss' : List (List UInt8)) (n n' i j : Nat) (css : Nat → Array Value) : Prop where
 int : ∀ p q, p ≤ n → q ≤ n' → ∃ z : Int, (css p)[q]? = some (I z)
 val : ∀ p q, p ≤ n → q ≤ n' → (i < p ∨ (p = i ∧ j ≤ q) ∨ q = n') → (css p)[q]? = some (I (LineLaw.L (ss.drop p) (ss'.drop q) : Nat))
theorem rtab_start {ss ss' : List (List UInt8)} {n n' : Nat} (hl : ss.length = n) (hl' : ss'.length = n') : RTab ss ss' n n' n 0 (fun _ => madeCells #[I 0] (n' + 1)) := by
 have key : ∀ x, x ≤ n' → (madeCells #[I 0] (n' + 1))[x]? = some (I 0) := by
  intro x hx
  have : x < n' + 1 := by omega
  simp [madeCells, this, Nat.mod_one]
 refine ⟨fun p q _ hq => ⟨0, key q hq⟩, fun p q hp hq h => ?_⟩
 rw [key q hq]
 have h0 : LineLaw.L (ss.drop p) (ss'.drop q) = 0 := by
  by_cases h1 : q = n'
  ·rw [show ss'.drop q = [] from List.drop_eq_nil_of_le (by omega), LineLaw.L_nil_right]
  ·rw [List.drop_eq_nil_of_le (by omega), LineLaw.L_nil_left]
 rw [h0]; rfl
theorem rtab_row {ss ss' : List (List UInt8)} {n n' i : Nat} {css : Nat → Array Value} (h : RTab ss ss' n n' (i + 1) 0 css) : RTab ss ss' n n' i n' css :=
 ⟨h.int, fun p q hp hq hm => h.val p q hp hq (by omega)⟩
theorem rtab_put {ss ss' : List (List UInt8)} {n n' i j : Nat} {css : Nat → Array Value} (h : RTab ss ss' n n' i (j + 1) css) (hi : i < n) (hj : j < n') (z : Int) : RTab ss ss' n n' i (j + 1) (put2 css i j (I z)) := by
 have hsz : j < (css i).size := by
  obtain ⟨u, hu⟩ := h.int i j (by omega) (by omega)
  exact (Array.getElem?_eq_some_iff.1 hu).1
 refine ⟨fun p q hp hq => ?_, fun p q hp hq hm => ?_⟩
 ·unfold put2
  split
  ·rename_i e; subst e
   by_cases e2 : j = q
   ·subst e2; exact ⟨z, by rw [Array.getElem?_setIfInBounds_self_of_lt hsz]⟩
   ·rw [Array.getElem?_setIfInBounds_ne e2]; exact h.int p q hp hq
  ·exact h.int p q hp hq
 ·have hv := h.val p q hp hq hm
  unfold put2
  split
  ·rename_i e; subst e
   rw [Array.getElem?_setIfInBounds_ne (by omega)]; exact hv
  ·exact hv
theorem rtab_next {ss ss' : List (List UInt8)} {n n' i j : Nat} {css : Nat → Array Value} (h : RTab ss ss' n n' i (j + 1) css) (hi : i < n) (hj : j < n') {z : Int} (hz : z = (LineLaw.L (ss.drop i) (ss'.drop j) : Nat)) : RTab ss ss' n n' i j (put2 css i j (I z)) := by
 have hsz : j < (css i).size := by
  obtain ⟨u, hu⟩ := h.int i j (by omega) (by omega)
  exact (Array.getElem?_eq_some_iff.1 hu).1
 refine ⟨(rtab_put h hi hj z).int, fun p q hp hq hm => ?_⟩
 by_cases e : p = i ∧ q = j
 ·obtain ⟨rfl, rfl⟩ := e
  unfold put2
  rw [if_pos rfl, Array.getElem?_setIfInBounds_self_of_lt hsz, hz]
 ·exact (rtab_put h hi hj z).val p q hp hq (by omega)
theorem put2_at {css : Nat → Array Value} {i j : Nat} {v : Value} {z : Int} (h : (css i)[j]? = some (I z)) : (put2 css i j v i)[j]? = some v := by
 unfold put2
 rw [if_pos rfl, Array.getElem?_setIfInBounds_self_of_lt (Array.getElem?_eq_some_iff.1 h).1]
theorem L_max3 {ss ss' : List (List UInt8)} {i j X Y Z : Nat} {s s' : List UInt8} (hs : ss[i]? = some s) (hs' : ss'[j]? = some s') (hX : LineLaw.L (ss.drop (i + 1)) (ss'.drop j) = X) (hY : LineLaw.L (ss.drop i) (ss'.drop (j + 1)) = Y) (hZ : LineLaw.L (ss.drop (i + 1)) (ss'.drop (j + 1)) = Z) :
  LineLaw.L (ss.drop i) (ss'.drop j) = if s = s' then max (max X Y) (Z + 1) else max X Y := by
 obtain ⟨h1, e1⟩ := List.getElem?_eq_some_iff.1 hs
 obtain ⟨h2, e2⟩ := List.getElem?_eq_some_iff.1 hs'
 have d1 := List.drop_eq_getElem_cons h1
 have d2 := List.drop_eq_getElem_cons h2
 rw [e1] at d1
 rw [e2] at d2
 rw [d1] at hY ⊢
 rw [d2] at hX ⊢
 rw [LineLaw.L_three, hX, hY, hZ]
set_option maxHeartbeats 4000000 in
set_option maxRecDepth 100000 in
theorem refTable_any (A A' : Option Addr) (n n' c c' : Nat) (ss ss' : List (List UInt8)) (w : World) (hA : Sl w 1 A n (strs ss)) (hA' : Sl w 1 A' n' (strs ss')) (hn : n ≤ 4000000) (hn' : n' ≤ 4000000) :
  Calls Tryz.prog 281 #[.slice A n c, .slice A' n' c'] w fun e w' => ∃ A2 c2 gs css, e = .returned (.slice A2 (n + 1) c2) ∧ RB w w' n' A2 (n + 1) c2 gs css ∧ RTab ss ss' n n' 0 0 css := by
 have hl := Lib.hid (strs_len hA)
 have hl' := Lib.hid (strs_len hA')
 have HA := Lib.hid hA
 have HA' := Lib.hid hA'
 have hmk := run_make_row' (P := Tryz.prog) 49 3 (I 0) 8 Tryz.underlying49 Tryz.infoInt rfl .i64 .i64 (n' + 1) (by omega) (by omega)
 have ec : ((n' + 1 : Nat) : Int) = (n' : Int) + 1 := by omega
 rw [ec] at hmk
 obtain ⟨i0, hi0, hz0, hz1, hz2⟩ := info_parts Tryz.infoInts
 clear hA hA' ec
 go_enter Tryz.func281, Tryz.ntmps281
 go_wp2
 go_loopw [5, 6] (fun s5 s6 wr => ∃ (k : Nat) (B : Option Addr) (cap : Nat) (gs : List Nat), k ≤ n + 1 ∧ s6 = .int .i64 k ∧ s5 = .slice B k cap ∧ RB w wr n' B k cap gs (fun _ => madeCells #[I 0] (n' + 1))) (fun _ s6 _ => n + 1 - (intOf s6).toNat)
 case atStart => exact ⟨0, none, 0, [], Nat.zero_le _, rfl, rfl, ⟨Ow.nil_ (Below.refl _ _), by simp, by simp, by simp⟩⟩
 case round =>
  obtain ⟨k, B, cap, gs, hk, rfl, rfl, hR⟩ := hrel
  have HR := Lib.hid hR
  clear hR
  by_cases hlt : k < n + 1
  ·have g1 : (k : Int) ≤ n := by omega
   have q1 : k + 1 ≤ maxLen := by simp only [maxLen]; omega
   have q2 : (k + 1) * 24 ≤ 140737488355328 := by omega
   go_wp2_with (at_builtin; refine wpList_append_sl _ rfl (.tmp 15) (.tmp 20) _ rfl w 49 i0 _ 1 24 Tryz.underlying378 hi0 hz0 hz1 hz2 rfl Nat.one_pos B k cap (gs.map (rowV n')) rfl ((HR.out.own.alloc _).alloc _) _ 1 1 [rowV n' wr.heap.size] rfl (sl_one' (wr.alloc _) _ _ (wr.heap.size + 1) (by simp)) (one_one rfl) q1 q2 ?_; intro A1 c1 w1 hO1 hg1 hat1)
   go_roundw
   case rel => exact ⟨k + 1, A1, c1, gs ++ [wr.heap.size], by omega, by go_num, rfl, HR.out.add rfl hO1 hg1⟩
   case measure => simp [intOf]; omega
  ·obtain rfl : k = n + 1 := by omega
   have g1 : ¬ ((n + 1 : Nat) : Int) ≤ n := by omega
   clear hmk hi0 hz0 hz1 hz2
   go_wp2
   go_loopw [7] (fun s7 wr => ∃ (k : Nat) (css : Nat → Array Value), k ≤ n ∧ s7 = .int .i64 ((k : Int) - 1) ∧ RB w wr n' B (n + 1) cap gs css ∧ RTab ss ss' n n' k 0 css) (fun i _ => (intOf i + 1).toNat)
   case atStart => exact ⟨n, _, Nat.le_refl _, rfl, HR.out, rtab_start hl.out hl'.out⟩
   case round =>
    obtain ⟨k, css, hk, hi, hR, hT⟩ := hrel
    have HR := Lib.hid hR
    have HT := Lib.hid hT
    clear hR hT
    by_cases hk0 : k = 0
    ·subst hk0
     subst hi
     go_wp2
     go_ret
     exact ⟨B, cap, gs, css, rfl, HR.out, HT.out⟩
    ·obtain ⟨i, rfl⟩ : ∃ i, k = i + 1 := ⟨k - 1, by omega⟩
     have hi' := hi
     rw [show ((i + 1 : Nat) : Int) - 1 = (i : Int) by omega] at hi'
     clear hi
     subst hi'
     go_wp2
     go_loopw [8] (fun s8 wr => ∃ (k : Nat) (css : Nat → Array Value), k ≤ n' ∧ s8 = .int .i64 ((k : Int) - 1) ∧ RB w wr n' B (n + 1) cap gs css ∧ RTab ss ss' n n' i k css) (fun j _ => (intOf j + 1).toNat)
     case atStart => exact ⟨n', css, Nat.le_refl _, rfl, HR.out, rtab_row HT.out⟩
     case round =>
      obtain ⟨k, css, hk, hj, hR, hT⟩ := hrel
      by_cases hk0 : k = 0
      ·subst hk0
       subst hj
       have HR := Lib.hid hR
       have HT := Lib.hid hT
       clear hR hT
       go_wp2
       go_roundw
       case rel => exact ⟨i, css, by omega, rfl, HR.out, HT.out⟩
       case measure => simp [intOf]
      ·obtain ⟨j, rfl⟩ : ∃ j, k = j + 1 := ⟨k - 1, by omega⟩
       have hj' := hj
       rw [show ((j + 1 : Nat) : Int) - 1 = (j : Int) by omega] at hj'
       clear hj
       subst hj'
       obtain ⟨b, off, s, rfl, hs, hc⟩ := (HA.out.below hR.own.2).str (k := i) (by omega)
       obtain ⟨b', off', s', rfl, hs', hc'⟩ := (HA'.out.below hR.own.2).str (k := j) (by omega)
       obtain ⟨r, gi, gj, rfl, hgi, c0, c1, hne, hre, di, dj, fi, zi, zj, zr⟩ := hR.facts (i := i) (by omega)
       obtain ⟨X, hX⟩ : ∃ X, LineLaw.L (ss.drop (i + 1)) (ss'.drop j) = X := ⟨_, rfl⟩
       obtain ⟨Y, hY⟩ : ∃ Y, LineLaw.L (ss.drop i) (ss'.drop (j + 1)) = Y := ⟨_, rfl⟩
       obtain ⟨Z, hZ⟩ : ∃ Z, LineLaw.L (ss.drop (i + 1)) (ss'.drop (j + 1)) = Z := ⟨_, rfl⟩
       have hZn : Z ≤ n := by have := LineLaw.L_le_left (ss.drop (i + 1)) (ss'.drop (j + 1)); rw [hZ, List.length_drop, hl.out] at this; omega
       have HL := Lib.hid (L_max3 hs hs' hX hY hZ)
       obtain ⟨z, t0⟩ := hT.int i j (by omega) (by omega)
       have tX := hT.val (i + 1) j (by omega) (by omega) (by omega)
       have tY := hT.val i (j + 1) (by omega) (by omega) (by omega)
       have tZ := hT.val (i + 1) (j + 1) (by omega) (by omega) (by omega)
       rw [hX] at tX
       rw [hY] at tY
       rw [hZ] at tZ
       have k0 := (di j).trans t0
       have kX := (dj j).trans tX
       have kY := (di (j + 1)).trans tY
       have f0 := fi j
       have e1 : IntKind.i64.wrap ((i : Int) + 1) = (i : Int) + 1 := IntWalk.i64_in _ (by omega)
       have e2 : IntKind.i64.wrap ((j : Int) + 1) = (j : Int) + 1 := IntWalk.i64_in _ (by omega)
       have e3 : IntKind.i64.wrap ((Z : Int) + 1) = (Z : Int) + 1 := IntWalk.i64_in _ (by omega)
       have b1 : (0 : Int) ≤ (i : Int) := by omega
       have b2 : (i : Int) < (n : Int) + 1 := by omega
       have b3 : (0 : Int) ≤ (i : Int) + 1 := by omega
       have b4 : (i : Int) + 1 < (n : Int) + 1 := by omega
       have b5 : (0 : Int) ≤ (j : Int) := by omega
       have b6 : (j : Int) < (n' : Int) + 1 := by omega
       have b7 : (0 : Int) ≤ (j : Int) + 1 := by omega
       have b8 : (j : Int) + 1 < (n' : Int) + 1 := by omega
       have b9 : ((i : Int) + 1).toNat = i + 1 := by omega
       have b10 : ((j : Int) + 1).toNat = j + 1 := by omega
       have b11 : i < n := by omega
       have b12 : j < n' := by omega
       have HR := Lib.hid hR
       have HT := Lib.hid hT
       have Hgi := Lib.hid hgi
       have Ht0 := Lib.hid t0
       have HtZ := Lib.hid tZ
       have Hs := Lib.hid hs
       have Hs' := Lib.hid hs'
       clear hR hT hs hs' hX hY hZ hgi di dj fi t0 tX tY tZ
       go_wp2
       go_region_held3 (fun w' => w'.cell? ⟨r, i, none⟩ = some (rowV n' gi) ∧ w'.cell? ⟨r, i + 1, none⟩ = some (rowV n' gj) ∧ w'.cell? ⟨gj, j, none⟩ = some (I X) ∧ w'.cell? ⟨gi, j + 1, none⟩ = some (I Y)) (first | (exact ⟨keep_far c0 (by omega), keep_far c1 (by omega), keep_far kX (by omega), keep_off kY (by omega)⟩) | go_keep) (fail)
       generalize hW1 : World.drew (World.setCell wr ⟨gi, j, none⟩ (I (if X < Y then (Y : Int) else X))) = W1
       have hR1 : RB w W1 n' (some ⟨r, 0, none⟩) (n + 1) cap gs (put2 css i j (I (if X < Y then (Y : Int) else X))) := by rw [← hW1]; exact (HR.out.set Hgi.out 0 _ _).drew
       have hT1 := rtab_put HT.out b11 b12 (if X < Y then (Y : Int) else X)
       obtain ⟨b2, off2, s2, ee, hs2, hcW⟩ := (HA.out.below hR1.own.2).str (k := i) (by omega)
       obtain ⟨b2', off2', s2', ee', hs2', hcW'⟩ := (HA'.out.below hR1.own.2).str (k := j) (by omega)
       cases ee
       cases ee'
       obtain rfl : s2 = s := Option.some.inj (hs2.symm.trans Hs.out)
       obtain rfl : s2' = s' := Option.some.inj (hs2'.symm.trans Hs'.out)
       obtain ⟨r', gi', gj', er, hgi', c0', c1', hne', hre', di', dj', fi', zi', zj', zr'⟩ := hR1.facts (i := i) (by omega)
       cases er
       obtain rfl : gi' = gi := Option.some.inj (hgi'.symm.trans Hgi.out)
       obtain ⟨M, hM⟩ : ∃ M : Int, (if X < Y then (Y : Int) else X) = M := ⟨_, rfl⟩
       have hMv : M = (max X Y : Nat) := by rw [← hM]; split <;> omega
       rw [hM] at hR1 hT1 di' dj'
       have kM := (di' j).trans (put2_at Ht0.out)
       have kZ := (dj' (j + 1)).trans (show _ = some (I Z) by unfold put2; rw [if_neg (by omega)]; exact HtZ.out)
       have f1 := fi' j
       have HR1 := Lib.hid hR1
       have HT1 := Lib.hid hT1
       have HMv := Lib.hid hMv
       have HW1 := Lib.hid hW1
       clear hW1 hR1 hT1 hs2 hs2' hgi' di' dj' fi' c0 c1 k0 kX kY f0 hc hc' hMv zi zj zr
       by_cases hss : s2 = s2'
       ·have hse : (s2 == s2') = true := by simpa using hss
        have Hss := Lib.hid hss
        clear hss
        go_wp2
        all_goals
         go_quiet (fail)
         go_wp2
         go_region
         go_wp2
         go_roundw
         case rel =>
          refine ⟨j, _, by omega, rfl, HR1.out.set Hgi.out _ _ _, rtab_next HT1.out b11 b12 ?_⟩
          rw [HL.out, if_pos Hss.out, HMv.out]
          split <;> omega
         case measure => simp [intOf]
       ·have hse : (s2 == s2') = false := by simpa using hss
        have Hss := Lib.hid hss
        clear hss
        go_wp2
        all_goals
         go_quiet (fail)
         go_wp2
         go_roundw
         case rel =>
          refine ⟨j, _, by omega, rfl, HR1.out.drewN _, rtab_next HT.out b11 b12 ?_⟩
          rw [HL.out, if_neg Hss.out, HMv.out]
         case measure => simp [intOf]
end Go.Proofs.YtphnfcgdpdimbaaGreatDoor
