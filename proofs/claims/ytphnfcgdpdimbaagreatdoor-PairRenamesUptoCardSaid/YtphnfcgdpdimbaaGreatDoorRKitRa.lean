/-
  Texts merged: RefEnds, RefSame, RefDiff, RefSimC. What each law says and asks stands at its head.
-/
import Derived.Test.YtphnfcgdpdimbaaGreatDoorRKitLa
import Derived.IntWalk
import Derived.Test.YtphnfcgdpdimbaaGreatDoorRKitLb
import Derived.Test.YtphnfcgdpdimbaaGreatDoorRRefTable
namespace Go.Proofs.YtphnfcgdpdimbaaGreatDoor
open Go.RowKit
theorem drop_rev {ss : List (List UInt8)} {n p k : Nat} {s : List UInt8} (hl : ss.length = n) (hk : k < n - p) (h : ss.reverse[k]? = some s) : (ss.drop p).reverse[k]? = some s := by
 subst hl
 rw [List.getElem?_reverse (by omega)] at h
 rw [List.getElem?_reverse (by simp; omega), List.getElem?_drop, List.length_drop, show p + (ss.length - p - 1 - k) = ss.length - 1 - k by omega]
 exact h
theorem ret_two {p : Nat} {a : Int} {b : Nat} (h : a = b) : Ending.returned (.tuple #[.int .i64 p, .int .i64 a]) = .returned (.tuple #[I p, I b]) := by rw [h]
theorem pre_end_cases {ss ss' : List (List UInt8)} {n n' P : Nat} (hl : ss.length = n) (hl' : ss'.length = n') (hP : LineLaw.pre ss ss' = P) : n = P ∨ n' = P ∨ (P < n ∧ P < n' ∧ ∀ s s', ss[P]? = some s → ss'[P]? = some s' → (s == s') = false) := by
 have h1 := LineLaw.pre_le_left ss ss'
 have h2 := LineLaw.pre_le_right ss ss'
 rcases Nat.lt_or_ge P n with h3 | h3
 ·rcases Nat.lt_or_ge P n' with h4 | h4
  ·refine .inr (.inr ⟨h3, h4, fun s s' hs hs' => ?_⟩)
   by_cases e : s = s'
   ·subst e
    have h5 := LineLaw.pre_step hs hs'
    have h6 : ∀ k, k ≤ P → P = k + LineLaw.pre (ss.drop k) (ss'.drop k) := by
     intro k hk
     induction k with
     | zero => simp [hP]
     | succ k ih =>
      have h7 := ih (by omega)
      obtain ⟨x, hx⟩ : ∃ x, ss[k]? = some x := ⟨ss[k]'(by omega), List.getElem?_eq_getElem _⟩
      obtain ⟨y, hy⟩ : ∃ y, ss'[k]? = some y := ⟨ss'[k]'(by omega), List.getElem?_eq_getElem _⟩
      by_cases exy : x = y
      ·exact pre_here h7 hx hy exy
      ·have := pre_parts h7 hx hy exy; omega
    have h8 := h6 P (Nat.le_refl _)
    omega
   ·simpa using e
  ·exact .inr (.inl (by omega))
 ·exact .inl (by omega)
set_option maxHeartbeats 2000000 in
set_option maxRecDepth 100000 in
theorem refEnds_any (A A' : Option Addr) (n n' c c' : Nat) (ss ss' : List (List UInt8)) (w : World) (hA : Sl w 1 A n (strs ss)) (hA' : Sl w 1 A' n' (strs ss')) (hn : n ≤ 9223372036854775807) (hn' : n' ≤ 9223372036854775807) (P E : Nat) (hP : LineLaw.pre ss ss' = P) (hE : LineLaw.suf (ss.drop P) (ss'.drop P) = E) :
  Calls Tryz.prog 280 #[.slice A n c, .slice A' n' c'] w fun e w' => e = .returned (.tuple #[I P, I E]) ∧ ∃ m, w' = w.drewN m := by
 have hl := Lib.hid (strs_len hA)
 have hl' := Lib.hid (strs_len hA')
 have hend := Lib.hid (pre_end_cases hl.out hl'.out hP)
 have hPn : P ≤ n := by have := LineLaw.pre_le_left ss ss'; rw [hP, hl.out] at this; exact this
 have hPn' : P ≤ n' := by have := LineLaw.pre_le_right ss ss'; rw [hP, hl'.out] at this; exact this
 have HP := Lib.hid hP
 have HE := Lib.hid hE
 clear hP hE
 go_enter Tryz.func280, Tryz.ntmps280
 go_wp2
 go_loopw [6] (fun i wr => ∃ k m : Nat, k ≤ P ∧ i = .int .i64 k ∧ wr = w.drewN m ∧ P = k + LineLaw.pre (ss.drop k) (ss'.drop k)) (fun i _ => n - (intOf i).toNat)
 case atStart => exact ⟨0, 0, Nat.zero_le _, rfl, rfl, by simp [HP.out]⟩
 case round =>
  obtain ⟨k, m, hk, rfl, rfl, ht⟩ := hrel
  have Ht := Lib.hid ht
  clear ht
  by_cases hlt : k < P
  ·obtain ⟨b, off, s, rfl, hs, hc⟩ := hA.str (k := k) (by omega)
   obtain ⟨b', off', s', rfl, hs', hc'⟩ := hA'.str (k := k) (by omega)
   by_cases hss : s = s'
   ·subst hss
    have Hs := Lib.hid hs
    have Hs' := Lib.hid hs'
    have g1 : k < n := by omega
    have g2 : k < n' := by omega
    clear hs hs'
    go_wp2
    go_quiet (fail)
    go_wp2
    go_roundw
    case rel => exact ⟨k + 1, _, by omega, by go_num, rfl, pre_here Ht.out Hs.out Hs'.out rfl⟩
    case measure => simp [intOf]; omega
   ·have := pre_parts Ht.out hs hs' hss
    omega
  ·obtain rfl : k = P := by omega
   have hcase : n = k ∨ (k < n ∧ n' = k) ∨ (k < n ∧ k < n' ∧ ∃ b off s b' off' s', A = some ⟨b, off, none⟩ ∧ A' = some ⟨b', off', none⟩ ∧ w.cell? ⟨b, off + k, none⟩ = some (S s) ∧ w.cell? ⟨b', off' + k, none⟩ = some (S s') ∧ (s == s') = false) := by
    rcases hend.out with h | h | ⟨h1, h2, h3⟩
    ·exact .inl h
    ·by_cases h5 : n = k
     ·exact .inl h5
     ·exact .inr (.inl ⟨by omega, h⟩)
    ·obtain ⟨b, off, s, rfl, hs, hc⟩ := hA.str (k := k) h1
     obtain ⟨b', off', s', rfl, hs', hc'⟩ := hA'.str (k := k) h2
     exact .inr (.inr ⟨h1, h2, b, off, s, b', off', s', rfl, rfl, hc, hc', h3 s s' hs hs'⟩)
   rcases hcase with hh | ⟨hh, hh2⟩ | ⟨hh, hh2, b, off, s, b', off', s', rfl, rfl, hcc, hcc', hse⟩
   all_goals
    go_wp2
    go_quiet (fail)
    go_wp2
    try clear hh2
    try clear hh
    try clear hcc hcc' hse
    go_loopw [7] (fun i wr => ∃ q m : Nat, q ≤ n - k ∧ q ≤ n' - k ∧ i = .int .i64 q ∧ wr = w.drewN m ∧ E = q + LineLaw.pre ((ss.drop k).reverse.drop q) ((ss'.drop k).reverse.drop q)) (fun i _ => n - (intOf i).toNat)
    case atStart => exact ⟨0, _, Nat.zero_le _, Nat.zero_le _, rfl, World.drewN_drewN _ _ _, by simpa [LineLaw.suf] using HE.out.symm⟩
    case round =>
     obtain ⟨q, m, hq, hq', rfl, rfl, ht⟩ := hrel
     have HtE := Lib.hid ht
     clear ht
     by_cases hlt2 : q < n - k
     ·by_cases hlt2' : q < n' - k
      ·obtain ⟨b2, off2, s2, e2, hs2, hc2⟩ := sl_rev hA (k := q) (by omega)
       obtain ⟨b2', off2', s2', e2', hs2', hc2'⟩ := sl_rev hA' (k := q) (by omega)
       cases e2
       cases e2'
       have Hs := Lib.hid (drop_rev hl.out hlt2 hs2)
       have Hs' := Lib.hid (drop_rev hl'.out hlt2' hs2')
       have g1 : (q : Int) < (n : Int) - k := by omega
       have g2 : (q : Int) < (n' : Int) - k := by omega
       have e1 : IntKind.i64.wrap ((n : Int) - k) = (n : Int) - k := IntWalk.i64_in _ (by omega)
       have e2 : IntKind.i64.wrap ((n' : Int) - k) = (n' : Int) - k := IntWalk.i64_in _ (by omega)
       have e3 : IntKind.i64.wrap ((n : Int) - 1) = (n : Int) - 1 := IntWalk.i64_in _ (by omega)
       have e4 : IntKind.i64.wrap ((n' : Int) - 1) = (n' : Int) - 1 := IntWalk.i64_in _ (by omega)
       have e5 : IntKind.i64.wrap ((n : Int) - 1 - q) = (n : Int) - 1 - q := IntWalk.i64_in _ (by omega)
       have e6 : IntKind.i64.wrap ((n' : Int) - 1 - q) = (n' : Int) - 1 - q := IntWalk.i64_in _ (by omega)
       have d1 : ((n : Int) - 1 - q).toNat = n - 1 - q := by omega
       have d2 : ((n' : Int) - 1 - q).toNat = n' - 1 - q := by omega
       have g3 : (0 : Int) ≤ (n : Int) - 1 - q := by omega
       have g4 : (n : Int) - 1 - q < n := by omega
       have g5 : (0 : Int) ≤ (n' : Int) - 1 - q := by omega
       have g6 : (n' : Int) - 1 - q < n' := by omega
       clear hs2 hs2'
       go_wp2
       go_quiet (fail)
       go_wp2
       ·rename_i ht
        go_roundw
        case rel => exact ⟨q + 1, _, by omega, by omega, by go_num, rfl, pre_here HtE.out Hs.out Hs'.out (by simpa using ht)⟩
        case measure => simp [intOf]; omega
       ·rename_i ht
        go_ret2
        exact ⟨ret_two (pre_parts HtE.out Hs.out Hs'.out (by simpa using ht)), _, World.drewN_drewN _ _ _⟩
      ·have g1 : (q : Int) < (n : Int) - k := by omega
       have g2 : decide ((q : Int) < (n' : Int) - k) = false := by simp; omega
       have e1 : IntKind.i64.wrap ((n : Int) - k) = (n : Int) - k := IntWalk.i64_in _ (by omega)
       have e2 : IntKind.i64.wrap ((n' : Int) - k) = (n' : Int) - k := IntWalk.i64_in _ (by omega)
       go_wp2
       go_quiet (fail)
       go_wp2
       go_ret2
       exact ⟨ret_two (pre_ends HtE.out (.inr (by simp [hl'.out]; omega))), _, World.drewN_drewN _ _ _⟩
     ·have g1 : decide ((q : Int) < (n : Int) - k) = false := by simp; omega
      have e1 : IntKind.i64.wrap ((n : Int) - k) = (n : Int) - k := IntWalk.i64_in _ (by omega)
      go_wp2
      go_quiet (fail)
      go_wp2
      go_ret2
      exact ⟨ret_two (pre_ends HtE.out (.inl (by simp [hl.out]; omega))), _, World.drewN_drewN _ _ _⟩
end Go.Proofs.YtphnfcgdpdimbaaGreatDoor
namespace Go.Proofs.YtphnfcgdpdimbaaGreatDoor
open Go.RowKit
open LineLaw (Hk)
theorem Tryz.infoRHk : (Tryz.prog.info? 309).map (fun i => (i.zero, i.size, i.bytes)) = some (some (.agg #[I 0, I 0, I 0, I 0]), 4, 32) := by kernel_rfl
structure RAt (w3 wr : World) (x y : List (List UInt8)) (p i j : Nat) (A : Option Addr) (m c : Nat) (done : List Hk) (cur : Option Hk) : Prop where
 own : Ow w3 wr 309 4 A m c (hks (done ++ cur.toList))
 law : LineLaw.walk none x y p p = done ++ LineLaw.walk cur (x.drop i) (y.drop j) (p + i) (p + j)
 few : m ≤ i + j
theorem RAt.same {w3 wr : World} {x y : List (List UInt8)} {p i j : Nat} {A : Option Addr} {m c : Nat} {done : List Hk} {cur : Option Hk} {s : List UInt8} (h : RAt w3 wr x y p i j A m c done cur) (hs : x[i]? = some s) (hs' : y[j]? = some s) (q : Nat) :
  RAt w3 (wr.drewN q) x y p (i + 1) (j + 1) A m c (done ++ cur.toList) none := by
 refine ⟨?_, ?_, by have := h.few; omega⟩
 ·rw [Option.toList_none, List.append_nil]
  exact h.own.drewN q
 ·rw [h.law, drop_at hs, drop_at hs', LineLaw.walk_same, List.append_assoc, Nat.add_assoc, Nat.add_assoc]
def opened (cur : Option Hk) (P Q : Nat) : Hk := match cur with
 | some h => h
 | none => ⟨P, P, Q, Q⟩
theorem ext_opened (cur : Option Hk) (P Q P' Q' : Nat) : LineLaw.ext cur P Q P' Q' = { opened cur P Q with a1 := P', b1 := Q' } := by
 cases cur <;> rfl
theorem walk_way {nx ny : Nat} (cur : Option Hk) (x y : List (List UInt8)) (p i j i' j' : Nat) (hx : x.length = nx) (hy : y.length = ny)
  (h : (i < nx ∧ j < ny ∧ (∀ s s', x[i]? = some s → y[j]? = some s' → s ≠ s') ∧ LineLaw.L (x.drop i) (y.drop (j + 1)) ≤ LineLaw.L (x.drop (i + 1)) (y.drop j) ∧ i' = i + 1 ∧ j' = j) ∨
   (i < nx ∧ j < ny ∧ (∀ s s', x[i]? = some s → y[j]? = some s' → s ≠ s') ∧ ¬ LineLaw.L (x.drop i) (y.drop (j + 1)) ≤ LineLaw.L (x.drop (i + 1)) (y.drop j) ∧ i' = i ∧ j' = j + 1) ∨
   (i < nx ∧ ny ≤ j ∧ i' = i + 1 ∧ j' = j) ∨ (nx ≤ i ∧ j < ny ∧ i' = i ∧ j' = j + 1)) :
  LineLaw.walk cur (x.drop i) (y.drop j) (p + i) (p + j) = LineLaw.walk (some (LineLaw.ext cur (p + i) (p + j) (p + i') (p + j'))) (x.drop i') (y.drop j') (p + i') (p + j') := by
 have dx : i < nx → ∃ s, x[i]? = some s ∧ x.drop i = s :: x.drop (i + 1) := fun h => ⟨x[i]'(by omega), List.getElem?_eq_getElem _, List.drop_eq_getElem_cons _⟩
 have dy : j < ny → ∃ s, y[j]? = some s ∧ y.drop j = s :: y.drop (j + 1) := fun h => ⟨y[j]'(by omega), List.getElem?_eq_getElem _, List.drop_eq_getElem_cons _⟩
 rcases h with ⟨h1, h2, h3, h4, rfl, rfl⟩ | ⟨h1, h2, h3, h4, rfl, rfl⟩ | ⟨h1, h2, rfl, rfl⟩ | ⟨h1, h2, rfl, rfl⟩
 ·obtain ⟨s, hs, es⟩ := dx h1
  obtain ⟨s', hs', es'⟩ := dy h2
  rw [es, es'] at h4 ⊢
  rw [LineLaw.walk_gone _ _ _ _ _ (h3 s s' hs hs') h4, Nat.add_assoc]
 ·obtain ⟨s, hs, es⟩ := dx h1
  obtain ⟨s', hs', es'⟩ := dy h2
  rw [es, es'] at h4 ⊢
  rw [LineLaw.walk_new _ _ _ _ _ (h3 s s' hs hs') h4, Nat.add_assoc]
 ·obtain ⟨s, hs, es⟩ := dx h1
  have ey : y.drop j' = [] := List.drop_eq_nil_of_le (by omega)
  rw [es, ey, LineLaw.walk_cons_nil, Nat.add_assoc]
 ·obtain ⟨s, hs, es⟩ := dy h2
  have ex : x.drop i' = [] := List.drop_eq_nil_of_le (by omega)
  rw [es, ex, LineLaw.walk_nil_cons, Nat.add_assoc]
theorem RAt.turned {w3 wr w5 : World} {x y : List (List UInt8)} {p i j i' j' P Q P' Q' : Nat} {A : Option Addr} {m c m5 c5 g : Nat} {done : List Hk} {cur : Option Hk} (h : RAt w3 wr x y p i j A m c done cur) (q : Nat)
  (hO : Ow w3 w5 309 4 (some ⟨g, 0, none⟩) (m5 + 1) c5 (hks (done ++ [opened cur P Q]))) (hP : p + i = P) (hQ : p + j = Q) (hP' : p + i' = P') (hQ' : p + j' = Q') (hm : m5 ≤ m) (hij : i + j < i' + j')
  (hw : LineLaw.walk cur (x.drop i) (y.drop j) (p + i) (p + j) = LineLaw.walk (some (LineLaw.ext cur (p + i) (p + j) (p + i') (p + j'))) (x.drop i') (y.drop j') (p + i') (p + j')) :
  RAt w3 (((w5.drewN q).setCell ⟨g, m5 * 4 + 1, none⟩ (I P')).setCell ⟨g, m5 * 4 + 3, none⟩ (I Q')) x y p i' j' (some ⟨g, 0, none⟩) (m5 + 1) c5 done (some (LineLaw.ext cur P Q P' Q')) := by
 subst hP hQ hP' hQ'
 have hdl : done.length = m5 := by have := hO.len; rw [hks_len] at this; simp at this; omega
 refine ⟨?_, by rw [h.law, hw], by have := h.few; omega⟩
 rw [ext_opened, Option.toList_some, ← hks_set, hdl]
 exact ((hO.drewN q).set_ _ _).set_ _ _
theorem RAt.drewN {w3 wr : World} {x y : List (List UInt8)} {p i j : Nat} {A : Option Addr} {m c : Nat} {done : List Hk} {cur : Option Hk} (h : RAt w3 wr x y p i j A m c done cur) (q : Nat) : RAt w3 (wr.drewN q) x y p i j A m c done cur := ⟨h.own.drewN q, h.law, h.few⟩
theorem RB.ask {w w2 wr : World} {n n' c i j : Nat} {A : Option Addr} {gs : List Nat} {css : Nat → Array Value} {ss ss' : List (List UInt8)} (h : RB w w2 n' A (n + 1) c gs css) (hb : Below w2.heap.size w2 wr) (hT : RTab ss ss' n n' 0 0 css) (hi : i < n) (hj : j < n') :
  ∃ r gi gj, A = some ⟨r, 0, none⟩ ∧ wr.cell? ⟨r, i, none⟩ = some (rowV n' gi) ∧ wr.cell? ⟨r, i + 1, none⟩ = some (rowV n' gj) ∧ wr.cell? ⟨gj, j, none⟩ = some (I (LineLaw.L (ss.drop (i + 1)) (ss'.drop j) : Nat)) ∧ wr.cell? ⟨gi, j + 1, none⟩ = some (I (LineLaw.L (ss.drop i) (ss'.drop (j + 1)) : Nat)) := by
 obtain ⟨r, gi, gj, e, _, h1, h2, _, _, h3, h4, _, z1, z2, z3⟩ := h.facts (i := i) (by omega)
 refine ⟨r, gi, gj, e, (hb.cell (p := ⟨r, i, none⟩) z3).trans h1, (hb.cell (p := ⟨r, i + 1, none⟩) z3).trans h2, ?_, ?_⟩
 ·rw [hb.cell (p := ⟨gj, j, none⟩) z2, h4]; exact hT.val (i + 1) j (by omega) (by omega) (by omega)
 ·rw [hb.cell (p := ⟨gi, j + 1, none⟩) z1, h3]; exact hT.val i (j + 1) (by omega) (by omega) (by omega)
set_option maxHeartbeats 16000000 in
set_option maxRecDepth 100000 in
theorem refDiff_strip (A A' : Option Addr) (n n' c c' : Nat) (ss ss' : List (List UInt8)) (w : World) (hA : Sl w 1 A n (strs ss)) (hA' : Sl w 1 A' n' (strs ss')) (hc : n ≤ c) (hc' : n' ≤ c') (hn : n ≤ 2000000) (hn' : n' ≤ 2000000) (hbig : ¬ LineLaw.big ss ss') :
    Calls Tryz.prog 220 #[.slice A n c, .slice A' n' c'] w fun e w' => ∃ A2 m2 c2, e = .returned (.slice A2 m2 c2) ∧ Ow w w' 309 4 A2 m2 c2 (hks (LineLaw.diff ss ss')) := by
  have hl := Lib.hid (strs_len hA)
  have hl' := Lib.hid (strs_len hA')
  obtain ⟨i0, hi0, hi1, hi2, hi3⟩ := info_parts Tryz.infoRHk
  obtain ⟨p, hp⟩ : ∃ p, LineLaw.pre ss ss' = p := ⟨_, rfl⟩
  have hpn : p ≤ n := by have := LineLaw.pre_le_left ss ss'; rw [hp, hl.out] at this; exact this
  have hpn' : p ≤ n' := by have := LineLaw.pre_le_right ss ss'; rw [hp, hl'.out] at this; exact this
  obtain ⟨e, he⟩ : ∃ e, LineLaw.suf (ss.drop p) (ss'.drop p) = e := ⟨_, rfl⟩
  have hen : p + e ≤ n := by have := LineLaw.suf_le_left (ss.drop p) (ss'.drop p); rw [he, List.length_drop, hl.out] at this; omega
  have hen' : p + e ≤ n' := by have := LineLaw.suf_le_right (ss.drop p) (ss'.drop p); rw [he, List.length_drop, hl'.out] at this; omega
  obtain ⟨h1, hh1⟩ : ∃ h1, n - e = h1 := ⟨_, rfl⟩
  obtain ⟨h2, hh2⟩ : ∃ h2, n' - e = h2 := ⟨_, rfl⟩
  have i1 : (n : Int) - (e : Int) = (h1 : Int) := by omega
  have i2 : (n' : Int) - (e : Int) = (h2 : Int) := by omega
  obtain ⟨nx, hnx⟩ : ∃ nx, h1 - p = nx := ⟨_, rfl⟩
  obtain ⟨ny, hny⟩ : ∃ ny, h2 - p = ny := ⟨_, rfl⟩
  have k3 := fun W : World => run_cut_lh (P := Tryz.prog) W Tryz.underlying52 Tryz.sizeStr A n c .i64 .i64 p h1 (by omega) (by omega)
  have k4 := fun W : World => run_cut_lh (P := Tryz.prog) W Tryz.underlying52 Tryz.sizeStr A' n' c' .i64 .i64 p h2 (by omega) (by omega)
  have sX := hA.mid_ (j := p) (k := h1) (c := c) (by omega) (by omega) hc
  have sY := hA'.mid_ (j := p) (k := h2) (c := c') (by omega) (by omega) hc'
  rw [hnx] at k3 sX
  rw [hny] at k4 sY
  obtain ⟨X, hX⟩ : ∃ X, cutA A c p 1 = X := ⟨_, rfl⟩
  obtain ⟨Y, hY⟩ : ∃ Y, cutA A' c' p 1 = Y := ⟨_, rfl⟩
  rw [hX] at k3 sX
  rw [hY] at k4 sY
  obtain ⟨x, hx⟩ : ∃ x, (ss.drop p).take nx = x := ⟨_, rfl⟩
  obtain ⟨y, hy⟩ : ∃ y, (ss'.drop p).take ny = y := ⟨_, rfl⟩
  rw [hx] at sX
  rw [hy] at sY
  have hdiff := Lib.hid (show LineLaw.diff ss ss' = LineLaw.walk none x y p p by
    unfold LineLaw.diff
    simp only [hp, he, hl.out, hl'.out, hh1, hh2, hnx, hny, hx, hy])
  have hmul2 : nx * ny ≤ 1048576 := by
    unfold LineLaw.big LineLaw.sufP at hbig
    rw [hp, he, hl.out, hl'.out, hh1, hh2, hnx, hny] at hbig
    omega
  have SX := Lib.hid sX
  have SY := Lib.hid sY
  have HA := Lib.hid hA
  have HA' := Lib.hid hA'
  have Hp := Lib.hid hp
  have He := Lib.hid he
  have hlx := Lib.hid (strs_len sX)
  have hly := Lib.hid (strs_len sY)
  have hnxn : nx ≤ 2000000 := by omega
  have hnyn : ny ≤ 2000000 := by omega
  have hpb : p ≤ 2000000 := by omega
  have hdec : decide (1048576 < (nx : Int) * (ny : Int)) = false := by
    have : ((nx * ny : Nat) : Int) ≤ 1048576 := by omega
    rw [Int.natCast_mul] at this
    simp; omega
  clear sX sY hA hA' hp he hh1 hh2 hnx hny hX hY hx hy hbig
  go_enter Tryz.func220, Tryz.ntmps220
  go_wp2_with fail
  refine (refEnds_any A A' n n' c c' ss ss' w HA.out HA'.out (by omega) (by omega) p e Hp.out He.out).mono ?_
  rintro e1 w1 ⟨rfl, m1, hw1⟩
  have B1 := Lib.hid (show Below w.heap.size w w1 by rw [hw1]; exact below_drewN (Below.refl _ _) _)
  clear hw1
  by_cases hxy : nx = 0 ∧ ny = 0
  · obtain ⟨rfl, rfl⟩ := hxy
    go_wp2
    go_ret
    have ex : x = [] := List.eq_nil_of_length_eq_zero hlx.out
    have ey : y = [] := List.eq_nil_of_length_eq_zero hly.out
    refine ⟨none, 0, 0, rfl, ?_⟩
    rw [hdiff.out, ex, ey, LineLaw.walk_nil_nil]
    exact Ow.nil_ B1.out
  · have hcase0 : ((nx : Int) == 0) = false ∨ (((nx : Int) == 0) = true ∧ ((ny : Int) == 0) = false) := by
      by_cases h0 : nx = 0
      · exact .inr ⟨by simp; omega, by simp; omega⟩
      · exact .inl (by simp; omega)
    have SX1 := Lib.hid (SX.out.below B1.out)
    have SY1 := Lib.hid (SY.out.below B1.out)
    rcases hcase0 with z0 | ⟨z0, z1⟩
    all_goals
      go_wp2_with fail
      refine (refTable_any X Y nx ny _ _ x y _ SX1.out SY1.out (by omega) (by omega)).mono ?_
      rintro e2 w2 ⟨A2, c2, gs, css, rfl, hRB, hRT⟩
      have B2 := Lib.hid (bstep B1.out hRB.own.2)
      have SX2 := Lib.hid (SX.out.below B2.out)
      have SY2 := Lib.hid (SY.out.below B2.out)
      have HRB := Lib.hid hRB
      have HRT := Lib.hid hRT
      try clear z1
      clear hRB hRT hdec k3 k4 i1 i2
      go_wp2
      have Hz0 := Lib.hid z0
      clear z0
      go_loopw [10, 11, 12, 13] (fun s10 s11 s12 s13 wr => ∃ (i j : Nat) (B : Option Addr) (m cap : Nat) (done : List Hk) (cur : Option Hk), i ≤ nx ∧ j ≤ ny ∧ s11 = .int .i64 i ∧ s12 = .int .i64 j ∧ s10 = .slice B m cap ∧ s13 = .bool cur.isSome ∧ RAt w2 wr x y p i j B m cap done cur) (fun _ s11 s12 _ _ => nx + ny - (intOf s11).toNat - (intOf s12).toNat)
      case atStart => exact ⟨0, 0, none, 0, 0, [], none, Nat.zero_le _, Nat.zero_le _, rfl, rfl, rfl, rfl, ⟨Ow.nil_ (Below.refl _ _), by simp, Nat.le_refl _⟩⟩
      case round =>
        obtain ⟨i, j, B, m, cap, done, cur, hi, hj, rfl, rfl, rfl, rfl, hD⟩ := hrel
        have HD := Lib.hid hD
        have sXr := Lib.hid (SX2.out.below hD.own.2)
        have sYr := Lib.hid (SY2.out.below hD.own.2)
        have hm : m ≤ i + j := hD.few
        clear hD
        by_cases hend : i = nx ∧ j = ny
        · obtain ⟨rfl, rfl⟩ := hend
          go_wp2
          go_ret
          have hxl : x.drop i = [] := List.drop_eq_nil_of_le (by rw [hlx.out]; exact Nat.le_refl _)
          have hyl : y.drop j = [] := List.drop_eq_nil_of_le (by rw [hly.out]; exact Nat.le_refl _)
          refine ⟨B, m, cap, rfl, ?_⟩
          have hlaw := HD.out.law
          rw [hxl, hyl, LineLaw.walk_nil_nil] at hlaw
          rw [hdiff.out, hlaw]
          exact HD.out.own.since B2.out
        · have hway : (i < nx ∧ j < ny ∧ ∃ b off b' off' s, X = some ⟨b, off, none⟩ ∧ Y = some ⟨b', off', none⟩ ∧ x[i]? = some s ∧ y[j]? = some s ∧ wr.cell? ⟨b, off + i, none⟩ = some (S s) ∧ wr.cell? ⟨b', off' + j, none⟩ = some (S s)) ∨
              ∃ i' j' : Nat, i' ≤ nx ∧ j' ≤ ny ∧ i + j < i' + j' ∧ (LineLaw.walk cur (x.drop i) (y.drop j) (p + i) (p + j) = LineLaw.walk (some (LineLaw.ext cur (p + i) (p + j) (p + i') (p + j'))) (x.drop i') (y.drop j') (p + i') (p + j')) ∧
                ((i < nx ∧ j < ny ∧ ((j : Int) == (ny : Int)) = false ∧ (∃ b off b' off' s s', X = some ⟨b, off, none⟩ ∧ Y = some ⟨b', off', none⟩ ∧ wr.cell? ⟨b, off + i, none⟩ = some (S s) ∧ wr.cell? ⟨b', off' + j, none⟩ = some (S s') ∧ (s == s') = false) ∧
                  ∃ L1 L2 : Nat, LineLaw.L (x.drop (i + 1)) (y.drop j) = L1 ∧ LineLaw.L (x.drop i) (y.drop (j + 1)) = L2 ∧ ((L2 ≤ L1 ∧ decide (L2 ≤ L1) = true ∧ i' = i + 1 ∧ j' = j) ∨ (¬ L2 ≤ L1 ∧ decide (L2 ≤ L1) = false ∧ i' = i ∧ j' = j + 1))) ∨
                 (i < nx ∧ ¬ j < ny ∧ decide ((j : Int) < (ny : Int)) = false ∧ ((j : Int) == (ny : Int)) = true ∧ i' = i + 1 ∧ j' = j) ∨
                 (¬ i < nx ∧ j < ny ∧ decide ((i : Int) < (nx : Int)) = false ∧ i' = i ∧ j' = j + 1)) := by
            by_cases hlt : i < nx
            · by_cases hlt' : j < ny
              · obtain ⟨b, off, s, ex, hs, hc0⟩ := sXr.out.str hlt
                obtain ⟨b', off', s', ey, hs', hc0'⟩ := sYr.out.str hlt'
                by_cases hss : s = s'
                · subst hss
                  exact .inl ⟨hlt, hlt', b, off, b', off', s, ex, ey, hs, hs', hc0, hc0'⟩
                · have hne : ∀ t t', x[i]? = some t → y[j]? = some t' → t ≠ t' := by
                    intro t t' ht ht'
                    rw [hs] at ht
                    rw [hs'] at ht'
                    cases ht
                    cases ht'
                    exact hss
                  by_cases hle : LineLaw.L (x.drop i) (y.drop (j + 1)) ≤ LineLaw.L (x.drop (i + 1)) (y.drop j)
                  · exact .inr ⟨i + 1, j, by omega, by omega, by omega, walk_way cur x y p i j _ _ hlx.out hly.out (.inl ⟨hlt, hlt', hne, hle, rfl, rfl⟩), .inl ⟨hlt, hlt', by simp; omega, ⟨b, off, b', off', s, s', ex, ey, hc0, hc0', by simpa using hss⟩, _, _, rfl, rfl, .inl ⟨hle, by simpa using hle, rfl, rfl⟩⟩⟩
                  · exact .inr ⟨i, j + 1, by omega, by omega, by omega, walk_way cur x y p i j _ _ hlx.out hly.out (.inr (.inl ⟨hlt, hlt', hne, hle, rfl, rfl⟩)), .inl ⟨hlt, hlt', by simp; omega, ⟨b, off, b', off', s, s', ex, ey, hc0, hc0', by simpa using hss⟩, _, _, rfl, rfl, .inr ⟨hle, by simpa using hle, rfl, rfl⟩⟩⟩
              · exact .inr ⟨i + 1, j, by omega, by omega, by omega, walk_way cur x y p i j _ _ hlx.out hly.out (.inr (.inr (.inl ⟨hlt, by omega, rfl, rfl⟩))), .inr (.inl ⟨hlt, hlt', by simp; omega, by simp; omega, rfl, rfl⟩)⟩
            · have hlt' : j < ny := by omega
              exact .inr ⟨i, j + 1, by omega, by omega, by omega, walk_way cur x y p i j _ _ hlx.out hly.out (.inr (.inr (.inr ⟨by omega, hlt', rfl, rfl⟩))), .inr (.inr ⟨hlt, hlt', by simp; omega, rfl, rfl⟩)⟩
          clear hend
          have hz0 := Hz0.out
          rcases hway with ⟨hlt, hlt', b, off, b', off', s, rfl, rfl, hs, hs', hc0, hc0'⟩ | ⟨i', j', hi', hj', hij, hwk, hway⟩
          · try (exfalso; have hz1 : nx = 0 := by simpa using hz0
                 omega)
            all_goals
              clear hz0
              have Hs := Lib.hid hs
              have Hs' := Lib.hid hs'
              clear hs hs'
              go_wp2
              go_quiet (fail)
              go_wp2
              go_roundw
              case rel => exact ⟨i + 1, j + 1, B, m, cap, _, none, by omega, by omega, by go_num, by go_num, rfl, rfl, HD.out.same Hs.out Hs'.out _⟩
              case measure => simp [intOf]; omega
          · have Hwk := Lib.hid hwk
            obtain ⟨P, hP⟩ : ∃ P, p + i = P := ⟨_, rfl⟩
            obtain ⟨Q, hQ⟩ : ∃ Q, p + j = Q := ⟨_, rfl⟩
            obtain ⟨P1, hP1⟩ : ∃ P1, p + i + 1 = P1 := ⟨_, rfl⟩
            obtain ⟨Q1, hQ1⟩ : ∃ Q1, p + j + 1 = Q1 := ⟨_, rfl⟩
            have s1 : (p : Int) + (i : Int) = (P : Int) := by omega
            have s2 : (p : Int) + (j : Int) = (Q : Int) := by omega
            have s3 : (p : Int) + ((i : Int) + 1) = (P1 : Int) := by omega
            have s4 : (p : Int) + ((j : Int) + 1) = (Q1 : Int) := by omega
            have b1 : P ≤ 4000000 := by omega
            have b2 : Q ≤ 4000000 := by omega
            have b3 : P1 ≤ 4000001 := by omega
            have b4 : Q1 ≤ 4000001 := by omega
            have hmm : m + 1 ≤ maxLen := by simp only [maxLen]; omega
            have hnn : (m + 1) * 32 ≤ 140737488355328 := by omega
            have HP := Lib.hid hP
            have HQ := Lib.hid hQ
            have HP1 := Lib.hid hP1
            have HQ1 := Lib.hid hQ1
            have Hij := Lib.hid hij
            clear hP hQ hP1 hQ1 hwk hij
            rcases hway with ⟨hlt, hlt', hjn, ⟨b, off, b', off', s, s', rfl, rfl, hc0, hc0', hse⟩, L1, L2, hL1, hL2, ⟨hle, hld, ei, ej⟩ | ⟨hle, hld, ei, ej⟩⟩ | ⟨hlt, hlt', hjd, hjn, ei, ej⟩ | ⟨hlt, hlt', hid, ei, ej⟩
            all_goals
              try (exfalso; have hz1 : nx = 0 := by simpa using hz0
                   omega)
            all_goals
              clear hz0
              have Hei := Lib.hid ei
              have Hej := Lib.hid ej
              try (have HL1 := Lib.hid hL1; have HL2 := Lib.hid hL2; clear hL1 hL2)
              clear ei ej
              go_wp2
              go_quiet (fail)
              generalize hW4 : World.drewN wr _ = W4
              have hD4 : RAt w2 W4 x y p i j B m cap done cur := by rw [← hW4]; exact HD.out.drewN _
              have HD4 := Lib.hid hD4
              clear hW4 hD4
              try clear hc0 hc0' hse
              rcases cur with _ | h
              case' none =>
                simp only [Option.isSome_none]
                obtain ⟨m5, hm5⟩ : ∃ m5, m5 = m := ⟨_, rfl⟩
                subst hm5
                go_wp2_with (at_builtin; refine wpList_append_sl _ rfl (.tmp 100) (.tmp 114) _ rfl w2 309 i0 _ 4 32 Tryz.underlying307 hi0 hi1 hi2 hi3 rfl (by decide) B m5 cap _ rfl (HD4.out.own.alloc _) _ 1 1 (hks [⟨P, P, Q, Q⟩]) rfl (sl_hk W4 _ ⟨P, P, Q, Q⟩ W4.heap.size rfl) (one_hks _) hmm hnn ?_; intro A1 c5 w5 hO5 hg5 hat5)
                obtain ⟨g, rfl, hg0, hg1⟩ := hO5.form (by omega)
                obtain ⟨hh, hhe⟩ : ∃ hh, opened none P Q = hh := ⟨_, rfl⟩
                have HO5 := Lib.hid (show Ow w2 w5 309 4 (some ⟨g, 0, none⟩) (m5 + 1) c5 (hks (done ++ [hh])) by
                  have h5 := hO5; rw [← hks_append, Option.toList_none, List.append_nil] at h5; rw [← hhe]; exact h5)
                clear hO5 hg5 hat5
              case' some =>
                simp only [Option.isSome_some]
                obtain ⟨g, hgB, hg0, hg1⟩ := HD4.out.own.form (by have := HD4.out.own.len; rw [hks_len] at this; simp at this; omega)
                subst hgB
                obtain ⟨m5, hm5⟩ : ∃ m5, m5 + 1 = m := ⟨m - 1, by have := HD4.out.own.len; rw [hks_len] at this; simp at this; omega⟩
                subst hm5
                obtain ⟨c5, hc5⟩ : ∃ c5, c5 = cap := ⟨_, rfl⟩
                subst hc5
                obtain ⟨w5, hw5⟩ : ∃ w5, w5 = W4 := ⟨_, rfl⟩
                subst hw5
                obtain ⟨hh, hhe⟩ : ∃ hh, opened (some h) P Q = hh := ⟨_, rfl⟩
                have HO5 := Lib.hid (show Ow w2 w5 309 4 (some ⟨g, 0, none⟩) (m5 + 1) c5 (hks (done ++ [hh])) by rw [← hhe]; exact HD4.out.own)
                go_wp2
              all_goals
                have Hhe := Lib.hid hhe
                clear hhe hmm hnn
                have hdl : done.length = m5 := by have := HO5.out.len; rw [hks_len] at this; simp at this; omega
                have cA := (HO5.out.1.cellAt (m5 * 4 + 1) (by omega)).trans (show _ = some (I hh.a1) by rw [hks_append, ← hdl, ← hks_len, hks_one]; simp [hkc])
                have cB := (HO5.out.1.cellAt (m5 * 4 + 3) (by omega)).trans (show _ = some (I hh.b1) by rw [hks_append, ← hdl, ← hks_len, hks_one]; simp [hkc])
                have fA := HO5.out.1.frozenAt
                try (obtain ⟨r, gi, gj, er, t1, t2, t3, t4⟩ := HRB.out.ask HO5.out.2 HRT.out hlt hlt'; subst er; rw [HL1.out] at t3; rw [HL2.out] at t4)
                clear hdl
                go_quiet (fail)
                go_wp2
                go_roundw
                case rel =>
                  have a1 := HP.out
                  have a2 := HQ.out
                  have a3 := HP1.out
                  have a4 := HQ1.out
                  have a5 := Hei.out
                  have a6 := Hej.out
                  have a7 := Hij.out
                  exact ⟨i', j', some ⟨g, 0, none⟩, m5 + 1, c5, done, _, hi', hj', by first | (rw [a5]; done) | (rw [a5]; go_num), by first | (rw [a6]; done) | (rw [a6]; go_num), rfl, rfl, HD4.out.turned _ (by rw [Hhe.out]; exact HO5.out) a1 a2 (by omega) (by omega) (by omega) a7 Hwk.out⟩
                case measure =>
                  simp [intOf]
                  have a5 := Hei.out
                  have a6 := Hej.out
                  omega
set_option maxHeartbeats 16000000 in
set_option maxRecDepth 100000 in
theorem refDiff_big (A A' : Option Addr) (n n' c c' : Nat) (ss ss' : List (List UInt8)) (w : World) (hA : Sl w 1 A n (strs ss)) (hA' : Sl w 1 A' n' (strs ss')) (hc : n ≤ c) (hc' : n' ≤ c') (hn : n ≤ 2000000) (hn' : n' ≤ 2000000) (hbig : LineLaw.big ss ss') :
  Calls Tryz.prog 220 #[.slice A n c, .slice A' n' c'] w fun e w' => ∃ A2 m2 c2, e = .returned (.slice A2 m2 c2) ∧ m2 ≤ 9223372036854775807 ∧ Sl w' 4 A2 m2 (hks (LineLaw.diffC ss ss')) ∧ Below w.heap.size w w' := by
 have hl := Lib.hid (strs_len hA)
 have hl' := Lib.hid (strs_len hA')
 obtain ⟨i0, hi0, hi1, hi2, hi3⟩ := info_parts Tryz.infoRHk
 obtain ⟨p, hp⟩ : ∃ p, LineLaw.pre ss ss' = p := ⟨_, rfl⟩
 have hpn : p ≤ n := by have := LineLaw.pre_le_left ss ss'; rw [hp, hl.out] at this; exact this
 have hpn' : p ≤ n' := by have := LineLaw.pre_le_right ss ss'; rw [hp, hl'.out] at this; exact this
 obtain ⟨e, he⟩ : ∃ e, LineLaw.suf (ss.drop p) (ss'.drop p) = e := ⟨_, rfl⟩
 have hen : p + e ≤ n := by have := LineLaw.suf_le_left (ss.drop p) (ss'.drop p); rw [he, List.length_drop, hl.out] at this; omega
 have hen' : p + e ≤ n' := by have := LineLaw.suf_le_right (ss.drop p) (ss'.drop p); rw [he, List.length_drop, hl'.out] at this; omega
 obtain ⟨h1, hh1⟩ : ∃ h1, n - e = h1 := ⟨_, rfl⟩
 obtain ⟨h2, hh2⟩ : ∃ h2, n' - e = h2 := ⟨_, rfl⟩
 have i1 : (n : Int) - (e : Int) = (h1 : Int) := by omega
 have i2 : (n' : Int) - (e : Int) = (h2 : Int) := by omega
 obtain ⟨nx, hnx⟩ : ∃ nx, h1 - p = nx := ⟨_, rfl⟩
 obtain ⟨ny, hny⟩ : ∃ ny, h2 - p = ny := ⟨_, rfl⟩
 have k3 := fun W : World => run_cut_lh (P := Tryz.prog) W Tryz.underlying52 Tryz.sizeStr A n c .i64 .i64 p h1 (by omega) (by omega)
 have k4 := fun W : World => run_cut_lh (P := Tryz.prog) W Tryz.underlying52 Tryz.sizeStr A' n' c' .i64 .i64 p h2 (by omega) (by omega)
 have sX := hA.mid_ (j := p) (k := h1) (c := c) (by omega) (by omega) hc
 have sY := hA'.mid_ (j := p) (k := h2) (c := c') (by omega) (by omega) hc'
 rw [hnx] at k3 sX
 rw [hny] at k4 sY
 obtain ⟨X, hX⟩ : ∃ X, cutA A c p 1 = X := ⟨_, rfl⟩
 obtain ⟨Y, hY⟩ : ∃ Y, cutA A' c' p 1 = Y := ⟨_, rfl⟩
 rw [hX] at k3 sX
 rw [hY] at k4 sY
 obtain ⟨x, hx⟩ : ∃ x, (ss.drop p).take nx = x := ⟨_, rfl⟩
 obtain ⟨y, hy⟩ : ∃ y, (ss'.drop p).take ny = y := ⟨_, rfl⟩
 rw [hx] at sX
 rw [hy] at sY
 have hbg : 1048576 < nx * ny := by
  have h := hbig
  unfold LineLaw.big LineLaw.sufP at h
  rwa [hp, he, hl.out, hl'.out, hh1, hh2, hnx, hny] at h
 have hdiff := Lib.hid (show LineLaw.diffC ss ss' = [⟨p, p + nx, p, p + ny⟩] by
  unfold LineLaw.diffC
  rw [if_pos hbig]
  unfold LineLaw.sufP
  rw [hp, he, hl.out, hl'.out, hh1, hh2, show p + nx = h1 by omega, show p + ny = h2 by omega])
 have SX := Lib.hid sX
 have SY := Lib.hid sY
 have HA := Lib.hid hA
 have HA' := Lib.hid hA'
 have Hp := Lib.hid hp
 have He := Lib.hid he
 have hlx := Lib.hid (strs_len sX)
 have hly := Lib.hid (strs_len sY)
 have hnxn : nx ≤ 2000000 := by omega
 have hnyn : ny ≤ 2000000 := by omega
 have hpb : p ≤ 2000000 := by omega
 have hpr : nx * ny ≤ 2000000 * 2000000 := Nat.mul_le_mul (by omega) (by omega)
 have hdec : decide (1048576 < (nx : Int) * (ny : Int)) = true := by
  have : ((nx * ny : Nat) : Int) > 1048576 := by omega
  rw [Int.natCast_mul] at this
  simp; omega
 have hnz : nx ≠ 0 := fun e => by rw [e] at hbg; omega
 have hz0 : ((nx : Int) == 0) = false := by simp; omega
 have hwr : IntKind.i64.wrap ((nx : Int) * (ny : Int)) = (nx : Int) * (ny : Int) := IntWalk.i64_in _ (by
  have h1 : ((nx * ny : Nat) : Int) ≤ 4000000000000 := by omega
  have h0 : (0 : Int) ≤ ((nx * ny : Nat) : Int) := by omega
  rw [Int.natCast_mul] at h1 h0
  omega)
 clear sX sY hA hA' hp he hh1 hh2 hnx hny hX hY hx hy hbig
 go_enter Tryz.func220, Tryz.ntmps220
 go_wp2_with fail
 refine (refEnds_any A A' n n' c c' ss ss' w HA.out HA'.out (by omega) (by omega) p e Hp.out He.out).mono ?_
 rintro e1 w1 ⟨rfl, m1, hw1⟩
 have B1 := Lib.hid (show Below w.heap.size w w1 by rw [hw1]; exact below_drewN (Below.refl _ _) _)
 clear hw1
 go_wp2
 go_ret
 refine ⟨_, 1, 1, rfl, by omega, ?_, balloc B1.out _⟩
 rw [hdiff.out]
 exact sl_hk w1 _ ⟨p, p + nx, p, p + ny⟩ _ rfl
theorem refDiffC_any (A A' : Option Addr) (n n' c c' : Nat) (ss ss' : List (List UInt8)) (w : World) (hA : Sl w 1 A n (strs ss)) (hA' : Sl w 1 A' n' (strs ss')) (hc : n ≤ c) (hc' : n' ≤ c') (hn : n ≤ 2000000) (hn' : n' ≤ 2000000) :
  Calls Tryz.prog 220 #[.slice A n c, .slice A' n' c'] w fun e w' => ∃ A2 m2 c2, e = .returned (.slice A2 m2 c2) ∧ m2 ≤ 9223372036854775807 ∧ Sl w' 4 A2 m2 (hks (LineLaw.diffC ss ss')) ∧ Below w.heap.size w w' := by
 by_cases hb : LineLaw.big ss ss'
 ·exact refDiff_big A A' n n' c c' ss ss' w hA hA' hc hc' hn hn' hb
 ·refine (refDiff_strip A A' n n' c c' ss ss' w hA hA' hc hc' hn hn' hb).mono ?_
  rintro e w' ⟨A2, m2, c2, rfl, hO⟩
  have hcap := hO.cap
  simp only [maxLen] at hcap
  refine ⟨A2, m2, c2, rfl, by omega, ?_, hO.2⟩
  unfold LineLaw.diffC
  rw [if_neg hb]
  exact hO.sl
set_option maxHeartbeats 2000000 in
set_option maxRecDepth 100000 in
theorem refSimilarC_any (A A' : Option Addr) (n n' c c' : Nat) (ss ss' : List (List UInt8)) (w : World) (hA : Sl w 1 A n (strs ss)) (hA' : Sl w 1 A' n' (strs ss')) (hc : n ≤ c) (hc' : n' ≤ c') (hn : n ≤ 2000000) (hn' : n' ≤ 2000000) :
  Calls Tryz.prog 138 #[.slice A n c, .slice A' n' c'] w fun e w' => e = .returned (I (LineLaw.simC ss ss')) ∧ Below w.heap.size w w' := by
 have hl := Lib.hid (strs_len hA)
 have hl' := Lib.hid (strs_len hA')
 by_cases h0 : n + n' = 0
 ·have hz : ((n : Int) + n' == 0) = true := by simp; omega
  have HR := Lib.hid (show LineLaw.simC ss ss' = 100 by unfold LineLaw.simC; rw [if_pos (by rw [hl.out, hl'.out]; exact h0)])
  go_enter Tryz.func138, Tryz.ntmps138
  go_wp2
  go_ret
  exact ⟨ret_int HR.out.symm, Below.refl _ _⟩
 ·have hz : ((n : Int) + n' == 0) = false := by simp; omega
  have hd := LineLaw.diffC_gone ss ss'
  have hm := LineLaw.diffC_mem ss ss'
  have hL := LineLaw.keptC_left ss ss'
  rw [hl.out] at hd hL
  rw [hl.out, hl'.out] at hm
  have HR := Lib.hid (show LineLaw.simC ss ss' = 200 * (LineLaw.keptC ss ss' : Int) / ((n : Int) + n') by unfold LineLaw.simC; rw [if_neg (by rw [hl.out, hl'.out]; exact h0), hl.out, hl'.out])
  obtain ⟨LL, hLL⟩ : ∃ LL, LineLaw.keptC ss ss' = LL := ⟨_, rfl⟩
  rw [hLL] at hd hL HR
  obtain ⟨l, hll⟩ : ∃ l, LineLaw.diffC ss ss' = l := ⟨_, rfl⟩
  have hD := Lib.hid (refDiffC_any A A' n n' c c' ss ss' w hA hA' hc hc' hn hn')
  rw [hll] at hd hm hD
  have Hd := Lib.hid hd
  have Hm := Lib.hid hm
  have Hgt := Lib.hid (fun k => LineLaw.gone_take (l := l) (fun x hx => (hm x hx).1) k)
  clear hLL hll hd hm hA hA'
  go_enter Tryz.func138, Tryz.ntmps138
  go_wp2_with fail
  refine hD.out.mono ?_
  rintro e1 w1 ⟨A1, m1, c1, rfl, hcap, hO, hO2⟩
  have hS := Lib.hid hO
  have hB := Lib.hid hO2
  have hlm := Lib.hid (hks_count hO)
  clear hO hO2 hD
  go_wp2_with fail
  go_loopw [5, 7] (fun s5 s7 wr => ∃ (k q : Nat), k ≤ m1 ∧ s7 = .int .i64 k ∧ s5 = .int .i64 ((n : Int) - LineLaw.gone (l.take k)) ∧ wr = w1.drewN q) (fun _ s7 _ => m1 - (intOf s7).toNat)
  case atStart => exact ⟨0, 0, Nat.zero_le _, rfl, by simp [LineLaw.gone], rfl⟩
  case round =>
   obtain ⟨k, q, hk, rfl, rfl, rfl⟩ := hrel
   by_cases hlt : k < m1
   ·obtain ⟨b, off, x, rfl, hb, hx, c0, c1', c2, c3⟩ := hS.out.hunk hlt
    have hxm := Hm.out x (List.mem_of_getElem? hx)
    have hst := LineLaw.gone_step hx
    have hg1 := Hgt.out k
    have hg2 := Hgt.out (k + 1)
    have hdd := Hd.out
    obtain ⟨G, hG⟩ : ∃ G, LineLaw.gone (l.take k) = G := ⟨_, rfl⟩
    rw [hG] at hst hg1 ⊢
    rw [hst] at hg2
    have Hst := Lib.hid hst
    have e1 : IntKind.i64.wrap ((x.a1 : Int) - (x.a0 : Int)) = (x.a1 : Int) - (x.a0 : Int) := IntWalk.i64_in _ (by omega)
    have e2 : IntKind.i64.wrap ((n : Int) - G - ((x.a1 : Int) - (x.a0 : Int))) = (n : Int) - G - ((x.a1 : Int) - (x.a0 : Int)) := IntWalk.i64_in _ (by omega)
    clear hx hst hG hdd hg1 hg2 c2 c3
    go_wp2
    go_quiet (fail)
    clear e1 e2
    go_wp2
    go_roundw
    case rel => exact ⟨k + 1, _, by omega, by go_num, by rw [Hst.out]; congr 1; omega, rfl⟩
    case measure => simp [intOf]; omega
   ·have hall : l.take k = l := List.take_of_length_le (by rw [hlm.out]; omega)
    have hdd := Hd.out
    rw [hall, hdd]
    have q1 : (n : Int) - ((n : Int) - LL) = LL := by omega
    rw [q1]
    have q2 : (0 : Int) ≤ 200 * LL := by omega
    have q3 : 200 * (LL : Int) ≤ 9223372036854775807 := by omega
    have q4 : (1 : Int) ≤ (n : Int) + n' := by omega
    clear hall hdd q1
    go_wp2
    go_ret
    exact ⟨ret_int HR.out.symm, below_drewN hB.out _⟩
end Go.Proofs.YtphnfcgdpdimbaaGreatDoor
