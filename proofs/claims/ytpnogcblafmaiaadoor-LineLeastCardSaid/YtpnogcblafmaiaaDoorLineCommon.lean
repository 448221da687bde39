/-
  dolmenlaw15.common: how many lines a longest common part has, by the plainest way. Conditions: slices read as lists, short ones.
-/
import Derived.Test.YtpnogcblafmaiaaDoorLineTable
import Derived.Test.YtpnogcblafmaiaaDoorOwn
namespace Go.Proofs.YtpnogcblafmaiaaDoor
open Go.RowKit

/-- a longest common part of beginnings -/
def LT (ss ss' : List (List UInt8)) (i j : Nat) : Nat := LineLaw.L (ss.take i) (ss'.take j)
theorem LT_zero_left (ss ss' : List (List UInt8)) (j : Nat) : LT ss ss' 0 j = 0 := by simp [LT, LineLaw.L_nil_left]
theorem LT_zero_right (ss ss' : List (List UInt8)) (i : Nat) : LT ss ss' i 0 = 0 := by simp [LT, LineLaw.L_nil_right]
theorem L_snoc (x y : List (List UInt8)) (u v : List UInt8) : LineLaw.L (x ++ [u]) (y ++ [v]) = if u = v then LineLaw.L x y + 1 else max (LineLaw.L x (y ++ [v])) (LineLaw.L (x ++ [u]) y) := by
  rw [← LineLaw.L_rev, List.reverse_append, List.reverse_append, List.reverse_singleton, List.reverse_singleton, List.singleton_append, List.singleton_append, LineLaw.L_cons_cons, LineLaw.L_rev]
  have e1 : LineLaw.L x.reverse (v :: y.reverse) = LineLaw.L x (y ++ [v]) := by rw [← LineLaw.L_rev x, List.reverse_append]; rfl
  have e2 : LineLaw.L (u :: x.reverse) y.reverse = LineLaw.L (x ++ [u]) y := by rw [← LineLaw.L_rev (x ++ [u]), List.reverse_append]; rfl
  rw [e1, e2]
theorem LT_step {ss ss' : List (List UInt8)} {i j : Nat} {s s' : List UInt8} (hs : ss[i]? = some s) (hs' : ss'[j]? = some s') : LT ss ss' (i + 1) (j + 1) = if s = s' then LT ss ss' i j + 1 else max (LT ss ss' i (j + 1)) (LT ss ss' (i + 1) j) := by
  unfold LT
  rw [List.take_add_one, List.take_add_one, hs, hs', Option.toList_some, Option.toList_some, L_snoc]
theorem LT_le (ss ss' : List (List UInt8)) (i j : Nat) : LT ss ss' i j ≤ i := Nat.le_trans (LineLaw.L_le_left _ _) (by simp; omega)

/-- the row: up to j it is of the next line, behind it of this one -/
structure RowAt (ss ss' : List (List UInt8)) (n' i j : Nat) (cs : Array Value) : Prop where
  size : cs.size = n' + 1
  val : ∀ q, q ≤ n' → cs[q]? = some (I (if q ≤ j then LT ss ss' (i + 1) q else LT ss ss' i q : Nat))
theorem row_start (ss ss' : List (List UInt8)) (n' : Nat) : RowAt ss ss' n' 0 0 (madeCells #[I 0] (n' + 1)) := by
  refine ⟨size_madeCells _ _, fun q hq => ?_⟩
  have h0 : (if q ≤ 0 then LT ss ss' (0 + 1) q else LT ss ss' 0 q) = 0 := by
    split
    · rename_i h; obtain rfl : q = 0 := by omega
      exact LT_zero_right _ _ _
    · exact LT_zero_left _ _ _
  rw [h0]
  have : q < n' + 1 := by omega
  simp [madeCells, this, Nat.mod_one]
theorem row_next {ss ss' : List (List UInt8)} {n' i : Nat} {cs : Array Value} (h : RowAt ss ss' n' i n' cs) : RowAt ss ss' n' (i + 1) 0 cs := by
  refine ⟨h.size, fun q hq => ?_⟩
  rw [h.val q hq, if_pos hq]
  congr 3
  split
  · rename_i h0; obtain rfl : q = 0 := by omega
    rw [LT_zero_right, LT_zero_right]
  · rfl
theorem row_set {ss ss' : List (List UInt8)} {n' i j : Nat} {cs : Array Value} (h : RowAt ss ss' n' i j cs) (hj : j < n') : RowAt ss ss' n' i (j + 1) (cs.setIfInBounds (j + 1) (I (LT ss ss' (i + 1) (j + 1) : Nat))) := by
  refine ⟨by rw [Array.size_setIfInBounds]; exact h.size, fun q hq => ?_⟩
  have hs := h.size
  by_cases e : j + 1 = q
  · subst e
    rw [if_pos (Nat.le_refl _), Array.getElem?_setIfInBounds_self_of_lt (by omega)]
  · rw [Array.getElem?_setIfInBounds_ne e, h.val q hq]
    congr 3
    by_cases h1 : q ≤ j
    · rw [if_pos h1, if_pos (by omega)]
    · rw [if_neg h1, if_neg (by omega)]

set_option maxHeartbeats 4000000 in
set_option maxRecDepth 100000 in
theorem common_any (A A' : Option Addr) (n n' c c' : Nat) (ss ss' : List (List UInt8)) (w : World) (hA : Sl w 1 A n (strs ss)) (hA' : Sl w 1 A' n' (strs ss')) (hn : n ≤ 1000000) (hn' : n' ≤ 1000000) :
    Calls Tryd.prog 22 #[.slice A n c, .slice A' n' c'] w fun e w' => e = .returned (I (LineLaw.L ss ss' : Nat)) ∧ Below w.heap.size w w' := by
  have hl := Lib.hid (strs_len hA)
  have hl' := Lib.hid (strs_len hA')
  have HA := Lib.hid hA
  have HA' := Lib.hid hA'
  have hmk := run_make_row' (P := Tryd.prog) 44 3 (I 0) 8 Tryd.underlying44 Tryd.infoInt rfl .i64 .i64 (n' + 1) (by omega) (by omega)
  have ec : ((n' + 1 : Nat) : Int) = (n' : Int) + 1 := by omega
  rw [ec] at hmk
  clear hA hA' ec
  go_enter Tryd.func22, Tryd.ntmps22
  go_wp2
  go_loopw [6] (fun s6 wr => ∃ (i : Nat) (cs : Array Value), i ≤ n ∧ s6 = .int .i64 i ∧ Blk wr w.heap.size 3 cs ∧ RowAt ss ss' n' i 0 cs ∧ Below w.heap.size w wr) (fun s6 _ => n - (intOf s6).toNat)
  case atStart => exact ⟨0, _, Nat.zero_le _, rfl, Blk.new _ _ _, row_start ss ss' n', balloc (Below.refl _ _) _⟩
  case round =>
    obtain ⟨i, cs, hi, rfl, hK, hR, hB⟩ := hrel
    clear hmk
    by_cases hlt : i < n
    · have HK := Lib.hid hK
      have HR := Lib.hid hR
      have HB := Lib.hid hB
      clear hK hR hB
      obtain ⟨wo, hwo⟩ : ∃ wo : World, wo = wr := ⟨_, rfl⟩
      subst hwo
      go_wp2
      go_loopw [7, 8] (fun s7 s8 wr => ∃ (j : Nat) (cs : Array Value), j ≤ n' ∧ s8 = .int .i64 j ∧ s7 = .int .i64 (LT ss ss' i j : Nat) ∧ Blk wr w.heap.size 3 cs ∧ RowAt ss ss' n' i j cs ∧ Below w.heap.size w wr) (fun _ s8 _ => n' - (intOf s8).toNat)
      case atStart => exact ⟨0, cs, Nat.zero_le _, rfl, by rw [LT_zero_right]; rfl, HK.out, HR.out, HB.out⟩
      case round =>
        obtain ⟨j, cs, hj, rfl, rfl, hK, hR, hB⟩ := hrel
        by_cases hlt' : j < n'
        · obtain ⟨b, off, s, rfl, hs, hc⟩ := (HA.out.below hB).str (k := i) hlt
          obtain ⟨b', off', s', rfl, hs', hc'⟩ := (HA'.out.below hB).str (k := j) hlt'
          have t1 := hR.val (j + 1) (by omega)
          have t0 := hR.val j (by omega)
          rw [if_neg (by omega)] at t1
          rw [if_pos (Nat.le_refl _)] at t0
          have c1 := (hK.cell _).trans t1
          have c0 := (hK.cell _).trans t0
          have f0 := hK.frozen (j + 1)
          have hst := LT_step hs hs'
          have q1 := LT_le ss ss' i j
          have HST := Lib.hid hst
          have HK := Lib.hid hK
          have HR := Lib.hid hR
          have HB := Lib.hid hB
          obtain ⟨X, hX⟩ : ∃ X, LT ss ss' i (j + 1) = X := ⟨_, rfl⟩
          obtain ⟨Y, hY⟩ : ∃ Y, LT ss ss' (i + 1) j = Y := ⟨_, rfl⟩
          obtain ⟨Z, hZ⟩ : ∃ Z, LT ss ss' i j = Z := ⟨_, rfl⟩
          rw [hX] at c1
          rw [hY] at c0
          rw [hZ] at q1 ⊢
          have HX := Lib.hid hX
          have HY := Lib.hid hY
          have HZ := Lib.hid hZ
          clear hK hR hB hs hs' t0 t1 hst hX hY hZ
          go_wp2
          go_quiet (fail)
          go_wp2
          · rename_i ht
            have Hss := Lib.hid (show s = s' by simpa using ht)
            go_wp2
            go_roundw
            case rel =>
              have hv : ((Z : Int) + 1) = (LT ss ss' (i + 1) (j + 1) : Nat) := by rw [HST.out, if_pos Hss.out, HZ.out]; simp
              rw [hv]
              exact ⟨j + 1, _, by omega, by go_num, by rw [HX.out], (HK.out.drewN _).set_ _ _, row_set HR.out hlt', (below_drewN HB.out _).setCell (by simp) _⟩
            case measure => simp [intOf]; omega
          · rename_i ht
            have Hss := Lib.hid (show ¬ s = s' by simpa using ht)
            go_region
            go_wp2
            go_roundw
            case rel =>
              have hv : (if X < Y then (Y : Int) else X) = (LT ss ss' (i + 1) (j + 1) : Nat) := by rw [HST.out, if_neg Hss.out, HX.out, HY.out]; split <;> omega
              rw [hv]
              exact ⟨j + 1, _, by omega, by go_num, by rw [HX.out], (HK.out.drewN _).set_ _ _, row_set HR.out hlt', (below_drewN HB.out _).setCell (by simp) _⟩
            case measure => simp [intOf]; omega
        · obtain rfl : j = n' := by omega
          have HK := Lib.hid hK
          have HR := Lib.hid hR
          have HB := Lib.hid hB
          clear hK hR hB
          go_wp2
          go_roundw
          case rel => exact ⟨i + 1, cs, by omega, by go_num, HK.out, row_next HR.out, HB.out⟩
          case measure => simp [intOf]; omega
    · obtain rfl : i = n := by omega
      have t := hR.val n' (Nat.le_refl _)
      have hv : (if n' ≤ 0 then LT ss ss' (i + 1) n' else LT ss ss' i n') = LineLaw.L ss ss' := by
        have e : LT ss ss' i n' = LineLaw.L ss ss' := by unfold LT; rw [List.take_of_length_le (by rw [hl.out]; exact Nat.le_refl _), List.take_of_length_le (by rw [hl'.out]; exact Nat.le_refl _)]
        split
        · rename_i h; obtain rfl : n' = 0 := by omega
          rw [← e, LT_zero_right, LT_zero_right]
        · exact e
      rw [hv] at t
      have c1 := (hK.cell _).trans t
      have HB := Lib.hid hB
      clear hK hR hB t hv
      go_wp2
      go_ret
      exact ⟨rfl, HB.out⟩
end Go.Proofs.YtpnogcblafmaiaaDoor
