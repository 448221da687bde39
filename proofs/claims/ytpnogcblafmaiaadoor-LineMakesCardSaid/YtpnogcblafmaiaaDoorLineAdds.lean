/-
  dolmenlaw15.LineAdds returns true. Conditions: slices read as lists; internal/bytealg.MaxLen holds an int.
-/
import Derived.Test.YtpnogcblafmaiaaDoorLineAwake
namespace Go.Proofs.YtpnogcblafmaiaaDoor
open Go.RowKit
open LineLaw (Hk)

/-- one hunk alone: its four cells -/
theorem Ow.one_hunk {w0 w : World} {A : Option Addr} {m c : Nat} {h : Hk} (hO : Ow w0 w 33 4 A m c (hks [h])) : m = 1 ∧ ∃ g, A = some ⟨g, 0, none⟩ ∧ g < w.heap.size ∧
    w.cell? ⟨g, 0, none⟩ = some (I h.a0) ∧ w.cell? ⟨g, 1, none⟩ = some (I h.a1) ∧ w.cell? ⟨g, 2, none⟩ = some (I h.b0) ∧ w.cell? ⟨g, 3, none⟩ = some (I h.b1) := by
  obtain rfl : m = 1 := by have := hO.len; simp [hks, hkc] at this; omega
  obtain ⟨g, rfl, _, hg⟩ := hO.form (by omega)
  have r0 := hO.1.cellAt
  have q0 := r0 0 (by omega); have q1 := r0 1 (by omega); have q2 := r0 2 (by omega); have q3 := r0 3 (by omega)
  simp [hks, hkc] at q0 q1 q2 q3
  exact ⟨rfl, g, rfl, hg, q0, q1, q2, q3⟩
theorem Ow.no_hunk {w0 w : World} {e : TypeId} {A : Option Addr} {m c : Nat} (hO : Ow w0 w e 4 A m c (hks [])) : m = 0 := by
  have := hO.len; simp [hks] at this; omega

set_option maxHeartbeats 2000000 in
set_option maxRecDepth 100000 in
theorem lineAdds_far (A A' : Option Addr) (n n' c c' : Nat) (w : World) (hM : MaxL w) (h : 200 < n ∨ 200 < n') :
    Calls Tryd.prog 6 #[.slice A n c, .slice A' n' c'] w fun e w' => e = .returned (.bool true) ∧ Below w.heap.size w w' := by
  by_cases h1 : 200 < n
  · go_enter Tryd.func6, Tryd.ntmps6
    go_wp2_with fail
    refine (awake15_any _ hM).mono ?_
    rintro e w1 ⟨rfl, b1⟩
    go_wp2
    go_ret
    exact ⟨rfl, b1⟩
  · have h2 : 200 < n' := by omega
    go_enter Tryd.func6, Tryd.ntmps6
    go_wp2_with fail
    refine (awake15_any _ hM).mono ?_
    rintro e w1 ⟨rfl, b1⟩
    go_wp2
    go_ret
    exact ⟨rfl, b1⟩

set_option maxHeartbeats 4000000 in
set_option maxRecDepth 100000 in
theorem lineAdds_near (A A' : Option Addr) (n n' c c' : Nat) (ss ss' : List (List UInt8)) (w : World) (hA : Sl w 1 A n (strs ss)) (hA' : Sl w 1 A' n' (strs ss')) (hc : n ≤ c) (hn : n ≤ 200) (hn' : n' ≤ 200) (hM : MaxL w) :
    Calls Tryd.prog 6 #[.slice A n c, .slice A' n' c'] w fun e w' => e = .returned (.bool true) ∧ Below w.heap.size w w' := by
  obtain ⟨i0, hi0, hz0, hz1, hz2⟩ := info_parts Tryd.infoStr
  have hl := Lib.hid (strs_len hA)
  have hl' := Lib.hid (strs_len hA')
  have HA := Lib.hid hA
  have HA' := Lib.hid hA'
  have m1 : n ≤ maxLen := by simp only [maxLen]; omega
  have m2 : n * 16 ≤ 140737488355328 := by omega
  have m3 : n + n' ≤ maxLen := by simp only [maxLen]; omega
  have m4 : (n + n') * 16 ≤ 140737488355328 := by omega
  clear hA hA'
  go_enter Tryd.func6, Tryd.ntmps6
  go_wp2_with fail
  refine (awake15_any _ hM).mono ?_
  rintro e w1 ⟨rfl, b1⟩
  have B1 := Lib.hid b1
  have SA := Lib.hid (HA.out.below b1)
  have SB := Lib.hid (HA'.out.below b1)
  clear b1
  have hne1 : ¬ 200 < n := by omega
  have hne2 : ¬ 200 < n' := by omega
  go_wp2_with (first
    | (at_builtin; refine wpList_append_first _ rfl (.tmp 21) (.tmp 22) _ rfl w1 9 i0 _ 1 16 Tryd.underlying22 hi0 hz0 hz1 hz2 rfl Nat.one_pos rfl (Below.refl _ _) A n c (strs ss) rfl SA.out (one_strs ss) m1 m2 ?_; intro A2 c2 w2 hO2 hg2; have SB2 := Lib.hid (SB.out.below hO2.2))
    | (at_builtin; refine wpList_append_sl _ rfl (.tmp 24) (.tmp 25) _ rfl w1 9 i0 _ 1 16 Tryd.underlying22 hi0 hz0 hz1 hz2 rfl Nat.one_pos A2 n c2 (strs ss) rfl hO2 A' n' c' (strs ss') rfl SB2.out (one_strs ss') m3 m4 ?_; intro A3 c3 w3 hO3 hg3 hat3))
  have SC := Lib.hid (show Sl w3 1 A3 (n + n') (strs (ss ++ ss')) by rw [strs, List.map_append]; exact hO3.sl)
  have SA3 := Lib.hid (SA.out.below hO3.2)
  have B3 := Lib.hid (bstep B1.out hO3.2)
  have hcap := hO3.cap.1
  clear hO2 hg2 hO3 hg3 hat3
  refine (diff_any A A3 n (n + n') c c3 _ _ _ SA3.out SC.out hc hcap (by have := Nat.mul_le_mul hn (show n + n' ≤ 400 by omega); omega) (by omega) (by omega)).mono ?_
  rintro e4 w4 ⟨A4, m4', c4, rfl, hO4⟩
  have SA4 := Lib.hid (SA3.out.below hO4.2)
  have SC4 := Lib.hid (SC.out.below hO4.2)
  have B4 := Lib.hid (bstep B3.out hO4.2)
  have HO4 := Lib.hid hO4
  clear hO4
  go_wp2_with fail
  refine (diff_any A3 A (n + n') n c3 c _ _ _ SC4.out SA4.out hcap hc (by have := Nat.mul_le_mul (show n + n' ≤ 400 by omega) hn; omega) (by omega) (by omega)).mono ?_
  rintro e5 w5 ⟨A5, m5, c5, rfl, hO5⟩
  have B5 := Lib.hid (bstep B4.out hO5.2)
  have HO5 := Lib.hid hO5
  have hk := Lib.hid hO5.2
  clear hO5
  by_cases h0 : n' = 0
  · obtain rfl : ss' = [] := List.eq_nil_of_length_eq_zero (by rw [hl'.out]; exact h0)
    have hO4 := HO4.out
    have hO5 := HO5.out
    rw [List.append_nil, LineLaw.diff_self] at hO4 hO5
    obtain rfl := hO4.no_hunk
    obtain rfl := hO5.no_hunk
    subst h0
    clear hO4 hO5
    go_wp2
    go_ret
    exact ⟨rfl, B5.out⟩
  · have hne : ss' ≠ [] := fun e => h0 (by rw [← hl'.out, e]; rfl)
    have hO4 := HO4.out
    have hO5 := HO5.out
    rw [LineLaw.diff_added _ _ hne, hl.out, hl'.out] at hO4
    rw [LineLaw.diff_taken _ _ hne, hl.out, hl'.out] at hO5
    obtain ⟨rfl, g, rfl, hg, p0, p1, p2, p3⟩ := hO4.one_hunk
    obtain ⟨rfl, g', rfl, hg', q0, q1, q2, q3⟩ := hO5.one_hunk
    have u0 := (hk.out.cell (p := ⟨g, 0, none⟩) hg).trans p0
    have u1 := (hk.out.cell (p := ⟨g, 1, none⟩) hg).trans p1
    have u2 := (hk.out.cell (p := ⟨g, 2, none⟩) hg).trans p2
    have u3 := (hk.out.cell (p := ⟨g, 3, none⟩) hg).trans p3
    have hz : ((n' : Int) == 0) = false := by simp; omega
    clear hO4 hO5 p0 p1 p2 p3
    go_wp2
    go_ret
    exact ⟨rfl, B5.out⟩

theorem lineAdds_law (A : Option Addr) (n c : Nat) (ss : List (List UInt8)) (A' : Option Addr) (n' c' : Nat) (ss' : List (List UInt8)) (w : World) (hA : Sl w 1 A n (strs ss)) (hc : n ≤ c) (hA' : Sl w 1 A' n' (strs ss')) (_hc' : n' ≤ c') (hM : MaxL w) :
    Calls Tryd.prog 6 #[.slice A n c, .slice A' n' c'] w fun e w' => e = .returned (.bool true) ∧ Below w.heap.size w w' := by
  by_cases h : 200 < n ∨ 200 < n'
  · exact lineAdds_far A A' n n' c c' w hM h
  · exact lineAdds_near A A' n n' c c' ss ss' w hA hA' hc (by omega) (by omega) hM
end Go.Proofs.YtpnogcblafmaiaaDoor
