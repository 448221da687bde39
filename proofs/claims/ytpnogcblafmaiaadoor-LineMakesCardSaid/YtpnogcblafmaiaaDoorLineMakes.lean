/-
  dolmenlaw15.LineMakes returns true. Conditions: slices read as lists; internal/bytealg.MaxLen holds an int.
-/
import Derived.Test.YtpnogcblafmaiaaDoorLineAwake
import Derived.Test.YtpnogcblafmaiaaDoorLineAdds
namespace Go.Proofs.YtpnogcblafmaiaaDoor
open Go.RowKit
open LineLaw (Hk)

set_option maxHeartbeats 2000000 in
set_option maxRecDepth 100000 in
theorem lineMakes_far (A A' : Option Addr) (n n' c c' : Nat) (w : World) (hM : MaxL w) (h : 300 < n ∨ 300 < n') :
    Calls Tryd.prog 4 #[.slice A n c, .slice A' n' c'] w fun e w' => e = .returned (.bool true) ∧ Below w.heap.size w w' := by
  by_cases h1 : 300 < n
  · go_enter Tryd.func4, Tryd.ntmps4
    go_wp2_with fail
    refine (awake15_any _ hM).mono ?_
    rintro e w1 ⟨rfl, b1⟩
    go_wp2
    go_ret
    exact ⟨rfl, b1⟩
  · have h2 : 300 < n' := by omega
    go_enter Tryd.func4, Tryd.ntmps4
    go_wp2_with fail
    refine (awake15_any _ hM).mono ?_
    rintro e w1 ⟨rfl, b1⟩
    go_wp2
    go_ret
    exact ⟨rfl, b1⟩

/-- what is kept and what is new, behind what there is -/
theorem made_more {a b : List (List UInt8)} {i j a0 b0 b1 : Nat} (_h1 : i ≤ a0) (h2 : j ≤ b0) (h3 : a0 - i = b0 - j) (h4 : b0 ≤ b1) (hk : (a.drop i).take (a0 - i) = (b.drop j).take (a0 - i)) :
    b.take j ++ (a.drop i).take (a0 - i) ++ (b.drop b0).take (b1 - b0) = b.take b1 := by
  have e1 : b.take j ++ (b.drop j).take (b0 - j) = b.take b0 := by
    rw [← List.take_add, show j + (b0 - j) = b0 by omega]
  rw [hk, h3, e1, ← List.take_add, show b0 + (b1 - b0) = b1 by omega]

set_option maxHeartbeats 8000000 in
set_option maxRecDepth 100000 in
theorem lineMakes_near (A A' : Option Addr) (n n' c c' : Nat) (ss ss' : List (List UInt8)) (w : World) (hA : Sl w 1 A n (strs ss)) (hA' : Sl w 1 A' n' (strs ss')) (hc : n ≤ c) (hc' : n' ≤ c') (hn : n ≤ 300) (hn' : n' ≤ 300) (hM : MaxL w) :
    Calls Tryd.prog 4 #[.slice A n c, .slice A' n' c'] w fun e w' => e = .returned (.bool true) ∧ Below w.heap.size w w' := by
  obtain ⟨i0, hi0, hz0, hz1, hz2⟩ := info_parts Tryd.infoStr
  have hl := Lib.hid (strs_len hA)
  have hl' := Lib.hid (strs_len hA')
  have HA := Lib.hid hA
  have HA' := Lib.hid hA'
  have hmul : n * n' ≤ 1048576 := by have := Nat.mul_le_mul hn hn'; omega
  have hok := LineLaw.diff_ok ss ss'
  obtain ⟨l, hll⟩ : ∃ l, LineLaw.diff ss ss' = l := ⟨_, rfl⟩
  rw [hll] at hok
  have Hok := Lib.hid hok
  have Hll := Lib.hid hll
  clear hA hA' hok hll
  have hne1 : ¬ 300 < n := by omega
  have hne2 : ¬ 300 < n' := by omega
  go_enter Tryd.func4, Tryd.ntmps4
  go_wp2_with fail
  refine (awake15_any _ hM).mono ?_
  rintro e w1 ⟨rfl, b1⟩
  have B1 := Lib.hid b1
  have SA := Lib.hid (HA.out.below b1)
  have SB := Lib.hid (HA'.out.below b1)
  clear b1 HA HA'
  go_wp2_with fail
  refine (diff_any A A' n n' c c' ss ss' _ SA.out SB.out hc hc' hmul (by omega) (by omega)).mono ?_
  rintro e2 w2 ⟨A2, m2, c2, rfl, hO⟩
  rw [Hll.out] at hO
  have hS := Lib.hid hO.sl
  have B2 := Lib.hid (bstep B1.out hO.2)
  have SA2 := Lib.hid (SA.out.below hO.2)
  have SB2 := Lib.hid (SB.out.below hO.2)
  have hlm := Lib.hid (hks_count hO.sl)
  have hcap := hO.cap
  simp only [maxLen] at hcap
  clear hO B1 SA SB
  go_wp2_with fail
  go_loopw [6, 7, 8, 10] (fun s6 s7 s8 s10 wr => ∃ (k i j : Nat) (Ao : Option Addr) (mo co : Nat), k ≤ m2 ∧ s10 = .int .i64 k ∧ s7 = .int .i64 i ∧ s8 = .int .i64 j ∧ s6 = .slice Ao mo co ∧ Ow w2 wr 9 1 Ao mo co (strs (ss'.take j)) ∧ LineLaw.Ok ss ss' i j (decide (k = 0)) (l.drop k)) (fun _ _ _ s10 _ => m2 - (intOf s10).toNat)
  case atStart => exact ⟨0, 0, 0, none, 0, 0, Nat.zero_le _, rfl, rfl, rfl, rfl, by rw [List.take_zero]; exact Ow.nil_ (Below.refl _ _), Hok.out⟩
  case round =>
    obtain ⟨k, i, j, Ao, mo, co, hk, rfl, rfl, rfl, rfl, hO, hokk⟩ := hrel
    have hmo : mo ≤ j := by have := hO.len; simp at this; omega
    by_cases hlt : k < m2
    · obtain ⟨b, off, x, rfl, hb, hx, c0, c1, cb0, cb1⟩ := (hS.out.below hO.2).hunk hlt
      have hdrop : l.drop k = x :: l.drop (k + 1) := by
        obtain ⟨h1, e1⟩ := List.getElem?_eq_some_iff.1 hx
        rw [List.drop_eq_getElem_cons h1, e1]
      rw [hdrop] at hokk
      obtain ⟨o1, o2, o3, o4, o5, o6, o7, o8, o9, o10, o11⟩ := hokk
      rw [hl.out] at o5
      rw [hl'.out] at o6
      have O11 := Lib.hid o11
      have O10 := Lib.hid o10
      have kX := fun W : World => run_cut_lh (P := Tryd.prog) W Tryd.underlying22 Tryd.sizeStr A n c .i64 .i64 i x.a0 o1 (by omega)
      have kY := fun W : World => run_cut_lh (P := Tryd.prog) W Tryd.underlying22 Tryd.sizeStr A' n' c' .i64 .i64 x.b0 x.b1 o4 (by omega)
      have sX := (SA2.out.below hO.2).mid_ (j := i) (k := x.a0) (c := c) o1 (by omega) hc
      have sY := SB2.out.mid_ (j := x.b0) (k := x.b1) (c := c') o4 o6 hc'
      obtain ⟨nx, hnx⟩ : ∃ nx, x.a0 - i = nx := ⟨_, rfl⟩
      obtain ⟨ny, hny⟩ : ∃ ny, x.b1 - x.b0 = ny := ⟨_, rfl⟩
      obtain ⟨X, hX⟩ : ∃ X, cutA A c i 1 = X := ⟨_, rfl⟩
      obtain ⟨Y, hY⟩ : ∃ Y, cutA A' c' x.b0 1 = Y := ⟨_, rfl⟩
      have hmade := made_more (a := ss) (b := ss') (b1 := x.b1) o1 o2 o8 o4 o10
      rw [hnx, hny] at hmade
      rw [hX, hnx] at kX sX
      rw [hY, hny] at kY sY
      obtain ⟨lx, hlx⟩ : ∃ lx, (ss.drop i).take nx = lx := ⟨_, rfl⟩
      obtain ⟨ly, hly⟩ : ∃ ly, (ss'.drop x.b0).take ny = ly := ⟨_, rfl⟩
      rw [hlx, hly] at hmade
      rw [hlx] at sX
      rw [hly] at sY
      have Hmade := Lib.hid hmade
      have SX := Lib.hid sX
      have SY := Lib.hid sY
      have HO := Lib.hid hO
      have q1 : mo + nx ≤ maxLen := by simp only [maxLen]; omega
      have q2 : (mo + nx) * 16 ≤ 140737488355328 := by omega
      have q3 : mo + nx + ny ≤ maxLen := by simp only [maxLen]; omega
      have q4 : (mo + nx + ny) * 16 ≤ 140737488355328 := by omega
      have hsub : ((x.a0 : Int) - (i : Int) != (x.b0 : Int) - (j : Int)) = false := by simp; omega
      have hcase : (k ≤ 0 ∨ (0 < k ∧ ((x.a0 : Int) == (i : Int)) = false)) := by
        rcases Nat.eq_zero_or_pos k with h0 | h0
        · exact .inl (by omega)
        · have := o9 (by simp; omega)
          exact .inr ⟨h0, by simp; omega⟩
      have hcase2 : ((x.a0 : Int) == (x.a1 : Int)) = false ∨ (((x.a0 : Int) == (x.a1 : Int)) = true ∧ ((x.b0 : Int) == (x.b1 : Int)) = false) := by
        by_cases e : x.a0 = x.a1
        · exact .inr ⟨by simp [e], by simp; omega⟩
        · exact .inl (by simp; omega)
      clear hO hx hdrop o9 o10 o11 sX sY hnx hny hX hY hmade hlx hly o8
      rcases hcase with hk0 | ⟨hk0, hne⟩
      all_goals
        rcases hcase2 with hne3 | ⟨heq3, hne3⟩
        all_goals
          go_wp2_with (first
            | (at_builtin; refine wpList_append_sl _ rfl (.tmp 108) (.tmp 113) _ rfl w2 9 i0 _ 1 16 Tryd.underlying22 hi0 hz0 hz1 hz2 rfl Nat.one_pos Ao mo co (strs (ss'.take j)) rfl (HO.out.alloc _) X nx _ (strs lx) rfl (SX.out.alloc _) (one_strs lx) q1 q2 ?_; intro A3 c3 w3 hO3 hg3 hat3; have hH3 := (Blk.new wr 33 #[I x.a0, I x.a1, I x.b0, I x.b1]).grown hg3 (row_ne (HO.out.alloc _) (Blk.new wr 33 #[I x.a0, I x.a1, I x.b0, I x.b1]) (by decide)); have k3 := hH3.cell; have SY3 := Lib.hid (SY.out.below hO3.2))
            | (at_builtin; refine wpList_append_sl _ rfl (.tmp 115) (.tmp 121) _ rfl w2 9 i0 _ 1 16 Tryd.underlying22 hi0 hz0 hz1 hz2 rfl Nat.one_pos A3 (mo + nx) c3 (strs (ss'.take j) ++ strs lx) rfl hO3 Y ny _ (strs ly) rfl SY3.out (one_strs ly) q3 q4 ?_; intro A4 c4 w4 hO4 hg4 hat4; have hH4 := hH3.grown hg4 (row_ne hO3 hH3 (by decide)); have k4 := hH4.cell; clear k3))
          go_roundw
          case rel => exact ⟨k + 1, x.a1, x.b1, A4, mo + nx + ny, c4, by omega, by go_num, rfl, rfl, rfl, by rw [← Hmade.out]; simpa [strs] using hO4, by simpa using O11.out⟩
          case measure => simp [intOf]; omega
    · obtain rfl : k = m2 := by omega
      rw [List.drop_eq_nil_of_le (by rw [hlm.out]; exact Nat.le_refl _)] at hokk
      obtain ⟨o1, o2, o3⟩ := hokk
      rw [hl.out] at o1
      rw [hl'.out] at o2
      have kX := fun W : World => run_cut_l (P := Tryd.prog) W Tryd.underlying22 Tryd.sizeStr A n c .i64 i o1
      have sX := (SA2.out.below hO.2).tail_ (k := i) (c := c) o1 hc
      obtain ⟨X, hX⟩ : ∃ X, cutA A c i 1 = X := ⟨_, rfl⟩
      rw [hX] at kX sX
      rw [o3] at sX
      have SX := Lib.hid sX
      have HO := Lib.hid hO
      have q1 : mo + (n - i) ≤ maxLen := by simp only [maxLen]; omega
      have q2 : (mo + (n - i)) * 16 ≤ 140737488355328 := by omega
      clear hO o3 sX hX
      go_wp2_with (at_builtin; refine wpList_append_sl _ rfl (.tmp 127) (.tmp 130) _ rfl w2 9 i0 _ 1 16 Tryd.underlying22 hi0 hz0 hz1 hz2 rfl Nat.one_pos Ao mo co (strs (ss'.take j)) rfl HO.out X (n - i) _ (strs (ss'.drop j)) rfl SX.out (one_strs _) q1 q2 ?_; intro A3 c3 w3 hO3 hg3 hat3)
      have SC := Lib.hid (show Sl w3 1 A3 (mo + (n - i)) (strs ss') by have h := hO3.sl; rwa [strs, strs, ← List.map_append, List.take_append_drop] at h)
      have SB3 := Lib.hid (SB2.out.below hO3.2)
      have B3 := Lib.hid (bstep B2.out hO3.2)
      clear hO3 hg3 hat3
      refine (sameTexts_any A3 A' (mo + (n - i)) n' c3 c' ss' ss' _ SC.out SB3.out (by omega)).mono ?_
      rintro e5 w5 ⟨rfl, q5, rfl⟩
      rw [decide_eq_true rfl]
      go_wp2
      go_ret
      exact ⟨rfl, below_drewN B3.out _⟩

theorem lineMakes_law (A : Option Addr) (n c : Nat) (ss : List (List UInt8)) (A' : Option Addr) (n' c' : Nat) (ss' : List (List UInt8)) (w : World) (hA : Sl w 1 A n (strs ss)) (hc : n ≤ c) (hA' : Sl w 1 A' n' (strs ss')) (hc' : n' ≤ c') (hM : MaxL w) :
    Calls Tryd.prog 4 #[.slice A n c, .slice A' n' c'] w fun e w' => e = .returned (.bool true) ∧ Below w.heap.size w w' := by
  by_cases h : 300 < n ∨ 300 < n'
  · exact lineMakes_far A A' n n' c c' w hM h
  · exact lineMakes_near A A' n n' c c' ss ss' w hA hA' hc hc' (by omega) (by omega) hM
end Go.Proofs.YtpnogcblafmaiaaDoor
