/-
  dolmenref15.ends: how many lines two begin with, and then end with, alike. Conditions: slices read as lists, no longer than an int counts.
-/
import Derived.Test.YtpnogcblafmaiaaDoorLineEnds
import Derived.IntWalk
namespace Go.Proofs.YtpnogcblafmaiaaDoor
open Go.RowKit

theorem drop_rev {ss : List (List UInt8)} {n p k : Nat} {s : List UInt8} (hl : ss.length = n) (hk : k < n - p) (h : ss.reverse[k]? = some s) : (ss.drop p).reverse[k]? = some s := by
  subst hl
  rw [List.getElem?_reverse (by omega)] at h
  rw [List.getElem?_reverse (by simp; omega), List.getElem?_drop, List.length_drop, show p + (ss.length - p - 1 - k) = ss.length - 1 - k by omega]
  exact h
theorem ret_two {p : Nat} {a : Int} {b : Nat} (h : a = b) : Ending.returned (.tuple #[.int .i64 p, .int .i64 a]) = .returned (.tuple #[I p, I b]) := by rw [h]
/-- where the common beginning ends -/
theorem pre_end_cases {ss ss' : List (List UInt8)} {n n' P : Nat} (hl : ss.length = n) (hl' : ss'.length = n') (hP : LineLaw.pre ss ss' = P) : n = P ∨ n' = P ∨ (P < n ∧ P < n' ∧ ∀ s s', ss[P]? = some s → ss'[P]? = some s' → (s == s') = false) := by
  have h1 := LineLaw.pre_le_left ss ss'
  have h2 := LineLaw.pre_le_right ss ss'
  rcases Nat.lt_or_ge P n with h3 | h3
  · rcases Nat.lt_or_ge P n' with h4 | h4
    · refine .inr (.inr ⟨h3, h4, fun s s' hs hs' => ?_⟩)
      by_cases e : s = s'
      · subst e
        have h5 := LineLaw.pre_step hs hs'
        have h6 : ∀ k, k ≤ P → P = k + LineLaw.pre (ss.drop k) (ss'.drop k) := by
          intro k hk
          induction k with
          | zero => simp [hP]
          | succ k ih =>
            have h7 := ih (by omega)
            obtain ⟨x, hx⟩ : ∃ x, ss[k]? = some x := ⟨ss[k]'(by omega), List.getElem?_eq_getElem _⟩
            obtain ⟨y, hy⟩ : ∃ y, ss'[k]? = some y := ⟨ss'[k]'(by omega), List.getElem?_eq_getElem _⟩
            by_cases exy : x = y
            · exact pre_here h7 hx hy exy
            · have := pre_parts h7 hx hy exy; omega
        have h8 := h6 P (Nat.le_refl _)
        omega
      · simpa using e
    · exact .inr (.inl (by omega))
  · exact .inl (by omega)

set_option maxHeartbeats 2000000 in
set_option maxRecDepth 100000 in
theorem refEnds_any (A A' : Option Addr) (n n' c c' : Nat) (ss ss' : List (List UInt8)) (w : World) (hA : Sl w 1 A n (strs ss)) (hA' : Sl w 1 A' n' (strs ss')) (hn : n ≤ 9223372036854775807) (hn' : n' ≤ 9223372036854775807) (P E : Nat) (hP : LineLaw.pre ss ss' = P) (hE : LineLaw.suf (ss.drop P) (ss'.drop P) = E) :
    Calls Tryd.prog 38 #[.slice A n c, .slice A' n' c'] w fun e w' => e = .returned (.tuple #[I P, I E]) ∧ ∃ m, w' = w.drewN m := by
  have hl := Lib.hid (strs_len hA)
  have hl' := Lib.hid (strs_len hA')
  have hend := Lib.hid (pre_end_cases hl.out hl'.out hP)
  have hPn : P ≤ n := by have := LineLaw.pre_le_left ss ss'; rw [hP, hl.out] at this; exact this
  have hPn' : P ≤ n' := by have := LineLaw.pre_le_right ss ss'; rw [hP, hl'.out] at this; exact this
  have HP := Lib.hid hP
  have HE := Lib.hid hE
  clear hP hE
  go_enter Tryd.func38, Tryd.ntmps38
  go_wp2
  go_loopw [6] (fun i wr => ∃ k m : Nat, k ≤ P ∧ i = .int .i64 k ∧ wr = w.drewN m ∧ P = k + LineLaw.pre (ss.drop k) (ss'.drop k)) (fun i _ => n - (intOf i).toNat)
  case atStart => exact ⟨0, 0, Nat.zero_le _, rfl, rfl, by simp [HP.out]⟩
  case round =>
    obtain ⟨k, m, hk, rfl, rfl, ht⟩ := hrel
    have Ht := Lib.hid ht
    clear ht
    by_cases hlt : k < P
    · obtain ⟨b, off, s, rfl, hs, hc⟩ := hA.str (k := k) (by omega)
      obtain ⟨b', off', s', rfl, hs', hc'⟩ := hA'.str (k := k) (by omega)
      by_cases hss : s = s'
      · subst hss
        have Hs := Lib.hid hs
        have Hs' := Lib.hid hs'
        have g1 : k < n := by omega
        have g2 : k < n' := by omega
        clear hs hs'
        go_wp2
        go_quiet (fail)
        go_wp2
        go_roundw
        case rel => exact ⟨k + 1, _, by omega, by go_num, rfl, pre_here Ht.out Hs.out Hs'.out rfl⟩
        case measure => simp [intOf]; omega
      · have := pre_parts Ht.out hs hs' hss
        omega
    · obtain rfl : k = P := by omega
      have hcase : n = k ∨ (k < n ∧ n' = k) ∨ (k < n ∧ k < n' ∧ ∃ b off s b' off' s', A = some ⟨b, off, none⟩ ∧ A' = some ⟨b', off', none⟩ ∧ w.cell? ⟨b, off + k, none⟩ = some (S s) ∧ w.cell? ⟨b', off' + k, none⟩ = some (S s') ∧ (s == s') = false) := by
        rcases hend.out with h | h | ⟨h1, h2, h3⟩
        · exact .inl h
        · by_cases h5 : n = k
          · exact .inl h5
          · exact .inr (.inl ⟨by omega, h⟩)
        · obtain ⟨b, off, s, rfl, hs, hc⟩ := hA.str (k := k) h1
          obtain ⟨b', off', s', rfl, hs', hc'⟩ := hA'.str (k := k) h2
          exact .inr (.inr ⟨h1, h2, b, off, s, b', off', s', rfl, rfl, hc, hc', h3 s s' hs hs'⟩)
      rcases hcase with hh | ⟨hh, hh2⟩ | ⟨hh, hh2, b, off, s, b', off', s', rfl, rfl, hcc, hcc', hse⟩
      all_goals
        go_wp2
        go_quiet (fail)
        go_wp2
        try clear hh2
        try clear hh
        try clear hcc hcc' hse
        go_loopw [7] (fun i wr => ∃ q m : Nat, q ≤ n - k ∧ q ≤ n' - k ∧ i = .int .i64 q ∧ wr = w.drewN m ∧ E = q + LineLaw.pre ((ss.drop k).reverse.drop q) ((ss'.drop k).reverse.drop q)) (fun i _ => n - (intOf i).toNat)
        case atStart => exact ⟨0, _, Nat.zero_le _, Nat.zero_le _, rfl, World.drewN_drewN _ _ _, by simpa [LineLaw.suf] using HE.out.symm⟩
        case round =>
          obtain ⟨q, m, hq, hq', rfl, rfl, ht⟩ := hrel
          have HtE := Lib.hid ht
          clear ht
          by_cases hlt2 : q < n - k
          · by_cases hlt2' : q < n' - k
            · obtain ⟨b2, off2, s2, e2, hs2, hc2⟩ := sl_rev hA (k := q) (by omega)
              obtain ⟨b2', off2', s2', e2', hs2', hc2'⟩ := sl_rev hA' (k := q) (by omega)
              cases e2
              cases e2'
              have Hs := Lib.hid (drop_rev hl.out hlt2 hs2)
              have Hs' := Lib.hid (drop_rev hl'.out hlt2' hs2')
              have g1 : (q : Int) < (n : Int) - k := by omega
              have g2 : (q : Int) < (n' : Int) - k := by omega
              have e1 : IntKind.i64.wrap ((n : Int) - k) = (n : Int) - k := IntWalk.i64_in _ (by omega)
              have e2 : IntKind.i64.wrap ((n' : Int) - k) = (n' : Int) - k := IntWalk.i64_in _ (by omega)
              have e3 : IntKind.i64.wrap ((n : Int) - 1) = (n : Int) - 1 := IntWalk.i64_in _ (by omega)
              have e4 : IntKind.i64.wrap ((n' : Int) - 1) = (n' : Int) - 1 := IntWalk.i64_in _ (by omega)
              have e5 : IntKind.i64.wrap ((n : Int) - 1 - q) = (n : Int) - 1 - q := IntWalk.i64_in _ (by omega)
              have e6 : IntKind.i64.wrap ((n' : Int) - 1 - q) = (n' : Int) - 1 - q := IntWalk.i64_in _ (by omega)
              have d1 : ((n : Int) - 1 - q).toNat = n - 1 - q := by omega
              have d2 : ((n' : Int) - 1 - q).toNat = n' - 1 - q := by omega
              have g3 : (0 : Int) ≤ (n : Int) - 1 - q := by omega
              have g4 : (n : Int) - 1 - q < n := by omega
              have g5 : (0 : Int) ≤ (n' : Int) - 1 - q := by omega
              have g6 : (n' : Int) - 1 - q < n' := by omega
              clear hs2 hs2'
              go_wp2
              go_quiet (fail)
              go_wp2
              · rename_i ht
                go_roundw
                case rel => exact ⟨q + 1, _, by omega, by omega, by go_num, rfl, pre_here HtE.out Hs.out Hs'.out (by simpa using ht)⟩
                case measure => simp [intOf]; omega
              · rename_i ht
                go_ret2
                exact ⟨ret_two (pre_parts HtE.out Hs.out Hs'.out (by simpa using ht)), _, World.drewN_drewN _ _ _⟩
            · have g1 : (q : Int) < (n : Int) - k := by omega
              have g2 : decide ((q : Int) < (n' : Int) - k) = false := by simp; omega
              have e1 : IntKind.i64.wrap ((n : Int) - k) = (n : Int) - k := IntWalk.i64_in _ (by omega)
              have e2 : IntKind.i64.wrap ((n' : Int) - k) = (n' : Int) - k := IntWalk.i64_in _ (by omega)
              go_wp2
              go_quiet (fail)
              go_wp2
              go_ret2
              exact ⟨ret_two (pre_ends HtE.out (.inr (by simp [hl'.out]; omega))), _, World.drewN_drewN _ _ _⟩
          · have g1 : decide ((q : Int) < (n : Int) - k) = false := by simp; omega
            have e1 : IntKind.i64.wrap ((n : Int) - k) = (n : Int) - k := IntWalk.i64_in _ (by omega)
            go_wp2
            go_quiet (fail)
            go_wp2
            go_ret2
            exact ⟨ret_two (pre_ends HtE.out (.inl (by simp [hl.out]; omega))), _, World.drewN_drewN _ _ _⟩
end Go.Proofs.YtpnogcblafmaiaaDoor
