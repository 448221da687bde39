/-
  Small functions over texts: equality of two slices of texts, a clone of one, an id's length. Conditions: slices read as lists and are no longer than an int counts.
-/
import Derived.Test.YtpnogcblafmaiaaDoorAppend
import Derived.Lib.SliceRun
namespace Go.Proofs.YtpnogcblafmaiaaDoor
open Go.RowKit

theorem ne_of_at {α : Type} {xs ys : List α} {k : Nat} {x y : α} (hx : xs[k]? = some x) (hy : ys[k]? = some y) (h : x ≠ y) : xs ≠ ys := by
  rintro rfl; rw [hx] at hy; exact h (Option.some.inj hy)
theorem take_step {α : Type} {xs ys : List α} {k : Nat} {x y : α} (hx : xs[k]? = some x) (hy : ys[k]? = some y) (e : x = y) (h : xs.take k = ys.take k) : xs.take (k + 1) = ys.take (k + 1) := by
  rw [List.take_add_one, List.take_add_one, h, hx, hy, e]
theorem take_all {α : Type} {xs ys : List α} {k : Nat} (hx : xs.length ≤ k) (hy : ys.length ≤ k) (h : xs.take k = ys.take k) : xs = ys := by
  rwa [List.take_of_length_le hx, List.take_of_length_le hy] at h
theorem ret_dec {p : Prop} [Decidable p] (h : p) : Ending.returned (.bool true) = .returned (.bool (decide p)) := by rw [decide_eq_true h]
theorem ret_ndec {p : Prop} [Decidable p] (h : ¬ p) : Ending.returned (.bool false) = .returned (.bool (decide p)) := by rw [decide_eq_false h]
theorem strs_len {w : World} {A : Option Addr} {n : Nat} {ss : List (List UInt8)} (h : Sl w 1 A n (strs ss)) : ss.length = n := by simpa using h.len

set_option maxHeartbeats 400000 in
theorem sameTexts_any (A A' : Option Addr) (n n' c c' : Nat) (ss ss' : List (List UInt8)) (w : World) (hA : Sl w 1 A n (strs ss)) (hA' : Sl w 1 A' n' (strs ss'))
    (hn : n ≤ 9223372036854775807) :
    Calls Tryd.prog 21 #[.slice A n c, .slice A' n' c'] w fun e w' => e = .returned (.bool (decide (ss = ss'))) ∧ ∃ m, w' = w.drewN m := by
  have hl := Lib.hid (strs_len hA)
  have hl' := Lib.hid (strs_len hA')
  by_cases hne : n = n'
  · subst hne
    go_enter Tryd.func21, Tryd.ntmps21
    go_wp2
    go_loopw [4, 5] (fun r i wr => ∃ k m : Nat, k ≤ n ∧ i = .int .i64 k ∧ wr = w.drewN m ∧ ss.take k = ss'.take k ∧ r = .bool false) (fun _ i _ => n - (intOf i).toNat)
    case atStart => exact ⟨0, 0, Nat.zero_le _, rfl, rfl, rfl, rfl⟩
    case round =>
      obtain ⟨k, m, hk, rfl, rfl, ht, rfl⟩ := hrel
      have Ht := Lib.hid ht
      clear ht
      by_cases hlt : k < n
      · obtain ⟨b, off, s, rfl, hs, hc⟩ := hA.str hlt
        obtain ⟨b', off', s', rfl, hs', hc'⟩ := hA'.str hlt
        have Hs := Lib.hid hs
        have Hs' := Lib.hid hs'
        clear hs hs'
        go_wp2
        go_quiet (fail)
        go_wp2
        · rename_i ht
          go_ret
          exact ⟨ret_ndec (ne_of_at Hs.out Hs'.out (by simpa using ht)), _, World.drewN_drewN _ _ _⟩
        · rename_i ht
          go_roundw
          case rel => exact ⟨k + 1, _, by omega, by go_num, rfl, take_step Hs.out Hs'.out (by simpa using ht) Ht.out, rfl⟩
          case measure => simp [intOf]; omega
      · go_wp2
        go_ret
        exact ⟨ret_dec (take_all (by rw [hl.out]; omega) (by rw [hl'.out]; omega) Ht.out), m, rfl⟩
  · have h1 : ((n : Int) != (n' : Int)) = true := by simp; omega
    go_enter Tryd.func21, Tryd.ntmps21
    go_wp2
    go_ret
    exact ⟨ret_ndec (fun e => hne (by rw [← hl.out, ← hl'.out, e])), 0, rfl⟩

set_option maxHeartbeats 400000 in
theorem equalS_any (A A' : Option Addr) (n n' c c' : Nat) (ss ss' : List (List UInt8)) (w : World) (hA : Sl w 1 A n (strs ss)) (hA' : Sl w 1 A' n' (strs ss'))
    (hn : n ≤ 9223372036854775807) :
    Calls Tryd.prog 56 #[.slice A n c, .slice A' n' c'] w fun e w' => e = .returned (.bool (decide (ss = ss'))) ∧ ∃ m, w' = w.drewN m := by
  have hl := Lib.hid (strs_len hA)
  have hl' := Lib.hid (strs_len hA')
  by_cases hne : n = n'
  · subst hne
    go_enter Tryd.func56, Tryd.ntmps56
    go_wp2
    go_loopw [4, 13] (fun r i wr => ∃ k m : Nat, k ≤ n ∧ i = .int .i64 k ∧ wr = w.drewN m ∧ ss.take k = ss'.take k ∧ r = .bool false) (fun _ i _ => n - (intOf i).toNat)
    case atStart => exact ⟨0, 0, Nat.zero_le _, rfl, rfl, rfl, rfl⟩
    case round =>
      obtain ⟨k, m, hk, rfl, rfl, ht, rfl⟩ := hrel
      have Ht := Lib.hid ht
      clear ht
      by_cases hlt : k < n
      · obtain ⟨b, off, s, rfl, hs, hc⟩ := hA.str hlt
        obtain ⟨b', off', s', rfl, hs', hc'⟩ := hA'.str hlt
        have Hs := Lib.hid hs
        have Hs' := Lib.hid hs'
        clear hs hs'
        go_wp2
        go_quiet (fail)
        go_wp2
        · rename_i ht
          go_ret
          exact ⟨ret_ndec (ne_of_at Hs.out Hs'.out (by simpa using ht)), _, World.drewN_drewN _ _ _⟩
        · rename_i ht
          go_roundw
          case rel => exact ⟨k + 1, _, by omega, by go_num, rfl, take_step Hs.out Hs'.out (by simpa using ht) Ht.out, rfl⟩
          case measure => simp [intOf]; omega
      · go_wp2
        go_ret
        exact ⟨ret_dec (take_all (by rw [hl.out]; omega) (by rw [hl'.out]; omega) Ht.out), m, rfl⟩
  · have h1 : ((n : Int) != (n' : Int)) = true := by simp; omega
    go_enter Tryd.func56, Tryd.ntmps56
    go_wp2
    go_ret
    exact ⟨ret_ndec (fun e => hne (by rw [← hl.out, ← hl'.out, e])), 0, rfl⟩


set_option maxHeartbeats 400000 in
theorem cloneS_any (A : Option Addr) (n c : Nat) (ss : List (List UInt8)) (w : World) (hA : Sl w 1 A n (strs ss)) (hn : n * 16 ≤ 140737488355328) :
    Calls Tryd.prog 70 #[.slice A n c] w fun e w' => ∃ A' c', e = .returned (.slice A' n c') ∧ Ow w w' 9 1 A' n c' (strs ss) := by
  obtain ⟨i0, hi0, hz0, hz1, hz2⟩ := info_parts Tryd.infoStr
  have hm : n ≤ maxLen := by simp only [maxLen]; omega
  have hnil := fun (W : World) (a : Option Addr) => Lib.run_eql_slice_nil (P := Tryd.prog) W 22 9 a n c 0 0 Tryd.underlying22
  rcases A with _ | a
  · have hn0 : n = 0 := by
      rcases Nat.eq_zero_or_pos n with h0 | h0
      · exact h0
      · obtain ⟨_, _, h, _⟩ := hA.2 h0
        cases h
    subst hn0
    go_enter Tryd.func70, Tryd.ntmps70
    go_wp2
    go_ret
    obtain rfl : ss = [] := List.eq_nil_of_length_eq_zero (strs_len hA)
    exact ⟨none, 0, rfl, Ow.nil_ (Below.refl _ _)⟩
  · have ho : Ow w (w.alloc (.cells #[] 9)) 9 1 (some ⟨w.heap.size, 0, none⟩) 0 0 [] := ⟨World.ownsRow_made _ #[] 0 (Nat.le_refl _) (Nat.zero_le _) rfl, (Below.refl _ _).alloc (Nat.le_refl _) _⟩
    have hs := hA.alloc (.cells #[] 9)
    have hm' : 0 + n ≤ maxLen := by omega
    have hn' : (0 + n) * 16 ≤ 140737488355328 := by omega
    go_enter Tryd.func70, Tryd.ntmps70
    go_wp2_with (at_builtin; refine wpList_append_sl _ rfl (.tmp 5) (.tmp 6) _ rfl w 9 i0 _ 1 16 Tryd.underlying22 hi0 hz0 hz1 hz2 rfl Nat.one_pos _ _ _ _ rfl ho (some a) n c (strs ss) rfl hs (one_strs ss) hm' hn' ?_; intro A' c' w1 hown1 hg1 hat1)
    go_ret
    rw [Nat.zero_add] at hown1
    exact ⟨A', c', by simp, by simpa using hown1⟩
end Go.Proofs.YtpnogcblafmaiaaDoor
