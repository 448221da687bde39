/-
  line.begin, line.end, dolmenref15.ends: how many lines two begin and end with alike. Conditions: slices read as lists, no longer than an int counts.
-/
import Derived.Test.YtpnogcblafmaiaaDoorCut
import Derived.Test.YtpnogcblafmaiaaDoorTexts
import Derived.Test.YtpnogcblafmaiaaDoorLineLaw
namespace Go.Proofs.YtpnogcblafmaiaaDoor
open Go.RowKit

theorem ret_nat {a : Int} {b : Nat} (h : a = b) : Ending.returned (.int .i64 a) = .returned (I b) := by rw [h]
theorem sl_rev {w : World} {A : Option Addr} {n k : Nat} {ss : List (List UInt8)} (h : Sl w 1 A n (strs ss)) (hk : k < n) : ∃ b off s, A = some ⟨b, off, none⟩ ∧ ss.reverse[k]? = some s ∧ w.cell? ⟨b, off + (n - 1 - k), none⟩ = some (S s) := by
  have hl := strs_len h
  obtain ⟨b, off, s, e, hs, hc⟩ := h.str (k := n - 1 - k) (by omega)
  refine ⟨b, off, s, e, ?_, hc⟩
  rw [List.getElem?_reverse (by omega), hl]; exact hs
theorem pre_here {ss ss' : List (List UInt8)} {P k : Nat} {s s' : List UInt8} (h : P = k + LineLaw.pre (ss.drop k) (ss'.drop k)) (hs : ss[k]? = some s) (hs' : ss'[k]? = some s') (e : s = s') : P = (k + 1) + LineLaw.pre (ss.drop (k + 1)) (ss'.drop (k + 1)) := by
  subst e
  rw [h, LineLaw.pre_step hs hs']; omega
theorem pre_ends {ss ss' : List (List UInt8)} {P k : Nat} (h : P = k + LineLaw.pre (ss.drop k) (ss'.drop k)) (hk : ss.length ≤ k ∨ ss'.length ≤ k) : (k : Int) = (P : Nat) := by
  rw [h, LineLaw.pre_end hk]; rfl
theorem pre_parts {ss ss' : List (List UInt8)} {P k : Nat} {s s' : List UInt8} (h : P = k + LineLaw.pre (ss.drop k) (ss'.drop k)) (hs : ss[k]? = some s) (hs' : ss'[k]? = some s') (hne : ¬ s = s') : (k : Int) = (P : Nat) := by
  rw [h, LineLaw.pre_stop hs hs' hne]; rfl

set_option maxHeartbeats 1000000 in
theorem begin_any (A A' : Option Addr) (n n' c c' : Nat) (ss ss' : List (List UInt8)) (w : World) (hA : Sl w 1 A n (strs ss)) (hA' : Sl w 1 A' n' (strs ss')) (hn : n ≤ 9223372036854775807) (_hn' : n' ≤ 9223372036854775807) :
    Calls Tryd.prog 33 #[.slice A n c, .slice A' n' c'] w fun e w' => e = .returned (I (LineLaw.pre ss ss' : Nat)) ∧ ∃ m, w' = w.drewN m := by
  have hl := Lib.hid (strs_len hA)
  have hl' := Lib.hid (strs_len hA')
  go_enter Tryd.func33, Tryd.ntmps33
  go_wp2
  go_loopw [5] (fun i wr => ∃ k m : Nat, k ≤ n ∧ k ≤ n' ∧ i = .int .i64 k ∧ wr = w.drewN m ∧ LineLaw.pre ss ss' = k + LineLaw.pre (ss.drop k) (ss'.drop k)) (fun i _ => n - (intOf i).toNat)
  case atStart => exact ⟨0, 0, Nat.zero_le _, Nat.zero_le _, rfl, rfl, by simp⟩
  case round =>
    obtain ⟨k, m, hk, hk', rfl, rfl, ht⟩ := hrel
    have Ht := Lib.hid ht
    clear ht
    by_cases hlt : k < n
    · by_cases hlt' : k < n'
      · obtain ⟨b, off, s, rfl, hs, hc⟩ := hA.str hlt
        obtain ⟨b', off', s', rfl, hs', hc'⟩ := hA'.str hlt'
        have Hs := Lib.hid hs
        have Hs' := Lib.hid hs'
        clear hs hs'
        go_wp2
        go_quiet (fail)
        go_wp2
        · rename_i ht
          go_roundw
          case rel => exact ⟨k + 1, _, by omega, by omega, by go_num, rfl, pre_here Ht.out Hs.out Hs'.out (by simpa using ht)⟩
          case measure => simp [intOf]; omega
        · rename_i ht
          go_ret
          exact ⟨ret_nat (pre_parts Ht.out Hs.out Hs'.out (by simpa using ht)), _, World.drewN_drewN _ _ _⟩
      · go_wp2
        go_quiet (fail)
        go_wp2
        go_ret
        exact ⟨ret_nat (pre_ends Ht.out (.inr (by simp [hl'.out]; omega))), _, World.drewN_drewN _ _ _⟩
    · go_wp2
      go_quiet (fail)
      go_wp2
      go_ret
      exact ⟨ret_nat (pre_ends Ht.out (.inl (by simp [hl.out]; omega))), _, World.drewN_drewN _ _ _⟩

set_option maxHeartbeats 1000000 in
theorem end_any (A A' : Option Addr) (n n' c c' : Nat) (ss ss' : List (List UInt8)) (w : World) (hA : Sl w 1 A n (strs ss)) (hA' : Sl w 1 A' n' (strs ss')) (hn : n ≤ 9223372036854775807) (hn' : n' ≤ 9223372036854775807) :
    Calls Tryd.prog 34 #[.slice A n c, .slice A' n' c'] w fun e w' => e = .returned (I (LineLaw.suf ss ss' : Nat)) ∧ ∃ m, w' = w.drewN m := by
  have hl := Lib.hid (strs_len hA)
  have hl' := Lib.hid (strs_len hA')
  go_enter Tryd.func34, Tryd.ntmps34
  go_wp2
  go_loopw [5] (fun i wr => ∃ k m : Nat, k ≤ n ∧ k ≤ n' ∧ i = .int .i64 k ∧ wr = w.drewN m ∧ LineLaw.suf ss ss' = k + LineLaw.pre (ss.reverse.drop k) (ss'.reverse.drop k)) (fun i _ => n - (intOf i).toNat)
  case atStart => exact ⟨0, 0, Nat.zero_le _, Nat.zero_le _, rfl, rfl, by simp [LineLaw.suf]⟩
  case round =>
    obtain ⟨k, m, hk, hk', rfl, rfl, ht⟩ := hrel
    have Ht := Lib.hid ht
    clear ht
    by_cases hlt : k < n
    · by_cases hlt' : k < n'
      · obtain ⟨b, off, s, rfl, hs, hc⟩ := sl_rev hA hlt
        obtain ⟨b', off', s', rfl, hs', hc'⟩ := sl_rev hA' hlt'
        have Hs := Lib.hid hs
        have Hs' := Lib.hid hs'
        clear hs hs'
        go_wp2
        go_quiet (fail)
        go_wp2
        · rename_i ht
          go_roundw
          case rel => exact ⟨k + 1, _, by omega, by omega, by go_num, rfl, pre_here Ht.out Hs.out Hs'.out (by simpa using ht)⟩
          case measure => simp [intOf]; omega
        · rename_i ht
          go_ret
          exact ⟨ret_nat (pre_parts Ht.out Hs.out Hs'.out (by simpa using ht)), _, World.drewN_drewN _ _ _⟩
      · go_wp2
        go_quiet (fail)
        go_wp2
        go_ret
        exact ⟨ret_nat (pre_ends Ht.out (.inr (by simp [hl'.out]; omega))), _, World.drewN_drewN _ _ _⟩
    · go_wp2
      go_quiet (fail)
      go_wp2
      go_ret
      exact ⟨ret_nat (pre_ends Ht.out (.inl (by simp [hl.out]; omega))), _, World.drewN_drewN _ _ _⟩
end Go.Proofs.YtpnogcblafmaiaaDoor
