/-
  The references' Check, Next, Same of a plan, and the law's theirs. Conditions: the plan's steps read as a list.
-/
import Derived.Test.YtgcbolijdgecgaaPlanEnc
import Derived.Test.YtgcbolijdgecgaaPlanLaw
namespace Go.Proofs.Ytgcbolijdgecgaa
open Go.RowKit

set_option maxHeartbeats 2000000 in
set_option maxRecDepth 100000 in
theorem refCheck_kind (kind : Int) (A : Option Addr) (n c : Nat) (at_ : Int) (orig who : List UInt8) (stamp : Int) (w : World) (h : kind < 1 ∨ 3 < kind) :
    Calls Try.prog 26 #[plV kind A n c at_ orig who stamp] w fun e w' => e = .returned (I 1) ∧ Below w.heap.size w w' := by
  rcases h with h1 | h1
  · go_enter Try.func26, Try.ntmps26
    go_wp2
    go_ret
    exact ⟨rfl, (Below.refl _ _).alloc (Nat.le_refl _) _⟩
  · have h2 : 1 ≤ kind := by omega
    go_enter Try.func26, Try.ntmps26
    go_wp2
    go_ret
    exact ⟨rfl, (Below.refl _ _).alloc (Nat.le_refl _) _⟩

set_option maxHeartbeats 2000000 in
set_option maxRecDepth 100000 in
theorem refCheck_notRight (kind : Int) (A : Option Addr) (n c : Nat) (at_ : Int) (orig who : List UInt8) (stamp : Int) (w : World) (k1 : 1 ≤ kind) (k2 : kind ≤ 3) (h : ¬ RightP n at_ orig who stamp) :
    Calls Try.prog 26 #[plV kind A n c at_ orig who stamp] w fun e w' => e = .returned (I 1) ∧ Below w.heap.size w w' := by
  rcases not_right h with ⟨h1⟩ | ⟨h1, h2⟩ | ⟨h1, h2, h3⟩ | ⟨h1, h2, h3, h4⟩ | ⟨h1, h2, h3, h4, h5⟩ | ⟨h1, h2, h3, h4, h5, h6⟩ | ⟨h1, h2, h3, h4, h5, h6, h7⟩ | ⟨h1, h2, h3, h4, h5, h6, h7, h8⟩
  all_goals
    clear h
    try (first | (have g5 : ((orig.length : Int) != 32) = true := (by simp; omega)) | (have g5 : ((orig.length : Int) != 32) = false := (by simp; omega)))
    try (clear h5)
    try (have g8 : decide (1099511627776 < stamp) = true := (by simp; exact h8))
    go_enter Try.func26, Try.ntmps26
    go_wp2
    go_ret
    exact ⟨rfl, (Below.refl _ _).alloc (Nat.le_refl _) _⟩

set_option maxHeartbeats 2000000 in
set_option maxRecDepth 100000 in
theorem refCheck_right (kind : Int) (A : Option Addr) (n c : Nat) (at_ : Int) (orig who : List UInt8) (stamp : Int) (ss : List (List UInt8)) (w : World) (hA : Sl w 1 A n (strs ss)) (h : 1 ≤ kind ∧ kind ≤ 3 ∧ RightP n at_ orig who stamp) (r : Int) (hr0 : (∀ s ∈ ss, s.length = 32) → r = 0) (hr1 : ¬ (∀ s ∈ ss, s.length = 32) → r = 1) :
    Calls Try.prog 26 #[plV kind A n c at_ orig who stamp] w fun e w' => e = .returned (I r) ∧ Below w.heap.size w w' := by
  have Hr0 := Lib.hid hr0
  have Hr1 := Lib.hid hr1
  clear hr0 hr1
  obtain ⟨h1, h2, h3, h4, h5, h6, h7, h8, h9, h10⟩ := h
  have g7 : ((orig.length : Int) != 32) = false := by simp; omega
  have g10 : decide (1099511627776 < stamp) = false := by simp; omega
  have hl := Lib.hid (strs_len hA)
  have HA := Lib.hid (hA.alloc (.cells #[I kind, .slice A n c, I at_, S orig, S who, I stamp] 24))
  clear h7 hA
  go_enter Try.func26, Try.ntmps26
  go_wp2
  go_loop [3] (fun i => ∃ j : Nat, j ≤ n ∧ i = .int .i64 j ∧ ∀ s ∈ ss.take j, s.length = 32) (fun i => n - (intOf i).toNat)
  case atStart => exact ⟨0, Nat.zero_le _, rfl, by simp⟩
  case round =>
    obtain ⟨j, hj, rfl, hall⟩ := hrel
    have Hall := Lib.hid hall
    clear hall
    by_cases hlt : j < n
    · obtain ⟨b, off, s, rfl, hs, hc⟩ := HA.out.str hlt
      have Hs := Lib.hid hs
      clear hs
      by_cases h32 : s.length = 32
      · have g : ((s.length : Int) != 32) = false := by simp; omega
        have H32 := Lib.hid h32
        clear h32
        go_wp2
        go_round
        case rel =>
          refine ⟨j + 1, by omega, by go_num, ?_⟩
          rw [List.take_add_one, Hs.out]
          intro t ht
          rcases List.mem_append.1 ht with ht | ht
          · exact Hall.out t ht
          · simp at ht; subst ht; exact H32.out
        case measure => simp [intOf]; omega
      · have g : ((s.length : Int) != 32) = true := by simp; omega
        have H32 := Lib.hid h32
        clear h32
        have hno := Lib.hid (Hr1.out (fun hh => H32.out (hh s (List.mem_of_getElem? Hs.out))))
        go_wp2
        go_ret
        exact ⟨by rw [hno.out]; rfl, (Below.refl _ _).alloc (Nat.le_refl _) _⟩
    · have hyes := Lib.hid (Hr0.out (fun s hs => Hall.out s (by rw [List.take_of_length_le (by rw [hl.out]; omega)]; exact hs)))
      go_wp2
      go_ret
      exact ⟨by rw [hyes.out]; rfl, (Below.refl _ _).alloc (Nat.le_refl _) _⟩

theorem refCheck_any (kind : Int) (A : Option Addr) (n c : Nat) (at_ : Int) (orig who : List UInt8) (stamp : Int) (ss : List (List UInt8)) (w : World) (hA : Sl w 1 A n (strs ss)) :
    Calls Try.prog 26 #[plV kind A n c at_ orig who stamp] w fun e w' => e = .returned (I (if PlanOk ⟨kind, ss, at_, orig, who, stamp⟩ then 0 else 1)) ∧ Below w.heap.size w w' := by
  have hl := strs_len hA
  by_cases hk : kind < 1 ∨ 3 < kind
  · rw [if_neg (fun h => by have h2 := h.2; simp only at h2; omega)]
    exact refCheck_kind kind A n c at_ orig who stamp w hk
  · by_cases hr : RightP n at_ orig who stamp
    · have e : PlanOk ⟨kind, ss, at_, orig, who, stamp⟩ ↔ ∀ s ∈ ss, s.length = 32 :=
        ⟨fun h => h.2.2.2, fun h => ⟨by rw [hl]; exact hr, by simp only; omega, by simp only; omega, h⟩⟩
      exact refCheck_right kind A n c at_ orig who stamp ss w hA ⟨by omega, by omega, hr⟩ _ (fun h => if_pos (e.2 h)) (fun h => if_neg (fun h' => h (e.1 h')))
    · rw [if_neg (fun h => hr (by have := h.1; simp only [hl] at this; exact this))]
      exact refCheck_notRight kind A n c at_ orig who stamp w (by omega) (by omega) hr

theorem refCheck_ok (kind : Int) (A : Option Addr) (n c : Nat) (at_ : Int) (orig who : List UInt8) (stamp : Int) (ss : List (List UInt8)) (w : World) (hA : Sl w 1 A n (strs ss)) (h : PlanOk ⟨kind, ss, at_, orig, who, stamp⟩) :
    Calls Try.prog 26 #[plV kind A n c at_ orig who stamp] w fun e w' => e = .returned (I 0) ∧ Below w.heap.size w w' := by
  have := refCheck_any kind A n c at_ orig who stamp ss w hA; rwa [if_pos h] at this
theorem refCheck_no (kind : Int) (A : Option Addr) (n c : Nat) (at_ : Int) (orig who : List UInt8) (stamp : Int) (ss : List (List UInt8)) (w : World) (hA : Sl w 1 A n (strs ss)) (h : ¬ PlanOk ⟨kind, ss, at_, orig, who, stamp⟩) :
    Calls Try.prog 26 #[plV kind A n c at_ orig who stamp] w fun e w' => e = .returned (I 1) ∧ Below w.heap.size w w' := by
  have := refCheck_any kind A n c at_ orig who stamp ss w hA; rwa [if_neg h] at this

set_option maxHeartbeats 400000 in
theorem theirs_any (kind : Int) (A : Option Addr) (n c : Nat) (at_ : Int) (orig who : List UInt8) (stamp : Int) (w : World) :
    Calls Try.prog 17 #[plV kind A n c at_ orig who stamp] w fun e w' => e = .returned (plV kind A n c at_ orig who stamp) ∧ Below w.heap.size w w' := by
  go_enter Try.func17, Try.ntmps17
  go_wp2
  refine bodyPost_ret (v := plV kind A n c at_ orig who stamp) (by simp [results, Try.results17, go_sem]) rfl ⟨rfl, ?_⟩
  exact ((Below.refl _ _).alloc (Nat.le_refl _) _).alloc (by simp) _

set_option maxHeartbeats 1000000 in
set_option maxRecDepth 100000 in
/-- two plans that read alike are the same -/
theorem refSame_eq (kind : Int) (A A' : Option Addr) (n c c' : Nat) (at_ : Int) (orig who : List UInt8) (stamp : Int) (ss : List (List UInt8)) (w : World) (hA : Sl w 1 A n (strs ss)) (hA' : Sl w 1 A' n (strs ss)) (hn : n ≤ 9223372036854775807) :
    Calls Try.prog 16 #[plV kind A n c at_ orig who stamp, plV kind A' n c' at_ orig who stamp] w fun e w' => e = .returned (.bool true) ∧ Below w.heap.size w w' := by
  have HA := Lib.hid ((hA.alloc (.cells #[I kind, .slice A n c, I at_, S orig, S who, I stamp] 24)).alloc (.cells #[I kind, .slice A' n c', I at_, S orig, S who, I stamp] 24))
  have HA' := Lib.hid ((hA'.alloc (.cells #[I kind, .slice A n c, I at_, S orig, S who, I stamp] 24)).alloc (.cells #[I kind, .slice A' n c', I at_, S orig, S who, I stamp] 24))
  clear hA hA'
  go_enter Try.func16, Try.ntmps16
  go_wp2
  obtain ⟨W, hW⟩ : ∃ W, W = (w.alloc (.cells #[I kind, .slice A n c, I at_, S orig, S who, I stamp] 24)).alloc (.cells #[I kind, .slice A' n c', I at_, S orig, S who, I stamp] 24) := ⟨_, rfl⟩
  have hB0 : Blk W w.heap.size 24 #[I kind, .slice A n c, I at_, S orig, S who, I stamp] := by rw [hW]; exact (Blk.new _ _ _).alloc _
  have hB1 : Blk W (w.heap.size + 1) 24 #[I kind, .slice A' n c', I at_, S orig, S who, I stamp] := by
    rw [hW]; have := Blk.new (w.alloc (.cells #[I kind, .slice A n c, I at_, S orig, S who, I stamp] 24)) 24 #[I kind, .slice A' n c', I at_, S orig, S who, I stamp]; rwa [World.size_alloc] at this
  have q := Lib.hid (show Below w.heap.size w W by rw [hW]; exact balloc (balloc (Below.refl _ _) _) _)
  rw [← hW] at HA HA' ⊢
  clear hW
  have r0 := hB0.cell
  have r1 := hB1.cell
  go_loopw [4, 5] (fun r i wr => ∃ j m : Nat, j ≤ n ∧ i = .int .i64 j ∧ wr = W.drewN m ∧ r = .bool false) (fun _ i _ => n - (intOf i).toNat)
  case atStart => exact ⟨0, 0, Nat.zero_le _, rfl, rfl, rfl⟩
  case round =>
    obtain ⟨j, m, hj, rfl, rfl, rfl⟩ := hrel
    by_cases hlt : j < n
    · obtain ⟨b, off, s, rfl, hs, hc⟩ := HA.out.str hlt
      obtain ⟨b', off', s', rfl, hs', hc'⟩ := HA'.out.str hlt
      obtain rfl : s = s' := Option.some.inj (hs.symm.trans hs')
      clear hs hs'
      go_wp2
      go_quiet (fail)
      go_wp2
      go_roundw
      case rel => exact ⟨j + 1, _, by omega, by go_num, rfl, rfl⟩
      case measure => simp [intOf]; omega
    · go_wp2
      go_ret
      exact ⟨rfl, below_drewN q.out m⟩
end Go.Proofs.Ytgcbolijdgecgaa
