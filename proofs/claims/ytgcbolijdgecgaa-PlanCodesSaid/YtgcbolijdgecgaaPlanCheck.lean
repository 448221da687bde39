/-
  plan.Check: which plans may be. Conditions: the plan's steps read as a list, within the form's own reach.
-/
import Derived.Test.YtgcbolijdgecgaaPlanIds
import Derived.Deep.RegionHeld3
namespace Go.Proofs.Ytgcbolijdgecgaa
open Go.RowKit Go.Shelf

/-- what a plan holds -/
structure Pl where
  kind : Int
  steps : List (List UInt8)
  at_ : Int
  orig : List UInt8
  who : List UInt8
  stamp : Int

abbrev plV (kind : Int) (A : Option Addr) (n c : Nat) (at_ : Int) (orig who : List UInt8) (stamp : Int) : Value :=
  .agg #[I kind, .slice A n c, I at_, S orig, S who, I stamp]

/-- the tests on all but kind and steps -/
def RightP (n : Nat) (at_ : Int) (orig who : List UInt8) (stamp : Int) : Prop :=
  1 ≤ n ∧ n ≤ 4096 ∧ 0 ≤ at_ ∧ at_ < n ∧ orig.length = 32 ∧ who.length ≤ 1000 ∧ 0 ≤ stamp ∧ stamp ≤ 1099511627776

instance (n : Nat) (at_ : Int) (orig who : List UInt8) (stamp : Int) : Decidable (RightP n at_ orig who stamp) := by unfold RightP; infer_instance

/-- may a plan be? -/
def PlanOk (p : Pl) : Prop := RightP p.steps.length p.at_ p.orig p.who p.stamp ∧ 1 ≤ p.kind ∧ p.kind ≤ 3 ∧ ∀ s ∈ p.steps, s.length = 32
instance (p : Pl) : Decidable (PlanOk p) := by unfold PlanOk; infer_instance

theorem not_right {n : Nat} {at_ : Int} {orig who : List UInt8} {stamp : Int} (h : ¬ RightP n at_ orig who stamp) :
    (n < 1) ∨ (1 ≤ n ∧ 4096 < n) ∨ (1 ≤ n ∧ n ≤ 4096 ∧ at_ < 0) ∨ (1 ≤ n ∧ n ≤ 4096 ∧ 0 ≤ at_ ∧ (n : Int) ≤ at_) ∨ (1 ≤ n ∧ n ≤ 4096 ∧ 0 ≤ at_ ∧ at_ < n ∧ ¬ orig.length = 32) ∨
    (1 ≤ n ∧ n ≤ 4096 ∧ 0 ≤ at_ ∧ at_ < n ∧ orig.length = 32 ∧ 1000 < who.length) ∨ (1 ≤ n ∧ n ≤ 4096 ∧ 0 ≤ at_ ∧ at_ < n ∧ orig.length = 32 ∧ who.length ≤ 1000 ∧ stamp < 0) ∨
    (1 ≤ n ∧ n ≤ 4096 ∧ 0 ≤ at_ ∧ at_ < n ∧ orig.length = 32 ∧ who.length ≤ 1000 ∧ 0 ≤ stamp ∧ 1099511627776 < stamp) := by
  unfold RightP at h
  omega

set_option maxHeartbeats 1000000 in
set_option maxRecDepth 100000 in
theorem check_notRight (kind : Int) (A : Option Addr) (n c : Nat) (at_ : Int) (orig who : List UInt8) (stamp : Int) (w : World) (h : ¬ RightP n at_ orig who stamp) :
    Calls Try.prog 7 #[plV kind A n c at_ orig who stamp] w fun e w' => e = .returned (I 1) ∧ Below w.heap.size w w' := by
  rcases not_right h with ⟨h1⟩ | ⟨h1, h2⟩ | ⟨h1, h2, h3⟩ | ⟨h1, h2, h3, h4⟩ | ⟨h1, h2, h3, h4, h5⟩ | ⟨h1, h2, h3, h4, h5, h6⟩ | ⟨h1, h2, h3, h4, h5, h6, h7⟩ | ⟨h1, h2, h3, h4, h5, h6, h7, h8⟩
  all_goals
    clear h
    try (have H5 := Lib.hid h5; clear h5)
    try (have hd8 : decide (stamp ≤ 1099511627776) = false := (by simp; exact h8))
    go_enter Try.func7, Try.ntmps7
    go_wp2_with (go_at_call 19; first | (refine (isId_yes _ _ H5.out).mono ?_; rintro e w' ⟨rfl, rfl⟩) | (refine (isId_no _ _ H5.out).mono ?_; rintro e w' ⟨rfl, rfl⟩))
    go_quiet (fail)
    go_wp2
    go_ret
    exact ⟨rfl, below_drewN ((Below.refl _ _).alloc (Nat.le_refl _) _) _⟩

set_option maxHeartbeats 1000000 in
set_option maxRecDepth 100000 in
theorem check_kind (kind : Int) (A : Option Addr) (n c : Nat) (at_ : Int) (orig who : List UInt8) (stamp : Int) (w : World) (h : RightP n at_ orig who stamp) (hk : kind < 1 ∨ 3 < kind) :
    Calls Try.prog 7 #[plV kind A n c at_ orig who stamp] w fun e w' => e = .returned (I 1) ∧ Below w.heap.size w w' := by
  obtain ⟨h1, h2, h3, h4, h5, h6, h7, h8⟩ := h
  have H5 := Lib.hid h5
  clear h5
  have hd8 : decide (stamp ≤ 1099511627776) = true := by simp; exact h8
  rcases hk with hk | hk
  · have k1 : decide (kind < 1) = true := by simp; omega
    go_enter Try.func7, Try.ntmps7
    go_wp2_with (go_at_call 19; refine (isId_yes _ _ H5.out).mono ?_; rintro e w' ⟨rfl, rfl⟩)
    go_quiet (fail)
    go_wp2
    go_ret
    exact ⟨rfl, below_drewN ((Below.refl _ _).alloc (Nat.le_refl _) _) _⟩
  · have k1 : decide (kind < 1) = false := by simp; omega
    have k2 : decide (3 < kind) = true := by simp; omega
    go_enter Try.func7, Try.ntmps7
    go_wp2_with (go_at_call 19; refine (isId_yes _ _ H5.out).mono ?_; rintro e w' ⟨rfl, rfl⟩)
    go_quiet (fail)
    go_wp2
    go_ret
    exact ⟨rfl, below_drewN ((Below.refl _ _).alloc (Nat.le_refl _) _) _⟩

theorem only32_all (ss : List (List UInt8)) : only32 ss = ss ↔ ∀ s ∈ ss, s.length = 32 := by simp [only32, List.filter_eq_self]

set_option maxHeartbeats 2000000 in
set_option maxRecDepth 100000 in
theorem check_rest (kind : Int) (A : Option Addr) (n c : Nat) (at_ : Int) (orig who : List UInt8) (stamp : Int) (ss : List (List UInt8)) (w : World) (h : RightP n at_ orig who stamp) (hk1 : 1 ≤ kind) (hk2 : kind ≤ 3) (hA : Sl w 1 A n (strs ss)) :
    Calls Try.prog 7 #[plV kind A n c at_ orig who stamp] w fun e w' => e = .returned (I (if only32 ss = ss then 0 else 1)) ∧ Below w.heap.size w w' := by
  obtain ⟨h1, h2, h3, h4, h5, h6, h7, h8⟩ := h
  have H5 := Lib.hid h5
  clear h5
  have hd8 : decide (stamp ≤ 1099511627776) = true := by simp; exact h8
  have k1 : decide (kind < 1) = false := by simp; omega
  have k2 : decide (3 < kind) = false := by simp; omega
  have hn16 : n * 16 ≤ 140737488355328 := by omega
  have hln : (only32 ss).length ≤ 9223372036854775807 := by
    have h9 := only32_len ss ss.length
    rw [List.take_length, strs_len hA] at h9
    omega
  obtain ⟨W1, hW1⟩ : ∃ W1, W1 = ((w.alloc (Obj.cells #[I kind, Value.slice A n c, I at_, S orig, S who, I stamp] 26)).alloc (Obj.cells #[Value.slice A n c] 22)).drew := ⟨_, rfl⟩
  have hbW : Below w.heap.size w W1 := by rw [hW1]; exact (((Below.refl _ _).alloc (Nat.le_refl _) _).alloc (by simp) _).drew
  have hcW : W1.cell? ⟨w.heap.size + 1, 0, none⟩ = some (.slice A n c) := by rw [hW1]; go_simp
  have hc0 : W1.cell? ⟨w.heap.size, 0, none⟩ = some (I kind) := by rw [hW1]; go_simp
  have hc1 : W1.cell? ⟨w.heap.size, 1, none⟩ = some (.slice A n c) := by rw [hW1]; go_simp
  have hz : w.heap.size < W1.heap.size := by rw [hW1]; simp; omega
  have HC := Lib.hid (collectIds_any A n c ss w W1 hA hn16 hbW (w.heap.size + 1) hcW)
  have HA1 := Lib.hid (hA.below hbW)
  have Hbs := Lib.hid hbW.size
  have hbW' := Lib.hid hbW
  have Hc0 := Lib.hid hc0
  have Hc1 := Lib.hid hc1
  clear hcW hbW hc0 hc1
  subst hW1
  by_cases he : only32 ss = ss
  all_goals
    first | (have hdec : decide (only32 ss = ss) = true := decide_eq_true he) | (have hdec : decide (only32 ss = ss) = false := decide_eq_false he)
    have He := Lib.hid he
    clear he
    go_enter Try.func7, Try.ntmps7
    go_wp2_with (go_at_call 19; refine (isId_yes _ _ H5.out).mono ?_; rintro e w' ⟨rfl, rfl⟩)
    go_region_held3 (fun w' => w'.cell? ⟨w.heap.size, 0, none⟩ = some (I kind) ∧ w'.cell? ⟨w.heap.size, 1, none⟩ = some (.slice A n c)) (go_keep)
      (first
        | (go_at_call 22; refine (ids_any _ _ _ _).mono ?_; rintro e w1 ⟨rfl, rfl⟩)
        | (go_at_call 21; refine HC.out.mono ?_; rintro e w2 ⟨A', c', rfl, ho⟩; have q0 := (ho.2.cell (p := ⟨w.heap.size, 0, none⟩) hz).trans Hc0.out; have q1 := (ho.2.cell (p := ⟨w.heap.size, 1, none⟩) hz).trans Hc1.out; have HO := Lib.hid ho; clear ho)
        | (go_at_call 20; refine (equalS_any _ _ _ _ _ _ _ ss _ HO.out.sl (HA1.out.below HO.out.2) hln).mono ?_; rintro e w3 ⟨rfl, m, rfl⟩))
    go_wp2
    go_ret
    refine ⟨?_, below_drewN (hbW'.out.trans (HO.out.2.mono Hbs.out)) _⟩
    first | rfl | (rw [if_pos He.out]; rfl) | (rw [if_neg He.out]; rfl)

/-- plan.Check, whole -/
theorem check_any (kind : Int) (A : Option Addr) (n c : Nat) (at_ : Int) (orig who : List UInt8) (stamp : Int) (ss : List (List UInt8)) (w : World) (hA : Sl w 1 A n (strs ss)) :
    Calls Try.prog 7 #[plV kind A n c at_ orig who stamp] w fun e w' => e = .returned (I (if PlanOk ⟨kind, ss, at_, orig, who, stamp⟩ then 0 else 1)) ∧ Below w.heap.size w w' := by
  have hl := strs_len hA
  by_cases hr : RightP n at_ orig who stamp
  · by_cases hk : kind < 1 ∨ 3 < kind
    · rw [if_neg (fun h => by have h2 := h.2; simp only at h2; omega)]
      exact check_kind kind A n c at_ orig who stamp w hr hk
    · have := check_rest kind A n c at_ orig who stamp ss w hr (by omega) (by omega) hA
      have e : PlanOk ⟨kind, ss, at_, orig, who, stamp⟩ ↔ only32 ss = ss := by
        rw [only32_all]
        exact ⟨fun h => h.2.2.2, fun h => ⟨by rw [hl]; exact hr, by simp only; omega, by simp only; omega, h⟩⟩
      simp only [e]
      exact this
  · rw [if_neg (fun h => hr (by have := h.1; simp only [hl] at this; exact this))]
    exact check_notRight kind A n c at_ orig who stamp w hr
end Go.Proofs.Ytgcbolijdgecgaa
