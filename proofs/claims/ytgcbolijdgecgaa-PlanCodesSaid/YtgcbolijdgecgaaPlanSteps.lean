/-
  dolmenlaw21.PlanSteps returns true. Conditions: the plan's steps read as a list, within the form's own reach.
-/
import Derived.Test.YtgcbolijdgecgaaPlanLaw
namespace Go.Proofs.Ytgcbolijdgecgaa
open Go.RowKit Go.Shelf

theorem own_drewN {w : World} {base sz n : Nat} {e : TypeId} {v : Value} {xs : List Value} (h : w.ownsRow base e sz v n xs) (k : Nat) : (w.drewN k).ownsRow base e sz v n xs := h

/-- the cells of a plan -/
abbrev plC (kind : Int) (A : Option Addr) (n c : Nat) (at_ : Int) (orig who : List UInt8) (stamp : Int) : Array Value :=
  #[I kind, .slice A n c, I at_, S orig, S who, I stamp]

/-- block Q holds the plan that is next at k -/
def AtStep (wr : World) (Q n : Nat) (kind : Int) (orig who : List UInt8) (stamp : Int) (ss : List (List UInt8)) (k : Nat) : Prop :=
  (k < n ∧ ∃ A c, Blk wr Q 26 (plC kind A n c k orig who stamp) ∧ Sl wr 1 A n (strs ss)) ∨ (k = n ∧ Blk wr Q 26 (plC 0 none 0 0 0 [] [] 0))

set_option maxHeartbeats 1000000 in
set_option maxRecDepth 100000 in
theorem planSteps_no (kind : Int) (A : Option Addr) (n c : Nat) (at_ : Int) (orig who : List UInt8) (stamp : Int) (ss : List (List UInt8)) (w : World) (hA : Sl w 1 A n (strs ss)) (h : ¬ (PlanOk ⟨kind, ss, at_, orig, who, stamp⟩ ∧ n ≤ 500)) :
    Calls Try.prog 3 #[plV kind A n c at_ orig who stamp] w fun e w' => e = .returned (.bool true) ∧ Below w.heap.size w w' := by
  have HA := Lib.hid hA
  clear hA
  go_enter Try.func3, Try.ntmps3
  go_wp2_with fail
  refine (awake_any _).mono ?_
  rintro e w1 ⟨rfl, b1⟩
  have HP1 := (Blk.new w 24 (plC kind A n c at_ orig who stamp)).step b1
  have q1 := Lib.hid (bstep (balloc (Below.refl _ w) _) b1)
  have r1 := HP1.cell
  clear b1
  go_wp2_with fail
  refine (mine_any _ _ _ _ _ _ _ _ _).mono ?_
  rintro e w2 ⟨rfl, b2⟩
  have HP2 := HP1.step b2
  have q2 := Lib.hid (bstep q1.out b2)
  have r2 := HP2.cell
  have hz2 := HP2.lt
  clear b2 q1 r1 HP1
  go_wp2_with fail
  by_cases hok : PlanOk ⟨kind, ss, at_, orig, who, stamp⟩
  · have hn : ¬ n ≤ 500 := fun hn => h ⟨hok, hn⟩
    refine (check_ok _ _ _ _ _ _ _ _ ss _ ((HA.out.below q2.out).alloc _) hok).mono ?_
    rintro e w3 ⟨rfl, b3⟩
    have r3 := ((HP2.alloc _).step b3).cell
    have q3 := Lib.hid (bstep (balloc q2.out _) b3)
    clear b3 q2 r2 HP2
    go_wp2
    go_ret
    exact ⟨rfl, q3.out⟩
  · refine (check_no _ _ _ _ _ _ _ _ ss _ ((HA.out.below q2.out).alloc _) hok).mono ?_
    rintro e w3 ⟨rfl, b3⟩
    have q3 := Lib.hid (bstep (balloc q2.out _) b3)
    clear b3 q2 r2 HP2
    go_wp2
    go_ret
    exact ⟨rfl, q3.out⟩

set_option maxHeartbeats 4000000 in
set_option maxRecDepth 100000 in
theorem planSteps_yes (kind : Int) (A : Option Addr) (n c k0 : Nat) (orig who : List UInt8) (stamp : Int) (ss : List (List UInt8)) (w : World) (hA : Sl w 1 A n (strs ss)) (hok : PlanOk ⟨kind, ss, k0, orig, who, stamp⟩) (hn : n ≤ 500) :
    Calls Try.prog 3 #[plV kind A n c k0 orig who stamp] w fun e w' => e = .returned (.bool true) ∧ Below w.heap.size w w' := by
  have HA := Lib.hid hA
  have hk0 : k0 < n := by have := hok.1.2.2.2.1; rw [strs_len hA] at this; simp only at this; omega
  have Hok := Lib.hid hok
  have hl := Lib.hid (strs_len hA)
  clear hA hok
  go_enter Try.func3, Try.ntmps3
  go_wp2_with fail
  refine (awake_any _).mono ?_
  rintro e w1 ⟨rfl, b1⟩
  have HP1 := (Blk.new w 24 (plC kind A n c k0 orig who stamp)).step b1
  have q1 := Lib.hid (bstep (balloc (Below.refl _ w) _) b1)
  have r1 := HP1.cell
  clear b1
  go_wp2_with fail
  refine (mine_any _ _ _ _ _ _ _ _ _).mono ?_
  rintro e w2 ⟨rfl, b2⟩
  have HP2 := HP1.step b2
  have q2 := Lib.hid (bstep q1.out b2)
  have r2 := HP2.cell
  have hz2 := HP2.lt
  clear b2 q1 r1 HP1
  go_wp2_with fail
  refine (check_ok _ _ _ _ _ _ _ _ ss _ ((HA.out.below q2.out).alloc _) Hok.out).mono ?_
  rintro e w3 ⟨rfl, b3⟩
  have HP3 := (HP2.alloc _).step b3
  have HQ3 := (Blk.new w2 26 (plC kind A n c k0 orig who stamp)).step b3
  have r3 := HP3.cell
  have q3 := Lib.hid (bstep (balloc q2.out _) b3)
  have HP3' := Lib.hid HP3
  have HQ3' := Lib.hid HQ3
  clear b3 q2 r2 HP2 HP3 HQ3
  go_wp2
  go_loopw [5] (fun i wr => ∃ k : Nat, k ≤ n ∧ i = .int .i64 k ∧ Blk wr w.heap.size 24 (plC kind A n c k0 orig who stamp) ∧ AtStep wr w2.heap.size n kind orig who stamp ss k ∧ Below w.heap.size w wr) (fun i _ => n - (intOf i).toNat)
  case atStart => exact ⟨k0, by omega, rfl, HP3'.out, .inl ⟨hk0, A, c, HQ3'.out, HA.out.below q3.out⟩, q3.out⟩
  case round =>
    obtain ⟨k, hk, rfl, hP, hQ, hB⟩ := hrel
    clear r3 HP3' HQ3' q3
    have rP := hP.cell
    by_cases hlt : k < n
    · obtain ⟨A', c', hQ, hS⟩ : ∃ A' c', Blk wr w2.heap.size 26 (plC kind A' n c' k orig who stamp) ∧ Sl wr 1 A' n (strs ss) := by
        rcases hQ with ⟨_, h⟩ | ⟨h, _⟩
        · exact h
        · omega
      have rQ := hQ.cell
      have HAr := HA.out.below hB
      obtain ⟨b, off, s, rfl, hs, hc⟩ := HAr.str hlt
      have hblt : b < wr.heap.size := by
        obtain ⟨b', off', e, hb, _⟩ := HAr.2 (by omega)
        cases e; exact hb
      have Hs := Lib.hid hs
      have Hc := Lib.hid hc
      have HP := Lib.hid hP
      have HQ := Lib.hid hQ
      have HS := Lib.hid hS
      have HB := Lib.hid hB
      have HAR := Lib.hid HAr
      have hzP := hP.lt
      have hzQ := hQ.lt
      have Hok2 : Hid (PlanOk ⟨kind, ss, k, orig, who, stamp⟩) := by
        obtain ⟨⟨h1, h2, h3, h4, h5⟩, h6⟩ := Hok.out
        exact ⟨⟨h1, h2, Int.natCast_nonneg _, by simp only [hl.out]; omega, h5⟩, h6⟩
      clear hs hc hP hQ hS hB HAr
      by_cases hlast : k + 1 < n
      · have hd1 : decide ((k : Int) + 1 < (n : Int)) = true := by simp; omega
        go_wp2_with fail
        refine (next_more kind A' n c' k orig who stamp ss s _ HS.out Hok2.out hlast Hs.out).mono ?_
        rintro e w4 ⟨A4, c4, rfl, hO4⟩
        have hS4 := hO4.sl
        have b4 := hO4.2
        have HO4 := Lib.hid hO4.1
        clear hO4
        have hP4 := HP.out.step b4
        have hQ4 := HQ.out.step b4
        have hc4 : w4.cell? ⟨b, off + k, none⟩ = some (S s) := (b4.cell (p := ⟨b, off + k, none⟩) hblt).trans Hc.out
        have hb4 : b < w4.heap.size := Nat.lt_of_lt_of_le hblt b4.size
        have r4 := hP4.cell
        have rq4 := hQ4.cell
        have fq4 := hQ4.frozen
        have hzP4 := hP4.lt
        have hzQ4 := hQ4.lt
        have q4 := Lib.hid (bstep HB.out b4)
        have HP4 := Lib.hid hP4
        have HQ4 := Lib.hid hQ4
        have HS4 := Lib.hid hS4
        have HA4 := Lib.hid (HAR.out.below b4)
        clear hP4 hQ4 hS4 b4 HB HP HQ HS rP rQ
        go_wp2_with fail
        refine (sameTexts_any A4 _ n n c4 c ss ss _ (HS4.out.alloc _) (HA4.out.alloc _) (by omega)).mono ?_
        rintro e w5 ⟨rfl, m, rfl⟩
        go_wp2
        go_roundw
        case rel =>
          refine ⟨k + 1, by omega, by go_num, ?_, .inl ⟨hlast, A4, c4, ?_, ?_⟩, ?_⟩
          · have hne : w.heap.size ≠ w2.heap.size := by omega
            exact ((((((((HP4.out.alloc _).drewN m).far hne _).far hne _).far hne _).far hne _).far hne _).far hne _)
          · exact (((((((HQ4.out.alloc _).drewN m).set_ 0 _).set_ 1 _).set_ 2 _).set_ 3 _).set_ 4 _).set_ 5 _
          · refine Sl.of_own (base := wr.heap.size) (e := 9) (c := c4) ?_
            repeat with_reducible refine ownsRow_setCell_below ?_ (by simp; omega) _
            exact own_drewN (HO4.out.alloc _) m
          · repeat with_reducible refine Below.setCell ?_ (by simp; omega) _
            exact below_drewN (balloc q4.out _) m
        case measure => simp [intOf]; omega
      · have hd1 : decide ((k : Int) + 1 < (n : Int)) = false := by simp; omega
        go_wp2_with fail
        refine (next_last kind A' n c' k orig who stamp ss s _ HS.out Hok2.out (by omega) Hs.out).mono ?_
        rintro e w4 ⟨rfl, b4⟩
        have hP4 := HP.out.step b4
        have hQ4 := HQ.out.step b4
        have hc4 : w4.cell? ⟨b, off + k, none⟩ = some (S s) := (b4.cell (p := ⟨b, off + k, none⟩) hblt).trans Hc.out
        have hb4 : b < w4.heap.size := Nat.lt_of_lt_of_le hblt b4.size
        have r4 := hP4.cell
        have rq4 := hQ4.cell
        have fq4 := hQ4.frozen
        have hzP4 := hP4.lt
        have hzQ4 := hQ4.lt
        have q4 := Lib.hid (bstep HB.out b4)
        have HP4 := Lib.hid hP4
        have HQ4 := Lib.hid hQ4
        clear hP4 hQ4 b4 HB HP HQ HS rP rQ
        go_wp2
        go_roundw
        case rel =>
          refine ⟨k + 1, by omega, by go_num, ?_, .inr ⟨by omega, ?_⟩, ?_⟩
          · have hne : w.heap.size ≠ w2.heap.size := by omega
            with_reducible refine Blk.alloc ?_ _
            repeat with_reducible refine Blk.far ?_ hne _
            exact HP4.out
          · exact ((((((HQ4.out.set_ 0 _).set_ 1 _).set_ 2 _).set_ 3 _).set_ 4 _).set_ 5 _).alloc _
          · with_reducible refine balloc ?_ _
            repeat with_reducible refine Below.setCell ?_ (by simp; omega) _
            exact q4.out
        case measure => simp [intOf]; omega
    · have hQ' : Blk wr w2.heap.size 26 (plC 0 none 0 0 0 [] [] 0) := by
        rcases hQ with ⟨h, _⟩ | ⟨_, h⟩
        · omega
        · exact h
      have rQ := hQ'.cell
      have HB := Lib.hid hB
      clear hP hQ hB hQ'
      go_wp2_with fail
      refine (next_no 0 none 0 0 0 [] [] 0 [] _ Sl.nil_ no_zero).mono ?_
      rintro e w4 ⟨rfl, b4⟩
      have q4 := Lib.hid (bstep HB.out b4)
      clear b4 HB rP rQ
      go_wp2
      go_ret
      exact ⟨rfl, balloc q4.out _⟩

theorem planSteps_any (kind : Int) (A : Option Addr) (n c : Nat) (at_ : Int) (orig who : List UInt8) (stamp : Int) (ss : List (List UInt8)) (w : World) (hA : Sl w 1 A n (strs ss)) :
    Calls Try.prog 3 #[plV kind A n c at_ orig who stamp] w fun e w' => e = .returned (.bool true) ∧ Below w.heap.size w w' := by
  by_cases h : PlanOk ⟨kind, ss, at_, orig, who, stamp⟩ ∧ n ≤ 500
  · obtain ⟨k, rfl⟩ := Int.eq_ofNat_of_zero_le h.1.1.2.2.1
    exact planSteps_yes kind A n c k orig who stamp ss w hA h.1 h.2
  · exact planSteps_no kind A n c at_ orig who stamp ss w hA h
end Go.Proofs.Ytgcbolijdgecgaa
