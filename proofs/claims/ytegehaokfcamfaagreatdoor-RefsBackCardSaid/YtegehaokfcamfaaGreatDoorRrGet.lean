/-
  dolmenref11.Book: Get, Resolve. They answer, and make memory alone. Condition: the book lies in its home.
-/
import Derived.Test.YtegehaokfcamfaaGreatDoorRrRight
import Derived.Test.YtegehaokfcamfaaGreatDoorRefsResolve
namespace Go.Proofs.YtegehaokfcamfaaGreatDoor
open Go.RowKit
open RefsLaw (Val Chg)

def AnyVI (e : Ending) : Prop := ∃ (v : Val) (i : Int), e = .returned (.tuple #[vV v, I i])
theorem AnyVI.mk (v : Val) (i : Int) : AnyVI (.returned (.tuple #[vV v, I i])) := ⟨v, i, rfl⟩
def AnySSI (e : Ending) : Prop := ∃ (a b : List UInt8) (i : Int), e = .returned (.tuple #[S a, S b, I i])
theorem AnySSI.mk (a b : List UInt8) (i : Int) : AnySSI (.returned (.tuple #[S a, S b, I i])) := ⟨a, b, i, rfl⟩

set_option maxHeartbeats 2000000 in
set_option maxRecDepth 100000 in
theorem rget_any (w : World) (q : Nat) (G : Nat → Prop) (z y : Nat) (ref : List UInt8) (hB : RBookAt w q G z y) (hz : z ≤ 10000000) :
    Calls Tryz.prog 44 #[.pointer (some ⟨q, 0, none⟩), S ref] w fun e w' => AnyVI e ∧ Below w.heap.size w w' := by
  have HB := Lib.hid hB
  have kE := eql_rval
  have kG := guard_rval
  clear hB
  go_enter Tryz.func44, Tryz.ntmps44
  go_wp2_with (first
    | (go_at_call 46; (with_reducible refine (rnamed_any _ _).mono ?_); rintro e wN ⟨⟨b1, rfl⟩, rfl⟩)
    | (go_at_call 22; refine (rvalue_any _ q G z y ref (HB.out.step (balloc (Below.refl _ w) _)) hz).mono ?_; rintro e w1 ⟨⟨id, name⟩, rfl, b1⟩; have r0 := (Blk.new w 46 #[S [], S []]).step b1; have R0 := Lib.hid (r0.alloc (.cells #[S id, S name] 46)); have c0 := R0.out.cell; have f0 := R0.out.frozen; have c1 := (Blk.new w1 46 #[S id, S name]).cell; have B1 := Lib.hid (balloc (bstep (balloc (Below.refl _ w) _) b1) (.cells #[S id, S name] 46)); clear r0 b1))
  · exact bodyPost_ret (v := .tuple #[vV ⟨[], []⟩, I 1]) (by simp [results, Tryz.results44, go_sem]) rfl ⟨AnyVI.mk ⟨[], []⟩ 1, balloc (Below.refl _ w) _⟩
  · exact bodyPost_ret (v := .tuple #[vV ⟨id, name⟩, I 9]) (by simp [results, Tryz.results44, go_sem, c0]) rfl ⟨AnyVI.mk ⟨id, name⟩ 9, (B1.out.setCell (p := ⟨w.heap.size, 0, none⟩) (Nat.le_refl _) _).setCell (p := ⟨w.heap.size, 1, none⟩) (Nat.le_refl _) _⟩
  · exact bodyPost_ret (v := .tuple #[vV ⟨id, name⟩, I 0]) (by simp [results, Tryz.results44, go_sem, c0]) rfl ⟨AnyVI.mk ⟨id, name⟩ 0, (B1.out.setCell (p := ⟨w.heap.size, 0, none⟩) (Nat.le_refl _) _).setCell (p := ⟨w.heap.size, 1, none⟩) (Nat.le_refl _) _⟩

set_option maxHeartbeats 4000000 in
set_option maxRecDepth 100000 in
theorem rresolve_any (w : World) (q : Nat) (G : Nat → Prop) (z y : Nat) (ref : List UInt8) (hB : RBookAt w q G z y) (hz : z ≤ 10000000) :
    Calls Tryz.prog 45 #[.pointer (some ⟨q, 0, none⟩), S ref] w fun e w' => AnySSI e ∧ Below w.heap.size w w' := by
  have HB := Lib.hid hB
  clear hB
  go_enter Tryz.func45, Tryz.ntmps45
  go_wp2_with (go_at_call 46; (with_reducible refine (rnamed_any _ _).mono ?_); rintro e wN ⟨⟨b1, rfl⟩, rfl⟩)
  · go_ret3
    exact ⟨AnySSI.mk [] [] 1, Below.refl _ _⟩
  cases b1
  · exact absurd ‹(!false) = false› (by decide)
  simp only [Bool.not_true]
  go_loopw [1, 7] (fun s i wr => ∃ (k : Nat) (r : List UInt8), i = .int .i64 k ∧ s = S r ∧ Hid (k ≤ 9) ∧ Hid (Below w.heap.size w wr)) (fun _ i _ => 9 - (intOf i).toNat)
  case atStart => exact ⟨0, ref, rfl, rfl, Lib.hid (Nat.zero_le _), Lib.hid (Below.refl _ _)⟩
  case round =>
    obtain ⟨k, r, rfl, rfl, hk, hq⟩ := hrel
    by_cases h8 : k ≤ 8
    · go_wp2_with (go_at_call 22; refine (rvalue_any _ q G z y r (HB.out.step hq.out) hz).mono ?_; rintro e w3 ⟨⟨id, name⟩, rfl, b3⟩; have rv3 := (Blk.new w3 46 #[S id, S name]).cell; have B3 := Lib.hid (balloc (bstep hq.out b3) (.cells #[S id, S name] 46)); clear b3)
      · go_ret3
        exact ⟨AnySSI.mk r [] 9, B3.out⟩
      · go_quiet (fail)
        go_wp2
        go_ret3
        exact ⟨AnySSI.mk r id 0, below_drewN B3.out _⟩
      · go_ret3
        exact ⟨AnySSI.mk r [] 9, B3.out⟩
      · go_roundw
        case rel => exact ⟨k + 1, name, by go_num, rfl, Lib.hid (by omega), B3⟩
        case measure => simp [intOf]; omega
    · obtain rfl : k = 9 := by have := hk.out; omega
      go_wp2
      go_ret3
      exact ⟨AnySSI.mk r [] 9, hq.out⟩
end Go.Proofs.YtegehaokfcamfaaGreatDoor
