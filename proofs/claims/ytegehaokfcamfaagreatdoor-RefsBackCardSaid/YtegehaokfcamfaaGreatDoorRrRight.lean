/-
  dolmenref11: value, Right. They answer, and make memory alone. Condition: the changes read as a list.
-/
import Derived.Test.YtegehaokfcamfaaGreatDoorRrNamed
import Derived.Test.YtegehaokfcamfaaGreatDoorRrCopy
namespace Go.Proofs.YtegehaokfcamfaaGreatDoor
open Go.RowKit
open RefsLaw (Val Chg)

set_option maxHeartbeats 2000000 in
set_option maxRecDepth 100000 in
theorem rval_any (v : Val) (t : Bool) (w : World) :
    Calls Tryz.prog 85 #[.agg #[S v.id, S v.name], .bool t] w fun e w' => AnyB e ∧ Below w.heap.size w w' := by
  obtain ⟨id, name⟩ := v
  go_enter Tryz.func85, Tryz.ntmps85
  go_wp2_with (go_at_call 46; (with_reducible refine (rnamed_any _ _).mono ?_); rintro e w1 ⟨⟨bb, rfl⟩, rfl⟩)
  all_goals
    go_ret
    exact ⟨AnyB.mk _, balloc (Below.refl _ w) _⟩

/-- what Right answers -/
def RiB (n : Nat) (e : Ending) : Prop := ∃ b, e = .returned (.bool b) ∧ (b = true → n ≤ 4096)
theorem RiB.no (n : Nat) : RiB n (.returned (.bool false)) := ⟨false, rfl, fun h => by cases h⟩
theorem RiB.yes {n : Nat} (h : n ≤ 4096) (b : Bool) : RiB n (.returned (.bool b)) := ⟨b, rfl, fun _ => h⟩

set_option maxHeartbeats 8000000 in
set_option maxRecDepth 100000 in
theorem rright_any (who text : List UInt8) (stamp : Int) (A : Option Addr) (n c : Nat) (l : List Chg) (w : World) (hA : Sl w 5 A n (chs l)) (hn : n ≤ 1759218604390) :
    Calls Tryz.prog 68 #[txV who text stamp A n c] w fun e w' => RiB n e ∧ Below w.heap.size w w' := by
  have b0 := balloc (Below.refl _ w) (.cells #[S who, S text, I stamp, .slice A n c] 25)
  have HA := Lib.hid (hA.below b0)
  have B0 := Lib.hid b0
  have R0 := Lib.hid (Blk.new w 25 #[S who, S text, I stamp, .slice A n c])
  have kE := eql_rval
  have kG := guard_rval
  clear hA b0
  by_cases hbig : 4096 < n
  · go_enter Tryz.func68, Tryz.ntmps68
    go_wp2
    all_goals
      go_ret
      exact ⟨RiB.no n, B0.out⟩
  · have hle : n ≤ 4096 := by omega
    go_enter Tryz.func68, Tryz.ntmps68
    go_wp2
    all_goals try (go_ret; exact ⟨RiB.no n, B0.out⟩)
    go_loopw [3] (fun i wr => ∃ k : Nat, i = .int .i64 k ∧ Hid (k ≤ n) ∧ Hid (Below (w.heap.size + 1) (w.alloc (.cells #[S who, S text, I stamp, .slice A n c] 25)) wr)) (fun i _ => n - (intOf i).toNat)
    case atStart => exact ⟨0, rfl, Lib.hid (Nat.zero_le _), Lib.hid (Below.refl _ _)⟩
    case round =>
      obtain ⟨k, rfl, hk, hB⟩ := hrel
      have HBw := Lib.hid ((balloc (Below.refl _ w) (.cells #[S who, S text, I stamp, .slice A n c] 25)).trans (hB.out.mono (Nat.le_succ _)))
      have r0 := (R0.out.below hB.out (by simp)).cell
      by_cases hlt : k < n
      · obtain ⟨b, off, x, rfl, hb, hx, x0, x1, x2, x3, x4⟩ := (HA.out.below (by rw [World.size_alloc]; exact hB.out)).chg hlt
        have hC1 := Lib.hid (Blk.new wr 48 #[S x.ref, S x.old.id, S x.old.name, S x.new.id, S x.new.name])
        clear hx
        go_wp2_with (first
          | (go_at_call 46; (with_reducible refine (rnamed_any _ _).mono ?_); rintro e wN ⟨⟨b1, rfl⟩, rfl⟩)
          | (go_at_call 85; (with_reducible refine (rval_any x.old true _).mono ?_); rintro e w2 ⟨⟨b2, rfl⟩, q2⟩; have hC2 := Lib.hid (hC1.out.step q2); have rc2 := hC2.out.cell; have HB2 := Lib.hid (bstep (balloc HBw.out (.cells #[S x.ref, S x.old.id, S x.old.name, S x.new.id, S x.new.name] 48)) q2); have G2 := Lib.hid (bstep (balloc (Below.refl _ wr) (.cells #[S x.ref, S x.old.id, S x.old.name, S x.new.id, S x.new.name] 48)) q2); clear q2)
          | (go_at_call 85; (with_reducible refine (rval_any x.new true _).mono ?_); rintro e w3 ⟨⟨b3, rfl⟩, q3⟩; have hC3 := Lib.hid (hC2.out.step q3); have rc3 := hC3.out.cell; have HB3 := Lib.hid (bstep HB2.out q3); have G3 := Lib.hid (bstep G2.out q3); clear q3))
        all_goals try (go_ret; exact ⟨RiB.no n, by first | exact HB3.out | exact HB2.out | exact balloc HBw.out _⟩)
        have r3 := ((R0.out.below hB.out (by simp)).step G3.out).cell
        have HS3 := Lib.hid ((HA.out.below (by rw [World.size_alloc]; exact hB.out)).below G3.out)
        have Hle := Lib.hid hle
        clear x0 x1 x2 x3 x4 r0 rc2
        go_loopw [5] (fun j wj => ∃ i m : Nat, j = .int .i64 i ∧ Hid (i ≤ k) ∧ wj = w3.drewN m) (fun j _ => k - (intOf j).toNat)
        case atStart => exact ⟨0, 0, rfl, Lib.hid (Nat.zero_le _), rfl⟩
        case round =>
          obtain ⟨i, m, rfl, hi, rfl⟩ := hrel
          by_cases hik : i < k
          · obtain ⟨b', off', x', e', hb', hx', y0, y1, y2, y3, y4⟩ := HS3.out.chg (show i < n by omega)
            cases e'
            have hin : i < n := by omega
            clear hx'
            go_wp2
            go_quiet (fail)
            go_wp2
            all_goals first
              | (go_ret
                 exact ⟨RiB.no n, below_drewN (below_drewN HB3.out _) _⟩)
              | (go_roundw
                 case rel => exact ⟨i + 1, _, by go_num, Lib.hid hik, rfl⟩
                 case measure => simp [intOf]; omega)
          · obtain rfl : i = k := by have := hi.out; omega
            go_wp2
            go_roundw
            case rel => exact ⟨i + 1, by go_num, Lib.hid hlt, Lib.hid (below_drewN (hB.out.trans (G3.out.mono (by have := hB.out.size; rwa [World.size_alloc] at this))) _)⟩
            case measure => simp [intOf]; omega
      · obtain rfl : k = n := by have := hk.out; omega
        go_wp2
        go_ret
        exact ⟨RiB.yes hle _, HBw.out⟩
end Go.Proofs.YtegehaokfcamfaaGreatDoor
