/-
  dolmenref11.SameTxns: it answers, and only reads. Condition: both lists can be read.
-/
import Derived.Test.YtegehaokfcamfaaGreatDoorRrLog
namespace Go.Proofs.YtegehaokfcamfaaGreatDoor
open Go.RowKit
open RefsLaw (Val Chg)

/-- are two changes one? -/
def eqC (a b c d e a' b' c' d' e' : List UInt8) : Bool := decide (a = a' ∧ b = b' ∧ c = c' ∧ d = d' ∧ e = e')
theorem neq_rchg (w : World) (a b c d e a' b' c' d' e' : List UInt8) : (binOp .neq 48 (.agg #[S a, S b, S c, S d, S e]) (.agg #[S a', S b', S c', S d', S e'])).run Tryz.prog w = .ok (.bool (!eqC a b c d e a' b' c' d' e')) w := by
  unfold eqC
  rw [run_neq_struct, run_equalIn_struct w 9999 48 _ _ (by kernel_rfl) (by kernel_rfl)]
  simp only [Program.fieldsOf, Tryz.underlying48]
  by_cases h1 : a = a' <;> by_cases h2 : b = b' <;> by_cases h3 : c = c' <;> by_cases h4 : d = d' <;> by_cases h5 : e = e' <;> simp [go_sem, Op.eqFields, Program.fieldsOf, Tryz.underlying46, h1, h2, h3, h4, h5]
theorem guard_rchg (w : World) (op : BinOp) (x y : Operand) (a b c d e a' b' c' d' e' : List UInt8) : (eqGuard op 48 x y (.agg #[S a, S b, S c, S d, S e]) (.agg #[S a', S b', S c', S d', S e'])).run Tryz.prog w = .ok () w := run_eqGuard_agg w op 48 x y _ _ (by kernel_rfl)

set_option maxHeartbeats 4000000 in
set_option maxRecDepth 100000 in
theorem rsame_any (A B : Option Addr) (n c m d : Nat) (xs ys : List TxG) (w : World) (hA : Sl w 4 A n (txs xs)) (hB : Sl w 4 B m (txs ys)) (hx : ∀ x ∈ xs, Sl w 5 x.A x.n (chs x.chs) ∧ x.n ≤ 4096) (hy : ∀ x ∈ ys, Sl w 5 x.A x.n (chs x.chs) ∧ x.n ≤ 4096) (hn : n ≤ 1759218604390) :
    Calls Tryz.prog 47 #[.slice A n c, .slice B m d] w fun e w' => AnyB e ∧ ∃ k, w' = w.drewN k := by
  by_cases hne : n = m
  · subst hne
    have HX := Lib.hid hx
    have HY := Lib.hid hy
    have kN := neq_rchg
    have kG := guard_rchg
    clear hx hy
    go_enter Tryz.func47, Tryz.ntmps47
    go_wp2
    go_loopw [5] (fun i wr => ∃ k q : Nat, i = .int .i64 k ∧ Hid (k ≤ n) ∧ wr = w.drewN q) (fun i _ => n - (intOf i).toNat)
    case atStart => exact ⟨0, 0, rfl, Lib.hid (Nat.zero_le _), rfl⟩
    case round =>
      obtain ⟨k, q, rfl, hk, rfl⟩ := hrel
      by_cases hlt : k < n
      · obtain ⟨b, off, x, rfl, _, ex, x0, x1, x2, x3⟩ := hA.txn hlt
        obtain ⟨b', off', y, rfl, _, ey, y0, y1, y2, y3⟩ := hB.txn hlt
        have hxc := Lib.hid (HX.out x (List.mem_of_getElem? ex))
        have hyc := Lib.hid (HY.out y (List.mem_of_getElem? ey))
        have hxn := hxc.out.2
        have hyn := hyc.out.2
        clear ex ey
        rcases h1 : (!x.who == y.who) with _ | _
        · rcases h2 : (!x.text == y.text) with _ | _
          · rcases h3 : (x.stamp != y.stamp) with _ | _
            · by_cases h4 : x.n = y.n
              · have h5 : ((x.n : Int) != (y.n : Int)) = false := by simp [h4]
                go_wp2
                go_quiet (fail)
                clear h1 h2 h3 h5 x0 x1 x2 y0 y1 y2
                go_wp2
                go_loopw [6] (fun j wj => ∃ i p : Nat, j = .int .i64 i ∧ Hid (i ≤ x.n) ∧ wj = w.drewN p) (fun j _ => x.n - (intOf j).toNat)
                case atStart => exact ⟨0, _, rfl, Lib.hid (Nat.zero_le _), World.drewN_drewN _ _ _⟩
                case round =>
                  obtain ⟨i, p, rfl, hi, rfl⟩ := hrel
                  by_cases hin : i < x.n
                  · obtain ⟨c1, o1, u, e1, _, _, a0, a1, a2, a3, a4⟩ := hxc.out.1.chg hin
                    have hiy : i < y.n := by omega
                    obtain ⟨c2, o2, v, e2, _, _, b0, b1, b2, b3, b4⟩ := hyc.out.1.chg hiy
                    have x3' := x3
                    have y3' := y3
                    rw [e1] at x3'
                    rw [e2] at y3'
                    clear x3 y3
                    go_wp2
                    go_quiet (fail)
                    go_wp2
                    · go_ret
                      exact ⟨AnyB.mk false, _, World.drewN_drewN _ _ _⟩
                    · go_roundw
                      case rel => exact ⟨i + 1, _, by go_num, Lib.hid hin, rfl⟩
                      case measure => simp [intOf]; omega
                  · obtain rfl : i = x.n := by have := hi.out; omega
                    go_wp2
                    go_roundw
                    case rel => exact ⟨k + 1, p, by go_num, Lib.hid hlt, rfl⟩
                    case measure => simp [intOf]; omega
              · have h5 : ((x.n : Int) != (y.n : Int)) = true := by simp; omega
                go_wp2
                go_quiet (fail)
                go_wp2
                go_ret
                exact ⟨AnyB.mk false, _, World.drewN_drewN _ _ _⟩
            · go_wp2
              go_quiet (fail)
              go_wp2
              go_ret
              exact ⟨AnyB.mk false, _, World.drewN_drewN _ _ _⟩
          · go_wp2
            go_quiet (fail)
            go_wp2
            go_ret
            exact ⟨AnyB.mk false, _, World.drewN_drewN _ _ _⟩
        · go_wp2
          go_quiet (fail)
          go_wp2
          go_ret
          exact ⟨AnyB.mk false, _, World.drewN_drewN _ _ _⟩
      · obtain rfl : k = n := by have := hk.out; omega
        go_wp2
        go_ret
        exact ⟨AnyB.mk true, q, rfl⟩
  · have h1 : ((n : Int) != (m : Int)) = true := by simp; omega
    go_enter Tryz.func47, Tryz.ntmps47
    go_wp2
    go_ret
    exact ⟨AnyB.mk false, 0, rfl⟩
end Go.Proofs.YtegehaokfcamfaaGreatDoor
