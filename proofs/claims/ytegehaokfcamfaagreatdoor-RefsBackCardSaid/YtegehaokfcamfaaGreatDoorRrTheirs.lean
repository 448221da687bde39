/-
  dolmenlaw11: theirs (the program's transactions as the reference's). Condition: the transactions read as a list, none of more than 4096 changes.
-/
import Derived.Test.YtegehaokfcamfaaGreatDoorRrMine
import Derived.Test.YtegehaokfcamfaaGreatDoorKitZ
namespace Go.Proofs.YtegehaokfcamfaaGreatDoor
open Go.RowKit
open RefsLaw (Val Chg)

set_option maxHeartbeats 4000000 in
set_option maxRecDepth 100000 in
theorem theirs_any (w : World) (A : Option Addr) (n c : Nat) (xs : List TxG) (hA : Sl w 4 A n (txs xs)) (hx : ∀ x ∈ xs, Sl w 5 x.A x.n (chs x.chs) ∧ x.n ≤ 4096) (hn : n ≤ 1759218604390) :
    Calls Tryz.prog 48 #[.slice A n c] w fun e w' => ∃ A' c' xs', e = .returned (.slice A' n c') ∧ TxL w w' A' n c' xs' := by
  have HA := Lib.hid hA
  have HX := Lib.hid hx
  obtain ⟨i0, hi0, hz0, hz1, hz2⟩ := info_parts Tryz.infoRChg
  obtain ⟨i1, hi1, hy0, hy1, hy2⟩ := info_parts Tryz.infoRTxn
  clear hA hx
  go_enter Tryz.func48, Tryz.ntmps48
  go_wp2
  go_loopw [3, 4] (fun o i wr => ∃ (k co : Nat) (Ao : Option Addr) (gs : List TxG), i = .int .i64 k ∧ o = .slice Ao k co ∧ Hid (k ≤ n) ∧ Hid (TxL w wr Ao k co gs)) (fun _ i _ => n - (intOf i).toNat)
  case atStart => exact ⟨0, 0, none, [], rfl, rfl, Lib.hid (Nat.zero_le _), Lib.hid (TxL.nil_ (Below.refl _ _))⟩
  case round =>
    obtain ⟨k, co, Ao, gs, rfl, rfl, hk, hL⟩ := hrel
    by_cases hlt : k < n
    · obtain ⟨W, hW⟩ : ∃ W, W = wr := ⟨_, rfl⟩
      subst hW
      obtain ⟨b, off, x, rfl, hb, ex, x0, x1, x2, x3⟩ := (HA.out.below hL.out.1.2).txn hlt
      have hxc := Lib.hid (HX.out x (List.mem_of_getElem? ex))
      have hxn := hxc.out.2
      have X3 := Lib.hid x3
      clear ex x3
      go_wp2
      go_region
      have tn := Lib.hid (Blk.new W.drew 25 #[S x.who, S x.text, I x.stamp, .slice none 0 0])
      have on := Lib.hid (Ow.nil_ (sz := 5) (e := 48) (balloc ((Below.refl _ W).drew) (.cells #[S x.who, S x.text, I x.stamp, .slice none 0 0] 25)))
      clear x0 x1 x2
      go_wp2
      go_loopw [6] (fun j wj => ∃ (i cj : Nat) (Aj : Option Addr), j = .int .i64 i ∧ Hid (i ≤ x.n) ∧ Hid (Ow W wj 48 5 Aj i cj (chs (x.chs.take i))) ∧ Hid (Blk wj W.heap.size 25 #[S x.who, S x.text, I x.stamp, .slice Aj i cj])) (fun j _ => x.n - (intOf j).toNat)
      case atStart => exact ⟨0, 0, none, rfl, Lib.hid (Nat.zero_le _), on, tn⟩
      case round =>
        obtain ⟨i, cj, Aj, rfl, hi, hO, t2⟩ := hrel
        have x3 := (hO.out.2.cell (p := ⟨b, off + k * 4 + 3, none⟩) hb).trans X3.out
        by_cases hin : i < x.n
        · obtain ⟨b', off', u, e1, _, eu, a0, a1, a2, a3, a4⟩ := (hxc.out.1.below (bstep hL.out.1.2 hO.out.2)).chg hin
          have Hu := Lib.hid eu
          rw [e1] at x3
          have q0 : i + 1 ≤ 4097 := by omega
          have q1 : i + 1 ≤ maxLen := Nat.le_trans q0 (by decide)
          have q2 : (i + 1) * 80 ≤ 140737488355328 := Nat.le_trans (Nat.mul_le_mul_right _ q0) (by decide)
          have k1 := (Blk.new wr 58 #[S u.ref, S u.old.id, S u.old.name, S u.new.id, S u.new.name]).cell
          have k2 := (t2.out.alloc (.cells #[S u.ref, S u.old.id, S u.old.name, S u.new.id, S u.new.name] 58)).cell
          have HO6 : Hid (Ow W ((wr.alloc (.cells #[S u.ref, S u.old.id, S u.old.name, S u.new.id, S u.new.name] 58)).alloc (.cells #[S u.ref, S u.old.id, S u.old.name, S u.new.id, S u.new.name] 48)) 48 5 Aj i cj (chs (x.chs.take i))) := Lib.hid ((hO.out.alloc _).alloc _)
          have HS6 : Hid (Sl ((wr.alloc (.cells #[S u.ref, S u.old.id, S u.old.name, S u.new.id, S u.new.name] 58)).alloc (.cells #[S u.ref, S u.old.id, S u.old.name, S u.new.id, S u.new.name] 48)) 5 (some ⟨wr.heap.size + 1, 0, none⟩) 1 (chs [u])) := Lib.hid (by have := sl_ch (wr.alloc (.cells #[S u.ref, S u.old.id, S u.old.name, S u.new.id, S u.new.name] 58)) 48 u; rwa [World.size_alloc] at this)
          clear eu q0
          go_wp2_with (at_builtin; refine wpList_append_sl _ rfl (.tmp 49) (.tmp 67) _ rfl W 48 i0 _ 5 80 Tryz.uRChg hi0 hz0 hz1 hz2 rfl (by decide) Aj i cj (chs (x.chs.take i)) rfl HO6.out _ 1 1 (chs [u]) rfl HS6.out (one_chs _) q1 q2 ?_; intro A5 c5 w5 hO5 hg5 hat5; have t25 := ((t2.out.alloc _).alloc _).grown hg5 (row_ne hO.out t2.out (by decide)); have T25 := Lib.hid t25; have g5 := t25.cell; have g6 := t25.frozen; have HO5 := Lib.hid hO5; clear hO5 hg5 t25)
          go_roundw
          case rel => exact ⟨i + 1, c5, A5, by go_num, Lib.hid hin, Lib.hid (by rw [List.take_add_one, Hu.out, chs_append]; exact HO5.out.far (row_ne HO5.out T25.out (by decide)) (Nat.le_refl _) _), Lib.hid (T25.out.set_ 3 _)⟩
          case measure => simp [intOf]; omega
        · obtain rfl : i = x.n := by have := hi.out; omega
          have hall : chs (x.chs.take x.n) = chs x.chs := by rw [List.take_of_length_le (by rw [chs_count hxc.out.1]; exact Nat.le_refl _)]
          have HO : Hid (Ow W wr 48 5 Aj x.n cj (chs x.chs)) := Lib.hid (by rw [← hall]; exact hO.out)
          have r2 := t2.out.cell
          have q0 : k + 1 ≤ 1759218604390 := by omega
          have q1 : k + 1 ≤ maxLen := Nat.le_trans q0 (by decide)
          have q2 : (k + 1) * 64 ≤ 140737488355328 := Nat.le_trans (Nat.mul_le_mul_right _ q0) (by decide)
          have L7 : Hid (TxL w (wr.alloc (.cells #[S x.who, S x.text, I x.stamp, .slice Aj x.n cj] 25)) Ao k co gs) := Lib.hid ((hL.out.step HO.out.2).step (balloc (Below.refl _ wr) _))
          have HS7 : Hid (Sl (wr.alloc (.cells #[S x.who, S x.text, I x.stamp, .slice Aj x.n cj] 25)) 4 (some ⟨wr.heap.size, 0, none⟩) 1 (txs [⟨x.who, x.text, x.stamp, Aj, x.n, cj, x.chs⟩])) := Lib.hid (sl_tx wr 25 ⟨x.who, x.text, x.stamp, Aj, x.n, cj, x.chs⟩)
          have X7 : Hid (SlT (fun g => w.heap.size ≤ g) 48 (wr.alloc (.cells #[S x.who, S x.text, I x.stamp, .slice Aj x.n cj] 25)) 5 Aj x.n (chs x.chs)) := Lib.hid ((HO.out.slT.weak (fun g _ h => Nat.le_trans hL.out.1.2.size h.1)).step (balloc (Below.refl _ wr) _))
          clear hall q0 hO
          go_wp2_with (at_builtin; refine wpList_append_sl _ rfl (.tmp 70) (.tmp 72) _ rfl w 25 i1 _ 4 64 Tryz.uRTxn hi1 hy0 hy1 hy2 rfl (by decide) Ao k co (txs gs) rfl L7.out.1 _ 1 1 (txs [⟨x.who, x.text, x.stamp, Aj, x.n, cj, x.chs⟩]) rfl HS7.out (one_txs _) q1 q2 ?_; intro A9 c9 w9 hO9 hg9 hat9; have L9 := Lib.hid (L7.out.snoc hO9 hg9 X7.out hxn); clear hO9 hg9)
          go_roundw
          case rel => exact ⟨k + 1, c9, A9, gs ++ [⟨x.who, x.text, x.stamp, Aj, x.n, cj, x.chs⟩], by go_num, rfl, Lib.hid hlt, L9⟩
          case measure => simp [intOf]; omega
    · obtain rfl : k = n := by have := hk.out; omega
      go_wp2
      go_ret
      exact ⟨_, _, _, rfl, hL.out⟩
end Go.Proofs.YtegehaokfcamfaaGreatDoor
