/-
  dolmenlaw11: mine (a transaction of the reference's as one of the program's). Condition: the changes read as a list.
-/
import Derived.Test.YtegehaokfcamfaaGreatDoorRrFit
namespace Go.Proofs.YtegehaokfcamfaaGreatDoor
open Go.RowKit
open RefsLaw (Val Chg)

set_option maxHeartbeats 4000000 in
set_option maxRecDepth 100000 in
theorem mine_any (w : World) (x : TxG) (hA : Sl w 5 x.A x.n (chs x.chs)) (hn : x.n ≤ 1759218604390) :
    Calls Tryz.prog 10 #[txV x.who x.text x.stamp x.A x.n x.c] w fun e w' => ∃ A c, e = .returned (txV x.who x.text x.stamp A x.n c) ∧ Ow w w' 58 5 A x.n c (chs x.chs) := by
  obtain ⟨who, text, stamp, A, n, c, l⟩ := x
  have HA := Lib.hid hA
  have hn : n ≤ 1759218604390 := hn
  have hlen := Lib.hid (chs_count hA)
  obtain ⟨i0, hi0, hz0, hz1, hz2⟩ := info_parts Tryz.infoChg
  have T0 := Lib.hid (((Blk.new w 25 #[S who, S text, I stamp, .slice A n c]).alloc (.cells #[S [], S [], I 0, .slice none 0 0] 37)).alloc (.cells #[S who, S text, I stamp, .slice none 0 0] 37))
  have T1 := Lib.hid ((Blk.new (w.alloc (.cells #[S who, S text, I stamp, .slice A n c] 25)) 37 #[S [], S [], I 0, .slice none 0 0]).alloc (.cells #[S who, S text, I stamp, .slice none 0 0] 37))
  have T2 := Lib.hid (Blk.new ((w.alloc (.cells #[S who, S text, I stamp, .slice A n c] 25)).alloc (.cells #[S [], S [], I 0, .slice none 0 0] 37)) 37 #[S who, S text, I stamp, .slice none 0 0])
  rw [World.size_alloc] at T1
  rw [World.size_alloc, World.size_alloc] at T2
  clear hA
  go_enter Tryz.func10, Tryz.ntmps10
  go_wp2
  go_loopw [4] (fun i wr => ∃ (k co : Nat) (Ao : Option Addr), i = .int .i64 k ∧ Hid (k ≤ n) ∧ Hid (Ow w wr 58 5 Ao k co (chs (l.take k))) ∧ Hid (Blk wr w.heap.size 25 #[S who, S text, I stamp, .slice A n c]) ∧ Hid (Blk wr (w.heap.size + 1) 37 #[S [], S [], I 0, .slice none 0 0]) ∧ Hid (Blk wr (w.heap.size + 1 + 1) 37 #[S who, S text, I stamp, .slice Ao k co])) (fun i _ => n - (intOf i).toNat)
  case atStart => exact ⟨0, 0, none, rfl, Lib.hid (Nat.zero_le _), Lib.hid (Ow.nil_ (balloc (balloc (balloc (Below.refl _ w) _) _) _)), T0, T1, T2⟩
  case round =>
    obtain ⟨k, co, Ao, rfl, hk, hO, t0, t1, t2⟩ := hrel
    have r0 := t0.out.cell
    by_cases hlt : k < n
    · obtain ⟨b, off, x, e1, _, ex, x0, x1, x2, x3, x4⟩ := (HA.out.below hO.out.2).chg hlt
      have hA' : A = some ⟨b, off, none⟩ := e1
      subst hA'
      have Hx := Lib.hid ex
      have q0 : k + 1 ≤ 1759218604390 := by omega
      have q1 : k + 1 ≤ maxLen := Nat.le_trans q0 (by decide)
      have q2 : (k + 1) * 80 ≤ 140737488355328 := Nat.le_trans (Nat.mul_le_mul_right _ q0) (by decide)
      have k1 := (Blk.new wr 48 #[S x.ref, S x.old.id, S x.old.name, S x.new.id, S x.new.name]).cell
      have k2 := (t2.out.alloc (.cells #[S x.ref, S x.old.id, S x.old.name, S x.new.id, S x.new.name] 48)).cell
      have HO6 : Hid (Ow w ((wr.alloc (.cells #[S x.ref, S x.old.id, S x.old.name, S x.new.id, S x.new.name] 48)).alloc (.cells #[S x.ref, S x.old.id, S x.old.name, S x.new.id, S x.new.name] 58)) 58 5 Ao k co (chs (l.take k))) := Lib.hid ((hO.out.alloc _).alloc _)
      have HS6 : Hid (Sl ((wr.alloc (.cells #[S x.ref, S x.old.id, S x.old.name, S x.new.id, S x.new.name] 48)).alloc (.cells #[S x.ref, S x.old.id, S x.old.name, S x.new.id, S x.new.name] 58)) 5 (some ⟨wr.heap.size + 1, 0, none⟩) 1 (chs [x])) := Lib.hid (by have := sl_ch (wr.alloc (.cells #[S x.ref, S x.old.id, S x.old.name, S x.new.id, S x.new.name] 48)) 58 x; rwa [World.size_alloc] at this)
      clear ex e1 q0
      go_wp2_with (at_builtin; refine wpList_append_sl _ rfl (.tmp 26) (.tmp 44) _ rfl w 58 i0 _ 5 80 Tryz.underlying35 hi0 hz0 hz1 hz2 rfl (by decide) Ao k co (chs (l.take k)) rfl HO6.out _ 1 1 (chs [x]) rfl HS6.out (one_chs _) q1 q2 ?_; intro A5 c5 w5 hO5 hg5 hat5; have t05 := ((t0.out.alloc _).alloc _).grown hg5 (row_ne hO.out t0.out (by decide)); have t15 := ((t1.out.alloc _).alloc _).grown hg5 (row_ne hO.out t1.out (by decide)); have t25 := ((t2.out.alloc _).alloc _).grown hg5 (row_ne hO.out t2.out (by decide)); have T05 := Lib.hid t05; have T15 := Lib.hid t15; have T25 := Lib.hid t25; have g5 := t25.cell; have g6 := t25.frozen; have HO5 := Lib.hid hO5; clear hO5 hg5 t05 t15 t25)
      go_roundw
      case rel => exact ⟨k + 1, c5, A5, by go_num, Lib.hid hlt, Lib.hid (by rw [List.take_add_one, Hx.out, chs_append]; exact HO5.out.far (row_ne HO5.out T25.out (by decide)) (by simp; omega) _), Lib.hid (T05.out.far (by simp; omega) _), Lib.hid (T15.out.far (by simp) _), Lib.hid (T25.out.set_ 3 _)⟩
      case measure => simp [intOf]; omega
    · obtain rfl : k = n := by have := hk.out; omega
      rw [List.take_of_length_le (by rw [hlen.out]; exact Nat.le_refl _)] at hO
      have r1 := t1.out.cell
      have f1 := t1.out.frozen
      have r2 := t2.out.cell
      have D1 := Lib.hid (row_ne hO.out t1.out (by decide))
      go_wp2
      refine bodyPost_ret (v := txV who text stamp Ao k co) (by simp [results, Tryz.results10, go_sem, r1]) rfl ⟨Ao, co, rfl, ?_⟩
      exact (((hO.out.far (p := ⟨w.heap.size + 1, 0, none⟩) D1.out (Nat.le_succ _) _).far (p := ⟨w.heap.size + 1, 1, none⟩) D1.out (Nat.le_succ _) _).far (p := ⟨w.heap.size + 1, 2, none⟩) D1.out (Nat.le_succ _) _).far (p := ⟨w.heap.size + 1, 3, none⟩) D1.out (Nat.le_succ _) _
end Go.Proofs.YtegehaokfcamfaaGreatDoor
