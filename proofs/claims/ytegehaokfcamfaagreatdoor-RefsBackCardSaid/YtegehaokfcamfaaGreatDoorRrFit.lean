/-
  dolmenlaw11: fitted (the changes' old values made those of the reference's book). It answers a transaction as long; it makes memory alone. Condition: the book lies in its home, the changes read as a list.
-/
import Derived.Test.YtegehaokfcamfaaGreatDoorRrLog
namespace Go.Proofs.YtegehaokfcamfaaGreatDoor
open Go.RowKit
open RefsLaw (Val Chg)

theorem sl_ch (w : World) (t : TypeId) (x : Chg) : Sl (w.alloc (.cells #[S x.ref, S x.old.id, S x.old.name, S x.new.id, S x.new.name] t)) 5 (some ⟨w.heap.size, 0, none⟩) 1 (chs [x]) := by
  refine ⟨by simp [chs, chC], fun _ => ⟨_, _, rfl, by simp, fun k hk => ?_⟩⟩
  rw [Nat.zero_add]
  simp [chs, chC]
/-- a transaction is answered: who, text, stamp as they were, as many changes, with the same refs -/
def AnyT (w w' : World) (x : TxG) (e : Ending) : Prop := ∃ A c l, e = .returned (txV x.who x.text x.stamp A x.n c) ∧ Ow w w' 48 5 A x.n c (chs l) ∧ l.map (·.ref) = x.chs.map (·.ref)

set_option maxHeartbeats 4000000 in
set_option maxRecDepth 100000 in
theorem fitted_any (w : World) (q : Nat) (G : Nat → Prop) (z y : Nat) (x : TxG) (hB : RBookAt w q G z y) (hz : z ≤ 10000000) (hA : Sl w 5 x.A x.n (chs x.chs)) (hn : x.n ≤ 1759218604390) :
    Calls Tryz.prog 7 #[.pointer (some ⟨q, 0, none⟩), txV x.who x.text x.stamp x.A x.n x.c] w fun e w' => AnyT w w' x e := by
  obtain ⟨who, text, stamp, A, n, c, l⟩ := x
  have HB := Lib.hid hB
  have HA := Lib.hid hA
  have hn : n ≤ 1759218604390 := hn
  have hlen := Lib.hid (chs_count hA)
  obtain ⟨i0, hi0, hz0, hz1, hz2⟩ := info_parts Tryz.infoRChg
  have T0 := Lib.hid ((Blk.new w 25 #[S who, S text, I stamp, .slice A n c]).alloc (.cells #[S [], S [], I 0, .slice none 0 0] 25))
  have T1 := Lib.hid (Blk.new (w.alloc (.cells #[S who, S text, I stamp, .slice A n c] 25)) 25 #[S [], S [], I 0, .slice none 0 0])
  rw [World.size_alloc] at T1
  clear hB hA
  go_enter Tryz.func7, Tryz.ntmps7
  go_wp2
  go_loopw [5, 6] (fun o i wr => ∃ (k co : Nat) (Ao : Option Addr) (gs : List Chg), i = .int .i64 k ∧ o = .slice Ao k co ∧ Hid (k ≤ n) ∧ Hid (Ow w wr 48 5 Ao k co (chs gs)) ∧ Hid (gs.map (·.ref) = (l.take k).map (·.ref)) ∧ Hid (Blk wr w.heap.size 25 #[S who, S text, I stamp, .slice A n c]) ∧ Hid (Blk wr (w.heap.size + 1) 25 #[S [], S [], I 0, .slice none 0 0])) (fun _ i _ => n - (intOf i).toNat)
  case atStart => exact ⟨0, 0, none, [], rfl, rfl, Lib.hid (Nat.zero_le _), Lib.hid (Ow.nil_ (balloc (balloc (Below.refl _ w) _) _)), Lib.hid rfl, T0, T1⟩
  case round =>
    obtain ⟨k, co, Ao, gs, rfl, rfl, hk, hO, hgs, t0, t1⟩ := hrel
    have r0 := t0.out.cell
    by_cases hlt : k < n
    · obtain ⟨b, off, x, e1, _, ex, x0, x1, x2, x3, x4⟩ := (HA.out.below hO.out.2).chg hlt
      have hA' : A = some ⟨b, off, none⟩ := e1
      subst hA'
      have Hx := Lib.hid ex
      have q0 : k + 1 ≤ 1759218604390 := by omega
      have q1 : k + 1 ≤ maxLen := Nat.le_trans q0 (by decide)
      have q2 : (k + 1) * 80 ≤ 140737488355328 := Nat.le_trans (Nat.mul_le_mul_right _ q0) (by decide)
      clear ex e1 q0
      go_wp2_with (first
        | (go_at_call 22; refine (rvalue_any _ q G z y x.ref (HB.out.step (balloc hO.out.2 _)) hz).mono ?_; rintro e w2 ⟨⟨id, name⟩, rfl, b2⟩; have C2 := Lib.hid ((Blk.new wr 48 #[S x.ref, S x.old.id, S x.old.name, S x.new.id, S x.new.name]).step b2); have c2 := C2.out.cell; have f2 := C2.out.frozen; have B3 := Lib.hid ((bstep (balloc (Below.refl _ wr) (.cells #[S x.ref, S x.old.id, S x.old.name, S x.new.id, S x.new.name] 48)) b2).setCell (p := ⟨wr.heap.size, 1, none⟩) (Nat.le_refl _) (S id)); have B4 := Lib.hid (B3.out.setCell (p := ⟨wr.heap.size, 2, none⟩) (Nat.le_refl _) (S name)); have c4 := ((C2.out.set_ 1 (S id)).set_ 2 (S name)).cell; have HO6 : Hid (Ow w (((w2.setCell ⟨wr.heap.size, 1, none⟩ (S id)).setCell ⟨wr.heap.size, 2, none⟩ (S name)).alloc (.cells #[S x.ref, S id, S name, S x.new.id, S x.new.name] 48)) 48 5 Ao k co (chs gs)) := Lib.hid ((hO.out.keep B4.out).alloc _); have HS6 : Hid (Sl (((w2.setCell ⟨wr.heap.size, 1, none⟩ (S id)).setCell ⟨wr.heap.size, 2, none⟩ (S name)).alloc (.cells #[S x.ref, S id, S name, S x.new.id, S x.new.name] 48)) 5 (some ⟨w2.heap.size, 0, none⟩) 1 (chs [⟨x.ref, ⟨id, name⟩, x.new⟩])) := Lib.hid (by have := sl_ch ((w2.setCell ⟨wr.heap.size, 1, none⟩ (S id)).setCell ⟨wr.heap.size, 2, none⟩ (S name)) 48 ⟨x.ref, ⟨id, name⟩, x.new⟩; rwa [setCell_size, setCell_size] at this); clear b2)
        | (at_builtin; go_loud (refine wpList_append_sl _ rfl (.tmp 25) (.tmp 27) _ rfl w 48 i0 _ 5 80 Tryz.uRChg hi0 hz0 hz1 hz2 rfl (by decide) Ao k co (chs gs) rfl HO6.out _ 1 1 (chs [⟨x.ref, ⟨id, name⟩, x.new⟩]) rfl HS6.out (one_chs _) q1 q2 ?_); intro A5 c5 w5 hO5 hg5 hat5; have t05 := Lib.hid (((t0.out.step B4.out).alloc _).grown hg5 (row_ne (hO.out.keep B4.out) (t0.out.step B4.out) (by decide))); have t15 := Lib.hid (((t1.out.step B4.out).alloc _).grown hg5 (row_ne (hO.out.keep B4.out) (t1.out.step B4.out) (by decide))); have HO5 := Lib.hid hO5; clear hO5 hg5))
      go_roundw
      case rel => exact ⟨k + 1, c5, A5, gs ++ [⟨x.ref, ⟨id, name⟩, x.new⟩], by go_num, rfl, Lib.hid hlt, Lib.hid (by rw [chs_append]; exact HO5.out), Lib.hid (by rw [List.map_append, hgs.out, List.take_add_one, Hx.out, List.map_append]; rfl), t05, t15⟩
      case measure => simp [intOf]; omega
    · obtain rfl : k = n := by have := hk.out; omega
      rw [List.take_of_length_le (by rw [hlen.out]; exact Nat.le_refl _)] at hgs
      have f0 := t0.out.frozen
      have r1 := t1.out.cell
      have f1 := t1.out.frozen
      have d0 : some w.heap.size ≠ (Value.slice Ao k co).ownBlock := row_ne hO.out t0.out (by decide)
      have d1 : some (w.heap.size + 1) ≠ (Value.slice Ao k co).ownBlock := row_ne hO.out t1.out (by decide)
      have D0 := Lib.hid d0
      have D1 := Lib.hid d1
      clear d0 d1
      go_wp2
      refine bodyPost_ret (v := txV who text stamp Ao k co) (by simp [results, Tryz.results7, go_sem, r1]) rfl ⟨Ao, co, gs, rfl, ?_, hgs.out⟩
      exact ((((hO.out.far (p := ⟨w.heap.size, 3, none⟩) D0.out (Nat.le_refl _) _).far (p := ⟨w.heap.size + 1, 0, none⟩) D1.out (Nat.le_succ _) _).far (p := ⟨w.heap.size + 1, 1, none⟩) D1.out (Nat.le_succ _) _).far (p := ⟨w.heap.size + 1, 2, none⟩) D1.out (Nat.le_succ _) _).far (p := ⟨w.heap.size + 1, 3, none⟩) D1.out (Nat.le_succ _) _
end Go.Proofs.YtegehaokfcamfaaGreatDoor
