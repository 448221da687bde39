/-
  dolmenlaw13: files of the document's as the program's, and back. Condition: the list reads as one, no more than 2000000.
-/
import Derived.Test.YtcednfmkiaelnaaGreatDoorTKitX
import Derived.Test.YtcednfmkiaelnaaGreatDoorTKitW
import Derived.BigQuiet
namespace Go.Proofs.YtcednfmkiaelnaaGreatDoor
open Go.RowKit
def mi13Phi (b off n c k co g c5 : Nat) (Ao A5 : Option Addr) (xp : List UInt8) (xi : List UInt8) : Nat → Value → World → Prop
 | 0, v, _ => v = .slice Ao k co
 | 1, v, _ => v = .slice (some ⟨b, off, none⟩) n c
 | 2, v, _ => v = I ((k : Int))
 | 3, v, _ => v = .pointer (some ⟨b, off + k * 2, none⟩)
 | 4, v, _ => v = .pointer (some ⟨b, off + k * 2, none⟩)
 | 5, v, _ => v = S xp
 | 6, v, _ => v = .slice (some ⟨b, off, none⟩) n c
 | 7, v, _ => v = I ((k : Int))
 | 8, v, _ => v = .pointer (some ⟨b, off + k * 2, none⟩)
 | 9, v, _ => v = .pointer (some ⟨b, off + k * 2 + 1, none⟩)
 | 10, v, _ => v = S xi
 | 11, v, _ => v = .agg #[S xp, S xi]
 | 12, v, _ => v = .slice (some ⟨g, 0, none⟩) 1 1
 | 13, v, _ => v = .slice A5 (k + 1) c5
 | _, _, _ => True
set_option maxRecDepth 100000 in
set_option maxHeartbeats 8000000 in
theorem mine13_any (w : World) (A : Option Addr) (n c : Nat) (l : List _) (hA : Sl w 2 A n (fls l)) (hn : n ≤ 2000000) :
  Calls Tryz.prog 7 #[.slice A n c] w fun e w' => ∃ (A' : Option Addr) (c' : Nat), e = .returned (.slice A' n c') ∧ Ow w w' 61 2 A' n c' (fls l) := by
 obtain ⟨i0, hi0, hi1, hi2, hi3⟩ := info_parts Tryz.infoFil
 have HA := Lib.hid hA
 have hl := fls_count hA
 clear hA
 go_enter Tryz.func7, Tryz.ntmps7
 go_wp2
 go_loopw [3, 4] (fun o i wr => ∃ (k co : Nat) (Ao : Option Addr), i = .int .i64 k ∧ o = .slice Ao k co ∧ Hid (k ≤ n) ∧ Hid (Ow w wr 61 2 Ao k co (fls (l.take k)))) (fun _ i _ => n - (intOf i).toNat)
 case atStart => exact ⟨0, 0, none, rfl, rfl, Lib.hid (Nat.zero_le _), Lib.hid (Ow.nil_ (Below.refl _ _))⟩
 case round =>
  obtain ⟨k, co, Ao, rfl, rfl, hk, hO⟩ := hrel
  by_cases hlt : k < n
  ·obtain ⟨b, off, x, rfl, _, hx, x0, x1⟩ := (HA.out.below hO.out.2).fil hlt
   have Hx := Lib.hid hx
   clear hx
   obtain ⟨xp, xi⟩ := x
   have q1 : Hid (k + 1 ≤ maxLen) := Lib.hid (by simp only [maxLen]; omega)
   have q2 : Hid ((k + 1) * 32 ≤ 140737488355328) := Lib.hid (by omega)
   obtain ⟨W, hW⟩ : ∃ W, W = wr := ⟨_, rfl⟩
   subst hW
   have HO6 := Lib.hid (hO.out.drew.alloc (.cells #[S xp, S xi] 61))
   have hS6 := sl_fil W.drew 61 ⟨xp, xi⟩
   obtain ⟨A5, c5, w5, hrun, hO5, hg5, _⟩ := run_append_sl (P := Tryz.prog) _ w.heap.size 28 28 61 i0 _ 2 32 Tryz.underlying28 hi0 hi1 hi2 hi3 rfl (by decide) (.slice Ao k co) k (fls (l.take k)) HO6.out.1 _ 1 1 (fls [⟨xp, xi⟩]) hS6 (one_fls _) q1.out q2.out HO6.out.2.size
   have hb5 : Below w.heap.size w w5 := HO6.out.2.grown hg5 HO6.out.2.size (fun k hk => (HO6.out.1.lt k hk).1)
   have HO5 : Hid (Ow w w5 61 2 A5 (k + 1) c5 (fls (l.take (k + 1)))) := Lib.hid ⟨by rw [List.take_add_one, Hx.out, fls_append]; exact hO5, hb5⟩
   have HB := Lib.hid (CJ.bel (w0 := w) (W0 := W.drew) (W1 := W.drew.alloc (.cells #[S xp, S xi] 61)) (W2 := w5) hO.out.2.drew HO6.out.2 hb5)
   have Hrun := Lib.hid hrun
   have Hx2 : Hid (∀ w', Below w.heap.size w w' → w'.cell? ⟨b, off + k * 2, none⟩ = some (S xp) ∧ w'.cell? ⟨b, off + k * 2 + 1, none⟩ = some (S xi)) := Lib.hid (fun w' hb' => by
    obtain ⟨b2, off2, y, e1, _, hy, z0, z1⟩ := (HA.out.below hb').fil hlt
    cases e1
    obtain rfl : y = ⟨xp, xi⟩ := Option.some.inj (hy.symm.trans Hx.out)
    exact ⟨z0, z1⟩)
   clear hS6 hrun hO5 hg5 hb5 HO6 x0 x1
   obtain ⟨g, hg⟩ : ∃ g, g = W.heap.size := ⟨_, rfl⟩
   have Hg := Lib.hid hg
   clear hg
   go_wp2
   refine wp_region_pairR (by kernel_rfl) 14 (by kernel_rfl) ?_ (fun j v => mi13Phi b off n c k co g c5 Ao A5 xp xi j v W) 12 13 (by kernel_rfl) (fun w w' => w' = w) (fun _ => rfl) (CJ W.drew (W.drew.alloc (.cells #[S xp, S xi] 61)) w5) CJ.step rfl (fun i o hi hi1 hi2 ho a w k' hk hk2 hs hm => ?_) (fun o ho a w hj hs hm => ?_) (fun o ho a w hj hs hm => ?_) (fun o ho a w hj hs hm => ?_)
   ·exact dst_ltC2 (n := 26) (by kernel_rfl)
   ·obtain ⟨y0, y1⟩ := Hx2.out w (HB.out k' w hk)
    exact match i, hi, ho, hi1, hi2 with
    | 0, _, ho, _, _ => by
      cases ho
      rw [if_pos (wanted_none _ rfl)]
      refine wp_value (st_move rfl ((hs.keeps (by kernel_rfl)).trans rfl)) ⟨_, rfl, rfl, rfl⟩
    | 1, _, ho, _, _ => by
      cases ho
      rw [if_pos (wanted_none _ rfl)]
      refine wp_value (st_move rfl ((hs.keeps (by kernel_rfl)).trans rfl)) ⟨_, rfl, rfl, rfl⟩
    | 2, _, ho, _, _ => by
      cases ho
      rw [if_pos (wanted_none _ rfl)]
      refine wp_value (st_move rfl ((hs.keeps (by kernel_rfl)).trans rfl)) ⟨_, rfl, rfl, rfl⟩
    | 3, _, ho, _, _ => by
      cases ho
      rw [if_pos (wanted_none _ rfl)]
      have h1 := eval_getD (hm.get 1 12 (by kernel_rfl)); have h2 := eval_getD (hm.get 2 13 (by kernel_rfl)); unfold Oper.wp; simp only [execOp]; go_simp; (first | exact ⟨_, rfl, rfl⟩ | exact ⟨_, rfl, rfl, rfl⟩)
    | 4, _, ho, _, _ => by
      cases ho
      rw [if_pos (wanted_none _ rfl)]
      have h1 := eval_getD (hm.get 3 14 (by kernel_rfl)); unfold Oper.wp; simp only [execOp]; go_simp; (first | exact ⟨_, rfl, rfl⟩ | exact ⟨_, rfl, rfl, rfl⟩)
    | 5, _, ho, _, _ => by
      cases ho
      rw [if_pos (wanted_none _ rfl)]
      have h1 := eval_getD (hm.get 4 15 (by kernel_rfl)); unfold Oper.wp; simp only [execOp]; go_simp; (first | exact ⟨_, rfl, rfl⟩ | exact ⟨_, rfl, rfl, rfl⟩)
    | 6, _, ho, _, _ => by
      cases ho
      rw [if_pos (wanted_none _ rfl)]
      refine wp_value (st_move rfl ((hs.keeps (by kernel_rfl)).trans rfl)) ⟨_, rfl, rfl, rfl⟩
    | 7, _, ho, _, _ => by
      cases ho
      rw [if_pos (wanted_none _ rfl)]
      refine wp_value (st_move rfl ((hs.keeps (by kernel_rfl)).trans rfl)) ⟨_, rfl, rfl, rfl⟩
    | 8, _, ho, _, _ => by
      cases ho
      rw [if_pos (wanted_none _ rfl)]
      have h1 := eval_getD (hm.get 6 17 (by kernel_rfl)); have h2 := eval_getD (hm.get 7 18 (by kernel_rfl)); unfold Oper.wp; simp only [execOp]; go_simp; (first | exact ⟨_, rfl, rfl⟩ | exact ⟨_, rfl, rfl, rfl⟩)
    | 9, _, ho, _, _ => by
      cases ho
      rw [if_pos (wanted_none _ rfl)]
      have h1 := eval_getD (hm.get 8 19 (by kernel_rfl)); unfold Oper.wp; simp only [execOp]; go_simp; (first | exact ⟨_, rfl, rfl⟩ | exact ⟨_, rfl, rfl, rfl⟩)
    | 10, _, ho, _, _ => by
      cases ho
      rw [if_pos (wanted_none _ rfl)]
      have h1 := eval_getD (hm.get 9 20 (by kernel_rfl)); unfold Oper.wp; simp only [execOp]; go_simp; (first | exact ⟨_, rfl, rfl⟩ | exact ⟨_, rfl, rfl, rfl⟩)
    | 11, _, ho, _, _ => by
      cases ho
      rw [if_pos (wanted_none _ rfl)]
      have h1 := eval_getD (hm.get 5 16 (by kernel_rfl)); have h2 := eval_getD (hm.get 10 21 (by kernel_rfl)); unfold Oper.wp; simp only [execOp]; go_simp; (first | exact ⟨_, rfl, rfl⟩ | exact ⟨_, rfl, rfl, rfl⟩)
    | 12, _, _, h, _ => absurd rfl h
    | 13, _, _, _, h => absurd rfl h
    | (n + 14), hi, _, _, _ => absurd hi (by omega)
   ·cases ho
    obtain rfl : w = W.drew := hj
    have h1 := eval_getD (hm.get 11 22 (by kernel_rfl))
    unfold Oper.wp
    simp only [execOp]
    go_simp
    exact ⟨_, rfl, show Value.slice _ _ _ = Value.slice _ _ _ by rw [Hg.out], rfl⟩
   ·have hj1 : w = W.drew.alloc (.cells #[S xp, S xi] 61) := hj
    subst hj1
    obtain ⟨h1, h2, h3, h4, h5⟩ : a.eval (.tmp 11) = .slice Ao k co ∧ a.eval (.tmp 23) = .slice (some ⟨g, 0, none⟩) 1 1 ∧ o.op = .call { callee := .builtin .append, args := #[.tmp 11, .tmp 23], argTypes := #[28, 28] } ∧ o.dst = some 24 ∧ o.type = 28 := by
     cases ho
     exact ⟨hm.get 0 11 (by kernel_rfl), hm.get 12 23 (by kernel_rfl), rfl, rfl, rfl⟩
    rw [Hg.out] at h2
    have hr := Hrun.out
    simp only [World.size_drew] at hr
    unfold Oper.wp execOp
    simp only [h3, h5, resolve, invoke, builtin, Sem.run_bind, Sem.run_pure, Result.andThen_ok, List.map_toArray, List.map_cons, List.map_nil, h1, h2, hr]
    exact ⟨_, rfl, rfl, rfl⟩
   ·have e1 : a.eval (.tmp 24) = .slice A5 (k + 1) c5 := by cases ho; exact hm.get 13 24 (by kernel_rfl)
    have hfr := hs.frame [11, 12, 13, 14, 15, 16, 17, 18, 19, 20, 21, 22, 23, 24] (by kernel_rfl)
    cases ho
    obtain rfl : w = w5 := hj
    rw [hfr]
    simp only [List.foldl_cons, List.foldl_nil, e1]
    clear hfr hs hm e1
    generalize a.eval (.tmp 11) = u11, a.eval (.tmp 12) = u12, a.eval (.tmp 13) = u13, a.eval (.tmp 14) = u14, a.eval (.tmp 15) = u15, a.eval (.tmp 16) = u16, a.eval (.tmp 17) = u17, a.eval (.tmp 18) = u18, a.eval (.tmp 19) = u19, a.eval (.tmp 20) = u20, a.eval (.tmp 21) = u21, a.eval (.tmp 22) = u22, a.eval (.tmp 23) = u23
    unfold Oper.wp
    simp only [execOp]
    go_simp
    clear a
    go_wp2
    go_roundw
    case rel => exact ⟨k + 1, c5, A5, by go_num, rfl, Lib.hid hlt, HO5⟩
    case measure => simp [intOf]; omega
  ·obtain rfl : k = n := by have := hk.out; omega
   rw [List.take_of_length_le (by omega)] at hO
   go_wp2
   go_ret
   exact ⟨Ao, co, rfl, hO.out⟩
end Go.Proofs.YtcednfmkiaelnaaGreatDoor
