/-
  Texts merged: PairRens, SameRens. What each law says and asks stands at its head.
-/
import Derived.Test.YtphnfcgdpdimbaaGreatDoorRKitX
import Derived.Test.YtphnfcgdpdimbaaGreatDoorRKitPm
import Derived.Test.YtphnfcgdpdimbaaGreatDoorRKitW
import Derived.BigQuiet
namespace Go.Proofs.YtphnfcgdpdimbaaGreatDoor
open Go.RowKit
theorem Tryz.infoRRen : (Tryz.prog.info? 141).map (fun i => (i.zero, i.size, i.bytes)) = some (some (.agg #[.string ⟨#[]⟩, .string ⟨#[]⟩, .int .i64 0]), 3, 40) := by kernel_rfl
def rn16Phi (b off n c k co g c5 : Nat) (Ao A5 : Option Addr) (xp : List UInt8) (xo : List UInt8) (xn : Int) : Nat → Value → World → Prop
 | 0, v, _ => v = .slice Ao k co
 | 1, v, _ => v = .slice (some ⟨b, off, none⟩) n c
 | 2, v, _ => v = I ((k : Int))
 | 3, v, _ => v = .pointer (some ⟨b, off + k * 3, none⟩)
 | 4, v, _ => v = .pointer (some ⟨b, off + k * 3, none⟩)
 | 5, v, _ => v = S xp
 | 6, v, _ => v = .slice (some ⟨b, off, none⟩) n c
 | 7, v, _ => v = I ((k : Int))
 | 8, v, _ => v = .pointer (some ⟨b, off + k * 3, none⟩)
 | 9, v, _ => v = .pointer (some ⟨b, off + k * 3 + 1, none⟩)
 | 10, v, _ => v = S xo
 | 11, v, _ => v = .slice (some ⟨b, off, none⟩) n c
 | 12, v, _ => v = I ((k : Int))
 | 13, v, _ => v = .pointer (some ⟨b, off + k * 3, none⟩)
 | 14, v, _ => v = .pointer (some ⟨b, off + k * 3 + 2, none⟩)
 | 15, v, _ => v = I xn
 | 16, v, _ => v = .agg #[S xp, S xo, I xn]
 | 17, v, _ => v = .slice (some ⟨g, 0, none⟩) 1 1
 | 18, v, _ => v = .slice A5 (k + 1) c5
 | _, _, _ => True
set_option maxRecDepth 100000 in
set_option maxHeartbeats 8000000 in
theorem renames16_any (w : World) (A : Option Addr) (n c : Nat) (l : List _) (hA : Sl w 3 A n (rns l)) (hn : n ≤ 2000000) :
  Calls Tryz.prog 20 #[.slice A n c] w fun e w' => ∃ (A' : Option Addr) (c' : Nat), e = .returned (.slice A' n c') ∧ Ow w w' 141 3 A' n c' (rns l) := by
 obtain ⟨i0, hi0, hi1, hi2, hi3⟩ := info_parts Tryz.infoRRen
 have HA := Lib.hid hA
 have hl := rns_count hA
 clear hA
 go_enter Tryz.func20, Tryz.ntmps20
 go_wp2
 go_loopw [3, 4] (fun o i wr => ∃ (k co : Nat) (Ao : Option Addr), i = .int .i64 k ∧ o = .slice Ao k co ∧ Hid (k ≤ n) ∧ Hid (Ow w wr 141 3 Ao k co (rns (l.take k)))) (fun _ i _ => n - (intOf i).toNat)
 case atStart => exact ⟨0, 0, none, rfl, rfl, Lib.hid (Nat.zero_le _), Lib.hid (Ow.nil_ (Below.refl _ _))⟩
 case round =>
  obtain ⟨k, co, Ao, rfl, rfl, hk, hO⟩ := hrel
  by_cases hlt : k < n
  ·obtain ⟨b, off, x, rfl, _, hx, x0, x1, x2⟩ := (HA.out.below hO.out.2).rn hlt
   have Hx := Lib.hid hx
   clear hx
   obtain ⟨xp, xo, xn⟩ := x
   have q1 : Hid (k + 1 ≤ maxLen) := Lib.hid (by simp only [maxLen]; omega)
   have q2 : Hid ((k + 1) * 40 ≤ 140737488355328) := Lib.hid (by omega)
   obtain ⟨W, hW⟩ : ∃ W, W = wr := ⟨_, rfl⟩
   subst hW
   have HO6 := Lib.hid (hO.out.drew.alloc (.cells #[S xp, S xo, I xn] 141))
   have hS6 := sl_rn W.drew 141 ⟨xp, xo, xn⟩
   obtain ⟨A5, c5, w5, hrun, hO5, hg5, _⟩ := run_append_sl (P := Tryz.prog) _ w.heap.size 61 61 141 i0 _ 3 40 Tryz.underlying61 hi0 hi1 hi2 hi3 rfl (by decide) (.slice Ao k co) k (rns (l.take k)) HO6.out.1 _ 1 1 (rns [⟨xp, xo, xn⟩]) hS6 (one_rns _) q1.out q2.out HO6.out.2.size
   have hb5 : Below w.heap.size w w5 := HO6.out.2.grown hg5 HO6.out.2.size (fun k hk => (HO6.out.1.lt k hk).1)
   have HO5 : Hid (Ow w w5 141 3 A5 (k + 1) c5 (rns (l.take (k + 1)))) := Lib.hid ⟨by rw [List.take_add_one, Hx.out, rns_append]; exact hO5, hb5⟩
   have HB := Lib.hid (CJ.bel (w0 := w) (W0 := W.drew) (W1 := W.drew.alloc (.cells #[S xp, S xo, I xn] 141)) (W2 := w5) hO.out.2.drew HO6.out.2 hb5)
   have Hrun := Lib.hid hrun
   have Hx2 : Hid (∀ w', Below w.heap.size w w' → w'.cell? ⟨b, off + k * 3, none⟩ = some (S xp) ∧ w'.cell? ⟨b, off + k * 3 + 1, none⟩ = some (S xo) ∧ w'.cell? ⟨b, off + k * 3 + 2, none⟩ = some (I xn)) := Lib.hid (fun w' hb' => by
    obtain ⟨b2, off2, y, e1, _, hy, z0, z1, z2⟩ := (HA.out.below hb').rn hlt
    cases e1
    obtain rfl : y = ⟨xp, xo, xn⟩ := Option.some.inj (hy.symm.trans Hx.out)
    exact ⟨z0, z1, z2⟩)
   clear hS6 hrun hO5 hg5 hb5 HO6 x0 x1 x2
   obtain ⟨g, hg⟩ : ∃ g, g = W.heap.size := ⟨_, rfl⟩
   have Hg := Lib.hid hg
   clear hg
   go_wp2
   refine wp_region_pairR (by kernel_rfl) 19 (by kernel_rfl) ?_ (fun j v => rn16Phi b off n c k co g c5 Ao A5 xp xo xn j v W) 17 18 (by kernel_rfl) (fun w w' => w' = w) (fun _ => rfl) (CJ W.drew (W.drew.alloc (.cells #[S xp, S xo, I xn] 141)) w5) CJ.step rfl (fun i o hi hi1 hi2 ho a w k' hk hk2 hs hm => ?_) (fun o ho a w hj hs hm => ?_) (fun o ho a w hj hs hm => ?_) (fun o ho a w hj hs hm => ?_)
   ·exact dst_ltC2 (n := 31) (by kernel_rfl)
   ·obtain ⟨y0, y1, y2⟩ := Hx2.out w (HB.out k' w hk)
    exact match i, hi, ho, hi1, hi2 with
    | 0, _, ho, _, _ => by
      cases ho
      rw [if_pos (wanted_none _ rfl)]
      refine wp_value (st_move rfl ((hs.keeps (by kernel_rfl)).trans rfl)) ⟨_, rfl, rfl, rfl⟩
    | 1, _, ho, _, _ => by
      cases ho
      rw [if_pos (wanted_none _ rfl)]
      refine wp_value (st_move rfl ((hs.keeps (by kernel_rfl)).trans rfl)) ⟨_, rfl, rfl, rfl⟩
    | 2, _, ho, _, _ => by
      cases ho
      rw [if_pos (wanted_none _ rfl)]
      refine wp_value (st_move rfl ((hs.keeps (by kernel_rfl)).trans rfl)) ⟨_, rfl, rfl, rfl⟩
    | 3, _, ho, _, _ => by
      cases ho
      rw [if_pos (wanted_none _ rfl)]
      have h1 := eval_getD (hm.get 1 12 (by kernel_rfl)); have h2 := eval_getD (hm.get 2 13 (by kernel_rfl)); unfold Oper.wp; simp only [execOp]; go_simp; (first | exact ⟨_, rfl, rfl⟩ | exact ⟨_, rfl, rfl, rfl⟩)
    | 4, _, ho, _, _ => by
      cases ho
      rw [if_pos (wanted_none _ rfl)]
      have h1 := eval_getD (hm.get 3 14 (by kernel_rfl)); unfold Oper.wp; simp only [execOp]; go_simp; (first | exact ⟨_, rfl, rfl⟩ | exact ⟨_, rfl, rfl, rfl⟩)
    | 5, _, ho, _, _ => by
      cases ho
      rw [if_pos (wanted_none _ rfl)]
      have h1 := eval_getD (hm.get 4 15 (by kernel_rfl)); unfold Oper.wp; simp only [execOp]; go_simp; (first | exact ⟨_, rfl, rfl⟩ | exact ⟨_, rfl, rfl, rfl⟩)
    | 6, _, ho, _, _ => by
      cases ho
      rw [if_pos (wanted_none _ rfl)]
      refine wp_value (st_move rfl ((hs.keeps (by kernel_rfl)).trans rfl)) ⟨_, rfl, rfl, rfl⟩
    | 7, _, ho, _, _ => by
      cases ho
      rw [if_pos (wanted_none _ rfl)]
      refine wp_value (st_move rfl ((hs.keeps (by kernel_rfl)).trans rfl)) ⟨_, rfl, rfl, rfl⟩
    | 8, _, ho, _, _ => by
      cases ho
      rw [if_pos (wanted_none _ rfl)]
      have h1 := eval_getD (hm.get 6 17 (by kernel_rfl)); have h2 := eval_getD (hm.get 7 18 (by kernel_rfl)); unfold Oper.wp; simp only [execOp]; go_simp; (first | exact ⟨_, rfl, rfl⟩ | exact ⟨_, rfl, rfl, rfl⟩)
    | 9, _, ho, _, _ => by
      cases ho
      rw [if_pos (wanted_none _ rfl)]
      have h1 := eval_getD (hm.get 8 19 (by kernel_rfl)); unfold Oper.wp; simp only [execOp]; go_simp; (first | exact ⟨_, rfl, rfl⟩ | exact ⟨_, rfl, rfl, rfl⟩)
    | 10, _, ho, _, _ => by
      cases ho
      rw [if_pos (wanted_none _ rfl)]
      have h1 := eval_getD (hm.get 9 20 (by kernel_rfl)); unfold Oper.wp; simp only [execOp]; go_simp; (first | exact ⟨_, rfl, rfl⟩ | exact ⟨_, rfl, rfl, rfl⟩)
    | 11, _, ho, _, _ => by
      cases ho
      rw [if_pos (wanted_none _ rfl)]
      refine wp_value (st_move rfl ((hs.keeps (by kernel_rfl)).trans rfl)) ⟨_, rfl, rfl, rfl⟩
    | 12, _, ho, _, _ => by
      cases ho
      rw [if_pos (wanted_none _ rfl)]
      refine wp_value (st_move rfl ((hs.keeps (by kernel_rfl)).trans rfl)) ⟨_, rfl, rfl, rfl⟩
    | 13, _, ho, _, _ => by
      cases ho
      rw [if_pos (wanted_none _ rfl)]
      have h1 := eval_getD (hm.get 11 22 (by kernel_rfl)); have h2 := eval_getD (hm.get 12 23 (by kernel_rfl)); unfold Oper.wp; simp only [execOp]; go_simp; (first | exact ⟨_, rfl, rfl⟩ | exact ⟨_, rfl, rfl, rfl⟩)
    | 14, _, ho, _, _ => by
      cases ho
      rw [if_pos (wanted_none _ rfl)]
      have h1 := eval_getD (hm.get 13 24 (by kernel_rfl)); unfold Oper.wp; simp only [execOp]; go_simp; (first | exact ⟨_, rfl, rfl⟩ | exact ⟨_, rfl, rfl, rfl⟩)
    | 15, _, ho, _, _ => by
      cases ho
      rw [if_pos (wanted_none _ rfl)]
      have h1 := eval_getD (hm.get 14 25 (by kernel_rfl)); unfold Oper.wp; simp only [execOp]; go_simp; (first | exact ⟨_, rfl, rfl⟩ | exact ⟨_, rfl, rfl, rfl⟩)
    | 16, _, ho, _, _ => by
      cases ho
      rw [if_pos (wanted_none _ rfl)]
      have h1 := eval_getD (hm.get 5 16 (by kernel_rfl)); have h2 := eval_getD (hm.get 10 21 (by kernel_rfl)); have h3 := eval_getD (hm.get 15 26 (by kernel_rfl)); unfold Oper.wp; simp only [execOp]; go_simp; (first | exact ⟨_, rfl, rfl⟩ | exact ⟨_, rfl, rfl, rfl⟩)
    | 17, _, _, h, _ => absurd rfl h
    | 18, _, _, _, h => absurd rfl h
    | (n + 19), hi, _, _, _ => absurd hi (by omega)
   ·cases ho
    obtain rfl : w = W.drew := hj
    have h1 := eval_getD (hm.get 16 27 (by kernel_rfl))
    unfold Oper.wp
    simp only [execOp]
    go_simp
    exact ⟨_, rfl, show Value.slice _ _ _ = Value.slice _ _ _ by rw [Hg.out], rfl⟩
   ·have hj1 : w = W.drew.alloc (.cells #[S xp, S xo, I xn] 141) := hj
    subst hj1
    obtain ⟨h1, h2, h3, h4, h5⟩ : a.eval (.tmp 11) = .slice Ao k co ∧ a.eval (.tmp 28) = .slice (some ⟨g, 0, none⟩) 1 1 ∧ o.op = .call { callee := .builtin .append, args := #[.tmp 11, .tmp 28], argTypes := #[61, 61] } ∧ o.dst = some 29 ∧ o.type = 61 := by
     cases ho
     exact ⟨hm.get 0 11 (by kernel_rfl), hm.get 17 28 (by kernel_rfl), rfl, rfl, rfl⟩
    rw [Hg.out] at h2
    have hr := Hrun.out
    simp only [World.size_drew] at hr
    unfold Oper.wp execOp
    simp only [h3, h5, resolve, invoke, builtin, Sem.run_bind, Sem.run_pure, Result.andThen_ok, List.map_toArray, List.map_cons, List.map_nil, h1, h2, hr]
    exact ⟨_, rfl, rfl, rfl⟩
   ·have e1 : a.eval (.tmp 29) = .slice A5 (k + 1) c5 := by cases ho; exact hm.get 18 29 (by kernel_rfl)
    have hfr := hs.frame [11, 12, 13, 14, 15, 16, 17, 18, 19, 20, 21, 22, 23, 24, 25, 26, 27, 28, 29] (by kernel_rfl)
    cases ho
    obtain rfl : w = w5 := hj
    rw [hfr]
    simp only [List.foldl_cons, List.foldl_nil, e1]
    clear hfr hs hm e1
    generalize a.eval (.tmp 11) = u11, a.eval (.tmp 12) = u12, a.eval (.tmp 13) = u13, a.eval (.tmp 14) = u14, a.eval (.tmp 15) = u15, a.eval (.tmp 16) = u16, a.eval (.tmp 17) = u17, a.eval (.tmp 18) = u18, a.eval (.tmp 19) = u19, a.eval (.tmp 20) = u20, a.eval (.tmp 21) = u21, a.eval (.tmp 22) = u22, a.eval (.tmp 23) = u23, a.eval (.tmp 24) = u24, a.eval (.tmp 25) = u25, a.eval (.tmp 26) = u26, a.eval (.tmp 27) = u27, a.eval (.tmp 28) = u28
    unfold Oper.wp
    simp only [execOp]
    go_simp
    clear a
    go_wp2
    go_roundw
    case rel => exact ⟨k + 1, c5, A5, by go_num, rfl, Lib.hid hlt, HO5⟩
    case measure => simp [intOf]; omega
  ·obtain rfl : k = n := by have := hk.out; omega
   rw [List.take_of_length_le (by omega)] at hO
   go_wp2
   go_ret
   exact ⟨Ao, co, rfl, hO.out⟩
def rrnEq (x y : Ren) : Bool := decide (x.1 = y.1 ∧ x.2.1 = y.2.1 ∧ x.2.2 = y.2.2)
theorem rrnEq_iff {x y : Ren} : rrnEq x y = true ↔ x = y := by
 unfold rrnEq
 rw [decide_eq_true_eq]
 constructor
 ·intro h
  simp only [Prod.ext_iff]
  simp_all
 ·rintro rfl
  simp
theorem rrn_neq (w : World) (x y : Ren) : (binOp .neq 141 (.agg #[S (x.1), S (x.2.1), I (x.2.2)]) (.agg #[S (y.1), S (y.2.1), I (y.2.2)])).run Tryz.prog w = .ok (.bool (!rrnEq x y)) w := by
 unfold rrnEq
 rw [run_neq_struct, run_equalIn_struct w 9999 141 _ _ (by kernel_rfl) (by kernel_rfl)]
 simp only [Program.fieldsOf, Tryz.underlying141]
 by_cases h0 : x.1 = y.1 <;> by_cases h1 : x.2.1 = y.2.1 <;> by_cases h2 : x.2.2 = y.2.2 <;> simp [go_sem, Op.eqFields, h0, h1, h2]
theorem rrn_guard (w : World) (op : BinOp) (a b : Operand) (x y : Ren) : (eqGuard op 141 a b (.agg #[S (x.1), S (x.2.1), I (x.2.2)]) (.agg #[S (y.1), S (y.2.1), I (y.2.2)])).run Tryz.prog w = .ok () w := run_eqGuard_agg w op 141 a b _ _ (by kernel_rfl)
set_option maxRecDepth 100000 in
set_option maxHeartbeats 4000000 in
theorem sameRenames_any (w : World) (A B : Option Addr) (n m c d : Nat) (xs ys : List Ren) (hA : Sl w 3 A n (rns xs)) (hB : Sl w 3 B m (rns ys)) (hn : n ≤ 1000000000) :
  Calls Tryz.prog 19 #[.slice A n c, .slice B m d] w fun e w' => e = .returned (.bool (decide (xs = ys))) ∧ ∃ j, w' = w.drewN j := by
 have hlx := rns_count hA
 have hly := rns_count hB
 by_cases hne : n = m
 ·subst hne
  have HA := Lib.hid hA
  have HB := Lib.hid hB
  have kE := rrn_neq
  have kG := rrn_guard
  have Hlx := Lib.hid hlx
  have Hly := Lib.hid hly
  clear hA hB hlx hly
  go_enter Tryz.func19, Tryz.ntmps19
  go_wp2
  go_loopw [5] (fun i wr => ∃ (k j : Nat), i = .int .i64 k ∧ Hid (k ≤ n) ∧ Hid (xs.take k = ys.take k) ∧ wr = w.drewN j) (fun i _ => n - (intOf i).toNat)
  case atStart => exact ⟨0, 0, rfl, Lib.hid (Nat.zero_le _), Lib.hid (by simp), rfl⟩
  case round =>
   obtain ⟨k, j, rfl, hk, ht, rfl⟩ := hrel
   by_cases hlt : k < n
   ·obtain ⟨b, off, x, rfl, _, hx, x0, x1, x2⟩ := HA.out.rn hlt
    obtain ⟨b', off', y, rfl, _, hy, y0, y1, y2⟩ := HB.out.rn hlt
    cases hq : rrnEq x y with
    | true =>
     have Ht : Hid (xs.take (k + 1) = ys.take (k + 1)) := Lib.hid (by rw [List.take_add_one, List.take_add_one, hx, hy, ht.out, rrnEq_iff.1 hq])
     clear hx hy
     go_wp2
     go_quiet (fail)
     go_wp2
     go_roundw
     case rel => exact ⟨k + 1, _, by go_num, Lib.hid hlt, Ht, rfl⟩
     case measure => simp [intOf]; omega
    | false =>
     have Hq : Hid (xs ≠ ys) := Lib.hid (fun e => by rw [e] at hx; rw [hy] at hx; cases hx; rw [rrnEq_iff.2 rfl] at hq; cases hq)
     clear hx hy
     go_wp2
     go_quiet (fail)
     go_wp2
     go_ret
     exact ⟨ret_bool (decide_eq_false Hq.out).symm, _, World.drewN_drewN _ _ _⟩
   ·obtain rfl : k = n := by have := hk.out; omega
    have Hq : Hid (xs = ys) := Lib.hid (by have h := ht.out; rwa [List.take_of_length_le (by rw [Hlx.out]; exact Nat.le_refl _), List.take_of_length_le (by rw [Hly.out]; exact Nat.le_refl _)] at h)
    go_wp2
    go_ret
    exact ⟨ret_bool (decide_eq_true Hq.out).symm, _, rfl⟩
 ·have hd : decide (xs = ys) = false := decide_eq_false (fun e => hne (by rw [← hlx, ← hly, e]))
  have h5 : ((n : Int) != (m : Int)) = true := by simp; omega
  rw [hd]
  clear hA hB hlx hly hd
  go_enter Tryz.func19, Tryz.ntmps19
  go_wp2
  go_ret
  exact ⟨rfl, 0, rfl⟩
end Go.Proofs.YtphnfcgdpdimbaaGreatDoor
