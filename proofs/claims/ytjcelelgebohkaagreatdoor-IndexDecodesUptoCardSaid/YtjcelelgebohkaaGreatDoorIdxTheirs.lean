/-
  dolmenlaw14: theirs; dolmenref14.Same at one list twice. Condition: the entries read as a list, no more than 1000000.
-/
import Derived.Test.YtjcelelgebohkaaGreatDoorRiDrop
import Derived.Test.YtjcelelgebohkaaGreatDoorIdxEq
import Derived.BigQuiet
import Derived.Test.YtjcelelgebohkaaGreatDoorKit
namespace Go.Proofs.YtjcelelgebohkaaGreatDoor
open Go.RowKit
open IdxLaw (Ent)

def TJ (W0 W1 W2 : World) : Nat → World → Prop
  | 0, w => w = W0
  | 1, w => w = W1
  | _, w => w = W2
theorem TJ.step {W0 W1 W2 : World} : ∀ (k : Nat) (w w' : World), TJ W0 W1 W2 k w → w' = w → TJ W0 W1 W2 k w' := by
  rintro k w w' h rfl
  exact h
theorem TJ.bel {B : Nat} {w0 W0 W1 W2 : World} (h0 : Below B w0 W0) (h1 : Below B w0 W1) (h2 : Below B w0 W2) : ∀ (k : Nat) (w : World), TJ W0 W1 W2 k w → Below B w0 w
  | 0, _, h => by cases h; exact h0
  | 1, _, h => by cases h; exact h1
  | (_ + 2), _, h => by cases h; exact h2
def dstAllT (ops : Array Oper) (n : Nat) : Bool := ops.all (fun o => match o.dst with | some d => decide (d < n) | none => true)
theorem dst_ltT {ops : Array Oper} {n : Nat} (h : dstAllT ops n = true) (i : Nat) (o : Oper) (d : Nat) (ho : ops[i]? = some o) (hd : o.dst = some d) : d < n := by
  have h1 := Array.all_eq_true_iff_forall_mem.1 h o (Array.mem_of_getElem? ho)
  rw [hd] at h1
  simpa using h1
def thrPhi (b off n c k co g c5 : Nat) (Ao A5 : Option Addr) (xp xi : List UInt8) (xs xz xt : Int) : Nat → Value → World → Prop
  | 0, v, _ => v = .slice Ao k co
  | 1, v, _ => v = .slice (some ⟨b, off, none⟩) n c
  | 2, v, _ => v = I ((k : Int))
  | 3, v, _ => v = .pointer (some ⟨b, off + k * 5, none⟩)
  | 4, v, _ => v = .pointer (some ⟨b, off + k * 5, none⟩)
  | 5, v, _ => v = S xp
  | 6, v, _ => v = .slice (some ⟨b, off, none⟩) n c
  | 7, v, _ => v = I ((k : Int))
  | 8, v, _ => v = .pointer (some ⟨b, off + k * 5, none⟩)
  | 9, v, _ => v = .pointer (some ⟨b, off + k * 5 + 1, none⟩)
  | 10, v, _ => v = I xs
  | 11, v, _ => v = .slice (some ⟨b, off, none⟩) n c
  | 12, v, _ => v = I ((k : Int))
  | 13, v, _ => v = .pointer (some ⟨b, off + k * 5, none⟩)
  | 14, v, _ => v = .pointer (some ⟨b, off + k * 5 + 2, none⟩)
  | 15, v, _ => v = S xi
  | 16, v, _ => v = .slice (some ⟨b, off, none⟩) n c
  | 17, v, _ => v = I ((k : Int))
  | 18, v, _ => v = .pointer (some ⟨b, off + k * 5, none⟩)
  | 19, v, _ => v = .pointer (some ⟨b, off + k * 5 + 3, none⟩)
  | 20, v, _ => v = I xz
  | 21, v, _ => v = .slice (some ⟨b, off, none⟩) n c
  | 22, v, _ => v = I ((k : Int))
  | 23, v, _ => v = .pointer (some ⟨b, off + k * 5, none⟩)
  | 24, v, _ => v = .pointer (some ⟨b, off + k * 5 + 4, none⟩)
  | 25, v, _ => v = I xt
  | 26, v, _ => v = entV ⟨xp, xs, xi, xz, xt⟩
  | 27, v, _ => v = .slice (some ⟨g, 0, none⟩) 1 1
  | 28, v, _ => v = .slice A5 (k + 1) c5
  | _, _, _ => True
set_option maxRecDepth 100000 in
set_option maxHeartbeats 8000000 in
theorem theirs_any (w : World) (A : Option Addr) (n c : Nat) (l : List Ent) (hA : Sl w 5 A n (ents l)) (hn : n ≤ 1000000) :
    Calls Tryz.prog 23 #[.slice A n c] w fun e w' => ∃ (A' : Option Addr) (c' : Nat), e = .returned (.slice A' n c') ∧ Ow w w' 32 5 A' n c' (ents l) := by
  obtain ⟨i0, hi0, hi1, hi2, hi3⟩ := info_parts Tryz.infoREnt
  have HA := Lib.hid hA
  have hl := ents_count hA
  clear hA
  go_enter Tryz.func23, Tryz.ntmps23
  go_wp2
  go_loopw [3, 4] (fun o i wr => ∃ (k co : Nat) (Ao : Option Addr), i = .int .i64 k ∧ o = .slice Ao k co ∧ Hid (k ≤ n) ∧ Hid (Ow w wr 32 5 Ao k co (ents (l.take k)))) (fun _ i _ => n - (intOf i).toNat)
  case atStart => exact ⟨0, 0, none, rfl, rfl, Lib.hid (Nat.zero_le _), Lib.hid (Ow.nil_ (Below.refl _ _))⟩
  case round =>
    obtain ⟨k, co, Ao, rfl, rfl, hk, hO⟩ := hrel
    by_cases hlt : k < n
    · obtain ⟨b, off, x, rfl, _, hx, x0, x1, x2, x3, x4⟩ := (HA.out.below hO.out.2).ent hlt
      have Hx := Lib.hid hx
      clear hx
      obtain ⟨xp, xs, xi, xz, xt⟩ := x
      have q1 : Hid (k + 1 ≤ maxLen) := Lib.hid (by simp only [maxLen]; omega)
      have q2 : Hid ((k + 1) * 56 ≤ 140737488355328) := Lib.hid (by omega)
      obtain ⟨W, hW⟩ : ∃ W, W = wr := ⟨_, rfl⟩
      subst hW
      have HO6 := Lib.hid (hO.out.drew.alloc (.cells #[S xp, I xs, S xi, I xz, I xt] 32))
      have hS6 := sl_ent W.drew 32 ⟨xp, xs, xi, xz, xt⟩
      obtain ⟨A5, c5, w5, hrun, hO5, hg5, _⟩ := run_append_sl (P := Tryz.prog) _ w.heap.size 27 27 32 i0 _ 5 56 Tryz.underlying27 hi0 hi1 hi2 hi3 rfl (by decide) (.slice Ao k co) k (ents (l.take k)) HO6.out.1 _ 1 1 (ents [⟨xp, xs, xi, xz, xt⟩]) hS6 (one_ents _) q1.out q2.out HO6.out.2.size
      have hb5 : Below w.heap.size w w5 := HO6.out.2.grown hg5 HO6.out.2.size (fun k hk => (HO6.out.1.lt k hk).1)
      have HO5 : Hid (Ow w w5 32 5 A5 (k + 1) c5 (ents (l.take (k + 1)))) := Lib.hid ⟨by rw [List.take_add_one, Hx.out, ents_append]; exact hO5, hb5⟩
      have HB := Lib.hid (TJ.bel (w0 := w) (W0 := W.drew) (W1 := W.drew.alloc (.cells #[S xp, I xs, S xi, I xz, I xt] 32)) (W2 := w5) hO.out.2.drew HO6.out.2 hb5)
      have Hrun := Lib.hid hrun
      have Hx2 : Hid (∀ w', Below w.heap.size w w' → w'.cell? ⟨b, off + k * 5, none⟩ = some (S xp) ∧ w'.cell? ⟨b, off + k * 5 + 1, none⟩ = some (I xs) ∧ w'.cell? ⟨b, off + k * 5 + 2, none⟩ = some (S xi) ∧ w'.cell? ⟨b, off + k * 5 + 3, none⟩ = some (I xz) ∧ w'.cell? ⟨b, off + k * 5 + 4, none⟩ = some (I xt)) := Lib.hid (fun w' hb' => by
        obtain ⟨b2, off2, y, e1, _, hy, z0, z1, z2, z3, z4⟩ := (HA.out.below hb').ent hlt
        cases e1
        obtain rfl : y = ⟨xp, xs, xi, xz, xt⟩ := Option.some.inj (hy.symm.trans Hx.out)
        exact ⟨z0, z1, z2, z3, z4⟩)
      clear hS6 hrun hO5 hg5 hb5 HO6 x0 x1 x2 x3 x4
      obtain ⟨g, hg⟩ : ∃ g, g = W.heap.size := ⟨_, rfl⟩
      have Hg := Lib.hid hg
      clear hg
      go_wp2
      refine wp_region_pairR (by kernel_rfl) 29 (by kernel_rfl) ?_ (fun j v => thrPhi b off n c k co g c5 Ao A5 xp xi xs xz xt j v W) 27 28 (by kernel_rfl) (fun w w' => w' = w) (fun _ => rfl) (TJ W.drew (W.drew.alloc (.cells #[S xp, I xs, S xi, I xz, I xt] 32)) w5) TJ.step rfl (fun i o hi hi1 hi2 ho a w k' hk hk2 hs hm => ?_) (fun o ho a w hj hs hm => ?_) (fun o ho a w hj hs hm => ?_) (fun o ho a w hj hs hm => ?_)
      · exact dst_ltT (n := 41) (by kernel_rfl)
      · obtain ⟨y0, y1, y2, y3, y4⟩ := Hx2.out w (HB.out k' w hk)
        exact match i, hi, ho, hi1, hi2 with
        | 0, _, ho, _, _ => by
            cases ho
            rw [if_pos (wanted_none _ rfl)]
            refine wp_value (st_move rfl ((hs.keeps (by kernel_rfl)).trans rfl)) ⟨_, rfl, rfl, rfl⟩
        | 1, _, ho, _, _ => by
            cases ho
            rw [if_pos (wanted_none _ rfl)]
            refine wp_value (st_move rfl ((hs.keeps (by kernel_rfl)).trans rfl)) ⟨_, rfl, rfl, rfl⟩
        | 2, _, ho, _, _ => by
            cases ho
            rw [if_pos (wanted_none _ rfl)]
            refine wp_value (st_move rfl ((hs.keeps (by kernel_rfl)).trans rfl)) ⟨_, rfl, rfl, rfl⟩
        | 3, _, ho, _, _ => by
            cases ho
            rw [if_pos (wanted_none _ rfl)]
            have h1 := eval_getD (hm.get 1 12 (by kernel_rfl)); have h2 := eval_getD (hm.get 2 13 (by kernel_rfl)); unfold Oper.wp; simp only [execOp]; go_simp; (first | exact ⟨_, rfl, rfl⟩ | exact ⟨_, rfl, rfl, rfl⟩)
        | 4, _, ho, _, _ => by
            cases ho
            rw [if_pos (wanted_none _ rfl)]
            have h1 := eval_getD (hm.get 3 14 (by kernel_rfl)); unfold Oper.wp; simp only [execOp]; go_simp; (first | exact ⟨_, rfl, rfl⟩ | exact ⟨_, rfl, rfl, rfl⟩)
        | 5, _, ho, _, _ => by
            cases ho
            rw [if_pos (wanted_none _ rfl)]
            have h1 := eval_getD (hm.get 4 15 (by kernel_rfl)); unfold Oper.wp; simp only [execOp]; go_simp; (first | exact ⟨_, rfl, rfl⟩ | exact ⟨_, rfl, rfl, rfl⟩)
        | 6, _, ho, _, _ => by
            cases ho
            rw [if_pos (wanted_none _ rfl)]
            refine wp_value (st_move rfl ((hs.keeps (by kernel_rfl)).trans rfl)) ⟨_, rfl, rfl, rfl⟩
        | 7, _, ho, _, _ => by
            cases ho
            rw [if_pos (wanted_none _ rfl)]
            refine wp_value (st_move rfl ((hs.keeps (by kernel_rfl)).trans rfl)) ⟨_, rfl, rfl, rfl⟩
        | 8, _, ho, _, _ => by
            cases ho
            rw [if_pos (wanted_none _ rfl)]
            have h1 := eval_getD (hm.get 6 17 (by kernel_rfl)); have h2 := eval_getD (hm.get 7 18 (by kernel_rfl)); unfold Oper.wp; simp only [execOp]; go_simp; (first | exact ⟨_, rfl, rfl⟩ | exact ⟨_, rfl, rfl, rfl⟩)
        | 9, _, ho, _, _ => by
            cases ho
            rw [if_pos (wanted_none _ rfl)]
            have h1 := eval_getD (hm.get 8 19 (by kernel_rfl)); unfold Oper.wp; simp only [execOp]; go_simp; (first | exact ⟨_, rfl, rfl⟩ | exact ⟨_, rfl, rfl, rfl⟩)
        | 10, _, ho, _, _ => by
            cases ho
            rw [if_pos (wanted_none _ rfl)]
            have h1 := eval_getD (hm.get 9 20 (by kernel_rfl)); unfold Oper.wp; simp only [execOp]; go_simp; (first | exact ⟨_, rfl, rfl⟩ | exact ⟨_, rfl, rfl, rfl⟩)
        | 11, _, ho, _, _ => by
            cases ho
            rw [if_pos (wanted_none _ rfl)]
            refine wp_value (st_move rfl ((hs.keeps (by kernel_rfl)).trans rfl)) ⟨_, rfl, rfl, rfl⟩
        | 12, _, ho, _, _ => by
            cases ho
            rw [if_pos (wanted_none _ rfl)]
            refine wp_value (st_move rfl ((hs.keeps (by kernel_rfl)).trans rfl)) ⟨_, rfl, rfl, rfl⟩
        | 13, _, ho, _, _ => by
            cases ho
            rw [if_pos (wanted_none _ rfl)]
            have h1 := eval_getD (hm.get 11 22 (by kernel_rfl)); have h2 := eval_getD (hm.get 12 23 (by kernel_rfl)); unfold Oper.wp; simp only [execOp]; go_simp; (first | exact ⟨_, rfl, rfl⟩ | exact ⟨_, rfl, rfl, rfl⟩)
        | 14, _, ho, _, _ => by
            cases ho
            rw [if_pos (wanted_none _ rfl)]
            have h1 := eval_getD (hm.get 13 24 (by kernel_rfl)); unfold Oper.wp; simp only [execOp]; go_simp; (first | exact ⟨_, rfl, rfl⟩ | exact ⟨_, rfl, rfl, rfl⟩)
        | 15, _, ho, _, _ => by
            cases ho
            rw [if_pos (wanted_none _ rfl)]
            have h1 := eval_getD (hm.get 14 25 (by kernel_rfl)); unfold Oper.wp; simp only [execOp]; go_simp; (first | exact ⟨_, rfl, rfl⟩ | exact ⟨_, rfl, rfl, rfl⟩)
        | 16, _, ho, _, _ => by
            cases ho
            rw [if_pos (wanted_none _ rfl)]
            refine wp_value (st_move rfl ((hs.keeps (by kernel_rfl)).trans rfl)) ⟨_, rfl, rfl, rfl⟩
        | 17, _, ho, _, _ => by
            cases ho
            rw [if_pos (wanted_none _ rfl)]
            refine wp_value (st_move rfl ((hs.keeps (by kernel_rfl)).trans rfl)) ⟨_, rfl, rfl, rfl⟩
        | 18, _, ho, _, _ => by
            cases ho
            rw [if_pos (wanted_none _ rfl)]
            have h1 := eval_getD (hm.get 16 27 (by kernel_rfl)); have h2 := eval_getD (hm.get 17 28 (by kernel_rfl)); unfold Oper.wp; simp only [execOp]; go_simp; (first | exact ⟨_, rfl, rfl⟩ | exact ⟨_, rfl, rfl, rfl⟩)
        | 19, _, ho, _, _ => by
            cases ho
            rw [if_pos (wanted_none _ rfl)]
            have h1 := eval_getD (hm.get 18 29 (by kernel_rfl)); unfold Oper.wp; simp only [execOp]; go_simp; (first | exact ⟨_, rfl, rfl⟩ | exact ⟨_, rfl, rfl, rfl⟩)
        | 20, _, ho, _, _ => by
            cases ho
            rw [if_pos (wanted_none _ rfl)]
            have h1 := eval_getD (hm.get 19 30 (by kernel_rfl)); unfold Oper.wp; simp only [execOp]; go_simp; (first | exact ⟨_, rfl, rfl⟩ | exact ⟨_, rfl, rfl, rfl⟩)
        | 21, _, ho, _, _ => by
            cases ho
            rw [if_pos (wanted_none _ rfl)]
            refine wp_value (st_move rfl ((hs.keeps (by kernel_rfl)).trans rfl)) ⟨_, rfl, rfl, rfl⟩
        | 22, _, ho, _, _ => by
            cases ho
            rw [if_pos (wanted_none _ rfl)]
            refine wp_value (st_move rfl ((hs.keeps (by kernel_rfl)).trans rfl)) ⟨_, rfl, rfl, rfl⟩
        | 23, _, ho, _, _ => by
            cases ho
            rw [if_pos (wanted_none _ rfl)]
            have h1 := eval_getD (hm.get 21 32 (by kernel_rfl)); have h2 := eval_getD (hm.get 22 33 (by kernel_rfl)); unfold Oper.wp; simp only [execOp]; go_simp; (first | exact ⟨_, rfl, rfl⟩ | exact ⟨_, rfl, rfl, rfl⟩)
        | 24, _, ho, _, _ => by
            cases ho
            rw [if_pos (wanted_none _ rfl)]
            have h1 := eval_getD (hm.get 23 34 (by kernel_rfl)); unfold Oper.wp; simp only [execOp]; go_simp; (first | exact ⟨_, rfl, rfl⟩ | exact ⟨_, rfl, rfl, rfl⟩)
        | 25, _, ho, _, _ => by
            cases ho
            rw [if_pos (wanted_none _ rfl)]
            have h1 := eval_getD (hm.get 24 35 (by kernel_rfl)); unfold Oper.wp; simp only [execOp]; go_simp; (first | exact ⟨_, rfl, rfl⟩ | exact ⟨_, rfl, rfl, rfl⟩)
        | 26, _, ho, _, _ => by
            cases ho
            rw [if_pos (wanted_none _ rfl)]
            have h1 := eval_getD (hm.get 5 16 (by kernel_rfl)); have h2 := eval_getD (hm.get 10 21 (by kernel_rfl)); have h3 := eval_getD (hm.get 15 26 (by kernel_rfl)); have h4 := eval_getD (hm.get 20 31 (by kernel_rfl)); have h5 := eval_getD (hm.get 25 36 (by kernel_rfl)); unfold Oper.wp; simp only [execOp]; go_simp; (first | exact ⟨_, rfl, rfl⟩ | exact ⟨_, rfl, rfl, rfl⟩)
        | 27, _, _, h, _ => absurd rfl h
        | 28, _, _, _, h => absurd rfl h
        | (n + 29), hi, _, _, _ => absurd hi (by omega)
      · cases ho
        obtain rfl : w = W.drew := hj
        have h1 := eval_getD (hm.get 26 37 (by kernel_rfl))
        unfold Oper.wp
        simp only [execOp]
        go_simp
        exact ⟨_, rfl, show Value.slice _ _ _ = Value.slice _ _ _ by rw [Hg.out], rfl⟩
      · have hj1 : w = W.drew.alloc (.cells #[S xp, I xs, S xi, I xz, I xt] 32) := hj
        subst hj1
        obtain ⟨h1, h2, h3, h4, h5⟩ : a.eval (.tmp 11) = .slice Ao k co ∧ a.eval (.tmp 38) = .slice (some ⟨g, 0, none⟩) 1 1 ∧ o.op = .call { callee := .builtin .append, args := #[.tmp 11, .tmp 38], argTypes := #[27, 27] } ∧ o.dst = some 39 ∧ o.type = 27 := by
          cases ho
          exact ⟨hm.get 0 11 (by kernel_rfl), hm.get 27 38 (by kernel_rfl), rfl, rfl, rfl⟩
        rw [Hg.out] at h2
        have hr := Hrun.out
        simp only [World.size_drew] at hr
        unfold Oper.wp execOp
        simp only [h3, h5, resolve, invoke, builtin, Sem.run_bind, Sem.run_pure, Result.andThen_ok, List.map_toArray, List.map_cons, List.map_nil, h1, h2, hr]
        exact ⟨_, rfl, rfl, rfl⟩
      · have e1 : a.eval (.tmp 39) = .slice A5 (k + 1) c5 := by cases ho; exact hm.get 28 39 (by kernel_rfl)
        have hfr := hs.frame [11, 12, 13, 14, 15, 16, 17, 18, 19, 20, 21, 22, 23, 24, 25, 26, 27, 28, 29, 30, 31, 32, 33, 34, 35, 36, 37, 38, 39] (by kernel_rfl)
        cases ho
        obtain rfl : w = w5 := hj
        rw [hfr]
        simp only [List.foldl_cons, List.foldl_nil, e1]
        clear hfr hs hm e1
        generalize a.eval (.tmp 11) = u11
        generalize a.eval (.tmp 12) = u12
        generalize a.eval (.tmp 13) = u13
        generalize a.eval (.tmp 14) = u14
        generalize a.eval (.tmp 15) = u15
        generalize a.eval (.tmp 16) = u16
        generalize a.eval (.tmp 17) = u17
        generalize a.eval (.tmp 18) = u18
        generalize a.eval (.tmp 19) = u19
        generalize a.eval (.tmp 20) = u20
        generalize a.eval (.tmp 21) = u21
        generalize a.eval (.tmp 22) = u22
        generalize a.eval (.tmp 23) = u23
        generalize a.eval (.tmp 24) = u24
        generalize a.eval (.tmp 25) = u25
        generalize a.eval (.tmp 26) = u26
        generalize a.eval (.tmp 27) = u27
        generalize a.eval (.tmp 28) = u28
        generalize a.eval (.tmp 29) = u29
        generalize a.eval (.tmp 30) = u30
        generalize a.eval (.tmp 31) = u31
        generalize a.eval (.tmp 32) = u32
        generalize a.eval (.tmp 33) = u33
        generalize a.eval (.tmp 34) = u34
        generalize a.eval (.tmp 35) = u35
        generalize a.eval (.tmp 36) = u36
        generalize a.eval (.tmp 37) = u37
        generalize a.eval (.tmp 38) = u38
        unfold Oper.wp
        simp only [execOp]
        go_simp
        clear a
        go_wp2
        go_roundw
        case rel => exact ⟨k + 1, c5, A5, by go_num, rfl, Lib.hid hlt, HO5⟩
        case measure => simp [intOf]; omega
    · obtain rfl : k = n := by have := hk.out; omega
      rw [List.take_of_length_le (by omega)] at hO
      go_wp2
      go_ret
      exact ⟨Ao, co, rfl, hO.out⟩

set_option maxRecDepth 100000 in
set_option maxHeartbeats 2000000 in
theorem same_yes (w : World) (A B : Option Addr) (n c d : Nat) (l : List Ent) (hA : Sl w 5 A n (ents l)) (hB : Sl w 5 B n (ents l)) (hn : n ≤ 1000000) :
    Calls Tryz.prog 22 #[.slice A n c, .slice B n d] w fun e w' => e = .returned (.bool true) ∧ ∃ m, w' = w.drewN m := by
  have HA := Lib.hid hA
  have HB := Lib.hid hB
  have kE := neq_rent
  have kG := guard_rent
  clear hA hB
  go_enter Tryz.func22, Tryz.ntmps22
  go_wp2
  go_loopw [5] (fun i wr => ∃ (k m : Nat), i = .int .i64 k ∧ Hid (k ≤ n) ∧ wr = w.drewN m) (fun i _ => n - (intOf i).toNat)
  case atStart => exact ⟨0, 0, rfl, Lib.hid (Nat.zero_le _), rfl⟩
  case round =>
    obtain ⟨k, mm, rfl, hk, rfl⟩ := hrel
    by_cases hlt : k < n
    · obtain ⟨b, off, x, rfl, _, hx, x0, x1, x2, x3, x4⟩ := HA.out.ent hlt
      obtain ⟨b', off', x', rfl, _, hx', y0, y1, y2, y3, y4⟩ := HB.out.ent hlt
      obtain rfl : x = x' := Option.some.inj (hx.symm.trans hx')
      have hq : eqE x x = true := eqE_iff.2 rfl
      clear hx hx'
      go_wp2
      go_quiet (fail)
      go_wp2
      go_roundw
      case rel => exact ⟨k + 1, _, by go_num, Lib.hid hlt, rfl⟩
      case measure => simp [intOf]; omega
    · obtain rfl : k = n := by have := hk.out; omega
      go_wp2
      go_ret
      exact ⟨rfl, _, rfl⟩
end Go.Proofs.YtjcelelgebohkaaGreatDoor
