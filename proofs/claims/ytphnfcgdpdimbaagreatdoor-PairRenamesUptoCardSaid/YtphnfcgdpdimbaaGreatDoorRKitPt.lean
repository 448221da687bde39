/-
  Texts merged: PairTurn, PairWith, WithLaw. What each law says and asks stands at its head.
-/
import Derived.Test.YtphnfcgdpdimbaaGreatDoorRKitX
import Derived.Test.YtphnfcgdpdimbaaGreatDoorRKitW
import Derived.BigQuiet
import Derived.Test.YtphnfcgdpdimbaaGreatDoorRKitSa
import Derived.Test.YtphnfcgdpdimbaaGreatDoorRKitPb
namespace Go.Proofs.YtphnfcgdpdimbaaGreatDoor
open Go.RowKit
def tu16Phi (b off n c k co g c5 : Nat) (Ao A5 : Option Addr) (xp : List UInt8) (xo : List UInt8) (xn : List UInt8) : Nat → Value → World → Prop
 | 0, v, _ => v = .slice Ao k co
 | 1, v, _ => v = .slice (some ⟨b, off, none⟩) n c
 | 2, v, _ => v = I ((k : Int))
 | 3, v, _ => v = .pointer (some ⟨b, off + k * 3, none⟩)
 | 4, v, _ => v = .pointer (some ⟨b, off + k * 3, none⟩)
 | 5, v, _ => v = S xp
 | 6, v, _ => v = .slice (some ⟨b, off, none⟩) n c
 | 7, v, _ => v = I ((k : Int))
 | 8, v, _ => v = .pointer (some ⟨b, off + k * 3, none⟩)
 | 9, v, _ => v = .pointer (some ⟨b, off + k * 3 + 1, none⟩)
 | 10, v, _ => v = S xo
 | 11, v, _ => v = .slice (some ⟨b, off, none⟩) n c
 | 12, v, _ => v = I ((k : Int))
 | 13, v, _ => v = .pointer (some ⟨b, off + k * 3, none⟩)
 | 14, v, _ => v = .pointer (some ⟨b, off + k * 3 + 2, none⟩)
 | 15, v, _ => v = S xn
 | 16, v, _ => v = .agg #[S xp, S xo, S xn]
 | 17, v, _ => v = .slice (some ⟨g, 0, none⟩) 1 1
 | 18, v, _ => v = .slice A5 (k + 1) c5
 | _, _, _ => True
set_option maxRecDepth 100000 in
set_option maxHeartbeats 8000000 in
theorem turned16_any (w : World) (A : Option Addr) (n c : Nat) (l : List _) (hA : Sl w 3 A n (cgs l)) (hn : n ≤ 2000000) :
  Calls Tryz.prog 17 #[.slice A n c] w fun e w' => ∃ (A' : Option Addr) (c' : Nat), e = .returned (.slice A' n c') ∧ Ow w w' 124 3 A' n c' (cgs l) := by
 obtain ⟨i0, hi0, hi1, hi2, hi3⟩ := info_parts Tryz.infoChg
 have HA := Lib.hid hA
 have hl := cgs_count hA
 clear hA
 go_enter Tryz.func17, Tryz.ntmps17
 go_wp2
 go_loopw [3, 4] (fun o i wr => ∃ (k co : Nat) (Ao : Option Addr), i = .int .i64 k ∧ o = .slice Ao k co ∧ Hid (k ≤ n) ∧ Hid (Ow w wr 124 3 Ao k co (cgs (l.take k)))) (fun _ i _ => n - (intOf i).toNat)
 case atStart => exact ⟨0, 0, none, rfl, rfl, Lib.hid (Nat.zero_le _), Lib.hid (Ow.nil_ (Below.refl _ _))⟩
 case round =>
  obtain ⟨k, co, Ao, rfl, rfl, hk, hO⟩ := hrel
  by_cases hlt : k < n
  ·obtain ⟨b, off, x, rfl, _, hx, x0, x1, x2⟩ := (HA.out.below hO.out.2).cg hlt
   have Hx := Lib.hid hx
   clear hx
   obtain ⟨xp, xo, xn⟩ := x
   have q1 : Hid (k + 1 ≤ maxLen) := Lib.hid (by simp only [maxLen]; omega)
   have q2 : Hid ((k + 1) * 48 ≤ 140737488355328) := Lib.hid (by omega)
   obtain ⟨W, hW⟩ : ∃ W, W = wr := ⟨_, rfl⟩
   subst hW
   have HO6 := Lib.hid (hO.out.drew.alloc (.cells #[S xp, S xo, S xn] 124))
   have hS6 := sl_cg W.drew 124 ⟨xp, xo, xn⟩
   obtain ⟨A5, c5, w5, hrun, hO5, hg5, _⟩ := run_append_sl (P := Tryz.prog) _ w.heap.size 59 59 124 i0 _ 3 48 Tryz.underlying59 hi0 hi1 hi2 hi3 rfl (by decide) (.slice Ao k co) k (cgs (l.take k)) HO6.out.1 _ 1 1 (cgs [⟨xp, xo, xn⟩]) hS6 (one_cgs _) q1.out q2.out HO6.out.2.size
   have hb5 : Below w.heap.size w w5 := HO6.out.2.grown hg5 HO6.out.2.size (fun k hk => (HO6.out.1.lt k hk).1)
   have HO5 : Hid (Ow w w5 124 3 A5 (k + 1) c5 (cgs (l.take (k + 1)))) := Lib.hid ⟨by rw [List.take_add_one, Hx.out, cgs_append]; exact hO5, hb5⟩
   have HB := Lib.hid (CJ.bel (w0 := w) (W0 := W.drew) (W1 := W.drew.alloc (.cells #[S xp, S xo, S xn] 124)) (W2 := w5) hO.out.2.drew HO6.out.2 hb5)
   have Hrun := Lib.hid hrun
   have Hx2 : Hid (∀ w', Below w.heap.size w w' → w'.cell? ⟨b, off + k * 3, none⟩ = some (S xp) ∧ w'.cell? ⟨b, off + k * 3 + 1, none⟩ = some (S xo) ∧ w'.cell? ⟨b, off + k * 3 + 2, none⟩ = some (S xn)) := Lib.hid (fun w' hb' => by
    obtain ⟨b2, off2, y, e1, _, hy, z0, z1, z2⟩ := (HA.out.below hb').cg hlt
    cases e1
    obtain rfl : y = ⟨xp, xo, xn⟩ := Option.some.inj (hy.symm.trans Hx.out)
    exact ⟨z0, z1, z2⟩)
   clear hS6 hrun hO5 hg5 hb5 HO6 x0 x1 x2
   obtain ⟨g, hg⟩ : ∃ g, g = W.heap.size := ⟨_, rfl⟩
   have Hg := Lib.hid hg
   clear hg
   go_wp2
   refine wp_region_pairR (by kernel_rfl) 19 (by kernel_rfl) ?_ (fun j v => tu16Phi b off n c k co g c5 Ao A5 xp xo xn j v W) 17 18 (by kernel_rfl) (fun w w' => w' = w) (fun _ => rfl) (CJ W.drew (W.drew.alloc (.cells #[S xp, S xo, S xn] 124)) w5) CJ.step rfl (fun i o hi hi1 hi2 ho a w k' hk hk2 hs hm => ?_) (fun o ho a w hj hs hm => ?_) (fun o ho a w hj hs hm => ?_) (fun o ho a w hj hs hm => ?_)
   ·exact dst_ltC2 (n := 31) (by kernel_rfl)
   ·obtain ⟨y0, y1, y2⟩ := Hx2.out w (HB.out k' w hk)
    exact match i, hi, ho, hi1, hi2 with
    | 0, _, ho, _, _ => by
      cases ho
      rw [if_pos (wanted_none _ rfl)]
      refine wp_value (st_move rfl ((hs.keeps (by kernel_rfl)).trans rfl)) ⟨_, rfl, rfl, rfl⟩
    | 1, _, ho, _, _ => by
      cases ho
      rw [if_pos (wanted_none _ rfl)]
      refine wp_value (st_move rfl ((hs.keeps (by kernel_rfl)).trans rfl)) ⟨_, rfl, rfl, rfl⟩
    | 2, _, ho, _, _ => by
      cases ho
      rw [if_pos (wanted_none _ rfl)]
      refine wp_value (st_move rfl ((hs.keeps (by kernel_rfl)).trans rfl)) ⟨_, rfl, rfl, rfl⟩
    | 3, _, ho, _, _ => by
      cases ho
      rw [if_pos (wanted_none _ rfl)]
      have h1 := eval_getD (hm.get 1 12 (by kernel_rfl)); have h2 := eval_getD (hm.get 2 13 (by kernel_rfl)); unfold Oper.wp; simp only [execOp]; go_simp; (first | exact ⟨_, rfl, rfl⟩ | exact ⟨_, rfl, rfl, rfl⟩)
    | 4, _, ho, _, _ => by
      cases ho
      rw [if_pos (wanted_none _ rfl)]
      have h1 := eval_getD (hm.get 3 14 (by kernel_rfl)); unfold Oper.wp; simp only [execOp]; go_simp; (first | exact ⟨_, rfl, rfl⟩ | exact ⟨_, rfl, rfl, rfl⟩)
    | 5, _, ho, _, _ => by
      cases ho
      rw [if_pos (wanted_none _ rfl)]
      have h1 := eval_getD (hm.get 4 15 (by kernel_rfl)); unfold Oper.wp; simp only [execOp]; go_simp; (first | exact ⟨_, rfl, rfl⟩ | exact ⟨_, rfl, rfl, rfl⟩)
    | 6, _, ho, _, _ => by
      cases ho
      rw [if_pos (wanted_none _ rfl)]
      refine wp_value (st_move rfl ((hs.keeps (by kernel_rfl)).trans rfl)) ⟨_, rfl, rfl, rfl⟩
    | 7, _, ho, _, _ => by
      cases ho
      rw [if_pos (wanted_none _ rfl)]
      refine wp_value (st_move rfl ((hs.keeps (by kernel_rfl)).trans rfl)) ⟨_, rfl, rfl, rfl⟩
    | 8, _, ho, _, _ => by
      cases ho
      rw [if_pos (wanted_none _ rfl)]
      have h1 := eval_getD (hm.get 6 17 (by kernel_rfl)); have h2 := eval_getD (hm.get 7 18 (by kernel_rfl)); unfold Oper.wp; simp only [execOp]; go_simp; (first | exact ⟨_, rfl, rfl⟩ | exact ⟨_, rfl, rfl, rfl⟩)
    | 9, _, ho, _, _ => by
      cases ho
      rw [if_pos (wanted_none _ rfl)]
      have h1 := eval_getD (hm.get 8 19 (by kernel_rfl)); unfold Oper.wp; simp only [execOp]; go_simp; (first | exact ⟨_, rfl, rfl⟩ | exact ⟨_, rfl, rfl, rfl⟩)
    | 10, _, ho, _, _ => by
      cases ho
      rw [if_pos (wanted_none _ rfl)]
      have h1 := eval_getD (hm.get 9 20 (by kernel_rfl)); unfold Oper.wp; simp only [execOp]; go_simp; (first | exact ⟨_, rfl, rfl⟩ | exact ⟨_, rfl, rfl, rfl⟩)
    | 11, _, ho, _, _ => by
      cases ho
      rw [if_pos (wanted_none _ rfl)]
      refine wp_value (st_move rfl ((hs.keeps (by kernel_rfl)).trans rfl)) ⟨_, rfl, rfl, rfl⟩
    | 12, _, ho, _, _ => by
      cases ho
      rw [if_pos (wanted_none _ rfl)]
      refine wp_value (st_move rfl ((hs.keeps (by kernel_rfl)).trans rfl)) ⟨_, rfl, rfl, rfl⟩
    | 13, _, ho, _, _ => by
      cases ho
      rw [if_pos (wanted_none _ rfl)]
      have h1 := eval_getD (hm.get 11 22 (by kernel_rfl)); have h2 := eval_getD (hm.get 12 23 (by kernel_rfl)); unfold Oper.wp; simp only [execOp]; go_simp; (first | exact ⟨_, rfl, rfl⟩ | exact ⟨_, rfl, rfl, rfl⟩)
    | 14, _, ho, _, _ => by
      cases ho
      rw [if_pos (wanted_none _ rfl)]
      have h1 := eval_getD (hm.get 13 24 (by kernel_rfl)); unfold Oper.wp; simp only [execOp]; go_simp; (first | exact ⟨_, rfl, rfl⟩ | exact ⟨_, rfl, rfl, rfl⟩)
    | 15, _, ho, _, _ => by
      cases ho
      rw [if_pos (wanted_none _ rfl)]
      have h1 := eval_getD (hm.get 14 25 (by kernel_rfl)); unfold Oper.wp; simp only [execOp]; go_simp; (first | exact ⟨_, rfl, rfl⟩ | exact ⟨_, rfl, rfl, rfl⟩)
    | 16, _, ho, _, _ => by
      cases ho
      rw [if_pos (wanted_none _ rfl)]
      have h1 := eval_getD (hm.get 5 16 (by kernel_rfl)); have h2 := eval_getD (hm.get 10 21 (by kernel_rfl)); have h3 := eval_getD (hm.get 15 26 (by kernel_rfl)); unfold Oper.wp; simp only [execOp]; go_simp; (first | exact ⟨_, rfl, rfl⟩ | exact ⟨_, rfl, rfl, rfl⟩)
    | 17, _, _, h, _ => absurd rfl h
    | 18, _, _, _, h => absurd rfl h
    | (n + 19), hi, _, _, _ => absurd hi (by omega)
   ·cases ho
    obtain rfl : w = W.drew := hj
    have h1 := eval_getD (hm.get 16 27 (by kernel_rfl))
    unfold Oper.wp
    simp only [execOp]
    go_simp
    exact ⟨_, rfl, show Value.slice _ _ _ = Value.slice _ _ _ by rw [Hg.out], rfl⟩
   ·have hj1 : w = W.drew.alloc (.cells #[S xp, S xo, S xn] 124) := hj
    subst hj1
    obtain ⟨h1, h2, h3, h4, h5⟩ : a.eval (.tmp 11) = .slice Ao k co ∧ a.eval (.tmp 28) = .slice (some ⟨g, 0, none⟩) 1 1 ∧ o.op = .call { callee := .builtin .append, args := #[.tmp 11, .tmp 28], argTypes := #[59, 59] } ∧ o.dst = some 29 ∧ o.type = 59 := by
     cases ho
     exact ⟨hm.get 0 11 (by kernel_rfl), hm.get 17 28 (by kernel_rfl), rfl, rfl, rfl⟩
    rw [Hg.out] at h2
    have hr := Hrun.out
    simp only [World.size_drew] at hr
    unfold Oper.wp execOp
    simp only [h3, h5, resolve, invoke, builtin, Sem.run_bind, Sem.run_pure, Result.andThen_ok, List.map_toArray, List.map_cons, List.map_nil, h1, h2, hr]
    exact ⟨_, rfl, rfl, rfl⟩
   ·have e1 : a.eval (.tmp 29) = .slice A5 (k + 1) c5 := by cases ho; exact hm.get 18 29 (by kernel_rfl)
    have hfr := hs.frame [11, 12, 13, 14, 15, 16, 17, 18, 19, 20, 21, 22, 23, 24, 25, 26, 27, 28, 29] (by kernel_rfl)
    cases ho
    obtain rfl : w = w5 := hj
    rw [hfr]
    simp only [List.foldl_cons, List.foldl_nil, e1]
    clear hfr hs hm e1
    generalize a.eval (.tmp 11) = u11, a.eval (.tmp 12) = u12, a.eval (.tmp 13) = u13, a.eval (.tmp 14) = u14, a.eval (.tmp 15) = u15, a.eval (.tmp 16) = u16, a.eval (.tmp 17) = u17, a.eval (.tmp 18) = u18, a.eval (.tmp 19) = u19, a.eval (.tmp 20) = u20, a.eval (.tmp 21) = u21, a.eval (.tmp 22) = u22, a.eval (.tmp 23) = u23, a.eval (.tmp 24) = u24, a.eval (.tmp 25) = u25, a.eval (.tmp 26) = u26, a.eval (.tmp 27) = u27, a.eval (.tmp 28) = u28
    unfold Oper.wp
    simp only [execOp]
    go_simp
    clear a
    go_wp2
    go_roundw
    case rel => exact ⟨k + 1, c5, A5, by go_num, rfl, Lib.hid hlt, HO5⟩
    case measure => simp [intOf]; omega
  ·obtain rfl : k = n := by have := hk.out; omega
   rw [List.take_of_length_le (by omega)] at hO
   go_wp2
   go_ret
   exact ⟨Ao, co, rfl, hO.out⟩
def withO (o : List UInt8) (v : Int) (ids : List (List UInt8)) : List UInt8 := if 0 < v ∧ o ≠ [] then ids.getD (v.toNat % ids.length) [] else o
def withC (c : Chg3) (ids : List (List UInt8)) (nums : List Int) (i : Nat) : Chg3 := if 2 * i + 1 < nums.length ∧ 0 < ids.length then (c.1, withO c.2.1 (nums.getD (2 * i) 0) ids, withO c.2.2 (nums.getD (2 * i + 1) 0) ids) else c
def withL (l : List Chg3) (ids : List (List UInt8)) (nums : List Int) : Nat → List Chg3
 | 0 => []
 | i + 1 => withL l ids nums i ++ [withC (l.getD i ([], [], [])) ids nums i]
def WayO (o : List UInt8) (v : Int) (ids : List (List UInt8)) (r : List UInt8) : Prop :=
 (decide (0 < v) = false ∧ r = o) ∨ (decide (0 < v) = true ∧ (o == []) = true ∧ r = o) ∨ (decide (0 < v) = true ∧ (o == []) = false ∧ ∃ j : Nat, v.tmod (ids.length : Int) = (j : Int) ∧ j < ids.length ∧ ids[j]? = some r)
theorem way_o (o : List UInt8) (v : Int) (ids : List (List UInt8)) (h : 0 < ids.length) : WayO o v ids (withO o v ids) := by
 by_cases hv : 0 < v
 ·rcases Bool.eq_false_or_eq_true (o == []) with ho | ho
  ·refine .inr (.inl ⟨decide_eq_true hv, ho, ?_⟩)
   have : o = [] := by simpa using ho
   unfold withO
   rw [if_neg (fun h => h.2 this)]
  ·refine .inr (.inr ⟨decide_eq_true hv, ho, v.toNat % ids.length, ?_, Nat.mod_lt _ h, ?_⟩)
   ·rw [Int.tmod_eq_emod_of_nonneg (by omega), Int.natCast_emod, Int.toNat_of_nonneg (by omega)]
   ·have hne : o ≠ [] := by simpa using ho
    unfold withO
    rw [if_pos ⟨hv, hne⟩, List.getD_eq_getElem?_getD, List.getElem?_eq_getElem (Nat.mod_lt _ h)]
    rfl
 ·refine .inl ⟨decide_eq_false hv, ?_⟩
  unfold withO
  rw [if_neg (fun h => hv h.1)]
theorem sl_cg2 (w : World) (t : TypeId) (a b c : List UInt8) (o : Obj) : Sl ((w.alloc o).alloc (.cells #[S a, S b, S c] t)) 3 (some ⟨w.heap.size + 1, 0, none⟩) 1 (cgs [(a, b, c)]) := by
 have h := sl_cg (w.alloc o) t (a, b, c)
 rwa [World.size_alloc] at h
set_option maxRecDepth 100000 in
set_option maxHeartbeats 16000000 in
theorem with_any (A B D : Option Addr) (n c m d k e : Nat) (l : List Chg3) (ids : List (List UInt8)) (nums : List Int) (w : World) (hA : Sl w 3 A n (cgs l)) (hB : Sl w 1 B m (strs ids)) (hD : Sl w 1 D k (nums.map fun z => I z)) (_hn : n ≤ 9223372036854775807) (hm : m ≤ 1000000000) (hk : k ≤ 1000000000) :
  Calls Tryz.prog 15 #[.slice A n c, .slice B m d, .slice D k e] w fun e w' => ∃ (i : Nat) (A' : Option Addr) (c' : Nat), (i = n ∨ i = 16) ∧ i ≤ n ∧ i ≤ 16 ∧ e = .returned (.slice A' i c') ∧ Ow w w' 69 3 A' i c' (cgs (withL l ids nums i)) := by
 obtain ⟨i0, hi0, hz0, hz1, hz2⟩ := info_parts Tryz.infoRChg
 have HA := Lib.hid hA
 have HB := Lib.hid hB
 have HD := Lib.hid hD
 have Hm : Hid (ids.length = m) := Lib.hid (strs_len hB)
 have Hk : Hid (nums.length = k) := Lib.hid (by have := hD.len; simpa using this)
 clear hA hB hD
 go_enter Tryz.func15, Tryz.ntmps15
 go_wp2
 go_loopw [7, 8] (fun sv iv wr => ∃ (i co : Nat) (Ao : Option Addr), sv = .slice Ao i co ∧ iv = .int .i64 i ∧ i ≤ n ∧ i ≤ 16 ∧ Hid (Ow w wr 69 3 Ao i co (cgs (withL l ids nums i)))) (fun _ iv _ => n - (intOf iv).toNat)
 case atStart => exact ⟨0, 0, none, rfl, rfl, Nat.zero_le _, by omega, Lib.hid (Ow.nil_ (Below.refl _ _))⟩
 case round =>
  obtain ⟨i, co, Ao, rfl, rfl, hi, hi16, hO⟩ := hrel
  have hways : (decide (i < n) = true ∧ decide ((i : Int) < 16) = true) ∨ decide (i < n) = false ∨ (decide (i < n) = true ∧ decide ((i : Int) < 16) = false) := by
   cases decide (i < n) <;> cases decide ((i : Int) < 16) <;> simp
  rcases hways with ⟨d1, d2⟩ | d1 | ⟨d1, d2⟩
  ·have hlt : i < n := of_decide_eq_true d1
   have hlt16 : i < 16 := by have := of_decide_eq_true d2; omega
   obtain ⟨b, off, x, rfl, _, hx, x0, x1, x2⟩ := (HA.out.below hO.out.2).cg hlt
   obtain ⟨xp, xo, xn⟩ := x
   have Hx : Hid (l.getD i ([], [], []) = (xp, xo, xn)) := Lib.hid (by rw [List.getD_eq_getElem?_getD, hx]; rfl)
   have q1 : i + 1 ≤ maxLen := by simp only [maxLen]; omega
   have q2 : (i + 1) * 48 ≤ 140737488355328 := by omega
   clear hx
   by_cases h6 : 2 * i + 1 < k ∧ 0 < m
   ·obtain ⟨h61, h62⟩ := h6
    obtain ⟨bB, offB, rfl, _, hcB⟩ := (HB.out.below hO.out.2).2 h62
    obtain ⟨bD, offD, rfl, _, hcD⟩ := (HD.out.below hO.out.2).2 (by omega)
    obtain ⟨v1, hv1⟩ : ∃ v1, nums[2 * i]? = some v1 := ⟨nums[2 * i]'(by have := Hk.out; omega), List.getElem?_eq_getElem _⟩
    obtain ⟨v2, hv2⟩ : ∃ v2, nums[2 * i + 1]? = some v2 := ⟨nums[2 * i + 1]'(by have := Hk.out; omega), List.getElem?_eq_getElem _⟩
    have y1 := hcD (2 * i) (by omega)
    have y2 := hcD (2 * i + 1) (by omega)
    rw [List.getElem?_map, hv1] at y1
    rw [List.getElem?_map, hv2] at y2
    have HcB : Hid (∀ (j : Nat) (r : List UInt8), j < m → ids[j]? = some r → wr.cell? ⟨bB, offB + j, none⟩ = some (S r)) := Lib.hid (fun j r hj hr => by
     have h9 := hcB j (by omega)
     unfold strs at h9
     rw [List.getElem?_map, hr] at h9
     exact h9)
    have hWo := way_o xo v1 ids (by have := Hm.out; omega)
    have hWn := way_o xn v2 ids (by have := Hm.out; omega)
    obtain ⟨ro, hro⟩ : ∃ ro, ro = withO xo v1 ids := ⟨_, rfl⟩
    obtain ⟨rn, hrn⟩ : ∃ rn, rn = withO xn v2 ids := ⟨_, rfl⟩
    have HW : Hid (withL l ids nums (i + 1) = withL l ids nums i ++ [(xp, ro, rn)]) := Lib.hid (by
     show withL l ids nums i ++ [withC (l.getD i ([], [], [])) ids nums i] = _
     rw [Hx.out]
     unfold withC
     rw [Hm.out, Hk.out, if_pos ⟨h61, h62⟩, hro, hrn, List.getD_eq_getElem?_getD, List.getD_eq_getElem?_getD, hv1, hv2]
     rfl)
    rw [← hro] at hWo
    rw [← hrn] at hWn
    unfold WayO at hWo hWn
    rw [Hm.out] at hWo hWn
    obtain ⟨j0, hj0⟩ : ∃ j0, j0 = 2 * i := ⟨_, rfl⟩
    obtain ⟨j1, hj1⟩ : ∃ j1, j1 = j0 + 1 := ⟨_, rfl⟩
    rw [← hj0, ← hj1] at y2
    rw [← hj0] at y1
    have e1 : (2 : Int) * (i : Int) = (j0 : Int) := by omega
    have e2 : (j0 : Int) + 1 = (j1 : Int) := by omega
    have hj0k : j0 < k := by omega
    have hj1k : j1 < k := by omega
    have d6 : decide ((j1 : Int) < (k : Int)) = true := decide_eq_true (by omega)
    have d7 : decide (0 < m) = true := decide_eq_true h62
    have HO1 := Lib.hid ((hO.out.alloc (.cells #[S xp, S ro, S rn] 69)).alloc (.cells #[S xp, S ro, S rn] 69))
    clear hcB hcD hv1 hv2 hro hrn h61 hj0 hj1
    rcases hWo with ⟨a1, a2⟩ | ⟨a1, a2, a3⟩ | ⟨a1, a2, j, a3, a4, a5⟩
    ·subst a2
     rcases hWn with ⟨c1, c2⟩ | ⟨c1, c2, c3⟩ | ⟨c1, c2, jj, c3, c4, c5⟩
     ·subst c2
      go_wp2_with (at_builtin; refine wpList_append_sl _ rfl (.tmp 83) (.tmp 85) _ rfl w 69 i0 _ 3 48 Tryz.underlying48 hi0 hz0 hz1 hz2 rfl (by decide) _ _ _ _ rfl HO1.out _ 1 1 (cgs [(xp, ro, rn)]) rfl (sl_cg2 _ 69 xp ro rn _) (one_cgs _) q1 q2 ?_; intro A9 c9 w9 hO9 hg9 hat9; have HO9 := Lib.hid hO9; clear hO9 hg9 hat9)
      go_roundw
      case rel => exact ⟨i + 1, c9, A9, rfl, by go_num, hlt, by omega, Lib.hid (by rw [HW.out, cgs_append]; exact HO9.out)⟩
      case measure => simp [intOf]; omega
     ·subst c3
      go_wp2_with (at_builtin; refine wpList_append_sl _ rfl (.tmp 83) (.tmp 85) _ rfl w 69 i0 _ 3 48 Tryz.underlying48 hi0 hz0 hz1 hz2 rfl (by decide) _ _ _ _ rfl HO1.out _ 1 1 (cgs [(xp, ro, rn)]) rfl (sl_cg2 _ 69 xp ro rn _) (one_cgs _) q1 q2 ?_; intro A9 c9 w9 hO9 hg9 hat9; have HO9 := Lib.hid hO9; clear hO9 hg9 hat9)
      go_roundw
      case rel => exact ⟨i + 1, c9, A9, rfl, by go_num, hlt, by omega, Lib.hid (by rw [HW.out, cgs_append]; exact HO9.out)⟩
      case measure => simp [intOf]; omega
     ·have z2 := HcB.out jj rn c4 c5
      have c4i : (jj : Int) < (m : Int) := by omega
      clear c5
      go_wp2_with (at_builtin; refine wpList_append_sl _ rfl (.tmp 83) (.tmp 85) _ rfl w 69 i0 _ 3 48 Tryz.underlying48 hi0 hz0 hz1 hz2 rfl (by decide) _ _ _ _ rfl HO1.out _ 1 1 (cgs [(xp, ro, rn)]) rfl (sl_cg2 _ 69 xp ro rn _) (one_cgs _) q1 q2 ?_; intro A9 c9 w9 hO9 hg9 hat9; have HO9 := Lib.hid hO9; clear hO9 hg9 hat9)
      go_roundw
      case rel => exact ⟨i + 1, c9, A9, rfl, by go_num, hlt, by omega, Lib.hid (by rw [HW.out, cgs_append]; exact HO9.out)⟩
      case measure => simp [intOf]; omega
    ·subst a3
     rcases hWn with ⟨c1, c2⟩ | ⟨c1, c2, c3⟩ | ⟨c1, c2, jj, c3, c4, c5⟩
     ·subst c2
      go_wp2_with (at_builtin; refine wpList_append_sl _ rfl (.tmp 83) (.tmp 85) _ rfl w 69 i0 _ 3 48 Tryz.underlying48 hi0 hz0 hz1 hz2 rfl (by decide) _ _ _ _ rfl HO1.out _ 1 1 (cgs [(xp, ro, rn)]) rfl (sl_cg2 _ 69 xp ro rn _) (one_cgs _) q1 q2 ?_; intro A9 c9 w9 hO9 hg9 hat9; have HO9 := Lib.hid hO9; clear hO9 hg9 hat9)
      go_roundw
      case rel => exact ⟨i + 1, c9, A9, rfl, by go_num, hlt, by omega, Lib.hid (by rw [HW.out, cgs_append]; exact HO9.out)⟩
      case measure => simp [intOf]; omega
     ·subst c3
      go_wp2_with (at_builtin; refine wpList_append_sl _ rfl (.tmp 83) (.tmp 85) _ rfl w 69 i0 _ 3 48 Tryz.underlying48 hi0 hz0 hz1 hz2 rfl (by decide) _ _ _ _ rfl HO1.out _ 1 1 (cgs [(xp, ro, rn)]) rfl (sl_cg2 _ 69 xp ro rn _) (one_cgs _) q1 q2 ?_; intro A9 c9 w9 hO9 hg9 hat9; have HO9 := Lib.hid hO9; clear hO9 hg9 hat9)
      go_roundw
      case rel => exact ⟨i + 1, c9, A9, rfl, by go_num, hlt, by omega, Lib.hid (by rw [HW.out, cgs_append]; exact HO9.out)⟩
      case measure => simp [intOf]; omega
     ·have z2 := HcB.out jj rn c4 c5
      have c4i : (jj : Int) < (m : Int) := by omega
      clear c5
      go_wp2_with (at_builtin; refine wpList_append_sl _ rfl (.tmp 83) (.tmp 85) _ rfl w 69 i0 _ 3 48 Tryz.underlying48 hi0 hz0 hz1 hz2 rfl (by decide) _ _ _ _ rfl HO1.out _ 1 1 (cgs [(xp, ro, rn)]) rfl (sl_cg2 _ 69 xp ro rn _) (one_cgs _) q1 q2 ?_; intro A9 c9 w9 hO9 hg9 hat9; have HO9 := Lib.hid hO9; clear hO9 hg9 hat9)
      go_roundw
      case rel => exact ⟨i + 1, c9, A9, rfl, by go_num, hlt, by omega, Lib.hid (by rw [HW.out, cgs_append]; exact HO9.out)⟩
      case measure => simp [intOf]; omega
    ·have z1 := HcB.out j ro a4 a5
     have a4i : (j : Int) < (m : Int) := by omega
     clear a5
     rcases hWn with ⟨c1, c2⟩ | ⟨c1, c2, c3⟩ | ⟨c1, c2, jj, c3, c4, c5⟩
     ·subst c2
      go_wp2_with (at_builtin; refine wpList_append_sl _ rfl (.tmp 83) (.tmp 85) _ rfl w 69 i0 _ 3 48 Tryz.underlying48 hi0 hz0 hz1 hz2 rfl (by decide) _ _ _ _ rfl HO1.out _ 1 1 (cgs [(xp, ro, rn)]) rfl (sl_cg2 _ 69 xp ro rn _) (one_cgs _) q1 q2 ?_; intro A9 c9 w9 hO9 hg9 hat9; have HO9 := Lib.hid hO9; clear hO9 hg9 hat9)
      go_roundw
      case rel => exact ⟨i + 1, c9, A9, rfl, by go_num, hlt, by omega, Lib.hid (by rw [HW.out, cgs_append]; exact HO9.out)⟩
      case measure => simp [intOf]; omega
     ·subst c3
      go_wp2_with (at_builtin; refine wpList_append_sl _ rfl (.tmp 83) (.tmp 85) _ rfl w 69 i0 _ 3 48 Tryz.underlying48 hi0 hz0 hz1 hz2 rfl (by decide) _ _ _ _ rfl HO1.out _ 1 1 (cgs [(xp, ro, rn)]) rfl (sl_cg2 _ 69 xp ro rn _) (one_cgs _) q1 q2 ?_; intro A9 c9 w9 hO9 hg9 hat9; have HO9 := Lib.hid hO9; clear hO9 hg9 hat9)
      go_roundw
      case rel => exact ⟨i + 1, c9, A9, rfl, by go_num, hlt, by omega, Lib.hid (by rw [HW.out, cgs_append]; exact HO9.out)⟩
      case measure => simp [intOf]; omega
     ·have z2 := HcB.out jj rn c4 c5
      have c4i : (jj : Int) < (m : Int) := by omega
      clear c5
      go_wp2_with (at_builtin; refine wpList_append_sl _ rfl (.tmp 83) (.tmp 85) _ rfl w 69 i0 _ 3 48 Tryz.underlying48 hi0 hz0 hz1 hz2 rfl (by decide) _ _ _ _ rfl HO1.out _ 1 1 (cgs [(xp, ro, rn)]) rfl (sl_cg2 _ 69 xp ro rn _) (one_cgs _) q1 q2 ?_; intro A9 c9 w9 hO9 hg9 hat9; have HO9 := Lib.hid hO9; clear hO9 hg9 hat9)
      go_roundw
      case rel => exact ⟨i + 1, c9, A9, rfl, by go_num, hlt, by omega, Lib.hid (by rw [HW.out, cgs_append]; exact HO9.out)⟩
      case measure => simp [intOf]; omega
   ·have d6 : decide ((2 : Int) * (i : Int) + 1 < (k : Int)) = false ∨ (decide ((2 : Int) * (i : Int) + 1 < (k : Int)) = true ∧ decide (0 < m) = false) := by
     by_cases h : 2 * i + 1 < k
     ·exact .inr ⟨decide_eq_true (by omega), decide_eq_false (fun h9 => h6 ⟨h, h9⟩)⟩
     ·exact .inl (decide_eq_false (by omega))
    have HW : Hid (withL l ids nums (i + 1) = withL l ids nums i ++ [(xp, xo, xn)]) := Lib.hid (by
     show withL l ids nums i ++ [withC (l.getD i ([], [], [])) ids nums i] = _
     rw [Hx.out]
     unfold withC
     rw [Hm.out, Hk.out, if_neg h6])
    have HO1 := Lib.hid ((hO.out.alloc (.cells #[S xp, S xo, S xn] 69)).alloc (.cells #[S xp, S xo, S xn] 69))
    clear h6
    rcases d6 with d6 | ⟨d6, d7⟩
    all_goals
     go_wp2_with (at_builtin; refine wpList_append_sl _ rfl (.tmp 83) (.tmp 85) _ rfl w 69 i0 _ 3 48 Tryz.underlying48 hi0 hz0 hz1 hz2 rfl (by decide) _ _ _ _ rfl HO1.out _ 1 1 (cgs [(xp, xo, xn)]) rfl (sl_cg2 _ 69 xp xo xn _) (one_cgs _) q1 q2 ?_; intro A9 c9 w9 hO9 hg9 hat9; have HO9 := Lib.hid hO9; clear hO9 hg9 hat9)
     go_roundw
     case rel => exact ⟨i + 1, c9, A9, rfl, by go_num, hlt, by omega, Lib.hid (by rw [HW.out, cgs_append]; exact HO9.out)⟩
     case measure => simp [intOf]; omega
  all_goals
   go_wp2
   go_ret
   exact ⟨i, Ao, co, by first | exact .inl (by have := of_decide_eq_false d1; omega) | exact .inr (by have := of_decide_eq_false d2; omega), hi, hi16, rfl, hO.out⟩
end Go.Proofs.YtphnfcgdpdimbaaGreatDoor
namespace Go.Proofs.YtphnfcgdpdimbaaGreatDoor
theorem bothS_ids (bs : List (List UInt8)) : ∀ (i : Nat), ∀ x ∈ (bothS bs i).2, x.length = 32
 | 0 => fun _ h => by cases h
 | i + 1 => fun x hx => by
  change x ∈ (bothS bs i).2 ++ _ at hx
  rcases List.mem_append.1 hx with hx | hx
  ·exact bothS_ids bs i x hx
  ·split at hx
   ·rw [List.mem_singleton.1 hx]
    exact sumL_len _
   ·cases hx
theorem withL_mem {l : List Chg3} {ids : List (List UInt8)} {nums : List Int} : ∀ {i : Nat} {x : Chg3}, x ∈ withL l ids nums i → ∃ j, j < i ∧ x = withC (l.getD j ([], [], [])) ids nums j
 | 0, x, h => by cases h
 | i + 1, x, h => by
  rcases List.mem_append.1 h with h | h
  ·obtain ⟨j, h1, h2⟩ := withL_mem h
   exact ⟨j, by omega, h2⟩
  ·exact ⟨i, by omega, List.mem_singleton.1 h⟩
theorem withL_len (l : List Chg3) (ids : List (List UInt8)) (nums : List Int) : ∀ i, (withL l ids nums i).length = i
 | 0 => rfl
 | i + 1 => by
  show (withL l ids nums i ++ _).length = _
  rw [List.length_append, withL_len l ids nums i]
  rfl
theorem getD_mem_or {l : List (List UInt8)} (j : Nat) : l.getD j [] ∈ l ∨ l.getD j [] = [] := by
 rw [List.getD_eq_getElem?_getD]
 rcases h : l[j]? with _ | x
 ·exact .inr rfl
 ·exact .inl (List.mem_of_getElem? h)
theorem withO_len {o : List UInt8} {v : Int} {ids : List (List UInt8)} {N : Nat} (ho : o.length ≤ N) (hi : ∀ x ∈ ids, x.length ≤ N) : (withO o v ids).length ≤ N := by
 unfold withO
 split
 ·rcases getD_mem_or (l := ids) (v.toNat % ids.length) with h | h
  ·exact hi _ h
  ·rw [h]
   exact Nat.zero_le _
 ·exact ho
theorem withC_len {c : Chg3} {ids : List (List UInt8)} {nums : List Int} {i N : Nat} (hc : c.2.1.length ≤ N ∧ c.2.2.length ≤ N) (hi : ∀ x ∈ ids, x.length ≤ N) : (withC c ids nums i).2.1.length ≤ N ∧ (withC c ids nums i).2.2.length ≤ N := by
 unfold withC
 split
 ·exact ⟨withO_len hc.1 hi, withO_len hc.2 hi⟩
 ·exact hc
theorem withL_lens {l : List Chg3} {ids : List (List UInt8)} {nums : List Int} {N : Nat} (hl : ∀ x ∈ l, x.2.1.length ≤ N ∧ x.2.2.length ≤ N) (hi : ∀ x ∈ ids, x.length ≤ N) {i : Nat} {x : Chg3} (hx : x ∈ withL l ids nums i) : x.2.1.length ≤ N ∧ x.2.2.length ≤ N := by
 obtain ⟨j, _, rfl⟩ := withL_mem hx
 refine withC_len ?_ hi
 rw [List.getD_eq_getElem?_getD]
 rcases h : l[j]? with _ | c
 ·exact ⟨Nat.zero_le _, Nat.zero_le _⟩
 ·exact hl c (List.mem_of_getElem? h)
theorem costs_count : ∀ l : List DF, 16 * l.length ≤ costs l
 | [] => Nat.zero_le _
 | x :: l => by
  have := costs_count l
  rw [costs, List.length_cons]
  unfold cost1
  omega
end Go.Proofs.YtphnfcgdpdimbaaGreatDoor
