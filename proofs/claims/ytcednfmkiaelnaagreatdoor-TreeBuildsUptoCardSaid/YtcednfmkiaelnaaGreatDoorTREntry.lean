/-
  dolmenref13.entry: an entry in order among entries. Conditions: the entries can be read, no more than 1000000.
-/
import Derived.Test.YtcednfmkiaelnaaGreatDoorTKitTc
import Derived.Test.YtcednfmkiaelnaaGreatDoorTKitTb
import Derived.Test.YtcednfmkiaelnaaGreatDoorTKitW
import Derived.BigQuiet
namespace Go.Proofs.YtcednfmkiaelnaaGreatDoor
open Go.RowKit
open TreeLaw
open PathLaw (Bs)
theorem ens_cut (l : List Ent3) (k : Nat) : (ens l).drop (k * 3) = ens (l.drop k) ∧ (ens l).take (k * 3) = ens (l.take k) := by
 induction l generalizing k with
 | nil => simp [ens]
 | cons x t ih =>
  rcases k with _ | k
  ·simp [ens]
  ·obtain ⟨h1, h2⟩ := ih k
   have e : ens (x :: t) = enC x ++ ens t := by simp [ens]
   have hl : (enC x).length = 3 := rfl
   have hk : (k + 1) * 3 = (enC x).length + k * 3 := by rw [hl]; omega
   rw [e, hk, List.drop_length_add_append, List.take_length_add_append, h1, h2]
   exact ⟨rfl, by simp [ens]⟩
theorem insT_at {e : Ent3} : ∀ {l : List Ent3} {k : Nat}, (∀ x ∈ l.take k, x.1 < e.1) → (∀ x, l[k]? = some x → ¬ x.1 < e.1) → k ≤ l.length →
  (∀ x, l[k]? = some x → x.1 = e.1 → insT l e = l) ∧ ((∀ x, l[k]? = some x → x.1 ≠ e.1) → insT l e = l.take k ++ e :: l.drop k)
 | [], k, _, _, hk => by
  obtain rfl : k = 0 := by simpa using hk
  exact ⟨fun x h => by simp at h, fun _ => by simp [insT]⟩
 | y :: t, 0, _, h2, _ => by
  have h3 := h2 y rfl
  refine ⟨fun x hx he => ?_, fun h => ?_⟩
  ·simp at hx
   subst hx
   unfold insT
   rw [if_neg h3, if_pos he]
  ·have h4 := h y rfl
   unfold insT
   rw [if_neg h3, if_neg h4]
   rfl
 | y :: t, k + 1, h1, h2, hk => by
  have h3 : y.1 < e.1 := h1 y (by simp)
  obtain ⟨h4, h5⟩ := insT_at (l := t) (k := k) (fun x hx => h1 x (by simp [hx])) (fun x hx => h2 x (by simpa using hx)) (by simpa using hk)
  refine ⟨fun x hx he => ?_, fun h => ?_⟩
  ·unfold insT
   rw [if_pos h3, h4 x (by simpa using hx) he]
  ·unfold insT
   rw [if_pos h3, h5 (fun x hx => h x (by simpa using hx))]
   rfl
theorem sl_one3 (w : World) (t : TypeId) (x : Ent3) : Sl (w.alloc (.cells #[S x.1, .bool x.2.1, S x.2.2] t)) 3 (some ⟨w.heap.size, 0, none⟩) 1 (ens [x]) := by
 refine ⟨by simp [ens, enC], fun _ => ⟨_, _, rfl, by simp, fun k hk => ?_⟩⟩
 rw [Nat.zero_add]
 simp [ens, enC]
theorem lts_more {l : List Ent3} {k : Nat} {x : Bs} {y : Ent3} (h : ∀ e ∈ l.take k, e.1 < x) (hy : l[k]? = some y) (hl : y.1 < x) : ∀ e ∈ l.take (k + 1), e.1 < x := by
 intro e he
 rw [List.take_add_one, hy] at he
 simp only [Option.toList_some, List.mem_append, List.mem_singleton] at he
 rcases he with he | rfl
 ·exact h e he
 ·exact hl
theorem Tryz.sizeEn3 (w : World) : (Go.sizeOf 129).run Tryz.prog w = .ok 3 w := by kernel_rfl
set_option maxRecDepth 100000 in
set_option maxHeartbeats 8000000 in
theorem rentry_any (w0 w : World) (A : Option Addr) (n c : Nat) (l : List Ent3) (e : Ent3) (hA : Ow w0 w 129 3 A n c (ens l)) (hn : n ≤ 1000000) :
  Calls Tryz.prog 70 #[.slice A n c, .agg #[S e.1, .bool e.2.1, S e.2.2]] w fun r w' => ∃ A' n' c', r = .returned (.slice A' n' c') ∧ Ow w0 w' 129 3 A' n' c' (ens (insT l e)) ∧ Below w.heap.size w w' := by
 obtain ⟨i0, hi0, hi1, hi2, hi3⟩ := info_parts Tryz.infoEnt3
 have hln := ens_count hA.sl
 obtain ⟨xp, xd, xi⟩ := e
 simp only
 have HE := Lib.hid (Blk.new w 129 #[S xp, .bool xd, S xi])
 have B1 := Lib.hid (balloc (Below.refl _ w) (.cells #[S xp, .bool xd, S xi] 129))
 have HS := Lib.hid (hA.keep B1.out)
 have hc := hA.cap.1
 have H0 := Lib.hid hA.2
 have Hln := Lib.hid hln
 have Hc := Lib.hid hc
 clear hA hln hc
 go_enter Tryz.func70, Tryz.ntmps70
 obtain ⟨w1, hw1⟩ : ∃ w1, w1 = w.alloc (.cells #[S xp, .bool xd, S xi] 129) := ⟨_, rfl⟩
 obtain ⟨g, hg⟩ : ∃ g, g = w.heap.size := ⟨_, rfl⟩
 go_wp2
 rw [← hw1] at HS HE B1
 rw [← hg] at HE
 simp only [← hw1]
 simp only [← hg]
 clear hw1 hg
 have re := HE.out.cell
 go_loopw [5] (fun i wr => ∃ (k m : Nat), k ≤ n ∧ i = .int .i64 k ∧ wr = w1.drewN m ∧ Hid (∀ x ∈ l.take k, x.1 < xp)) (fun i _ => n - (intOf i).toNat)
 case atStart => exact ⟨0, 0, Nat.zero_le _, rfl, rfl, Lib.hid (fun e he => by simp at he)⟩
 case round =>
  obtain ⟨k, mm, hk, rfl, rfl, HK⟩ := hrel
  have Hk0 := Lib.hid hk
  by_cases hki : k < n
  ·obtain ⟨b, off, y, rfl, _, hy, y0, _, _⟩ := HS.out.sl.en hki
   have Hy := Lib.hid hy
   clear hy
   obtain ⟨yp, yd, yi⟩ := y
   have d0 : decide ((k : Int) < (n : Int)) = true := decide_eq_true (by omega)
   by_cases h1 : yp < xp
   ·have HK2 := Lib.hid (lts_more HK.out Hy.out h1)
    have d1 : Op.bytesLess yp xp = true := by rw [Go.Proofs.bytesLess_eq]; exact decide_eq_true h1
    clear HK h1
    go_wp2
    go_quiet (fail)
    go_wp2
    go_roundw
    case rel => exact ⟨k + 1, _, by omega, by go_num, rfl, HK2⟩
    case measure => simp [intOf]; omega
   ·have d1 : Op.bytesLess yp xp = false := by rw [Go.Proofs.bytesLess_eq]; exact decide_eq_false h1
    have HN := Lib.hid (insT_at (e := (xp, xd, xi)) (k := k) HK.out (fun x hx => by
     rw [Hy.out] at hx
     cases hx
     exact h1) (by rw [Hln.out]; exact hk))
    by_cases h2 : yp = xp
    ·have d2 : (yp == xp) = true := beq_iff_eq.2 h2
     have HX : Hid (insT l (xp, xd, xi) = l) := Lib.hid (HN.out.1 _ Hy.out h2)
     clear HK h1 h2 HN
     go_wp2
     go_quiet (fail)
     go_wp2
     go_quiet (fail)
     go_wp2
     go_ret
     refine ⟨_, _, _, rfl, ?_, ?_⟩
     ·rw [HX.out]
      exact HS.out.keep (below_drewN (below_drewN (below_drewN (Below.refl _ _) _) _) _)
     ·exact below_drewN (below_drewN (below_drewN B1.out _) _) _
    ·have d2 : (yp == xp) = false := beq_eq_false_iff_ne.2 h2
     have HX : Hid (insT l (xp, xd, xi) = l.take k ++ (xp, xd, xi) :: l.drop k) := Lib.hid (HN.out.2 (fun x hx => by
      rw [Hy.out] at hx
      cases hx
      exact h2))
     clear HK h1 h2 HN
     have sK := HS.out.sl.cut (l := 0) (r := k) (c := c) (Nat.zero_le _) hk Hc.out
     simp only [Nat.zero_mul, List.drop_zero, Nat.sub_zero] at sK
     have sI := HS.out.sl.cut (l := k) (r := n) (c := c) hk (Nat.le_refl _) Hc.out
     rw [(ens_cut l k).2] at sK
     rw [(ens_cut l k).1, List.take_of_length_le (by rw [ens_len, List.length_drop, Hln.out]; exact Nat.le_refl _)] at sI
     have kL := fun W : World => run_cut_l (P := Tryz.prog) W Tryz.underlying94 Tryz.sizeEn3 (some ⟨b, off, none⟩) n c .i64 k hk
     have kH := fun W : World => run_cut_h (P := Tryz.prog) W Tryz.underlying94 Tryz.sizeEn3 (some ⟨b, off, none⟩) n c .i64 k (Nat.le_trans hk Hc.out)
     obtain ⟨XI, hXI⟩ : ∃ X, cutA (some ⟨b, off, none⟩) c k 3 = X := ⟨_, rfl⟩
     obtain ⟨nI, hnI⟩ : ∃ nI, n - k = nI := ⟨_, rfl⟩
     rw [hXI, hnI] at kL sI
     have SK := Lib.hid sK
     have SI := Lib.hid sI
     have q1 : 0 + k ≤ maxLen := by simp only [maxLen]; omega
     have q2 : (0 + k) * 40 ≤ 140737488355328 := by omega
     have q3 : k + 1 ≤ maxLen := by simp only [maxLen]; omega
     have q4 : (k + 1) * 40 ≤ 140737488355328 := by omega
     have q5 : k + 1 + nI ≤ maxLen := by simp only [maxLen]; omega
     have q6 : (k + 1 + nI) * 40 ≤ 140737488355328 := by omega
     clear sK sI hXI hnI
     go_wp2
     go_quiet (fail)
     rename Nat => qa
     go_wp2
     go_quiet (fail)
     obtain ⟨w9, hw9⟩ : ∃ w9, ((w1.drewN mm).drewN qa).drewN nq = w9 := ⟨_, rfl⟩
     have b9 : Below w1.heap.size w1 w9 := by rw [← hw9]; exact below_drewN (below_drewN (below_drewN (Below.refl _ _) _) _) _
     rw [hw9]
     have SK9 := Lib.hid (SK.out.below b9)
     have SI9 := Lib.hid (SI.out.below b9)
     have HE9 := Lib.hid (HE.out.step b9)
     have B9 := Lib.hid (bstep B1.out b9)
     clear hw9 b9 re
     go_wp2_with (first
      | (at_builtin; (refine wpList_append_sl _ rfl (.tmp 38) (.tmp 41) _ rfl w9 129 i0 _ 3 40 Tryz.underlying94 hi0 hi1 hi2 hi3 rfl (by omega) none 0 0 [] rfl (Ow.nil_ (Below.refl _ _)) (cutA (some ⟨b, off, none⟩) c 0 3) k _ (ens (l.take k)) rfl SK9.out (one_ens _) q1 q2 ?_; intro A3 c3 w3 hO3 hg3 hat3; rw [Nat.zero_add, List.nil_append] at hO3; have re3 := (HE9.out.step hO3.2).cell))
      | (at_builtin; refine wpList_append_sl _ rfl (.tmp 43) (.tmp 45) _ rfl w9 129 i0 _ 3 40 Tryz.underlying94 hi0 hi1 hi2 hi3 rfl (by omega) A3 k c3 (ens (l.take k)) rfl (hO3.alloc _) (some ⟨w3.heap.size, 0, none⟩) 1 _ (ens [(xp, xd, xi)]) rfl (sl_one3 w3 _ (xp, xd, xi)) (one_ens _) q3 q4 ?_; intro A4 c4 w4 hO4 hg4 hat4)
      | (at_builtin; refine wpList_append_sl _ rfl (.tmp 47) (.tmp 50) _ rfl w9 129 i0 _ 3 40 Tryz.underlying94 hi0 hi1 hi2 hi3 rfl (by omega) A4 (k + 1) c4 (ens (l.take k) ++ ens [(xp, xd, xi)]) rfl hO4 XI nI _ (ens (l.drop k)) rfl (SI9.out.below hO4.2) (one_ens _) q5 q6 ?_; intro A5 c5 w5 hO5 hg5 hat5))
     have hO6 : Ow w w5 129 3 A5 (k + 1 + nI) c5 (ens (insT l (xp, xd, xi))) := by
      rw [HX.out, ← List.singleton_append, ens_append, ens_append, ← List.append_assoc]
      exact hO5.since B9.out
     have HO6 := Lib.hid hO6
     clear hO6
     go_ret
     exact ⟨_, _, _, rfl, HO6.out.since H0.out, HO6.out.2⟩
  ·obtain rfl : k = n := by omega
   have d0 : decide ((k : Int) < (k : Int)) = false := decide_eq_false (by omega)
   have HN := Lib.hid (insT_at (e := (xp, xd, xi)) (k := k) HK.out (fun x hx => by
    rw [List.getElem?_eq_none (by rw [Hln.out]; exact Nat.le_refl _)] at hx
    cases hx) (by rw [Hln.out]; exact hk))
   have HX : Hid (insT l (xp, xd, xi) = l.take k ++ (xp, xd, xi) :: l.drop k) := Lib.hid (HN.out.2 (fun x hx => by
    rw [List.getElem?_eq_none (by rw [Hln.out]; exact Nat.le_refl _)] at hx
    cases hx))
   clear HK HN
   have sK := HS.out.sl.cut (l := 0) (r := k) (c := c) (Nat.zero_le _) hk Hc.out
   simp only [Nat.zero_mul, List.drop_zero, Nat.sub_zero] at sK
   have sI := HS.out.sl.cut (l := k) (r := k) (c := c) hk (Nat.le_refl _) Hc.out
   rw [(ens_cut l k).2] at sK
   rw [(ens_cut l k).1, List.take_of_length_le (by rw [ens_len, List.length_drop, Hln.out]; exact Nat.le_refl _)] at sI
   have kL := fun W : World => run_cut_l (P := Tryz.prog) W Tryz.underlying94 Tryz.sizeEn3 A k c .i64 k hk
   have kH := fun W : World => run_cut_h (P := Tryz.prog) W Tryz.underlying94 Tryz.sizeEn3 A k c .i64 k (Nat.le_trans hk Hc.out)
   obtain ⟨XI, hXI⟩ : ∃ X, cutA A c k 3 = X := ⟨_, rfl⟩
   obtain ⟨nI, hnI⟩ : ∃ nI, k - k = nI := ⟨_, rfl⟩
   rw [hXI, hnI] at kL sI
   have SK := Lib.hid sK
   have SI := Lib.hid sI
   have q1 : 0 + k ≤ maxLen := by simp only [maxLen]; omega
   have q2 : (0 + k) * 40 ≤ 140737488355328 := by omega
   have q3 : k + 1 ≤ maxLen := by simp only [maxLen]; omega
   have q4 : (k + 1) * 40 ≤ 140737488355328 := by omega
   have q5 : k + 1 + nI ≤ maxLen := by simp only [maxLen]; omega
   have q6 : (k + 1 + nI) * 40 ≤ 140737488355328 := by omega
   clear sK sI hXI hnI
   go_wp2
   go_quiet (fail)
   rename Nat => qa
   go_wp2
   go_quiet (fail)
   obtain ⟨w9, hw9⟩ : ∃ w9, ((w1.drewN mm).drewN qa).drewN nq = w9 := ⟨_, rfl⟩
   have b9 : Below w1.heap.size w1 w9 := by rw [← hw9]; exact below_drewN (below_drewN (below_drewN (Below.refl _ _) _) _) _
   rw [hw9]
   have SK9 := Lib.hid (SK.out.below b9)
   have SI9 := Lib.hid (SI.out.below b9)
   have HE9 := Lib.hid (HE.out.step b9)
   have B9 := Lib.hid (bstep B1.out b9)
   clear hw9 b9 re
   go_wp2_with (first
    | (at_builtin; (refine wpList_append_sl _ rfl (.tmp 38) (.tmp 41) _ rfl w9 129 i0 _ 3 40 Tryz.underlying94 hi0 hi1 hi2 hi3 rfl (by omega) none 0 0 [] rfl (Ow.nil_ (Below.refl _ _)) (cutA A c 0 3) k _ (ens (l.take k)) rfl SK9.out (one_ens _) q1 q2 ?_; intro A3 c3 w3 hO3 hg3 hat3; rw [Nat.zero_add, List.nil_append] at hO3; have re3 := (HE9.out.step hO3.2).cell))
    | (at_builtin; refine wpList_append_sl _ rfl (.tmp 43) (.tmp 45) _ rfl w9 129 i0 _ 3 40 Tryz.underlying94 hi0 hi1 hi2 hi3 rfl (by omega) A3 k c3 (ens (l.take k)) rfl (hO3.alloc _) (some ⟨w3.heap.size, 0, none⟩) 1 _ (ens [(xp, xd, xi)]) rfl (sl_one3 w3 _ (xp, xd, xi)) (one_ens _) q3 q4 ?_; intro A4 c4 w4 hO4 hg4 hat4)
    | (at_builtin; refine wpList_append_sl _ rfl (.tmp 47) (.tmp 50) _ rfl w9 129 i0 _ 3 40 Tryz.underlying94 hi0 hi1 hi2 hi3 rfl (by omega) A4 (k + 1) c4 (ens (l.take k) ++ ens [(xp, xd, xi)]) rfl hO4 XI nI _ (ens (l.drop k)) rfl (SI9.out.below hO4.2) (one_ens _) q5 q6 ?_; intro A5 c5 w5 hO5 hg5 hat5))
   have hO6 : Ow w w5 129 3 A5 (k + 1 + nI) c5 (ens (insT l (xp, xd, xi))) := by
    rw [HX.out, ← List.singleton_append, ens_append, ens_append, ← List.append_assoc]
    exact hO5.since B9.out
   have HO6 := Lib.hid hO6
   clear hO6
   go_ret
   exact ⟨_, _, _, rfl, HO6.out.since H0.out, HO6.out.2⟩
end Go.Proofs.YtcednfmkiaelnaaGreatDoor
