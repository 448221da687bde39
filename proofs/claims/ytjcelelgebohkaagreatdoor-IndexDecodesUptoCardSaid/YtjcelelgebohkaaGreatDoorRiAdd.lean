/-
  The document's index: add (an entry in its place), Set. Conditions: paths are shorter than 2147483648 bytes; no more than 1000000 entries.
-/
import Derived.Test.YtjcelelgebohkaaGreatDoorRiDrop
import Derived.BigQuiet
namespace Go.Proofs.YtjcelelgebohkaaGreatDoor
open Go.RowKit
open PathLaw (under)
open IdxLaw (Ent Key zE ltE)

theorem while_cut {α : Type} {p : α → Bool} : ∀ {l : List α} {k : Nat}, (∀ e ∈ l.take k, p e = true) → (∀ e, l[k]? = some e → p e = false) → l.takeWhile p = l.take k ∧ l.dropWhile p = l.drop k
  | [], k, _, _ => by simp
  | a :: t, 0, _, h => by
    have := h a rfl
    simp [this]
  | a :: t, k + 1, h1, h2 => by
    have ha := h1 a (by simp)
    have ih := while_cut (l := t) (k := k) (fun e he => h1 e (by simp [he])) (fun e he => h2 e (by simpa using he))
    simp [ha, ih.1, ih.2]
theorem Sl.top {w : World} {sz : Nat} {A : Option Addr} {n k : Nat} {xs : List Value} (h : Sl w sz A n xs) (hk : k ≤ n) : Sl w sz A k (xs.take (k * sz)) := by
  have hm : k * sz ≤ n * sz := Nat.mul_le_mul_right _ hk
  refine ⟨by rw [List.length_take, h.1]; omega, fun hn => ?_⟩
  obtain ⟨b, off, e, hb, hc⟩ := h.2 (by omega)
  exact ⟨b, off, e, hb, fun j hj => by rw [hc j (by omega), List.getElem?_take, if_pos hj]⟩
theorem ents_cut : ∀ (l : List Ent) (k : Nat), (ents l).drop (k * 5) = ents (l.drop k) ∧ (ents l).take (k * 5) = ents (l.take k)
  | l, 0 => by simp [ents]
  | [], k + 1 => by simp [ents]
  | a :: t, k + 1 => by
    obtain ⟨h1, h2⟩ := ents_cut t k
    have e : (k + 1) * 5 = k * 5 + 1 + 1 + 1 + 1 + 1 := by omega
    have e0 : ∀ r, ents (a :: r) = S a.path :: I a.stage :: S a.id :: I a.size :: I a.stamp :: ents r := fun r => by simp [ents, entC]
    rw [e, e0]
    simp only [List.drop_succ_cons, List.take_succ_cons]
    rw [e0, h2]
    exact ⟨h1, rfl⟩
theorem Tryz.sizeREnt (w : World) : (Go.sizeOf 32).run Tryz.prog w = .ok 5 w := by kernel_rfl
/-- an entry in its place -/
def insE (x : Ent) (l : List Ent) : List Ent := l.takeWhile (fun y => ltE y x) ++ x :: l.dropWhile (fun y => ltE y x)
theorem insE_at {x : Ent} {l : List Ent} {k : Nat} (h1 : ∀ e ∈ l.take k, ltE e x = true) (h2 : ∀ e, l[k]? = some e → ltE e x = false) : insE x l = l.take k ++ x :: l.drop k := by
  obtain ⟨a, b⟩ := while_cut (p := fun y => ltE y x) h1 h2
  unfold insE
  rw [a, b]
theorem insE_perm (x : Ent) (l : List Ent) : (insE x l).Perm (x :: l) := by
  unfold insE
  refine List.perm_middle.trans ?_
  rw [List.takeWhile_append_dropWhile]
theorem lt_yes {y x : Ent} (h : y.path < x.path ∨ (y.path = x.path ∧ y.stage < x.stage)) : ltE y x = true := IdxLaw.ltE_iff.2 h
theorem lt_no {y x : Ent} (h : ¬ (y.path < x.path ∨ (y.path = x.path ∧ y.stage < x.stage))) : ltE y x = false := by
  cases e : ltE y x with
  | false => rfl
  | true => exact absurd (IdxLaw.ltE_iff.1 e) h
theorem all_more {l : List Ent} {k : Nat} {x y : Ent} (h : ∀ e ∈ l.take k, ltE e x = true) (hy : l[k]? = some y) (hl : ltE y x = true) : ∀ e ∈ l.take (k + 1), ltE e x = true := by
  intro e he
  rw [List.take_add_one, hy] at he
  simp only [Option.toList_some, List.mem_append, List.mem_singleton] at he
  rcases he with he | rfl
  · exact h e he
  · exact hl

set_option maxRecDepth 100000 in
set_option maxHeartbeats 8000000 in
theorem radd_any (E : Nat → Prop) (w : World) (q : Nat) (l : List Ent) (x : Ent) (hR : RIx E w q l) (hn : l.length ≤ 1000000) :
    Calls Tryz.prog 64 #[.pointer (some ⟨q, 0, none⟩), entV x] w fun e w' => e = .returned (.tuple #[]) ∧ RIx E w' q (insE x l) ∧ Fr (fun k => k = q) w w' := by
  obtain ⟨i0, hi0, hi1, hi2, hi3⟩ := info_parts Tryz.infoREnt
  have HR := Lib.hid hR
  obtain ⟨_, _, A, c, hB, hc, hS⟩ := hR
  have HB := Lib.hid (hB.alloc (.cells #[S x.path, I x.stage, S x.id, I x.size, I x.stamp] 32))
  have HS := Lib.hid (hS.1.alloc (.cells #[S x.path, I x.stage, S x.id, I x.size, I x.stamp] 32))
  have HE := Lib.hid (Blk.new w 32 #[S x.path, I x.stage, S x.id, I x.size, I x.stamp])
  have B1 := Lib.hid (balloc (Below.refl _ w) (.cells #[S x.path, I x.stage, S x.id, I x.size, I x.stamp] 32))
  have HI : Hid (∀ k, (∀ e ∈ l.take k, ltE e x = true) → (∀ e, l[k]? = some e → ltE e x = false) → insE x l = l.take k ++ x :: l.drop k) := Lib.hid (fun k h1 h2 => insE_at h1 h2)
  clear hB hS
  obtain ⟨xp, xs, xi, xz, xt⟩ := x
  simp only at HB HS HE B1
  go_enter Tryz.func64, Tryz.ntmps64
  obtain ⟨w1, hw1⟩ : ∃ w1, w1 = w.alloc (.cells #[S xp, I xs, S xi, I xz, I xt] 32) := ⟨_, rfl⟩
  obtain ⟨g, hg⟩ : ∃ g, g = w.heap.size := ⟨_, rfl⟩
  go_wp2
  rw [← hw1] at HB HS HE B1
  rw [← hg] at HE
  simp only [← hw1]
  simp only [← hg]
  clear hw1 hg
  have rb := HB.out.cell
  have re := HE.out.cell
  go_loopw [4] (fun i wr => ∃ (k m : Nat), k ≤ l.length ∧ i = .int .i64 k ∧ wr = w1.drewN m ∧ Hid (∀ e ∈ l.take k, ltE e ⟨xp, xs, xi, xz, xt⟩ = true)) (fun i _ => l.length - (intOf i).toNat)
  case atStart => exact ⟨0, 0, Nat.zero_le _, rfl, rfl, Lib.hid (fun e he => by simp at he)⟩
  case round =>
    obtain ⟨k, mm, hk, rfl, rfl, HK⟩ := hrel
    by_cases hki : k < l.length
    · obtain ⟨b, off, y, rfl, _, hy, y0, y1, y2, y3, y4⟩ := HS.out.ent hki
      have Hy := Lib.hid hy
      clear hy y2 y3 y4
      obtain ⟨yp, ys, yi, yz, yt⟩ := y
      by_cases h1 : yp < xp
      · have HK2 := Lib.hid (all_more HK.out Hy.out (lt_yes (.inl h1)))
        have d1 : Op.bytesLess yp xp = true := by rw [Go.Proofs.bytesLess_eq]; exact decide_eq_true h1
        clear HK h1
        go_wp2
        go_quiet (fail)
        go_wp2
        go_roundw
        case rel => exact ⟨k + 1, _, by omega, by go_num, rfl, HK2⟩
        case measure => simp [intOf]; omega
      · have d1 : Op.bytesLess yp xp = false := by rw [Go.Proofs.bytesLess_eq]; exact decide_eq_false h1
        by_cases h2 : yp = xp
        · have d2 : (yp == xp) = true := beq_iff_eq.2 h2
          by_cases h3 : ys < xs
          · have HK2 := Lib.hid (all_more HK.out Hy.out (lt_yes (.inr ⟨h2, h3⟩)))
            have d3 : decide (ys < xs) = true := decide_eq_true h3
            clear HK h1 h2 h3
            go_wp2
            go_quiet (fail)
            go_wp2
            go_roundw
            case rel => exact ⟨k + 1, _, by omega, by go_num, rfl, HK2⟩
            case measure => simp [intOf]; omega
          · have HN := Lib.hid (HI.out k HK.out (fun e he => by
              rw [Hy.out] at he
              cases he
              exact lt_no (by rintro (h | ⟨_, h⟩); exact h1 h; exact h3 h)))
            have d3 : decide (ys < xs) = false := decide_eq_false h3
            clear HK h1 h2 h3
            have sK := HS.out.top hk
            have sI := HS.out.cut (l := k) (r := l.length) (c := c) hk (Nat.le_refl _) hc
            rw [(ents_cut l k).2] at sK
            rw [(ents_cut l k).1, List.take_of_length_le (by rw [ents_len, List.length_drop]; exact Nat.le_refl _)] at sI
            have kL := fun W : World => run_cut_l (P := Tryz.prog) W Tryz.underlying27 Tryz.sizeREnt (some ⟨b, off, none⟩) l.length c .i64 k hk
            obtain ⟨XI, hXI⟩ : ∃ X, cutA (some ⟨b, off, none⟩) c k 5 = X := ⟨_, rfl⟩
            obtain ⟨nI, hnI⟩ : ∃ nI, l.length - k = nI := ⟨_, rfl⟩
            rw [hXI, hnI] at kL sI
            have SK := Lib.hid sK
            have SI := Lib.hid sI
            have q1 : 0 + k ≤ maxLen := by simp only [maxLen]; omega
            have q2 : (0 + k) * 56 ≤ 140737488355328 := by omega
            have q3 : k + 1 ≤ maxLen := by simp only [maxLen]; omega
            have q4 : (k + 1) * 56 ≤ 140737488355328 := by omega
            have q5 : k + 1 + nI ≤ maxLen := by simp only [maxLen]; omega
            have q6 : (k + 1 + nI) * 56 ≤ 140737488355328 := by omega
            clear sK sI hXI hnI
            go_wp2
            go_quiet (fail)
            obtain ⟨w9, hw9⟩ : ∃ w9, (w1.drewN mm).drewN nq = w9 := ⟨_, rfl⟩
            have b9 : Below w1.heap.size w1 w9 := by rw [← hw9]; exact below_drewN (below_drewN (Below.refl _ _) _) _
            rw [hw9]
            have SK9 := Lib.hid (SK.out.below b9)
            have SI9 := Lib.hid (SI.out.below b9)
            have HB9 := Lib.hid (HB.out.step b9)
            have HE9 := Lib.hid (HE.out.step b9)
            have B9 := Lib.hid (bstep B1.out b9)
            have rb9 := HB9.out.cell
            clear hw9 b9 rb re
            go_wp2_with (first
              | (at_builtin; refine wpList_append_sl _ rfl (.tmp 54) (.tmp 60) _ rfl w9 32 i0 _ 5 56 Tryz.underlying27 hi0 hi1 hi2 hi3 rfl (by omega) none 0 0 [] rfl (Ow.nil_ (Below.refl _ _)) (some ⟨b, off, none⟩) k _ (ents (l.take k)) rfl SK9.out (one_ents _) q1 q2 ?_; intro A3 c3 w3 hO3 hg3 hat3; rw [Nat.zero_add, List.nil_append] at hO3; have re3 := (HE9.out.step hO3.2).cell)
              | (at_builtin; refine wpList_append_sl _ rfl (.tmp 62) (.tmp 64) _ rfl w9 32 i0 _ 5 56 Tryz.underlying27 hi0 hi1 hi2 hi3 rfl (by omega) A3 k c3 (ents (l.take k)) rfl (hO3.alloc _) (some ⟨w3.heap.size, 0, none⟩) 1 _ (ents [⟨xp, xs, xi, xz, xt⟩]) rfl (sl_ent w3 _ ⟨xp, xs, xi, xz, xt⟩) (one_ents _) q3 q4 ?_; intro A4 c4 w4 hO4 hg4 hat4; have rb4 := (HB9.out.step hO4.2).cell)
              | (at_builtin; refine wpList_append_sl _ rfl (.tmp 67) (.tmp 73) _ rfl w9 32 i0 _ 5 56 Tryz.underlying27 hi0 hi1 hi2 hi3 rfl (by omega) A4 (k + 1) c4 (ents (l.take k) ++ ents [⟨xp, xs, xi, xz, xt⟩]) rfl hO4 XI nI _ (ents (l.drop k)) rfl (SI9.out.below hO4.2) (one_ents _) q5 q6 ?_; intro A5 c5 w5 hO5 hg5 hat5; have rb5 := (HB9.out.step hO5.2).cell; have rf5 := (HB9.out.step hO5.2).frozen))
            have hO6 : Ow w w5 32 5 A5 (k + 1 + nI) c5 (ents (insE ⟨xp, xs, xi, xz, xt⟩ l)) := by
              rw [HN.out, ← List.singleton_append, ents_append, ents_append, ← List.append_assoc]
              exact hO5.since B9.out
            have HO6 := Lib.hid hO6
            clear hO6
            go_end0
            exact ⟨rfl, HR.out.put HO6.out, fr_put HO6.out q _⟩
        · have HN := Lib.hid (HI.out k HK.out (fun e he => by
            rw [Hy.out] at he
            cases he
            exact lt_no (by rintro (h | ⟨h, _⟩); exact h1 h; exact h2 h)))
          have d2 : (yp == xp) = false := beq_eq_false_iff_ne.2 h2
          clear HK h1 h2
          have sK := HS.out.top hk
          have sI := HS.out.cut (l := k) (r := l.length) (c := c) hk (Nat.le_refl _) hc
          rw [(ents_cut l k).2] at sK
          rw [(ents_cut l k).1, List.take_of_length_le (by rw [ents_len, List.length_drop]; exact Nat.le_refl _)] at sI
          have kL := fun W : World => run_cut_l (P := Tryz.prog) W Tryz.underlying27 Tryz.sizeREnt (some ⟨b, off, none⟩) l.length c .i64 k hk
          obtain ⟨XI, hXI⟩ : ∃ X, cutA (some ⟨b, off, none⟩) c k 5 = X := ⟨_, rfl⟩
          obtain ⟨nI, hnI⟩ : ∃ nI, l.length - k = nI := ⟨_, rfl⟩
          rw [hXI, hnI] at kL sI
          have SK := Lib.hid sK
          have SI := Lib.hid sI
          have q1 : 0 + k ≤ maxLen := by simp only [maxLen]; omega
          have q2 : (0 + k) * 56 ≤ 140737488355328 := by omega
          have q3 : k + 1 ≤ maxLen := by simp only [maxLen]; omega
          have q4 : (k + 1) * 56 ≤ 140737488355328 := by omega
          have q5 : k + 1 + nI ≤ maxLen := by simp only [maxLen]; omega
          have q6 : (k + 1 + nI) * 56 ≤ 140737488355328 := by omega
          clear sK sI hXI hnI
          go_wp2
          go_quiet (fail)
          obtain ⟨w9, hw9⟩ : ∃ w9, (w1.drewN mm).drewN nq = w9 := ⟨_, rfl⟩
          have b9 : Below w1.heap.size w1 w9 := by rw [← hw9]; exact below_drewN (below_drewN (Below.refl _ _) _) _
          rw [hw9]
          have SK9 := Lib.hid (SK.out.below b9)
          have SI9 := Lib.hid (SI.out.below b9)
          have HB9 := Lib.hid (HB.out.step b9)
          have HE9 := Lib.hid (HE.out.step b9)
          have B9 := Lib.hid (bstep B1.out b9)
          have rb9 := HB9.out.cell
          clear hw9 b9 rb re
          go_wp2_with (first
            | (at_builtin; refine wpList_append_sl _ rfl (.tmp 54) (.tmp 60) _ rfl w9 32 i0 _ 5 56 Tryz.underlying27 hi0 hi1 hi2 hi3 rfl (by omega) none 0 0 [] rfl (Ow.nil_ (Below.refl _ _)) (some ⟨b, off, none⟩) k _ (ents (l.take k)) rfl SK9.out (one_ents _) q1 q2 ?_; intro A3 c3 w3 hO3 hg3 hat3; rw [Nat.zero_add, List.nil_append] at hO3; have re3 := (HE9.out.step hO3.2).cell)
            | (at_builtin; refine wpList_append_sl _ rfl (.tmp 62) (.tmp 64) _ rfl w9 32 i0 _ 5 56 Tryz.underlying27 hi0 hi1 hi2 hi3 rfl (by omega) A3 k c3 (ents (l.take k)) rfl (hO3.alloc _) (some ⟨w3.heap.size, 0, none⟩) 1 _ (ents [⟨xp, xs, xi, xz, xt⟩]) rfl (sl_ent w3 _ ⟨xp, xs, xi, xz, xt⟩) (one_ents _) q3 q4 ?_; intro A4 c4 w4 hO4 hg4 hat4; have rb4 := (HB9.out.step hO4.2).cell)
            | (at_builtin; refine wpList_append_sl _ rfl (.tmp 67) (.tmp 73) _ rfl w9 32 i0 _ 5 56 Tryz.underlying27 hi0 hi1 hi2 hi3 rfl (by omega) A4 (k + 1) c4 (ents (l.take k) ++ ents [⟨xp, xs, xi, xz, xt⟩]) rfl hO4 XI nI _ (ents (l.drop k)) rfl (SI9.out.below hO4.2) (one_ents _) q5 q6 ?_; intro A5 c5 w5 hO5 hg5 hat5; have rb5 := (HB9.out.step hO5.2).cell; have rf5 := (HB9.out.step hO5.2).frozen))
          have hO6 : Ow w w5 32 5 A5 (k + 1 + nI) c5 (ents (insE ⟨xp, xs, xi, xz, xt⟩ l)) := by
            rw [HN.out, ← List.singleton_append, ents_append, ents_append, ← List.append_assoc]
            exact hO5.since B9.out
          have HO6 := Lib.hid hO6
          clear hO6
          go_end0
          exact ⟨rfl, HR.out.put HO6.out, fr_put HO6.out q _⟩
    · have HN := Lib.hid (HI.out k HK.out (fun e he => by rw [List.getElem?_eq_none (by omega)] at he; cases he))
      have d0 : decide (k < l.length) = false := decide_eq_false hki
      clear HK
      have sK := HS.out.top hk
      have sI := HS.out.cut (l := k) (r := l.length) (c := c) hk (Nat.le_refl _) hc
      rw [(ents_cut l k).2] at sK
      rw [(ents_cut l k).1, List.take_of_length_le (by rw [ents_len, List.length_drop]; exact Nat.le_refl _)] at sI
      have kL := fun W : World => run_cut_l (P := Tryz.prog) W Tryz.underlying27 Tryz.sizeREnt (A) l.length c .i64 k hk
      obtain ⟨XI, hXI⟩ : ∃ X, cutA (A) c k 5 = X := ⟨_, rfl⟩
      obtain ⟨nI, hnI⟩ : ∃ nI, l.length - k = nI := ⟨_, rfl⟩
      rw [hXI, hnI] at kL sI
      have SK := Lib.hid sK
      have SI := Lib.hid sI
      have q1 : 0 + k ≤ maxLen := by simp only [maxLen]; omega
      have q2 : (0 + k) * 56 ≤ 140737488355328 := by omega
      have q3 : k + 1 ≤ maxLen := by simp only [maxLen]; omega
      have q4 : (k + 1) * 56 ≤ 140737488355328 := by omega
      have q5 : k + 1 + nI ≤ maxLen := by simp only [maxLen]; omega
      have q6 : (k + 1 + nI) * 56 ≤ 140737488355328 := by omega
      clear sK sI hXI hnI
      go_wp2
      go_quiet (fail)
      obtain ⟨w9, hw9⟩ : ∃ w9, (w1.drewN mm).drewN nq = w9 := ⟨_, rfl⟩
      have b9 : Below w1.heap.size w1 w9 := by rw [← hw9]; exact below_drewN (below_drewN (Below.refl _ _) _) _
      rw [hw9]
      have SK9 := Lib.hid (SK.out.below b9)
      have SI9 := Lib.hid (SI.out.below b9)
      have HB9 := Lib.hid (HB.out.step b9)
      have HE9 := Lib.hid (HE.out.step b9)
      have B9 := Lib.hid (bstep B1.out b9)
      have rb9 := HB9.out.cell
      clear hw9 b9 rb re
      go_wp2_with (first
        | (at_builtin; refine wpList_append_sl _ rfl (.tmp 54) (.tmp 60) _ rfl w9 32 i0 _ 5 56 Tryz.underlying27 hi0 hi1 hi2 hi3 rfl (by omega) none 0 0 [] rfl (Ow.nil_ (Below.refl _ _)) (A) k _ (ents (l.take k)) rfl SK9.out (one_ents _) q1 q2 ?_; intro A3 c3 w3 hO3 hg3 hat3; rw [Nat.zero_add, List.nil_append] at hO3; have re3 := (HE9.out.step hO3.2).cell)
        | (at_builtin; refine wpList_append_sl _ rfl (.tmp 62) (.tmp 64) _ rfl w9 32 i0 _ 5 56 Tryz.underlying27 hi0 hi1 hi2 hi3 rfl (by omega) A3 k c3 (ents (l.take k)) rfl (hO3.alloc _) (some ⟨w3.heap.size, 0, none⟩) 1 _ (ents [⟨xp, xs, xi, xz, xt⟩]) rfl (sl_ent w3 _ ⟨xp, xs, xi, xz, xt⟩) (one_ents _) q3 q4 ?_; intro A4 c4 w4 hO4 hg4 hat4; have rb4 := (HB9.out.step hO4.2).cell)
        | (at_builtin; refine wpList_append_sl _ rfl (.tmp 67) (.tmp 73) _ rfl w9 32 i0 _ 5 56 Tryz.underlying27 hi0 hi1 hi2 hi3 rfl (by omega) A4 (k + 1) c4 (ents (l.take k) ++ ents [⟨xp, xs, xi, xz, xt⟩]) rfl hO4 XI nI _ (ents (l.drop k)) rfl (SI9.out.below hO4.2) (one_ents _) q5 q6 ?_; intro A5 c5 w5 hO5 hg5 hat5; have rb5 := (HB9.out.step hO5.2).cell; have rf5 := (HB9.out.step hO5.2).frozen))
      have hO6 : Ow w w5 32 5 A5 (k + 1 + nI) c5 (ents (insE ⟨xp, xs, xi, xz, xt⟩ l)) := by
        rw [HN.out, ← List.singleton_append, ents_append, ents_append, ← List.append_assoc]
        exact hO5.since B9.out
      have HO6 := Lib.hid hO6
      clear hO6
      go_end0
      exact ⟨rfl, HR.out.put HO6.out, fr_put HO6.out q _⟩
end Go.Proofs.YtjcelelgebohkaaGreatDoor
