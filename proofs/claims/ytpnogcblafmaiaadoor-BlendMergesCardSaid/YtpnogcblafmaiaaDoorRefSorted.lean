/-
  dolmenref17.sorted. Conditions: slices of regions read as lists.
-/
import Derived.Test.YtpnogcblafmaiaaDoorRefRegion
namespace Go.Proofs.YtpnogcblafmaiaaDoor
open Go.RowKit
open BlendLaw (Rg insRg sortRg)

/-- put in by where it begins -/
def insP (x : Nat × Rg) (out : List (Nat × Rg)) : List (Nat × Rg) := out.takeWhile (fun r => decide (r.2.lo < x.2.lo)) ++ x :: out.dropWhile (fun r => decide (r.2.lo < x.2.lo))
def sortP (out : List (Nat × Rg)) : List (Nat × Rg) → List (Nat × Rg)
  | [] => out
  | x :: t => sortP (insP x out) t
theorem insP_map (x : Nat × Rg) (out : List (Nat × Rg)) : (insP x out).map (·.2) = insRg x.2 (out.map (·.2)) := by
  unfold insP insRg
  rw [List.map_append, List.map_cons, List.takeWhile_map, List.dropWhile_map]
  rfl
theorem sortP_map : ∀ (L out : List (Nat × Rg)), (sortP out L).map (·.2) = sortRg (out.map (·.2)) (L.map (·.2))
  | [], out => rfl
  | x :: t, out => by rw [sortP, sortP_map, insP_map]; rfl
theorem sortP_snoc (x : Nat × Rg) : ∀ (L out : List (Nat × Rg)), sortP out (L ++ [x]) = insP x (sortP out L)
  | [], out => rfl
  | y :: t, out => by rw [List.cons_append, sortP, sortP_snoc, sortP]
theorem insP_len (x : Nat × Rg) (out : List (Nat × Rg)) : (insP x out).length = out.length + 1 := by
  unfold insP
  have h := congrArg List.length (List.takeWhile_append_dropWhile (p := fun r : Nat × Rg => decide (r.2.lo < x.2.lo)) (l := out))
  simp only [List.length_append, List.length_cons] at h ⊢
  omega
theorem insP_mem {x e : Nat × Rg} {out : List (Nat × Rg)} (h : e ∈ insP x out) : e = x ∨ e ∈ out := by
  unfold insP at h
  have h2 := List.takeWhile_append_dropWhile (p := fun r : Nat × Rg => decide (r.2.lo < x.2.lo)) (l := out)
  rcases List.mem_append.1 h with h | h
  · exact Or.inr (h2 ▸ List.mem_append.2 (Or.inl h))
  · rcases List.mem_cons.1 h with rfl | h
    · exact Or.inl rfl
    · exact Or.inr (h2 ▸ List.mem_append.2 (Or.inr h))
theorem while_at {α : Type} {p : α → Bool} : ∀ {l : List α} {k : Nat}, (∀ e ∈ l.take k, p e = true) → (∀ e, l[k]? = some e → p e = false) → l.takeWhile p = l.take k ∧ l.dropWhile p = l.drop k
  | [], k, _, _ => by simp
  | a :: t, 0, _, h => by
    have := h a rfl
    simp [this]
  | a :: t, k + 1, h1, h2 => by
    have ha := h1 a (by simp)
    have ih := while_at (l := t) (k := k) (fun e he => h1 e (by simp [he])) (fun e he => h2 e (by simpa using he))
    simp [ha, ih.1, ih.2]
theorem Tryd.infoRg : (Tryd.prog.info? 81).map (fun i => (i.zero, i.size, i.bytes)) = some (some (.agg #[I 0, I 0, .slice none 0 0]), 3, 40) := by kernel_rfl
theorem Tryd.sizeRg (w : World) : (sizeOf 81).run Tryd.prog w = .ok 3 w := by kernel_rfl
theorem rqs_cut {L : List (Nat × Rg)} : ∀ (k : Nat), (rqs L).drop (k * 3) = rqs (L.drop k) ∧ (rqs L).take (k * 3) = rqs (L.take k) := by
  induction L with
  | nil => intro k; simp [rqs]
  | cons a t ih =>
    intro k
    cases k with
    | zero => simp [rqs]
    | succ k =>
      obtain ⟨h1, h2⟩ := ih k
      have e : (k + 1) * 3 = k * 3 + 1 + 1 + 1 := by omega
      have e0 : rqs (a :: t) = I a.2.lo :: I a.2.hi :: .slice (some ⟨a.1, 0, none⟩) 2 2 :: rqs t := by simp [rqs, rqc]
      have e1 : rqs (a :: t.take k) = I a.2.lo :: I a.2.hi :: .slice (some ⟨a.1, 0, none⟩) 2 2 :: rqs (t.take k) := by simp [rqs, rqc]
      rw [e, e0]
      simp only [List.drop_succ_cons, List.take_succ_cons]
      rw [e1, h2]
      exact ⟨h1, rfl⟩
/-- one region in a block of its own, as 'append(l, x)' lays it -/
theorem sl_rq (w : World) (t : TypeId) (e : Nat × Rg) : Sl (w.alloc (.cells #[I e.2.lo, I e.2.hi, .slice (some ⟨e.1, 0, none⟩) 2 2] t)) 3 (some ⟨w.heap.size, 0, none⟩) 1 (rqs [e]) := by
  refine ⟨by simp [rqs, rqc], fun _ => ⟨_, _, rfl, by simp, fun k hk => ?_⟩⟩
  have h := (Blk.new w t #[I e.2.lo, I e.2.hi, .slice (some ⟨e.1, 0, none⟩) 2 2]).cell k
  rw [Nat.zero_add, h, rqs_one]
  simp [rqc]

theorem Sl.top {w : World} {sz : Nat} {A : Option Addr} {n k : Nat} {xs : List Value} (h : Sl w sz A n xs) (hk : k ≤ n) : Sl w sz A k (xs.take (k * sz)) := by
  have hm : k * sz ≤ n * sz := Nat.mul_le_mul_right _ hk
  refine ⟨by rw [List.length_take, h.1]; omega, fun hn => ?_⟩
  obtain ⟨b, off, e, hb, hc⟩ := h.2 (by omega)
  exact ⟨b, off, e, hb, fun j hj => by rw [hc j (by omega), List.getElem?_take, if_pos hj]⟩

set_option maxHeartbeats 2000000 in
set_option maxRecDepth 100000 in
theorem sorted_any (A : Option Addr) (n c : Nat) (L : List (Nat × Rg)) (w : World) (hA : RQ w A n L) (hn : n ≤ 100000) :
    Calls Tryd.prog 60 #[.slice A n c] w fun e w' => ∃ A' c', e = .returned (.slice A' n c') ∧ RQ w' A' n (sortP [] L) ∧ n ≤ c' ∧ Below w.heap.size w w' := by
  obtain ⟨i0, hi0, hi1, hi2, hi3⟩ := info_parts Tryd.infoRg
  have HA := Lib.hid hA
  have Hlen := Lib.hid hA.len
  clear hA
  go_enter Tryd.func60, Tryd.ntmps60
  go_wp2
  go_loopw [3, 4] (fun s3 s4 wr => ∃ (i : Nat) (Ao : Option Addr) (co : Nat), i ≤ n ∧ s4 = .int .i64 i ∧ s3 = .slice Ao i co ∧ i ≤ co ∧ co ≤ maxLen ∧ Hid (Below w.heap.size w wr) ∧ Hid (RQ wr Ao i (sortP [] (L.take i)))) (fun _ s4 _ => n - (intOf s4).toNat)
  case atStart => exact ⟨0, none, 0, Nat.zero_le _, rfl, rfl, Nat.le_refl _, Nat.zero_le _, Lib.hid (Below.refl _ _), Lib.hid (by rw [List.take_zero]; exact RQ.nil_)⟩
  case round =>
    obtain ⟨i, Ao, co, hi, rfl, rfl, hico, hcm, HB, HO⟩ := hrel
    simp only [maxLen] at hcm
    by_cases hlt : i < n
    · obtain ⟨out, hout⟩ : ∃ out, sortP [] (L.take i) = out := ⟨_, rfl⟩
      rw [hout] at HO
      have hQ := HA.out.step HB.out
      obtain ⟨b, off, x, rfl, hb, hx, x0, x1, x2⟩ := hQ.at_ hlt
      have HX := Lib.hid (show ∀ w', Below wr.heap.size wr w' → w'.cell? ⟨b, off + i * 3, none⟩ = some (I x.2.lo) ∧ w'.cell? ⟨b, off + i * 3 + 1, none⟩ = some (I x.2.hi) ∧ w'.cell? ⟨b, off + i * 3 + 2, none⟩ = some (.slice (some ⟨x.1, 0, none⟩) 2 2) ∧ b < w'.heap.size from
        fun w' h => ⟨(h.cell (p := ⟨b, off + i * 3, none⟩) hb).trans x0, (h.cell (p := ⟨b, off + i * 3 + 1, none⟩) hb).trans x1, (h.cell (p := ⟨b, off + i * 3 + 2, none⟩) hb).trans x2, Nat.lt_of_lt_of_le hb h.size⟩)
      have Hx := Lib.hid hx
      have Hout := Lib.hid hout
      have HXb := Lib.hid (hQ.bl x (List.mem_of_getElem? hx))
      clear hx hout hQ
      go_wp2
      go_loopw [5] (fun s5 wr' => ∃ (k m : Nat), k ≤ i ∧ s5 = .int .i64 k ∧ wr' = wr.drewN m ∧ Hid (∀ e ∈ out.take k, e.2.lo < x.2.lo)) (fun s5 _ => i - (intOf s5).toNat)
      case atStart => exact ⟨0, 0, Nat.zero_le _, rfl, rfl, Lib.hid (fun e he => by simp at he)⟩
      case round =>
        obtain ⟨k, mm, hk, rfl, rfl, HK⟩ := hrel
        have hstop : (∃ y, out[k]? = some y ∧ k < i ∧ y.2.lo < x.2.lo) ∨ ((i ≤ k ∨ ∃ y, out[k]? = some y ∧ k < i ∧ ¬ y.2.lo < x.2.lo)) := by
          by_cases hki : k < i
          · have hl := HO.out.len
            by_cases hy : (out[k]'(by omega)).2.lo < x.2.lo
            · exact .inl ⟨_, List.getElem?_eq_getElem _, hki, hy⟩
            · exact .inr (.inr ⟨_, List.getElem?_eq_getElem _, hki, hy⟩)
          · exact .inr (.inl (by omega))
        rcases hstop with ⟨y, hy, hki, hlo⟩ | hstop
        · obtain ⟨b', off', y', rfl, hb', hy', y0, y1, y2⟩ := HO.out.at_ hki
          obtain rfl : y' = y := Option.some.inj (hy'.symm.trans hy)
          have d1 : decide (y'.2.lo < x.2.lo) = true := decide_eq_true hlo
          obtain ⟨z0, z1, z2, z3⟩ := HX.out wr (Below.refl _ _)
          have Hy := Lib.hid hy
          have Hlo := Lib.hid hlo
          clear hy hy' hlo
          go_wp2
          go_quiet (fail)
          go_wp2
          go_roundw
          case rel =>
            refine ⟨k + 1, _, by omega, by go_num, rfl, Lib.hid (fun e he => ?_)⟩
            rw [List.take_add_one, Hy.out] at he
            simp only [Option.toList_some, List.mem_append, List.mem_singleton] at he
            rcases he with he | rfl
            · exact HK.out e he
            · exact Hlo.out
          case measure => simp [intOf]; omega
        · have hwh := while_at (p := fun r : Nat × Rg => decide (r.2.lo < x.2.lo)) (l := out) (k := k) (fun e he => decide_eq_true (HK.out e he)) (fun e he => by
            rcases hstop with h | ⟨y, hy, _, hlo⟩
            · have hl := HO.out.len
              rw [List.getElem?_eq_none (by omega)] at he; cases he
            · rw [hy] at he
              cases he
              exact decide_eq_false hlo)
          have hins : insP x out = out.take k ++ x :: out.drop k := by unfold insP; rw [hwh.1, hwh.2]
          have Hins := Lib.hid hins
          have sK := HO.out.sl.top hk
          have sI := HO.out.sl.cut (l := k) (r := i) (c := co) hk (Nat.le_refl _) hico
          rw [(rqs_cut k).2] at sK
          rw [(rqs_cut k).1, List.take_of_length_le (by rw [rqs_len, List.length_drop, HO.out.len]; exact Nat.le_refl _)] at sI
          have kL := fun W : World => run_cut_l (P := Tryd.prog) W Tryd.underlying77 Tryd.sizeRg Ao i co .i64 k hk
          obtain ⟨XI, hXI⟩ : ∃ X, cutA Ao co k 3 = X := ⟨_, rfl⟩
          obtain ⟨nI, hnI⟩ : ∃ nI, i - k = nI := ⟨_, rfl⟩
          rw [hXI, hnI] at kL sI
          have SK := Lib.hid sK
          have SI := Lib.hid sI
          have q1 : 0 + k ≤ maxLen := by simp only [maxLen]; omega
          have q2 : (0 + k) * 40 ≤ 140737488355328 := by omega
          have q3 : k + 1 ≤ maxLen := by simp only [maxLen]; omega
          have q4 : (k + 1) * 40 ≤ 140737488355328 := by omega
          have q5 : k + 1 + nI ≤ maxLen := by simp only [maxLen]; omega
          have q6 : (k + 1 + nI) * 40 ≤ 140737488355328 := by omega
          have HnI := Lib.hid hnI
          have hways : i ≤ k ∨ ∃ y, out[k]? = some y ∧ k < i ∧ decide (y.2.lo < x.2.lo) = false := by
            rcases hstop with h | ⟨y, hy, hki, hlo⟩
            · exact .inl h
            · exact .inr ⟨y, hy, hki, decide_eq_false hlo⟩
          clear hwh hins sK sI hXI hnI hstop HK
          rcases hways with hki | ⟨y, hy, hki, d1⟩
          · have d0 : decide (k < i) = false := by simp; omega
            obtain ⟨z0, z1, z2, z3⟩ := HX.out wr (Below.refl _ _)
            go_wp2
            go_quiet (fail)
            clear d0
            obtain ⟨w9, hw9⟩ : ∃ w9, (wr.drewN mm).drewN nq = w9 := ⟨_, rfl⟩
            have b9 : Below wr.heap.size wr w9 := by rw [← hw9]; exact below_drewN (below_drewN (Below.refl _ _) _) _
            rw [hw9]
            have SK9 := Lib.hid (SK.out.below b9)
            have SI9 := Lib.hid (SI.out.below b9)
            have B9 := Lib.hid b9
            clear hw9 b9 z0 z1 z2 z3
            go_wp2_with (first
              | (at_builtin; refine wpList_append_sl _ rfl (.tmp 32) (.tmp 35) _ rfl w9 81 i0 _ 3 40 Tryd.underlying77 hi0 hi1 hi2 hi3 rfl (by omega) none 0 0 [] rfl (Ow.nil_ (Below.refl _ _)) Ao k _ (rqs (out.take k)) rfl SK9.out (one_rqs _) q1 q2 ?_; intro A3 c3 w3 hO3 hg3 hat3; rw [Nat.zero_add, List.nil_append] at hO3; obtain ⟨u0, u1, u2, u3⟩ := HX.out w3 (bstep B9.out hO3.2))
              | (at_builtin; refine wpList_append_sl _ rfl (.tmp 37) (.tmp 42) _ rfl w9 81 i0 _ 3 40 Tryd.underlying77 hi0 hi1 hi2 hi3 rfl (by omega) A3 k c3 (rqs (out.take k)) rfl (hO3.alloc _) (some ⟨w3.heap.size, 0, none⟩) 1 _ (rqs [x]) rfl (sl_rq w3 _ x) (one_rqs _) q3 q4 ?_; intro A4 c4 w4 hO4 hg4 hat4)
              | (at_builtin; refine wpList_append_sl _ rfl (.tmp 44) (.tmp 47) _ rfl w9 81 i0 _ 3 40 Tryd.underlying77 hi0 hi1 hi2 hi3 rfl (by omega) A4 (k + 1) c4 (rqs (out.take k) ++ rqs [x]) rfl hO4 XI nI _ (rqs (out.drop k)) rfl (SI9.out.below hO4.2) (one_rqs _) q5 q6 ?_; intro A5 c5 w5 hO5 hg5 hat5))
            have hQ5 : RQ w5 A5 (i + 1) (insP x out) := by
              refine ⟨?_, fun e he => ?_⟩
              · have h := hO5.sl
                rw [show k + 1 + nI = i + 1 by have := HnI.out; omega, ← rqs_append, ← rqs_append, List.append_assoc, List.singleton_append, ← Hins.out] at h
                exact h
              · have hb5 := bstep B9.out hO5.2
                rcases insP_mem he with rfl | he
                · exact HXb.out.step hb5
                · exact (HO.out.bl e he).step hb5
            have hc5 := hO5.cap
            have HQ5 := Lib.hid hQ5
            have HB5 := Lib.hid (bstep HB.out (bstep B9.out hO5.2))
            have e5 : sortP [] (L.take (i + 1)) = insP x out := by rw [List.take_add_one, Hx.out, Option.toList_some, sortP_snoc, Hout.out]
            rw [← e5] at HQ5
            have e6 : k + 1 + nI = i + 1 := by have := HnI.out; omega
            go_roundw
            case rel => exact ⟨i + 1, A5, c5, by omega, by go_num, by rw [e6], by omega, by simp only [maxLen] at hc5 ⊢; omega, HB5, HQ5⟩
            case measure => simp [intOf]; omega
          · obtain ⟨b', off', y', rfl, hb', hy', y0, y1, y2⟩ := HO.out.at_ hki
            obtain rfl : y' = y := Option.some.inj (hy'.symm.trans hy)
            obtain ⟨z0, z1, z2, z3⟩ := HX.out wr (Below.refl _ _)
            clear hy hy'
            go_wp2
            go_quiet (fail)
            clear d1
            obtain ⟨w9, hw9⟩ : ∃ w9, (wr.drewN mm).drewN nq = w9 := ⟨_, rfl⟩
            have b9 : Below wr.heap.size wr w9 := by rw [← hw9]; exact below_drewN (below_drewN (Below.refl _ _) _) _
            rw [hw9]
            have SK9 := Lib.hid (SK.out.below b9)
            have SI9 := Lib.hid (SI.out.below b9)
            have B9 := Lib.hid b9
            clear y0 y1 y2 hb' hw9 b9 z0 z1 z2 z3
            go_wp2_with (first
              | (at_builtin; refine wpList_append_sl _ rfl (.tmp 32) (.tmp 35) _ rfl w9 81 i0 _ 3 40 Tryd.underlying77 hi0 hi1 hi2 hi3 rfl (by omega) none 0 0 [] rfl (Ow.nil_ (Below.refl _ _)) (some ⟨b', off', none⟩) k _ (rqs (out.take k)) rfl SK9.out (one_rqs _) q1 q2 ?_; intro A3 c3 w3 hO3 hg3 hat3; rw [Nat.zero_add, List.nil_append] at hO3; obtain ⟨u0, u1, u2, u3⟩ := HX.out w3 (bstep B9.out hO3.2))
              | (at_builtin; refine wpList_append_sl _ rfl (.tmp 37) (.tmp 42) _ rfl w9 81 i0 _ 3 40 Tryd.underlying77 hi0 hi1 hi2 hi3 rfl (by omega) A3 k c3 (rqs (out.take k)) rfl (hO3.alloc _) (some ⟨w3.heap.size, 0, none⟩) 1 _ (rqs [x]) rfl (sl_rq w3 _ x) (one_rqs _) q3 q4 ?_; intro A4 c4 w4 hO4 hg4 hat4)
              | (at_builtin; refine wpList_append_sl _ rfl (.tmp 44) (.tmp 47) _ rfl w9 81 i0 _ 3 40 Tryd.underlying77 hi0 hi1 hi2 hi3 rfl (by omega) A4 (k + 1) c4 (rqs (out.take k) ++ rqs [x]) rfl hO4 XI nI _ (rqs (out.drop k)) rfl (SI9.out.below hO4.2) (one_rqs _) q5 q6 ?_; intro A5 c5 w5 hO5 hg5 hat5))
            have hQ5 : RQ w5 A5 (i + 1) (insP x out) := by
              refine ⟨?_, fun e he => ?_⟩
              · have h := hO5.sl
                rw [show k + 1 + nI = i + 1 by have := HnI.out; omega, ← rqs_append, ← rqs_append, List.append_assoc, List.singleton_append, ← Hins.out] at h
                exact h
              · have hb5 := bstep B9.out hO5.2
                rcases insP_mem he with rfl | he
                · exact HXb.out.step hb5
                · exact (HO.out.bl e he).step hb5
            have hc5 := hO5.cap
            have HQ5 := Lib.hid hQ5
            have HB5 := Lib.hid (bstep HB.out (bstep B9.out hO5.2))
            have e5 : sortP [] (L.take (i + 1)) = insP x out := by rw [List.take_add_one, Hx.out, Option.toList_some, sortP_snoc, Hout.out]
            rw [← e5] at HQ5
            have e6 : k + 1 + nI = i + 1 := by have := HnI.out; omega
            go_roundw
            case rel => exact ⟨i + 1, A5, c5, by omega, by go_num, by rw [e6], by omega, by simp only [maxLen] at hc5 ⊢; omega, HB5, HQ5⟩
            case measure => simp [intOf]; omega
    · obtain rfl : i = n := by omega
      have hall : L.take i = L := List.take_of_length_le (by rw [Hlen.out]; exact Nat.le_refl _)
      rw [hall] at HO
      clear hall
      go_wp2
      go_ret
      exact ⟨Ao, co, rfl, HO.out, hico, HB.out⟩
end Go.Proofs.YtpnogcblafmaiaaDoor
