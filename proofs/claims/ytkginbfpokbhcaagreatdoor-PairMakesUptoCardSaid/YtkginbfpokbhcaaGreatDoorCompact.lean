/-
  slices.Compact, plain: behind one more element; its last one. No condition.
-/
import Derived.Lib.SlicesCompact
namespace Go.Proofs.YtkginbfpokbhcaaGreatDoor

section
variable {α : Type} [Inhabited α] [DecidableEq α]
theorem upTo_congr {d e : Array α} : ∀ (m : Nat), (∀ j, j < m → d[j]! = e[j]!) → Lib.compactUpTo d m = Lib.compactUpTo e m
  | 0, _ => rfl
  | m + 1, h => by
    rw [Lib.compactUpTo_succ, Lib.compactUpTo_succ, upTo_congr m (fun j hj => h j (by omega)), h m (by omega)]
    have : Lib.keeps d m = Lib.keeps e m := by
      unfold Lib.keeps
      rcases Nat.eq_zero_or_pos m with h0 | h0
      · subst h0; simp
      · rw [h m (by omega), h (m - 1) (by omega)]
    rw [this]
theorem compact_snoc (zs : List α) (x : α) : Lib.compact (zs ++ [x]) = Lib.compact zs ++ (if zs.getLast? = some x then [] else [x]) := by
  unfold Lib.compact
  have h1 : (zs ++ [x]).length = zs.length + 1 := by simp
  rw [h1, Lib.compactUpTo_succ]
  have h2 : Lib.compactUpTo (zs ++ [x]).toArray zs.length = Lib.compactUpTo zs.toArray zs.length := upTo_congr _ (fun j hj => by
    simp only [List.getElem!_toArray]
    rw [List.getElem!_eq_getElem?_getD, List.getElem!_eq_getElem?_getD, List.getElem?_append_left hj])
  have h3 : (zs ++ [x]).toArray[zs.length]! = x := by simp
  rw [h2, h3]
  congr 1
  rcases Nat.eq_zero_or_pos zs.length with h0 | h0
  · have hz : zs = [] := List.eq_nil_of_length_eq_zero h0
    subst hz
    simp [Lib.keeps]
  · have h4 : (zs ++ [x]).toArray[zs.length - 1]! = zs[zs.length - 1]'(by omega) := by
      simp only [List.getElem!_toArray]
      rw [List.getElem!_eq_getElem?_getD, List.getElem?_append_left (by omega), List.getElem?_eq_getElem (by omega)]
      rfl
    have h5 : zs.getLast? = some (zs[zs.length - 1]'(by omega)) := by rw [List.getLast?_eq_getElem?, List.getElem?_eq_getElem (by omega)]
    unfold Lib.keeps
    rw [h3, h4, h5]
    by_cases hx : zs[zs.length - 1]'(by omega) = x
    · rw [if_pos (congrArg some hx), if_neg]
      intro hd
      rcases of_decide_eq_true hd with h | h
      · omega
      · exact h hx.symm
    · rw [if_neg (fun e => hx (Option.some.inj e)), if_pos]
      exact decide_eq_true (.inr (fun e => hx e.symm))
theorem compact_last : ∀ (n : Nat) (zs : List α), zs.length = n → (Lib.compact zs).getLast? = zs.getLast?
  | 0, zs, h => by
    have hz : zs = [] := List.eq_nil_of_length_eq_zero h
    subst hz
    rfl
  | n + 1, zs, h => by
    have hne : zs ≠ [] := fun e => by rw [e] at h; cases h
    obtain ⟨ys, x, rfl⟩ : ∃ ys x, zs = ys ++ [x] := ⟨zs.dropLast, zs.getLast hne, (List.dropLast_concat_getLast hne).symm⟩
    rw [compact_snoc]
    by_cases hx : ys.getLast? = some x
    · rw [if_pos hx, List.append_nil, compact_last n ys (by simpa using h), hx]
      simp
    · rw [if_neg hx]
      simp
end
theorem compact_nil {α : Type} [Inhabited α] [DecidableEq α] : Lib.compact ([] : List α) = [] := rfl
theorem compact_memI {α : Type} [Inhabited α] [DecidableEq α] (x : α) : ∀ (n : Nat) (zs : List α), zs.length = n → (x ∈ Lib.compact zs ↔ x ∈ zs)
  | 0, zs, h => by
    have hz : zs = [] := List.eq_nil_of_length_eq_zero h
    subst hz
    rfl
  | n + 1, zs, h => by
    have hne : zs ≠ [] := fun e => by rw [e] at h; cases h
    obtain ⟨ys, y, rfl⟩ : ∃ ys y, zs = ys ++ [y] := ⟨zs.dropLast, zs.getLast hne, (List.dropLast_concat_getLast hne).symm⟩
    rw [compact_snoc, List.mem_append, List.mem_append, compact_memI x n ys (by simpa using h)]
    by_cases hy : ys.getLast? = some y
    · rw [if_pos hy]
      simp only [List.not_mem_nil, or_false, List.mem_singleton]
      exact ⟨.inl, fun h => h.elim id (fun e => e ▸ List.mem_of_getLast? hy)⟩
    · rw [if_neg hy]
theorem lt_of_le_ne {a b : List UInt8} (h : a ≤ b) (hne : a ≠ b) : a < b := Classical.byContradiction fun h2 => hne (List.le_antisymm h (List.not_lt.1 h2))
theorem le_lt_bs {a b c : List UInt8} (h : a ≤ b) (k : b < c) : a < c := by
  by_cases e : a = b
  · exact e ▸ k
  · exact List.lt_trans (lt_of_le_ne h e) k
theorem le_of_lt_bs {a b : List UInt8} (h : a < b) : a ≤ b := by
  rcases List.le_total a b with h1 | h1
  · exact h1
  · exact absurd h (List.not_lt.2 h1)
theorem lt_irr_bs (a : List UInt8) : ¬ a < a := List.lt_irrefl a
/-- two lists that rise and hold the same are the same -/
theorem rising_ext {l k : List (List UInt8)} (hl : l.Pairwise (· < ·)) (hk : k.Pairwise (· < ·)) (h : ∀ x, x ∈ l ↔ x ∈ k) : l = k := by
  induction l generalizing k with
  | nil =>
    cases k with
    | nil => rfl
    | cons y r => exact absurd ((h y).2 (by simp)) (by simp)
  | cons x r ih =>
    cases k with
    | nil => exact absurd ((h x).1 (by simp)) (by simp)
    | cons y s =>
      rw [List.pairwise_cons] at hl hk
      have hxy : x = y := by
        rcases List.mem_cons.1 ((h x).1 (by simp)) with e | e
        · exact e
        · rcases List.mem_cons.1 ((h y).2 (by simp)) with f | f
          · exact f.symm
          · exact absurd (List.lt_trans (hl.1 y f) (hk.1 x e)) (lt_irr_bs x)
      subst hxy
      congr 1
      refine ih hl.2 hk.2 fun z => ⟨fun hz => ?_, fun hz => ?_⟩
      · rcases List.mem_cons.1 ((h z).1 (List.mem_cons_of_mem _ hz)) with e | e
        · exact absurd (hl.1 z hz) (e ▸ lt_irr_bs z)
        · exact e
      · rcases List.mem_cons.1 ((h z).2 (List.mem_cons_of_mem _ hz)) with e | e
        · exact absurd (hk.1 z hz) (e ▸ lt_irr_bs z)
        · exact e
/-- behind sorting each comes once, rising -/
theorem compact_sorted : ∀ (n : Nat) (zs : List (List UInt8)), zs.length = n → zs.Pairwise (· ≤ ·) → (Lib.compact zs).Pairwise (· < ·)
  | 0, zs, h, _ => by
    have hz : zs = [] := List.eq_nil_of_length_eq_zero h
    subst hz
    exact List.Pairwise.nil
  | n + 1, zs, h, hs => by
    have hne : zs ≠ [] := fun e => by rw [e] at h; cases h
    obtain ⟨ys, y, rfl⟩ : ∃ ys y, zs = ys ++ [y] := ⟨zs.dropLast, zs.getLast hne, (List.dropLast_concat_getLast hne).symm⟩
    rw [List.pairwise_append] at hs
    have ih := compact_sorted n ys (by simpa using h) hs.1
    rw [compact_snoc]
    by_cases hy : ys.getLast? = some y
    · rw [if_pos hy, List.append_nil]
      exact ih
    · rw [if_neg hy, List.pairwise_append]
      refine ⟨ih, List.pairwise_singleton _ _, fun a ha b hb => ?_⟩
      obtain rfl := List.mem_singleton.1 hb
      have ha' : a ∈ ys := (compact_memI a _ ys rfl).1 ha
      have hab := hs.2.2 a ha' b (by simp)
      -- the last one
      have hyn : ys ≠ [] := fun e => by rw [e] at ha'; simp at ha'
      have hlast : ys.getLast? = some (ys.getLast hyn) := List.getLast?_eq_some_getLast hyn
      have hlb := hs.2.2 _ (List.getLast_mem hyn) b (by simp)
      have hne2 : ys.getLast hyn ≠ b := fun e => hy (hlast.trans (congrArg some e))
      have hle : a ≤ ys.getLast hyn := by
        have hys : ys = ys.dropLast ++ [ys.getLast hyn] := (List.dropLast_concat_getLast hyn).symm
        have h1 := hs.1
        rw [hys, List.pairwise_append] at h1
        rw [hys] at ha'
        rcases List.mem_append.1 ha' with h2 | h2
        · exact h1.2.2 a h2 _ (by simp)
        · rw [List.mem_singleton.1 h2]
          exact List.le_refl _
      have hlt : ys.getLast hyn < b := Classical.byContradiction fun h => hne2 (List.le_antisymm hlb (List.not_lt.1 h))
      exact le_lt_bs hle hlt
end Go.Proofs.YtkginbfpokbhcaaGreatDoor
