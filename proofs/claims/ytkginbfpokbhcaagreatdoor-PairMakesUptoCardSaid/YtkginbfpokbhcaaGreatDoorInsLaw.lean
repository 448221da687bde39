/-
  Plain law of laying one more thing into a row that rises. No program in sight, no condition but a law's own.
-/
import Derived.Test.YtkginbfpokbhcaaGreatDoorCompact
namespace Go.Proofs.YtkginbfpokbhcaaGreatDoor
section
variable {α : Type} {f : α → List UInt8}
theorem ins_perm (out : List α) (x : α) (k : Nat) : (out.take k ++ x :: out.drop k).Perm (out ++ [x]) := by
  refine List.perm_middle.trans ?_
  rw [List.take_append_drop]
  exact (List.perm_append_singleton x out).symm
theorem ins_le {out : List α} {x : α} {k : Nat} (hs : (out.map f).Pairwise (· ≤ ·)) (hlo : ∀ y ∈ out.take k, f y ≤ f x) (hhi : ∀ y ∈ out.drop k, f x ≤ f y) : ((out.take k ++ x :: out.drop k).map f).Pairwise (· ≤ ·) := by
  rw [List.map_append, List.map_cons, List.pairwise_append, List.pairwise_cons]
  have h1 : ((out.take k).map f ++ (out.drop k).map f).Pairwise (· ≤ ·) := by rw [← List.map_append, List.take_append_drop]; exact hs
  rw [List.pairwise_append] at h1
  refine ⟨h1.1, ⟨fun y hy => ?_, h1.2.1⟩, fun a ha b hb => ?_⟩
  · obtain ⟨z, hz, rfl⟩ := List.mem_map.1 hy
    exact hhi z hz
  · obtain ⟨z, hz, rfl⟩ := List.mem_map.1 ha
    rcases List.mem_cons.1 hb with rfl | hb
    · exact hlo z hz
    · exact h1.2.2 _ ha _ hb
/-- below a place that is no greater -/
theorem rise_low {out : List α} {x y : α} {k : Nat} (hs : (out.map f).Pairwise (· ≤ ·)) (hk : out[k]? = some y) (hy : f y ≤ f x) : ∀ z ∈ out.take (k + 1), f z ≤ f x := by
  intro z hz
  rw [List.take_add_one, hk] at hz
  have h1 : ((out.take k).map f ++ (out.drop k).map f).Pairwise (· ≤ ·) := by rw [← List.map_append, List.take_append_drop]; exact hs
  rw [List.pairwise_append] at h1
  rcases List.mem_append.1 hz with hz | hz
  · refine List.le_trans (h1.2.2 _ (List.mem_map_of_mem hz) (f y) ?_) hy
    refine List.mem_map_of_mem ?_
    obtain ⟨hlt, e⟩ := List.getElem?_eq_some_iff.1 hk
    rw [List.drop_eq_getElem_cons hlt, e]
    exact List.mem_cons_self
  · simp at hz
    rw [hz]
    exact hy
/-- from a place on that is no less -/
theorem rise_high {out : List α} {x y : α} {k : Nat} (hs : (out.map f).Pairwise (· ≤ ·)) (hk : out[k]? = some y) (hy : f x ≤ f y) : ∀ z ∈ out.drop k, f x ≤ f z := by
  intro z hz
  obtain ⟨hlt, e⟩ := List.getElem?_eq_some_iff.1 hk
  rw [List.drop_eq_getElem_cons hlt, e] at hz
  have h1 : ((out.take k).map f ++ (out.drop k).map f).Pairwise (· ≤ ·) := by rw [← List.map_append, List.take_append_drop]; exact hs
  rw [List.pairwise_append, List.drop_eq_getElem_cons hlt, e, List.map_cons, List.pairwise_cons] at h1
  rcases List.mem_cons.1 hz with rfl | hz
  · exact hy
  · exact List.le_trans hy (h1.2.1.1 _ (List.mem_map_of_mem hz))
end
/-- two rows that rise and hold the same as often are the same -/
theorem rises_eq {l k : List (List UInt8)} (hp : l.Perm k) (hl : l.Pairwise (· ≤ ·)) (hk : k.Pairwise (· ≤ ·)) : l = k := by
  induction l generalizing k with
  | nil => exact (List.perm_nil.1 hp.symm).symm
  | cons x r ih =>
    cases k with
    | nil => exact absurd hp.length_eq (by simp)
    | cons y s =>
      rw [List.pairwise_cons] at hl hk
      have hxy : x = y := by
        have h1 : x ≤ y := by
          rcases List.mem_cons.1 (hp.mem_iff.2 (List.mem_cons_self (a := y) (l := s))) with e | e
          · rw [e]; exact List.le_refl _
          · exact hl.1 y e
        have h2 : y ≤ x := by
          rcases List.mem_cons.1 (hp.mem_iff.1 (List.mem_cons_self (a := x) (l := r))) with e | e
          · rw [e]; exact List.le_refl _
          · exact hk.1 x e
        exact List.le_antisymm h1 h2
      subst hxy
      rw [ih (List.Perm.cons_inv hp) hl.2 hk.2]
end Go.Proofs.YtkginbfpokbhcaaGreatDoor
