/-
  Plain law of an index's files and conflicts: files are in order, rightly named, none under another; a path in conflict has no file. No condition.
-/
import Derived.Test.YtjcelelgebohkaaGreatDoorIdxLists
namespace Go.Proofs.YtjcelelgebohkaaGreatDoor
open PathLaw (named under)
open IdxLaw (Ent Key Inv sortE Uniq)

theorem files_mem {l : List Ent} {f : Fil} : f ∈ filesOf (sortE l) ↔ ∃ e ∈ l, e.stage = 0 ∧ f = (e.path, e.id) := by
  unfold filesOf
  simp only [List.mem_map, List.mem_filter, (IdxLaw.sortE_perm l).mem_iff, decide_eq_true_eq]
  constructor
  · rintro ⟨e, ⟨h1, h2⟩, rfl⟩
    exact ⟨e, h1, h2, rfl⟩
  · rintro ⟨e, h1, h2, rfl⟩
    exact ⟨e, ⟨h1, h2⟩, rfl⟩
theorem confs_mem {l : List Ent} {c : List UInt8} : c ∈ confsOf (sortE l) ↔ ∃ e ∈ l, 0 < e.stage ∧ c = e.path := by
  unfold confsOf
  simp only [List.mem_map, List.mem_filter, (IdxLaw.sortE_perm l).mem_iff, decide_eq_true_eq]
  constructor
  · rintro ⟨e, ⟨h1, h2⟩, rfl⟩
    exact ⟨e, h1, h2, rfl⟩
  · rintro ⟨e, h1, h2, rfl⟩
    exact ⟨e, ⟨h1, h2⟩, rfl⟩
theorem right_id {e : Ent} (h : IdxLaw.right e = true) : named e.path = true ∧ e.id.length = 32 := by
  unfold IdxLaw.right at h
  simp only [Bool.and_eq_true, decide_eq_true_eq] at h
  exact ⟨h.1, h.2.2.2.1⟩
theorem files_named {l : List Ent} (h : Inv l) : ∀ f ∈ filesOf (sortE l), named f.1 = true ∧ f.2.length = 32 := by
  intro f hf
  obtain ⟨e, he, _, rfl⟩ := files_mem.1 hf
  exact right_id (h.right e he)
theorem files_apart {l : List Ent} (h : Inv l) : ∀ f ∈ filesOf (sortE l), ∀ g ∈ filesOf (sortE l), under g.1 f.1 = false := by
  intro f hf g hg
  obtain ⟨e, he, h0, rfl⟩ := files_mem.1 hf
  obtain ⟨d, hd, h1, rfl⟩ := files_mem.1 hg
  exact (h.beside e he d hd h0).2 h1
theorem files_sorted {l : List Ent} (h : Inv l) : (filesOf (sortE l)).Pairwise (fun f g => f.1 < g.1) := by
  have h1 := IdxLaw.sortE_sorted l
  have h2 : (sortE l).Pairwise (fun x y => x.key ≠ y.key) := by
    have := h.uniq.perm (IdxLaw.sortE_perm l).symm
    exact List.pairwise_map.1 this
  have h3 := h1.and h2
  unfold filesOf
  rw [List.pairwise_map, List.pairwise_filter]
  refine h3.imp ?_
  rintro x y ⟨h4, h5⟩ hx hy
  simp only [decide_eq_true_eq] at hx hy
  show x.path < y.path
  have hne : x.path ≠ y.path := fun e => h5 (by unfold Ent.key; rw [e, hx, hy])
  have hnl : ¬ y.path < x.path := fun hl => by
    have := IdxLaw.ltE_iff.2 (Or.inl hl : y.path < x.path ∨ (y.path = x.path ∧ y.stage < x.stage))
    rw [this] at h4
    cases h4
  rcases Classical.em (x.path < y.path) with h6 | h6
  · exact h6
  · exact absurd (List.le_antisymm (List.not_lt.1 hnl) (List.not_lt.1 h6)) hne
theorem conf_no_file {l : List Ent} (h : Inv l) {c : List UInt8} (hc : c ∈ confsOf (sortE l)) : IdxLaw.find l (c, 0) = none ∧ ∀ f ∈ filesOf (sortE l), f.1 ≠ c := by
  obtain ⟨e, he, h0, rfl⟩ := confs_mem.1 hc
  have hno : ∀ d ∈ l, d.stage = 0 → d.path ≠ e.path := fun d hd h1 hp => by
    have := (h.beside d hd e he h1).1 hp.symm
    omega
  refine ⟨?_, fun f hf => ?_⟩
  · cases hfd : IdxLaw.find l (e.path, 0) with
    | none => rfl
    | some d =>
      obtain ⟨hd, hk⟩ := (IdxLaw.find_mem h.uniq).1 hfd
      unfold Ent.key at hk
      exact absurd (Prod.mk.inj hk).1 (hno d hd (Prod.mk.inj hk).2)
  · obtain ⟨d, hd, h1, rfl⟩ := files_mem.1 hf
    exact hno d hd h1
end Go.Proofs.YtjcelelgebohkaaGreatDoor
