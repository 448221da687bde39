/-
  What a checkout takes away, or writes over, is held. Plain lemmas.
-/
import Derived.Test.YtkginbfpokbhcaaGreatDoorStandsLaw
import Derived.Test.YtkginbfpokbhcaaGreatDoorWorkClobber
namespace Go.Proofs.YtkginbfpokbhcaaGreatDoor
open Go.RowKit
open DiffLaw (fid ofPaths Paths)
open IdxLaw (Ent)

theorem held_step {L : List DF} {l : List Ent} {cs : List Chg3} {a b : List Fil} {ns : List (List UInt8)} (hns : ns.Perm (L.map (·.1))) (h0 : (listOf ns).filter (lostB L l cs a) = []) {x : Fil} (hx : x ∈ stepsOf ns cs b) (h3 : getE L x.1 ≠ 3) (h1 : getE L x.1 ≠ 1) :
    getE L x.1 = 0 ∧ (isIdx l x.1 (widL (getB L x.1)) = true ∨ fid a x.1 = widL (getB L x.1)) := by
  obtain ⟨p, i⟩ := x
  change getE L p ≠ 3 at h3
  change getE L p ≠ 1 at h1
  show getE L p = 0 ∧ (isIdx l p (widL (getB L p)) = true ∨ fid a p = widL (getB L p))
  have hw : workedB p = true := by
    cases hw : workedB p with
    | true => rfl
    | false => exact absurd (by unfold getE; rw [hw]; rfl) h1
  have hg : ∃ y, getF L (wname p) = some y := by
    cases hg : getF L (wname p) with
    | some y => exact ⟨y, rfl⟩
    | none => exact absurd (by unfold getE; rw [hw, hg]; rfl) h3
  obtain ⟨y, hy⟩ := hg
  obtain ⟨hy1, hy2⟩ := getF_mem hy
  have hl : p ∈ listOf ns := List.mem_filterMap.2 ⟨wname p, hns.mem_iff.2 (List.mem_map.2 ⟨y, hy1, hy2⟩), pathOf_wname hw⟩
  have hin : inWayB cs p = true := by
    unfold stepsOf at hx
    rcases List.mem_append.1 hx with h | h
    · obtain ⟨q, hq, e⟩ := List.mem_map.1 h
      have h2 := (List.mem_filter.1 hq).2
      unfold goneP at h2
      rw [Bool.and_eq_true] at h2
      rw [← show q = p from congrArg Prod.fst e]
      exact h2.1
    · obtain ⟨c, hc, e⟩ := List.mem_map.1 h
      rw [← show c.1 = p from congrArg Prod.fst e]
      exact inWay_self (List.mem_filter.1 hc).1
  have hn : lostB L l cs a p = false := by
    cases h : lostB L l cs a p with
    | false => rfl
    | true =>
      have : p ∈ (listOf ns).filter (lostB L l cs a) := List.mem_filter.2 ⟨hl, h⟩
      rw [h0] at this
      cases this
  unfold lostB at hn
  rw [hin] at hn
  simp only [Bool.true_and, Bool.or_eq_false_iff, Bool.and_eq_false_iff, Bool.not_eq_false', decide_eq_true_eq] at hn
  exact hn
/-- nothing turned: nothing is lost, nothing is done -/
theorem ofPaths_self (ps : List (List UInt8)) (a : List Fil) : ofPaths ps a a = [] := by
  unfold DiffLaw.ofPaths
  rw [List.filterMap_eq_nil_iff]
  intro p _
  exact if_pos rfl
theorem none_lost {L : List DF} {l : List Ent} {a : List Fil} {ns ps : List (List UInt8)} : (listOf ns).filter (lostB L l (ofPaths ps a a) a) = [] := by
  rw [ofPaths_self]
  exact List.filter_eq_nil_iff.2 fun p _ => by simp [lostB, inWayB]
theorem none_done {a : List Fil} {ns ps : List (List UInt8)} : stepsOf ns (ofPaths ps a a) a = [] := by
  rw [ofPaths_self]
  unfold stepsOf
  rw [List.filter_eq_nil_iff.2 fun p _ => by simp [goneP, inWayB]]
  rfl
end Go.Proofs.YtkginbfpokbhcaaGreatDoor
