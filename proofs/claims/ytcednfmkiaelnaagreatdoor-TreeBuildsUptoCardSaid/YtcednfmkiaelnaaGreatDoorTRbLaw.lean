/-
  dolmenref13.build's way, in plain words: the first of a path's parts, the files under a name, the row of entries as it is filled. Plain lemmas.
-/
import Derived.Test.YtcednfmkiaelnaaGreatDoorTKitTc
namespace Go.Proofs.YtcednfmkiaelnaaGreatDoor
open Go.RowKit
namespace TreeLaw
open PathLaw (Bs pc part named under)
theorem pc_first (p : Bs) : ∃ t, pc p = (cutS p).1 :: t ∧ ((cutS p).2.isSome = !t.isEmpty) := by
 induction p with
 | nil => exact ⟨[], rfl, rfl⟩
 | cons c t ih =>
  obtain ⟨u, h1, h2⟩ := ih
  unfold pc cutS
  by_cases hc : c = 47
  ·rw [if_pos hc, if_pos hc]
   exact ⟨pc t, rfl, by rw [h1]; rfl⟩
  ·rw [if_neg hc, if_neg hc, h1]
   exact ⟨u, rfl, h2⟩
theorem pc_more (p : Bs) : decide (1 < (pc p).length) = (cutS p).2.isSome := by
 obtain ⟨t, h1, h2⟩ := pc_first p
 rw [h1, h2]
 cases t <;> simp
def inU (l : List Fil) (d : Bs) : List Fil := l.filterMap fun f => if under f.1 d then some (f.1.drop (d.length + 1), f.2) else none
theorem inOf_under {d : Bs} (hd : (47 : UInt8) ∉ d) (l : List Fil) : inOf l d = inU l d := by
 unfold inOf inU
 refine congrArg (fun g => l.filterMap g) (funext fun f => ?_)
 obtain ⟨p, id⟩ := f
 simp only
 by_cases hu : under p d = true
 ·rw [if_pos hu]
  obtain ⟨r, rfl⟩ := PathLaw.under_iff.1 hu
  rw [cutS_put hd]
  simp
 ·rw [if_neg hu]
  rcases h : (cutS p).2 with _ | r
  ·rfl
  ·simp only
   rw [if_neg]
   rintro rfl
   exact hu (PathLaw.under_iff.2 ⟨r, (cutS_some h).1⟩)
theorem inU_next {l : List Fil} {d : Bs} {j : Nat} {f : Fil} (h : l[j]? = some f) : inU (l.take (j + 1)) d = inU (l.take j) d ++ (if under f.1 d then [(f.1.drop (d.length + 1), f.2)] else []) := by
 unfold inU
 rw [List.take_add_one, h, List.filterMap_append]
 by_cases hu : under f.1 d = true <;> simp [hu]
theorem entsOf_next {l : List Fil} {j : Nat} {f : Fil} (h : l[j]? = some f) : entsOf (l.take (j + 1)) = insT (entsOf (l.take j)) (entOf f) := by
 unfold entsOf
 rw [List.take_add_one, h, List.foldl_append]
 rfl
def doneB (k : Nat) (l : List Fil) (out : List Bs) (i : Nat) : List Ent3 × List Bs := ((entsOf l).take i).foldl (stepB k l) ([], out)
def rowB (k : Nat) (l : List Fil) (out : List Bs) (i : Nat) : List Ent3 := (doneB k l out i).1 ++ (entsOf l).drop i
section
variable {k i : Nat} {l : List Fil} {out : List Bs} {x : Ent3}
theorem stepB_len (acc : List Ent3 × List Bs) (x : Ent3) : (stepB k l acc x).1.length = acc.1.length + 1 := by
 unfold stepB
 split <;> simp
theorem doneB_next (h : (entsOf l)[i]? = some x) : doneB k l out (i + 1) = stepB k l (doneB k l out i) x := by
 unfold doneB
 rw [List.take_add_one, h, List.foldl_append]
 rfl
theorem doneB_len : ∀ {i : Nat}, i ≤ (entsOf l).length → (doneB k l out i).1.length = i
 | 0, _ => rfl
 | i + 1, h => by
  have hx : (entsOf l)[i]? = some ((entsOf l)[i]'(by omega)) := List.getElem?_eq_getElem _
  rw [doneB_next hx, stepB_len, doneB_len (i := i) (by omega)]
theorem rowB_zero : rowB k l out 0 = entsOf l := by simp [rowB, doneB]
theorem doneB_all : doneB k l out (entsOf l).length = (entsOf l).foldl (stepB k l) ([], out) := by unfold doneB; rw [List.take_length]
theorem rowB_all : rowB k l out (entsOf l).length = ((entsOf l).foldl (stepB k l) ([], out)).1 := by unfold rowB; rw [doneB_all]; simp
theorem rowB_at (h : (entsOf l)[i]? = some x) : (rowB k l out i)[i]? = some x := by
 have hi := (List.getElem?_eq_some_iff.1 h).1
 unfold rowB
 rw [List.getElem?_append_right (by rw [doneB_len (by omega)]; exact Nat.le_refl _), doneB_len (by omega), Nat.sub_self, List.getElem?_drop]
 exact h
theorem rowB_file (h : (entsOf l)[i]? = some x) (hf : x.2.1 = false) : rowB k l out (i + 1) = rowB k l out i ∧ (doneB k l out (i + 1)).2 = (doneB k l out i).2 := by
 have hi := (List.getElem?_eq_some_iff.1 h).1
 have hd : (entsOf l).drop i = x :: (entsOf l).drop (i + 1) := by
  rw [List.drop_eq_getElem_cons hi]
  congr
  exact (List.getElem?_eq_some_iff.1 h).2
 unfold rowB
 rw [doneB_next h]
 unfold stepB
 rw [hf]
 simp [hd]
theorem rowB_dir (h : (entsOf l)[i]? = some x) (hf : x.2.1 = true) : rowB k l out (i + 1) = (rowB k l out i).set i (x.1, true, (buildL k (inOf l x.1) (doneB k l out i).2).1) ∧ (doneB k l out (i + 1)).2 = (buildL k (inOf l x.1) (doneB k l out i).2).2 := by
 have hi := (List.getElem?_eq_some_iff.1 h).1
 have hd : (entsOf l).drop i = x :: (entsOf l).drop (i + 1) := by
  rw [List.drop_eq_getElem_cons hi]
  congr
  exact (List.getElem?_eq_some_iff.1 h).2
 unfold rowB
 rw [doneB_next h]
 unfold stepB
 rw [hf]
 simp only [if_true]
 refine ⟨?_, trivial⟩
 rw [List.set_append_right _ _ (by rw [doneB_len (by omega)]; exact Nat.le_refl _), doneB_len (by omega), Nat.sub_self, hd]
 simp
theorem buildL_done : buildL (k + 1) l out = (sumL (encT (rowB k l out (entsOf l).length)), addR (doneB k l out (entsOf l).length).2 (encT (rowB k l out (entsOf l).length))) := by
 rw [buildL_succ, rowB_all, doneB_all]
end
theorem cutS_name (p : Bs) : (47 : UInt8) ∉ (cutS p).1 := by
 rcases h : (cutS p).2 with _ | r
 ·obtain ⟨h1, h2⟩ := cutS_none h
  rw [h1]
  exact h2
 ·exact (cutS_some h).2
theorem entsOf_name {l : List Fil} {x : Ent3} (h : x ∈ entsOf l) : (47 : UInt8) ∉ x.1 := by
 have key : ∀ (m : List Fil) (acc : List Ent3), (∀ y ∈ acc, (47 : UInt8) ∉ y.1) → ∀ y ∈ m.foldl (fun acc f => insT acc (entOf f)) acc, (47 : UInt8) ∉ y.1 := by
  intro m
  induction m with
  | nil => intro acc h0; exact h0
  | cons f t ih =>
   intro acc h0
   refine ih _ (fun y hy => ?_)
   rcases insT_mem hy with h1 | rfl
   ·exact h0 y h1
   ·exact cutS_name f.1
 exact key l [] (fun y hy => by simp at hy) x h
theorem ens_set {l : List Ent3} {i : Nat} {x : Ent3} (h : l[i]? = some x) (id : Bs) : ens (l.set i (x.1, x.2.1, id)) = (ens l).set (i * 3 + 2) (S id) := by
 induction l generalizing i with
 | nil => simp at h
 | cons y t ih =>
  have e : ∀ (z : Ent3) (u : List Ent3), ens (z :: u) = S z.1 :: .bool z.2.1 :: S z.2.2 :: ens u := fun z u => by simp [ens, enC]
  rcases i with _ | i
  ·simp at h
   subst h
   rw [List.set_cons_zero, e, e]
   simp
  ·have h' : t[i]? = some x := by simpa using h
   rw [List.set_cons_succ, e, e, ih h']
   have e2 : (i + 1) * 3 + 2 = (i * 3 + 2) + 1 + 1 + 1 := by omega
   rw [e2]
   simp
end TreeLaw
end Go.Proofs.YtcednfmkiaelnaaGreatDoor
