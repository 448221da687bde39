/-
  tree: two lists of files with one root are one, where all trees are there and no two have one id. Plain lemmas.
-/
import Derived.Test.YtifannandfkacaaGreatDoorTKitTf
namespace Go.Proofs.YtifannandfkacaaGreatDoor
open TreeLaw
open PathLaw (Bs)
theorem layE_inj {x y : Ent3} {r r' : Bs} (hx : x.2.2.length = 32 ∧ x.1.length ≤ 100) (hy : y.2.2.length = 32 ∧ y.1.length ≤ 100) (h : layE x ++ r = layE y ++ r') : x = y ∧ r = r' := by
 obtain ⟨a, b, c⟩ := x
 obtain ⟨a', b', c'⟩ := y
 simp only at hx hy
 unfold layE at h
 simp only [List.append_assoc] at h
 have h1 := take_putN (n := a.length) (by unfold top62; omega) (a ++ ((if b then [1] else [0]) ++ (c ++ r)))
 rw [h, take_putN (n := a'.length) (by unfold top62; omega)] at h1
 injection h1 with h1
 injection h1 with h2 h3
 obtain ⟨rfl, h4⟩ := List.append_inj h3 h2
 have h5 : b' = b ∧ c' ++ r' = c ++ r := by
  cases b <;> cases b' <;> simp at h4 ⊢ <;> exact h4
 obtain ⟨rfl, h6⟩ := h5
 obtain ⟨rfl, rfl⟩ := List.append_inj h6 (by rw [hx.1, hy.1])
 exact ⟨rfl, rfl⟩
theorem lays_inj : ∀ {xs ys : List Ent3}, xs.length = ys.length → (∀ x ∈ xs, x.2.2.length = 32 ∧ x.1.length ≤ 100) → (∀ x ∈ ys, x.2.2.length = 32 ∧ x.1.length ≤ 100) → xs.flatMap layE = ys.flatMap layE → xs = ys
 | [], [], _, _, _, _ => rfl
 | [], _ :: _, h, _, _, _ => by cases h
 | _ :: _, [], h, _, _, _ => by cases h
 | x :: xs, y :: ys, hl, hx, hy, h => by
  rw [List.flatMap_cons, List.flatMap_cons] at h
  obtain ⟨h1, h2⟩ := layE_inj (hx x (by simp)) (hy y (by simp)) h
  rw [h1, lays_inj (by simpa using hl) (fun z hz => hx z (by simp [hz])) (fun z hz => hy z (by simp [hz])) h2]
theorem encT_inj {xs ys : List Ent3} (hx : FineT xs) (hy : FineT ys) (h : encT xs = encT ys) : xs = ys := by
 have h1 : layTr xs = layTr ys := by
  unfold encT at h
  exact List.append_cancel_left h
 have hlx : xs.length ≤ 4096 := of_decide_eq_true (Bool.and_eq_true_iff.1 hx.1).2
 have hly : ys.length ≤ 4096 := of_decide_eq_true (Bool.and_eq_true_iff.1 hy.1).2
 unfold layTr at h1
 have h2 := take_putN (n := xs.length) (by unfold top62; omega) (xs.flatMap layE)
 rw [h1, take_putN (n := ys.length) (by unfold top62; omega)] at h2
 injection h2 with h2
 injection h2 with h3 h4
 exact lays_inj h3.symm hx.2 hy.2 h4.symm
theorem flat_same {R : List Bs} (hR : ∀ a ∈ R, ∀ b ∈ R, sumL a = sumL b → a = b) : ∀ (K : Nat) (l k : List Fil), FineB l → FineB k → (∀ f ∈ l, f.1.length < K) → (∀ f ∈ k, f.1.length < K) → AllIn R K l → AllIn R K k → idL K l = idL K k → flat K l = flat K k := by
 intro K
 induction K with
 | zero => intro l k _ _ _ _ _ _ _; rfl
 | succ K ih =>
  intro l k hl hk h1 h2 a1 a2 he
  rw [idL_succ, idL_succ] at he
  have e1 := hR _ a1.1 _ a2.1 he
  have e2 : esL K l = esL K k := encT_inj (by have h := es_fine hl h1 []; rwa [(buildL_same K l []).2] at h) (by have h := es_fine hk h2 []; rwa [(buildL_same K k []).2] at h) e1
  have hlen : (entsOf l).length = (entsOf k).length := by
   have := congrArg List.length e2
   rwa [esL_len, esL_len] at this
  unfold flat
  rw [List.flatMap_def, List.flatMap_def]
  congr 1
  apply List.ext_getElem?
  intro i
  rw [List.getElem?_map, List.getElem?_map]
  rcases hx : (entsOf l)[i]? with _ | x
  ·have : (entsOf k)[i]? = none := by
    rw [List.getElem?_eq_none_iff] at hx ⊢
    omega
   rw [this]
   rfl
  ·obtain ⟨hi, _⟩ := List.getElem?_eq_some_iff.1 hx
   obtain ⟨y, hy⟩ : ∃ y, (entsOf k)[i]? = some y := ⟨(entsOf k)[i]'(by omega), List.getElem?_eq_getElem _⟩
   rw [hy]
   have e3 := congrArg (fun z : List Ent3 => z[i]?) e2
   simp only [esL, List.getElem?_map, hx, hy, Option.map_some, Option.some.injEq] at e3
   simp only [Option.map_some, Option.some.injEq]
   rcases hdx : x.2.1 with _ | _
   ·rcases hdy : y.2.1 with _ | _
    ·rw [hdx, hdy] at e3
     simp only [Bool.false_eq_true, if_false] at e3 ⊢
     rw [e3]
    ·rw [hdx, hdy] at e3
     simp only [Bool.false_eq_true, if_false, if_true] at e3
     rw [e3] at hdx
     cases hdx
   ·rcases hdy : y.2.1 with _ | _
    ·rw [hdx, hdy] at e3
     simp only [Bool.false_eq_true, if_false, if_true] at e3
     rw [← e3] at hdy
     cases hdy
    ·rw [hdx, hdy] at e3
     simp only [if_true, Prod.mk.injEq, true_and] at e3 ⊢
     obtain ⟨e4, e5⟩ := e3
     rw [← e4] at e5 ⊢
     have hnl : inOf l x.1 ≠ [] := (mem_dirNs hl _).1 (List.mem_map.2 ⟨x, List.mem_filter.2 ⟨List.mem_of_getElem? hx, hdx⟩, rfl⟩)
     have hnk : inOf k x.1 ≠ [] := by
      rw [e4]
      exact (mem_dirNs hk _).1 (List.mem_map.2 ⟨y, List.mem_filter.2 ⟨List.mem_of_getElem? hy, hdy⟩, rfl⟩)
     rw [ih _ _ (hl.inOf _) (hk.inOf _) (inOf_len h1) (inOf_len h2) (a1.2 _ hnl) (a2.2 _ hnk) e5]
theorem root_same {R : List Bs} {l k : List Fil} (hR : ∀ a ∈ R, ∀ b ∈ R, sumL a = sumL b → a = b) (hl : CheckP l) (hk : CheckP k) (a1 : AllIn R 151 l) (a2 : AllIn R 151 k) (he : rootL l = rootL k) : l = k := by
 have h1 := flat_same hR 151 l k (fineB_of hl) (fineB_of hk) (short_of hl) (short_of hk) a1 a2 he
 have h2 := (flat_perm (fineB_of hl) (short_of hl)).symm.trans ((List.Perm.of_eq h1).trans (flat_perm (fineB_of hk) (short_of hk)))
 exact rise_extK (·.1) hl.1 hk.1 fun x => h2.mem_iff
end Go.Proofs.YtifannandfkacaaGreatDoor
