/-
  Texts merged: TreeLaw, TreeLaw2, CheckLaw, TreeLaw3, CheckX. What each law says and asks stands at its head.
-/
import Derived.Test.YtcednfmkiaelnaaGreatDoorTKitTb
import Derived.Test.YtcednfmkiaelnaaGreatDoorTKitW
import Derived.Test.YtcednfmkiaelnaaGreatDoorTKitX
import Derived.Test.YtcednfmkiaelnaaGreatDoorTCheckG
import Derived.BigQuiet
namespace Go.Proofs.YtcednfmkiaelnaaGreatDoor
namespace TreeLaw
open PathLaw (Bs pc part named under)
def cutS : Bs → Bs × Option Bs
 | [] => ([], none)
 | c :: t => if c = 47 then ([], some t) else (c :: (cutS t).1, (cutS t).2)
theorem cutS_none {p : Bs} (h : (cutS p).2 = none) : (cutS p).1 = p ∧ (47 : UInt8) ∉ p := by
 induction p with
 | nil => exact ⟨rfl, by simp⟩
 | cons c t ih =>
  unfold cutS at h ⊢
  split at h
  ·cases h
  ·rename_i hc
   rw [if_neg hc]
   obtain ⟨h1, h2⟩ := ih h
   exact ⟨by simp [h1], by simp [h2, Ne.symm hc]⟩
theorem cutS_some {p r : Bs} (h : (cutS p).2 = some r) : p = (cutS p).1 ++ 47 :: r ∧ (47 : UInt8) ∉ (cutS p).1 := by
 induction p generalizing r with
 | nil => cases h
 | cons c t ih =>
  unfold cutS at h ⊢
  split at h
  ·rename_i hc
   rw [if_pos hc]
   injection h with h
   subst h
   exact ⟨by rw [hc]; rfl, by simp⟩
  ·rename_i hc
   rw [if_neg hc]
   obtain ⟨h1, h2⟩ := ih h
   exact ⟨by simp only [List.cons_append, ← h1], by simp [h2, Ne.symm hc]⟩
theorem cutS_put {a r : Bs} (h : (47 : UInt8) ∉ a) : cutS (a ++ 47 :: r) = (a, some r) := by
 induction a with
 | nil => simp [cutS]
 | cons c t ih =>
  have hc : c ≠ 47 := fun e => h (by simp [e])
  have ht : (47 : UInt8) ∉ t := fun e => h (by simp [e])
  rw [List.cons_append, cutS, if_neg hc, ih ht]
theorem cutS_self {a : Bs} (h : (47 : UInt8) ∉ a) : cutS a = (a, none) := by
 induction a with
 | nil => rfl
 | cons c t ih =>
  have hc : c ≠ 47 := fun e => h (by simp [e])
  have ht : (47 : UInt8) ∉ t := fun e => h (by simp [e])
  rw [cutS, if_neg hc, ih ht]
def entOf (f : Fil) : Ent3 := ((cutS f.1).1, (cutS f.1).2.isSome, f.2)
def insT : List Ent3 → Ent3 → List Ent3
 | [], e => [e]
 | x :: t, e => if x.1 < e.1 then x :: insT t e else if x.1 = e.1 then x :: t else e :: x :: t
def entsOf (l : List Fil) : List Ent3 := l.foldl (fun acc f => insT acc (entOf f)) []
def inOf (l : List Fil) (d : Bs) : List Fil := l.filterMap fun f => match (cutS f.1).2 with
 | some r => if (cutS f.1).1 = d then some (r, f.2) else none
 | none => none
def addR (out : List Bs) (raw : Bs) : List Bs := if raw ∈ out then out else out ++ [raw]
def buildL : Nat → List Fil → List Bs → Bs × List Bs
 | 0, _, out => ([], out)
 | k + 1, l, out =>
  let r := (entsOf l).foldl (fun (acc : List Ent3 × List Bs) x =>
   if x.2.1 then
    let q := buildL k (inOf l x.1) acc.2
    (acc.1 ++ [(x.1, true, q.1)], q.2)
   else (acc.1 ++ [x], acc.2)) ([], out)
  (sumL (encT r.1), addR r.2 (encT r.1))
theorem inOf_len {l : List Fil} {d : Bs} {k : Nat} (h : ∀ f ∈ l, f.1.length < k + 1) : ∀ f ∈ inOf l d, f.1.length < k := by
 intro f hf
 unfold inOf at hf
 obtain ⟨g, hg, he⟩ := List.mem_filterMap.1 hf
 split at he
 ·rename_i r hr
  split at he
  ·injection he with he
   subst he
   have h1 := h g hg
   rw [(cutS_some hr).1] at h1
   simp at h1 ⊢
   omega
  ·cases he
 ·cases he
def RiseT (l : List Ent3) : Prop := (l.map (·.1)).Pairwise (· < ·)
theorem insT_mem {l : List Ent3} {e x : Ent3} (h : x ∈ insT l e) : x ∈ l ∨ x = e := by
 induction l with
 | nil => simp [insT] at h; exact .inr h
 | cons y t ih =>
  unfold insT at h
  split at h
  ·rcases List.mem_cons.1 h with h | h
   ·exact .inl (by simp [h])
   ·exact (ih h).imp (fun h => by simp [h]) (fun h => h)
  ·split at h
   ·exact .inl h
   ·rcases List.mem_cons.1 h with h | h
    ·exact .inr h
    ·exact .inl h
theorem insT_old {l : List Ent3} {e x : Ent3} (h : x ∈ l) : x ∈ insT l e := by
 induction l with
 | nil => cases h
 | cons y t ih =>
  unfold insT
  split
  ·rcases List.mem_cons.1 h with h | h
   ·simp [h]
   ·simp [ih h]
  ·split
   ·exact h
   ·simp only [List.mem_cons] at h ⊢; exact .inr h
theorem insT_new {l : List Ent3} {e : Ent3} : ∃ x ∈ insT l e, x.1 = e.1 := by
 induction l with
 | nil => exact ⟨e, by simp [insT], rfl⟩
 | cons y t ih =>
  unfold insT
  split
  ·obtain ⟨x, hx, he⟩ := ih
   exact ⟨x, by simp [hx], he⟩
  ·split
   ·rename_i _ h
    exact ⟨y, by simp, h⟩
   ·exact ⟨e, by simp, rfl⟩
theorem insT_rise {l : List Ent3} {e : Ent3} (h : RiseT l) : RiseT (insT l e) := by
 unfold RiseT at *
 induction l with
 | nil => simp [insT]
 | cons y t ih =>
  rw [List.map_cons, List.pairwise_cons] at h
  unfold insT
  split
  ·rename_i hlt
   rw [List.map_cons, List.pairwise_cons]
   refine ⟨fun a ha => ?_, ih h.2⟩
   obtain ⟨x, hx, rfl⟩ := List.mem_map.1 ha
   rcases insT_mem hx with h1 | h1
   ·exact h.1 _ (List.mem_map_of_mem h1)
   ·rw [h1]; exact hlt
  ·split
   ·rw [List.map_cons, List.pairwise_cons]; exact h
   ·rename_i h1 h2
    have hlt : e.1 < y.1 := Classical.byContradiction fun h3 => h2 (List.le_antisymm (List.not_lt.1 h3) (List.not_lt.1 h1))
    rw [List.map_cons, List.pairwise_cons, List.map_cons, List.pairwise_cons]
    refine ⟨fun a ha => ?_, h⟩
    rcases List.mem_cons.1 ha with ha | ha
    ·rw [ha]; exact hlt
    ·exact List.lt_trans hlt (h.1 a ha)
theorem entsOf_rise (l : List Fil) : RiseT (entsOf l) := by
 unfold entsOf
 have h : ∀ (acc : List Ent3), RiseT acc → RiseT (l.foldl (fun acc f => insT acc (entOf f)) acc) := by
  induction l with
  | nil => intro acc h; exact h
  | cons f t ih => intro acc h; exact ih _ (insT_rise h)
 exact h [] (by simp [RiseT])
theorem foldT_mem {l : List Fil} {x : Ent3} : ∀ {acc : List Ent3}, x ∈ l.foldl (fun acc f => insT acc (entOf f)) acc → x ∈ acc ∨ ∃ f ∈ l, x = entOf f := by
 induction l with
 | nil => intro acc h; exact .inl h
 | cons f t ih =>
  intro acc h
  rcases ih h with h | ⟨g, hg, h⟩
  ·exact (insT_mem h).imp (fun h => h) (fun h => ⟨f, by simp, h⟩)
  ·exact .inr ⟨g, by simp [hg], h⟩
theorem foldT_old {l : List Fil} {x : Ent3} : ∀ {acc : List Ent3}, x ∈ acc → x ∈ l.foldl (fun acc f => insT acc (entOf f)) acc := by
 induction l with
 | nil => intro acc h; exact h
 | cons f t ih => intro acc h; exact ih (insT_old h)
theorem foldT_new {l : List Fil} {f : Fil} : ∀ {acc : List Ent3}, f ∈ l → ∃ x ∈ l.foldl (fun acc f => insT acc (entOf f)) acc, x.1 = (entOf f).1 := by
 induction l with
 | nil => intro acc h; cases h
 | cons g t ih =>
  intro acc h
  rcases List.mem_cons.1 h with h | h
  ·subst h
   obtain ⟨x, hx, he⟩ := insT_new (l := acc) (e := entOf f)
   exact ⟨x, foldT_old (l := t) (acc := insT acc (entOf f)) hx, he⟩
  ·exact ih h
theorem entsOf_mem {l : List Fil} {x : Ent3} (h : x ∈ entsOf l) : ∃ f ∈ l, x = entOf f := (foldT_mem h).resolve_left (by simp)
theorem entsOf_new {l : List Fil} {f : Fil} (h : f ∈ l) : ∃ x ∈ entsOf l, x.1 = (entOf f).1 := foldT_new h
structure FineB (l : List Fil) : Prop where
 rise : (l.map (·.1)).Pairwise (· < ·)
 parts : ∀ f ∈ l, (pc f.1).all PathLaw.part = true ∧ f.1.length ≤ 150
 ids : ∀ f ∈ l, f.2.length = 32
 apart : ∀ f ∈ l, ∀ g ∈ l, under f.1 g.1 = false
 few : l.length ≤ 4096
theorem pc_cut (p : Bs) : pc p = match (cutS p).2 with
  | none => [(cutS p).1]
  | some r => (cutS p).1 :: pc r := by
 induction p with
 | nil => rfl
 | cons c t ih =>
  have e : cutS (c :: t) = if c = 47 then ([], some t) else (c :: (cutS t).1, (cutS t).2) := by conv => lhs; unfold cutS
  rw [e]
  conv => lhs; unfold pc
  by_cases hc : c = 47
  ·rw [if_pos hc, if_pos hc]
  ·rw [if_neg hc, if_neg hc, ih]
   rcases (cutS t).2 with _ | r <;> rfl
theorem inOf_mem {l : List Fil} {d r i : Bs} (h : (r, i) ∈ inOf l d) : (d ++ 47 :: r, i) ∈ l ∧ (47 : UInt8) ∉ d := by
 unfold inOf at h
 obtain ⟨g, hg, he⟩ := List.mem_filterMap.1 h
 split at he
 ·rename_i r' hr
  split at he
  ·rename_i hd
   injection he with he
   injection he with e1 e2
   subst e1 e2
   obtain ⟨h1, h2⟩ := cutS_some hr
   rw [hd] at h1 h2
   exact ⟨by rw [← h1]; exact hg, h2⟩
  ·cases he
 ·cases he
theorem app_lt {d a b : Bs} (h : d ++ a < d ++ b) : a < b := by
 induction d with
 | nil => exact h
 | cons c t ih =>
  rw [List.cons_append, List.cons_append, List.cons_lt_cons_iff] at h
  rcases h with h | h
  ·exact absurd h (by simp)
  ·exact ih h.2
theorem inOf_rise {l : List Fil} (h : (l.map (·.1)).Pairwise (· < ·)) (d : Bs) : ((inOf l d).map (·.1)).Pairwise (· < ·) := by
 induction l with
 | nil => simp [inOf]
 | cons f t ih =>
  rw [List.map_cons, List.pairwise_cons] at h
  have ih2 := ih h.2
  unfold inOf at ih2 ⊢
  rw [List.filterMap_cons]
  split
  ·exact ih2
  ·rename_i g hg
   rw [List.map_cons, List.pairwise_cons]
   refine ⟨fun a ha => ?_, ih2⟩
   obtain ⟨y, hy, rfl⟩ := List.mem_map.1 ha
   have h1 := (inOf_mem (l := t) (d := d) (r := y.1) (i := y.2) hy).1
   have h2 := h.1 _ (List.mem_map_of_mem h1)
   split at hg
   ·rename_i r hr
    split at hg
    ·rename_i hd
     injection hg with hg
     subst hg
     rw [(cutS_some hr).1, hd] at h2
     have h3 := app_lt h2
     rw [List.cons_lt_cons_iff] at h3
     rcases h3 with h3 | h3
     ·exact absurd h3 (by simp)
     ·exact h3.2
    ·cases hg
   ·cases hg
theorem FineB.inOf {l : List Fil} (h : FineB l) (d : Bs) : FineB (inOf l d) where
 rise := inOf_rise h.rise d
 parts f hf := by
  obtain ⟨h1, h2⟩ := inOf_mem (l := l) (d := d) (r := f.1) (i := f.2) hf
  obtain ⟨h3, h4⟩ := h.parts _ h1
  simp only at h3 h4
  rw [pc_cut, cutS_put h2] at h3
  simp only [List.all_cons, Bool.and_eq_true] at h3
  simp at h4
  exact ⟨h3.2, by omega⟩
 ids f hf := h.ids (d ++ 47 :: f.1, f.2) (inOf_mem (l := l) (d := d) (r := f.1) (i := f.2) hf).1
 apart f hf g hg := by
  have h1 := h.apart _ (inOf_mem (l := l) (d := d) (r := f.1) (i := f.2) hf).1 _ (inOf_mem (l := l) (d := d) (r := g.1) (i := g.2) hg).1
  rw [← Bool.not_eq_true] at h1 ⊢
  intro h2
  rw [PathLaw.under_iff] at h2
  obtain ⟨q, hq⟩ := h2
  refine h1 (PathLaw.under_iff.2 ⟨q, ?_⟩)
  simp only
  rw [hq]
  simp
 few := Nat.le_trans (List.length_filterMap_le _ _) h.few
theorem okE_of {es : List Ent3} (h1 : ∀ x ∈ es, PathLaw.part x.1 = true ∧ x.2.2.length = 32) (h2 : RiseT es) : ∀ k, k ≤ es.length → okE es k = true
 | 0, _ => rfl
 | k + 1, hk => by
  obtain ⟨x, hx⟩ : ∃ x, es[k]? = some x := ⟨es[k]'(by omega), List.getElem?_eq_getElem _⟩
  rw [okE_succ hx, okE_of h1 h2 k (by omega), (h1 x (List.mem_of_getElem? hx)).1, decide_eq_true (h1 x (List.mem_of_getElem? hx)).2]
  rcases k with _ | k
  ·rfl
  ·obtain ⟨y, hy⟩ : ∃ y, es[k]? = some y := ⟨es[k]'(by omega), List.getElem?_eq_getElem _⟩
   have hlt : y.1 < x.1 := by
    unfold RiseT at h2
    rw [List.pairwise_iff_getElem] at h2
    have h3 := h2 k (k + 1) (by simp; omega) (by simp; omega) (by omega)
    have e1 : es[k]'(by omega) = y := by have := hy; rw [List.getElem?_eq_getElem (by omega)] at this; exact Option.some.inj this
    have e2 : es[k + 1]'(by omega) = x := by have := hx; rw [List.getElem?_eq_getElem (by omega)] at this; exact Option.some.inj this
    simpa [e1, e2] using h3
   rw [Nat.add_sub_cancel, hy, Go.Proofs.bytesLess_eq]
   simp [hlt]
theorem part_len {s : Bs} (h : PathLaw.part s = true) : s.length ≤ 100 := by
 unfold PathLaw.part at h
 simp only [Bool.and_eq_true, decide_eq_true_eq] at h
 exact h.2.1
theorem fineT_of {es : List Ent3} (h1 : ∀ x ∈ es, PathLaw.part x.1 = true ∧ x.2.2.length = 32) (h2 : RiseT es) (h3 : es.length ≤ 4096) : FineT es :=
 ⟨by rw [okE_of h1 h2 _ (Nat.le_refl _), decide_eq_true h3]; rfl, fun x hx => ⟨(h1 x hx).2, part_len (h1 x hx).1⟩⟩
theorem insT_len (l : List Ent3) (e : Ent3) : (insT l e).length ≤ l.length + 1 := by
 induction l with
 | nil => simp [insT]
 | cons y t ih =>
  unfold insT
  split
  ·simp; omega
  ·split <;> simp
theorem foldT_len (l : List Fil) : ∀ acc : List Ent3, (l.foldl (fun acc f => insT acc (entOf f)) acc).length ≤ acc.length + l.length := by
 induction l with
 | nil => intro acc; simp
 | cons f t ih =>
  intro acc
  have h1 := ih (insT acc (entOf f))
  have h2 := insT_len acc (entOf f)
  rw [List.foldl_cons, List.length_cons]
  omega
theorem entOf_fine {l : List Fil} (h : FineB l) {f : Fil} (hf : f ∈ l) : PathLaw.part (entOf f).1 = true ∧ (entOf f).2.2.length = 32 := by
 refine ⟨?_, h.ids f hf⟩
 have h1 := (h.parts f hf).1
 rw [pc_cut] at h1
 unfold entOf
 split at h1
 ·simpa using h1
 ·rw [List.all_cons, Bool.and_eq_true] at h1
  exact h1.1
def stepB (k : Nat) (l : List Fil) (acc : List Ent3 × List Bs) (x : Ent3) : List Ent3 × List Bs :=
 if x.2.1 then (acc.1 ++ [(x.1, true, (buildL k (inOf l x.1) acc.2).1)], (buildL k (inOf l x.1) acc.2).2) else (acc.1 ++ [x], acc.2)
theorem buildL_succ (k : Nat) (l : List Fil) (out : List Bs) : buildL (k + 1) l out = (sumL (encT ((entsOf l).foldl (stepB k l) ([], out)).1), addR ((entsOf l).foldl (stepB k l) ([], out)).2 (encT ((entsOf l).foldl (stepB k l) ([], out)).1)) := rfl
theorem stepB_names (k : Nat) (l : List Fil) (es : List Ent3) : ∀ acc, ((es.foldl (stepB k l) acc).1.map fun x => (x.1, x.2.1)) = acc.1.map (fun x => (x.1, x.2.1)) ++ es.map fun x => (x.1, x.2.1) := by
 induction es with
 | nil => intro acc; simp
 | cons x t ih =>
  intro acc
  rw [List.foldl_cons, ih]
  unfold stepB
  split
  ·rename_i h; simp [h]
  ·simp
theorem buildL_id (k : Nat) (l : List Fil) (out : List Bs) (h : 0 < k) : (buildL k l out).1.length = 32 := by
 obtain ⟨j, rfl⟩ : ∃ j, k = j + 1 := ⟨k - 1, by omega⟩
 rw [buildL_succ]
 exact sumL_len _
theorem stepB_ids (k : Nat) (l : List Fil) (hk : 0 < k) (es : List Ent3) : ∀ acc : List Ent3 × List Bs, (∀ x ∈ acc.1, x.2.2.length = 32) → (∀ x ∈ es, x.2.2.length = 32) → ∀ x ∈ (es.foldl (stepB k l) acc).1, x.2.2.length = 32 := by
 induction es with
 | nil => intro acc h _; exact h
 | cons y t ih =>
  intro acc h1 h2
  refine ih _ (fun x hx => ?_) (fun x hx => h2 x (by simp [hx]))
  unfold stepB at hx
  split at hx
  ·rcases List.mem_append.1 hx with hx | hx
   ·exact h1 x hx
   ·rw [List.mem_singleton.1 hx]; exact buildL_id k _ _ hk
  ·rcases List.mem_append.1 hx with hx | hx
   ·exact h1 x hx
   ·rw [List.mem_singleton.1 hx]; exact h2 y (by simp)
theorem entsOf_len (l : List Fil) : (entsOf l).length ≤ l.length := by have h := foldT_len l []; simpa [entsOf] using h
theorem build_fine {l : List Fil} (h : FineB l) {k : Nat} (hk : 0 < k) (out : List Bs) : FineT ((entsOf l).foldl (stepB k l) ([], out)).1 := by
 have hn := stepB_names k l (entsOf l) ([], out)
 rw [List.map_nil, List.nil_append] at hn
 have he : ∀ x ∈ entsOf l, PathLaw.part x.1 = true ∧ x.2.2.length = 32 := fun x hx => by
  obtain ⟨f, hf, rfl⟩ := entsOf_mem hx
  exact entOf_fine h hf
 have hn1 : ((entsOf l).foldl (stepB k l) ([], out)).1.map (·.1) = (entsOf l).map (·.1) := by
  have := congrArg (List.map Prod.fst) hn
  simpa [List.map_map, Function.comp_def] using this
 refine fineT_of (fun x hx => ⟨?_, stepB_ids k l hk (entsOf l) ([], out) (by simp) (fun x hx => (he x hx).2) x hx⟩) ?_ ?_
 ·have h1 : x.1 ∈ (entsOf l).map (·.1) := by rw [← hn1]; exact List.mem_map_of_mem hx
  obtain ⟨y, hy, e⟩ := List.mem_map.1 h1
  rw [← e]
  exact (he y hy).1
 ·unfold RiseT
  rw [hn1]
  exact entsOf_rise l
 ·have h1 := congrArg List.length hn1
  rw [List.length_map, List.length_map] at h1
  rw [h1]
  exact Nat.le_trans (entsOf_len l) h.few
end TreeLaw
namespace TreeLaw
open PathLaw (Bs pc part named under)
def fileEs (l : List Fil) : List Ent3 := (l.map entOf).filter fun x => !x.2.1
def dirNs (l : List Fil) : List Bs := ((entsOf l).filter fun x => x.2.1).map (·.1)
theorem rise_extK {α : Type} (κ : α → Bs) {a b : List α} (ha : (a.map κ).Pairwise (· < ·)) (hb : (b.map κ).Pairwise (· < ·)) (h : ∀ x, x ∈ a ↔ x ∈ b) : a = b := by
 induction a generalizing b with
 | nil =>
  cases b with
  | nil => rfl
  | cons y r => exact absurd ((h y).2 (by simp)) (by simp)
 | cons x r ih =>
  cases b with
  | nil => exact absurd ((h x).1 (by simp)) (by simp)
  | cons y s =>
   rw [List.map_cons, List.pairwise_cons] at ha hb
   have hxy : x = y := by
    rcases List.mem_cons.1 ((h x).1 (by simp)) with e | e
    ·exact e
    ·rcases List.mem_cons.1 ((h y).2 (by simp)) with e2 | e2
     ·exact e2.symm
     ·exact absurd (List.lt_trans (hb.1 _ (List.mem_map_of_mem e)) (ha.1 _ (List.mem_map_of_mem e2))) (List.lt_irrefl _)
   subst hxy
   congr 1
   refine ih ha.2 hb.2 fun z => ?_
   constructor
   ·intro hz
    rcases List.mem_cons.1 ((h z).1 (by simp [hz])) with e | e
    ·subst e
     exact absurd (ha.1 _ (List.mem_map_of_mem hz)) (List.lt_irrefl _)
    ·exact e
   ·intro hz
    rcases List.mem_cons.1 ((h z).2 (by simp [hz])) with e | e
    ·subst e
     exact absurd (hb.1 _ (List.mem_map_of_mem hz)) (List.lt_irrefl _)
    ·exact e
theorem rise_ext {a b : List Ent3} (ha : RiseT a) (hb : RiseT b) (h : ∀ x, x ∈ a ↔ x ∈ b) : a = b := rise_extK _ ha hb h
theorem sorted_is {α : Type} (κ : α → Bs) {s l : List α} (hs : (s.map κ).Pairwise (fun a b => ¬ b < a)) (hp : s.Perm l) (hl : (l.map κ).Pairwise (· < ·)) : s = l := by
 refine rise_extK κ ?_ hl fun x => hp.mem_iff
 have hnd : (s.map κ).Nodup := (hp.map κ).nodup_iff.2 (hl.imp (fun h e => absurd (e ▸ h) (List.lt_irrefl _)))
 refine (hs.and hnd).imp fun {a b} hab => ?_
 exact Classical.byContradiction fun h5 => hab.2 (List.le_antisymm (List.not_lt.1 hab.1) (List.not_lt.1 h5))
theorem entOf_plain {f : Fil} (h : (entOf f).2.1 = false) : entOf f = (f.1, false, f.2) ∧ (47 : UInt8) ∉ f.1 := by
 unfold entOf at h ⊢
 rcases hc : (cutS f.1).2 with _ | r
 ·obtain ⟨h1, h2⟩ := cutS_none hc
  rw [h1]
  exact ⟨rfl, h2⟩
 ·rw [hc] at h; cases h
theorem entOf_dir {f : Fil} (h : (entOf f).2.1 = true) : ∃ r, (cutS f.1).2 = some r ∧ f.1 = (entOf f).1 ++ 47 :: r ∧ (47 : UInt8) ∉ (entOf f).1 := by
 unfold entOf at h ⊢
 rcases hc : (cutS f.1).2 with _ | r
 ·rw [hc] at h; cases h
 ·exact ⟨r, rfl, cutS_some hc⟩
theorem mem_inOf {l : List Fil} {f : Fil} (hf : f ∈ l) {r : Bs} (hr : (cutS f.1).2 = some r) : (r, f.2) ∈ inOf l (entOf f).1 := by
 unfold inOf
 refine List.mem_filterMap.2 ⟨f, hf, ?_⟩
 simp only [hr]
 rw [if_pos (by rfl)]
theorem FineB.no_both {l : List Fil} (h : FineB l) {f g : Fil} (hf : f ∈ l) (hg : g ∈ l) (h1 : (entOf f).2.1 = false) (h2 : (entOf g).2.1 = true) : (entOf f).1 ≠ (entOf g).1 := by
 intro e
 obtain ⟨r, _, hr, _⟩ := entOf_dir h2
 have h3 := (entOf_plain h1).1
 have h4 := h.apart g hg f hf
 rw [Bool.eq_false_iff] at h4
 apply h4
 refine PathLaw.under_iff.2 ⟨r, ?_⟩
 rw [hr, ← e, h3]
theorem rise_inj {l : List Fil} (h : (l.map (·.1)).Pairwise (· < ·)) {f g : Fil} (hf : f ∈ l) (hg : g ∈ l) (e : f.1 = g.1) : f = g := by
 induction l with
 | nil => cases hf
 | cons x t ih =>
  rw [List.map_cons, List.pairwise_cons] at h
  rcases List.mem_cons.1 hf with h1 | h1
  ·rcases List.mem_cons.1 hg with h2 | h2
   ·rw [h1, h2]
   ·have := h.1 _ (List.mem_map_of_mem h2)
    rw [← e, h1] at this
    exact absurd this (List.lt_irrefl _)
  ·rcases List.mem_cons.1 hg with h2 | h2
   ·have := h.1 _ (List.mem_map_of_mem h1)
    rw [e, h2] at this
    exact absurd this (List.lt_irrefl _)
   ·exact ih h.2 h1 h2
theorem entOf_in {l : List Fil} (h : FineB l) {f : Fil} (hf : f ∈ l) (h1 : (entOf f).2.1 = false) : entOf f ∈ entsOf l := by
 obtain ⟨x, hx, e⟩ := entsOf_new hf
 obtain ⟨g, hg, rfl⟩ := entsOf_mem hx
 rcases hb : (entOf g).2.1 with _ | _
 ·have e1 := (entOf_plain h1).1
  have e2 := (entOf_plain hb).1
  rw [e1, e2] at e
  rw [rise_inj h.rise hf hg e.symm]
  exact hx
 ·exact absurd e.symm (h.no_both hf hg h1 hb)
theorem filter_rise {l : List Ent3} (h : RiseT l) (p : Ent3 → Bool) : RiseT (l.filter p) := by
 unfold RiseT at *
 exact h.sublist (List.filter_sublist.map _)
theorem fileEs_rise {l : List Fil} (h : (l.map (·.1)).Pairwise (· < ·)) : RiseT (fileEs l) := by
 unfold RiseT fileEs
 induction l with
 | nil => simp
 | cons f t ih =>
  rw [List.map_cons, List.pairwise_cons] at h
  rw [List.map_cons, List.filter_cons]
  split
  ·rename_i h1
   have h1' : (entOf f).2.1 = false := by simpa using h1
   rw [List.map_cons, List.pairwise_cons]
   refine ⟨fun a ha => ?_, ih h.2⟩
   obtain ⟨x, hx, rfl⟩ := List.mem_map.1 ha
   obtain ⟨hx1, hx2⟩ := List.mem_filter.1 hx
   obtain ⟨g, hg, rfl⟩ := List.mem_map.1 hx1
   have hx3 : (entOf g).2.1 = false := by simpa using hx2
   rw [(entOf_plain h1').1, (entOf_plain hx3).1]
   exact h.1 _ (List.mem_map_of_mem hg)
  ·exact ih h.2
theorem fileEs_eq {l : List Fil} (h : FineB l) : fileEs l = (entsOf l).filter fun x => !x.2.1 := by
 refine rise_ext (fileEs_rise h.rise) (filter_rise (entsOf_rise l) _) fun x => ?_
 unfold fileEs
 rw [List.mem_filter, List.mem_filter]
 constructor
 ·rintro ⟨h1, h2⟩
  obtain ⟨f, hf, rfl⟩ := List.mem_map.1 h1
  exact ⟨entOf_in h hf (by simpa using h2), h2⟩
 ·rintro ⟨h1, h2⟩
  obtain ⟨f, hf, rfl⟩ := entsOf_mem h1
  exact ⟨List.mem_map_of_mem hf, h2⟩
theorem dirNs_rise (l : List Fil) : (dirNs l).Pairwise (· < ·) := filter_rise (entsOf_rise l) _
theorem mem_dirNs {l : List Fil} (h : FineB l) (d : Bs) : d ∈ dirNs l ↔ inOf l d ≠ [] := by
 unfold dirNs
 constructor
 ·intro hd
  obtain ⟨x, hx, rfl⟩ := List.mem_map.1 hd
  obtain ⟨h1, h2⟩ := List.mem_filter.1 hx
  obtain ⟨f, hf, rfl⟩ := entsOf_mem h1
  obtain ⟨r, hr, _⟩ := entOf_dir h2
  exact List.ne_nil_of_mem (mem_inOf hf hr)
 ·intro hd
  obtain ⟨y, hy⟩ := List.exists_mem_of_ne_nil _ hd
  obtain ⟨h1, h2⟩ := inOf_mem (l := l) (d := d) (r := y.1) (i := y.2) hy
  have e : entOf (d ++ 47 :: y.1, y.2) = (d, true, y.2) := by
   unfold entOf
   rw [cutS_put h2]
   rfl
  obtain ⟨x, hx, e2⟩ := entsOf_new h1
  rw [e] at e2
  obtain ⟨g, hg, rfl⟩ := entsOf_mem hx
  refine List.mem_map.2 ⟨_, List.mem_filter.2 ⟨hx, ?_⟩, e2⟩
  rcases hb : (entOf g).2.1 with _ | _
  ·exact absurd (show (entOf g).1 = (entOf (d ++ 47 :: y.1, y.2)).1 by rw [e, e2]) (h.no_both hg h1 hb (by rw [e]))
  ·rfl
def stepD (k : Nat) (l : List Fil) (acc : List Ent3 × List Bs) (d : Bs) : List Ent3 × List Bs :=
 (acc.1 ++ [(d, true, (buildL k (inOf l d) acc.2).1)], (buildL k (inOf l d) acc.2).2)
theorem stepB_parts (k : Nat) (l : List Fil) (es : List Ent3) : ∀ (a b : List Ent3) (out : List Bs), a.filter (fun x => x.2.1) = b →
  (es.foldl (stepB k l) (a, out)).2 = (((es.filter fun x => x.2.1).map (·.1)).foldl (stepD k l) (b, out)).2 ∧
  (es.foldl (stepB k l) (a, out)).1.filter (fun x => x.2.1) = (((es.filter fun x => x.2.1).map (·.1)).foldl (stepD k l) (b, out)).1 ∧
  (es.foldl (stepB k l) (a, out)).1.filter (fun x => !x.2.1) = a.filter (fun x => !x.2.1) ++ es.filter (fun x => !x.2.1) := by
 induction es with
 | nil => intro a b out h; exact ⟨rfl, h, by simp⟩
 | cons x t ih =>
  intro a b out h
  rw [List.foldl_cons]
  rcases hx : x.2.1 with _ | _
  ·have e : stepB k l (a, out) x = (a ++ [x], out) := by unfold stepB; rw [hx]; rfl
   have h1 := ih (a ++ [x]) b out (by rw [List.filter_append, h]; simp [hx])
   rw [e, List.filter_cons, List.filter_cons, hx]
   refine ⟨h1.1, h1.2.1, h1.2.2.trans ?_⟩
   rw [List.filter_append]
   simp [hx]
  ·have e : stepB k l (a, out) x = stepD k l (a, out) x.1 := by unfold stepB stepD; rw [hx]; rfl
   have h1 := ih (stepD k l (a, out) x.1).1 (stepD k l (b, out) x.1).1 (stepD k l (b, out) x.1).2 (by unfold stepD; rw [List.filter_append, h]; simp)
   rw [e, List.filter_cons, List.filter_cons, hx]
   have e2 : (stepD k l (a, out) x.1) = ((stepD k l (a, out) x.1).1, (stepD k l (b, out) x.1).2) := rfl
   rw [e2]
   refine ⟨h1.1, h1.2.1, h1.2.2.trans ?_⟩
   unfold stepD
   rw [List.filter_append]
   simp
theorem perm_parts {α : Type} (p : α → Bool) (l : List α) : ((l.filter fun x => !p x) ++ l.filter p).Perm l := by
 induction l with
 | nil => simp
 | cons x t ih =>
  rw [List.filter_cons, List.filter_cons]
  rcases hx : p x with _ | _
  ·simpa using ih
  ·simp only [Bool.not_true, Bool.false_eq_true, if_false, if_true]
   exact List.perm_middle.trans (List.Perm.cons _ ih)
theorem prog_ents {l : List Fil} (h : FineB l) (k : Nat) (out : List Bs) {s : List Ent3} (hs : (s.map (·.1)).Pairwise (fun a b => ¬ b < a)) (hp : s.Perm (fileEs l ++ ((dirNs l).foldl (stepD k l) ([], out)).1)) :
  s = ((entsOf l).foldl (stepB k l) ([], out)).1 ∧ ((dirNs l).foldl (stepD k l) ([], out)).2 = ((entsOf l).foldl (stepB k l) ([], out)).2 := by
 obtain ⟨h1, h2, h3⟩ := stepB_parts k l (entsOf l) [] [] out rfl
 have hn := stepB_names k l (entsOf l) ([], out)
 rw [List.map_nil, List.nil_append] at hn
 have hn1 : ((entsOf l).foldl (stepB k l) ([], out)).1.map (·.1) = (entsOf l).map (·.1) := by
  have := congrArg (List.map Prod.fst) hn
  simpa [List.map_map, Function.comp_def] using this
 have hR : RiseT ((entsOf l).foldl (stepB k l) ([], out)).1 := by
  unfold RiseT
  rw [hn1]
  exact entsOf_rise l
 have hP : s.Perm ((entsOf l).foldl (stepB k l) ([], out)).1 := by
  refine hp.trans ?_
  have h4 := perm_parts (fun x : Ent3 => x.2.1) ((entsOf l).foldl (stepB k l) ([], out)).1
  rw [h2, h3, List.filter_nil, List.nil_append, ← fileEs_eq h] at h4
  exact h4
 exact ⟨sorted_is _ hs hP hR, h1.symm⟩
theorem stepB_t {k : Nat} {l : List Fil} {acc : List Ent3 × List Bs} {x : Ent3} (h : x.2.1 = true) : stepB k l acc x = (acc.1 ++ [(x.1, true, (buildL k (inOf l x.1) acc.2).1)], (buildL k (inOf l x.1) acc.2).2) := by unfold stepB; rw [if_pos h]
theorem stepB_f {k : Nat} {l : List Fil} {acc : List Ent3 × List Bs} {x : Ent3} (h : x.2.1 = false) : stepB k l acc x = (acc.1 ++ [x], acc.2) := by unfold stepB; rw [h]; rfl
def esL (k : Nat) (l : List Fil) : List Ent3 := (entsOf l).map fun x => if x.2.1 then (x.1, true, (buildL k (inOf l x.1) []).1) else x
def idL (k : Nat) (l : List Fil) : Bs := (buildL k l []).1
theorem buildL_same (k : Nat) : ∀ (l : List Fil) (out : List Bs), (buildL k l out).1 = idL k l ∧ ((entsOf l).foldl (stepB k l) ([], out)).1 = esL k l := by
 induction k with
 | zero =>
  intro l out
  refine ⟨rfl, ?_⟩
  have h : ∀ (es acc : List Ent3) (o : List Bs), (es.foldl (stepB 0 l) (acc, o)).1 = acc ++ es.map fun x => if x.2.1 then (x.1, true, (buildL 0 (inOf l x.1) []).1) else x := by
   intro es
   induction es with
   | nil => intro acc o; simp
   | cons x t ih =>
    intro acc o
    rw [List.foldl_cons, List.map_cons]
    rcases hx : x.2.1 with _ | _
    ·rw [stepB_f hx, ih]; simp
    ·rw [stepB_t hx, ih]
     simp [buildL]
  simpa [esL] using h (entsOf l) [] out
 | succ k ihk =>
  have hE : ∀ (l : List Fil) (out : List Bs), ((entsOf l).foldl (stepB (k + 1) l) ([], out)).1 = esL (k + 1) l := by
   intro l out
   have hid : ∀ (m : List Fil) (o : List Bs), (buildL (k + 1) m o).1 = (buildL (k + 1) m []).1 := fun m o => by
    rw [buildL_succ, buildL_succ]
    simp only [(ihk m o).2, (ihk m []).2]
   have h : ∀ (es acc : List Ent3) (o : List Bs), (es.foldl (stepB (k + 1) l) (acc, o)).1 = acc ++ es.map fun x => if x.2.1 then (x.1, true, (buildL (k + 1) (inOf l x.1) []).1) else x := by
    intro es
    induction es with
    | nil => intro acc o; simp
    | cons x t ih =>
     intro acc o
     rw [List.foldl_cons, List.map_cons]
     rcases hx : x.2.1 with _ | _
     ·rw [stepB_f hx, ih]; simp
     ·rw [stepB_t hx, ih, hid]; simp
   simpa [esL] using h (entsOf l) [] out
  intro l out
  refine ⟨?_, hE l out⟩
  unfold idL
  rw [buildL_succ, buildL_succ]
  simp only [(ihk l out).2, (ihk l []).2]
theorem idL_succ (k : Nat) (l : List Fil) : idL (k + 1) l = sumL (encT (esL k l)) := by
 unfold idL
 rw [buildL_succ]
 simp only [(buildL_same k l []).2]
theorem esL_fine {l : List Fil} (h : FineB l) {k : Nat} (hk : 0 < k) : FineT (esL k l) := by
 have h1 := build_fine h hk []
 rwa [(buildL_same k l []).2] at h1
theorem addR_sub {out : List Bs} {raw x : Bs} (h : x ∈ out) : x ∈ addR out raw := by
 unfold addR
 split
 ·exact h
 ·simp [h]
theorem addR_new (out : List Bs) (raw : Bs) : raw ∈ addR out raw := by
 unfold addR
 split
 ·assumption
 ·simp
theorem addR_mem {out : List Bs} {raw x : Bs} (h : x ∈ addR out raw) : x ∈ out ∨ x = raw := by
 unfold addR at h
 split at h
 ·exact .inl h
 ·simpa using h
def AllIn (R : List Bs) : Nat → List Fil → Prop
 | 0, _ => True
 | k + 1, l => encT (esL k l) ∈ R ∧ ∀ d, inOf l d ≠ [] → AllIn R k (inOf l d)
theorem foldB_sub (k : Nat) (l : List Fil) (hsub : ∀ m o x, x ∈ o → x ∈ (buildL k m o).2) (es : List Ent3) : ∀ (acc : List Ent3 × List Bs) (x : Bs), x ∈ acc.2 → x ∈ (es.foldl (stepB k l) acc).2 := by
 induction es with
 | nil => intro acc x h; exact h
 | cons y t ih =>
  intro acc x h
  refine ih _ x ?_
  unfold stepB
  split
  ·exact hsub _ _ _ h
  ·exact h
theorem buildL_sub (k : Nat) : ∀ (l : List Fil) (out : List Bs) (x : Bs), x ∈ out → x ∈ (buildL k l out).2 := by
 induction k with
 | zero => intro l out x h; exact h
 | succ k ih =>
  intro l out x h
  rw [buildL_succ]
  exact addR_sub (foldB_sub k l ih _ _ _ h)
theorem foldB_all (k : Nat) (l : List Fil) (R : List Bs) (es : List Ent3) : ∀ (acc : List Ent3 × List Bs), (∀ x ∈ (es.foldl (stepB k l) acc).2, x ∈ R) → ∀ e ∈ es, e.2.1 = true → ∃ o, ∀ x ∈ (buildL k (inOf l e.1) o).2, x ∈ R := by
 induction es with
 | nil => intro acc _ e he; cases he
 | cons y t ih =>
  intro acc h e he hd
  rw [List.foldl_cons] at h
  rcases List.mem_cons.1 he with h1 | h1
  ·subst h1
   refine ⟨acc.2, fun x hx => h x (foldB_sub k l (buildL_sub k) t _ _ ?_)⟩
   unfold stepB
   rw [if_pos hd]
   exact hx
  ·exact ih _ h e h1 hd
theorem buildL_all {R : List Bs} (k : Nat) : ∀ (l : List Fil) (out : List Bs), FineB l → (∀ x ∈ (buildL k l out).2, x ∈ R) → AllIn R k l := by
 induction k with
 | zero => intro l out _ _; trivial
 | succ k ih =>
  intro l out hl h
  rw [buildL_succ] at h
  simp only [(buildL_same k l out).2] at h
  refine ⟨h _ (addR_new _ _), fun d hd => ?_⟩
  have h1 := (mem_dirNs hl d).2 hd
  unfold dirNs at h1
  obtain ⟨e, he, rfl⟩ := List.mem_map.1 h1
  obtain ⟨he1, he2⟩ := List.mem_filter.1 he
  obtain ⟨o, ho⟩ := foldB_all k l R (entsOf l) ([], out) (fun x hx => h x (addR_sub hx)) e he1 he2
  exact ih _ o (hl.inOf _) ho
theorem foldB_trees (k : Nat) (l : List Fil) (P : Bs → Prop) (hP : ∀ (d : Bs) (o : List Bs), (∀ x ∈ o, P x) → ∀ x ∈ (buildL k (inOf l d) o).2, P x) (es : List Ent3) : ∀ (acc : List Ent3 × List Bs), (∀ x ∈ acc.2, P x) → ∀ x ∈ (es.foldl (stepB k l) acc).2, P x := by
 induction es with
 | nil => intro acc h; exact h
 | cons y t ih =>
  intro acc h
  refine ih _ ?_
  unfold stepB
  split
  ·exact hP _ _ h
  ·exact h
theorem buildL_trees (k : Nat) : ∀ (l : List Fil) (out : List Bs), FineB l → (∀ f ∈ l, f.1.length < k) → (∀ x ∈ out, ∃ es, x = encT es ∧ FineT es) → ∀ x ∈ (buildL k l out).2, ∃ es, x = encT es ∧ FineT es := by
 induction k with
 | zero => intro l out _ _ h; exact h
 | succ k ih =>
  intro l out hl hk h x hx
  rw [buildL_succ] at hx
  simp only [(buildL_same k l out).2] at hx
  rcases addR_mem hx with h1 | h1
  ·exact foldB_trees k l _ (fun d o ho => ih _ _ (hl.inOf d) (inOf_len hk) ho) _ ([], out) h x h1
  ·refine ⟨_, h1, ?_⟩
   rcases k with _ | k
   ·have hl0 : l = [] := by
     rcases l with _ | ⟨f, t⟩
     ·rfl
     ·have h2 := hk f (by simp)
      have h3 := (hl.parts f (by simp)).1
      have h4 : f.1 = [] := List.length_eq_zero_iff.1 (by omega)
      rw [h4] at h3
      exact absurd h3 (by decide)
    subst hl0
    exact fineT_of (by simp [esL, entsOf]) (by simp [RiseT, esL, entsOf]) (by simp [esL, entsOf])
   ·exact esL_fine hl (by omega)
end TreeLaw
end Go.Proofs.YtcednfmkiaelnaaGreatDoor
namespace Go.Proofs.YtcednfmkiaelnaaGreatDoor
open PathLaw (named under)
def CheckP (l : List Fil) : Prop := (l.map (·.1)).Pairwise (· < ·) ∧ (∀ f ∈ l, named f.1 = true ∧ f.2.length = 32) ∧ (∀ f ∈ l, ∀ g ∈ l, under f.1 g.1 = false) ∧ l.length ≤ 4096
def ApartTo (l : List Fil) (k : Nat) : Prop := ∀ f ∈ l.take k, ∀ g ∈ l.take k, under f.1 g.1 = false
theorem lt_app (a r : List UInt8) (c : UInt8) : a < a ++ c :: r := by
 induction a with
 | nil => simp
 | cons x t ih => rw [List.cons_append, List.cons_lt_cons_iff]; exact .inr ⟨rfl, ih⟩
theorem under_lt {a b : List UInt8} (h : under a b = true) : b < a := by
 obtain ⟨r, rfl⟩ := PathLaw.under_iff.1 h
 exact lt_app _ _ _
def NoneTo (l : List Fil) (k : Nat) (p : List UInt8) (pos : Nat) : Prop := ∀ j, j < pos → p[j]? = some 47 → p.take j ∉ (l.take (k + 1)).map (·.1)
theorem apart_snoc {l : List Fil} {k : Nat} {p id : List UInt8} (hk : l[k]? = some (p, id)) (hf : FineL (l.take (k + 1))) (h : ApartTo l k) (hn : NoneTo l k p p.length) : ApartTo l (k + 1) := by
 have e : l.take (k + 1) = l.take k ++ [(p, id)] := by rw [List.take_add_one, hk]; rfl
 have hp : ∀ g ∈ l.take (k + 1), under p g.1 = false := fun g hg => by
  rw [Bool.eq_false_iff]
  intro hu
  obtain ⟨r, hr⟩ := PathLaw.under_iff.1 hu
  refine hn g.1.length (by rw [hr]; simp) (by rw [hr]; simp) ?_
  rw [hr, List.take_left']
  ·exact List.mem_map_of_mem hg
  ·rfl
 intro f hf1 g hg
 have hf2 := hf1
 rw [e] at hf2
 rcases List.mem_append.1 hf2 with h1 | h1
 ·have hg2 := hg
  rw [e] at hg2
  rcases List.mem_append.1 hg2 with h2 | h2
  ·exact h f h1 g h2
  ·have e2 : g = (p, id) := by simpa using h2
   rw [Bool.eq_false_iff]
   intro hu
   have h3 := under_lt hu
   have h4 := hf.1
   rw [e, List.map_append, List.pairwise_append] at h4
   have h5 := h4.2.2 f.1 (List.mem_map_of_mem h1) p (by simp)
   rw [e2] at h3
   exact List.lt_irrefl _ (List.lt_trans h3 h5)
 ·have e2 : f = (p, id) := by simpa using h1
  rw [e2]
  exact hp g hg
theorem none_zero (l : List Fil) (k : Nat) (p : List UInt8) : NoneTo l k p 0 := fun j h => absurd h (by omega)
theorem rune_inner {p : List UInt8} {pos j : Nat} (h1 : pos < j) (h2 : j < pos + (Utf8.decode ⟨p.toArray⟩ pos).2) : p[j]? ≠ some 47 := by
 have hb : ∀ k, (⟨p.toArray⟩ : ByteArray).get! (pos + k) = p.getD (pos + k) 0 := fun k => by
  show p.toArray.getD (pos + k) default = _
  simp [List.getD_eq_getElem?_getD, Array.getD_eq_getD_getElem?]
  rfl
 obtain ⟨k, rfl⟩ : ∃ k, j = pos + k := ⟨j - pos, by omega⟩
 intro hj
 have hk : p.getD (pos + k) 0 = 47 := by rw [List.getD_eq_getElem?_getD, hj]; rfl
 rw [← hb] at hk
 have hk2 : ((⟨p.toArray⟩ : ByteArray).get! (pos + k)).toNat = 47 := by rw [hk]; rfl
 have hk0 : 0 < k := by omega
 have hk3 : k < (Utf8.decode ⟨p.toArray⟩ pos).2 := by omega
 have hw : (Utf8.decode ⟨p.toArray⟩ pos).2 ≤ 4 := by
  simp only [Utf8.decode]
  repeat' split
  all_goals simp_all
 clear hb hj hk h1 h2
 have hc : k = 1 ∨ k = 2 ∨ k = 3 := by omega
 rcases hc with rfl | rfl | rfl
 all_goals
  revert hk3
  simp only [Utf8.decode]
  repeat' split
  all_goals simp_all
  all_goals omega
theorem none_step {l : List Fil} {k : Nat} {p : List UInt8} {pos : Nat} (h : NoneTo l k p pos) (hs : p[pos]? = some 47 → p.take pos ∉ (l.take (k + 1)).map (·.1)) : NoneTo l k p (pos + (Utf8.decode ⟨p.toArray⟩ pos).2) := by
 intro j hj h47
 rcases Nat.lt_trichotomy j pos with h1 | h1 | h1
 ·exact h j h1 h47
 ·rw [h1] at h47 ⊢
  exact hs h47
 ·exact absurd h47 (rune_inner h1 hj)
theorem rune_is {p : List UInt8} {pos : Nat} (h : p[pos]? = some 47) : (Utf8.decode ⟨p.toArray⟩ pos).1 = 47 := by
 obtain ⟨hk, hx⟩ := List.getElem?_eq_some_iff.1 h
 have hs : pos < (⟨p.toArray⟩ : ByteArray).size := by rw [size_mk]; exact hk
 have hv : ((⟨p.toArray⟩ : ByteArray)[pos]'hs) = 47 := hx
 rw [decode_ascii _ pos hs (by rw [hv]; decide), hv]
 rfl
theorem known_none {l : List Fil} {k : Nat} {p id q : List UInt8} (hk : l[k]? = some (p, id)) (h : decide (0 < (upd (known l k) p (some 1) q).getD 0) = false) : q ∉ (l.take (k + 1)).map (·.1) := by
 rw [known_succ hk] at h
 intro hq
 unfold known at h
 rw [if_pos hq] at h
 exact absurd h (by decide)
theorem known_some {l : List Fil} {k : Nat} {p id q : List UInt8} (hk : l[k]? = some (p, id)) (h : decide (0 < (upd (known l k) p (some 1) q).getD 0) = true) : q ∈ (l.take (k + 1)).map (·.1) := by
 rw [known_succ hk] at h
 unfold known at h
 split at h
 ·assumption
 ·exact absurd h (by decide)
theorem no_named {l : List Fil} {k : Nat} {p id : List UInt8} (hk : l[k]? = some (p, id)) (h : named p = false) : ¬ CheckP l := fun hc => by
 have := (hc.2.1 _ (List.mem_of_getElem? hk)).1
 rw [h] at this
 cases this
theorem no_id {l : List Fil} {k : Nat} {p id : List UInt8} (hk : l[k]? = some (p, id)) (h : id.length ≠ 32) : ¬ CheckP l := fun hc => h (hc.2.1 _ (List.mem_of_getElem? hk)).2
theorem no_rise {l : List Fil} {k : Nat} {p id : List UInt8} {q : Fil} (hk : l[k]? = some (p, id)) (h0 : 1 ≤ k) (hq : l[k - 1]? = some q) (h : ¬ q.1 < p) : ¬ CheckP l := fun hc => by
 obtain ⟨h1, e1⟩ := List.getElem?_eq_some_iff.1 hk
 obtain ⟨h2, e2⟩ := List.getElem?_eq_some_iff.1 hq
 have h3 := List.pairwise_iff_getElem.1 hc.1 (k - 1) k (by simp; omega) (by simp; omega) (by omega)
 simp only [List.getElem_map, e1, e2] at h3
 exact h h3
theorem no_apart {l : List Fil} {k : Nat} {p id : List UInt8} {pos : Nat} (hk : l[k]? = some (p, id)) (h47 : p[pos]? = some 47) (hq : p.take pos ∈ (l.take (k + 1)).map (·.1)) : ¬ CheckP l := fun hc => by
 obtain ⟨g, hg, e⟩ := List.mem_map.1 hq
 have h1 := hc.2.2.1 _ (List.mem_of_getElem? hk) g (List.mem_of_mem_take hg)
 rw [e] at h1
 simp only at h1
 rw [slash_under h47] at h1
 cases h1
end Go.Proofs.YtcednfmkiaelnaaGreatDoor
namespace Go.Proofs.YtcednfmkiaelnaaGreatDoor
namespace TreeLaw
open PathLaw (Bs pc part named under)
def flat : Nat → List Fil → List Fil
 | 0, _ => []
 | k + 1, l => (entsOf l).flatMap fun x => if x.2.1 then (flat k (inOf l x.1)).map (fun f => (x.1 ++ 47 :: f.1, f.2)) else [(x.1, x.2.2)]
theorem flat_mem (k : Nat) : ∀ (l : List Fil), FineB l → (∀ f ∈ l, f.1.length < k) → ∀ p, p ∈ flat k l ↔ p ∈ l := by
 induction k with
 | zero =>
  intro l _ h p
  constructor
  ·intro hp; cases hp
  ·intro hp; exact absurd (h p hp) (by omega)
 | succ k ih =>
  intro l hl hk p
  unfold flat
  rw [List.mem_flatMap]
  constructor
  ·rintro ⟨x, hx, hp⟩
   obtain ⟨g, hg, rfl⟩ := entsOf_mem hx
   rcases hb : (entOf g).2.1 with _ | _
   ·rw [hb] at hp
    have e := (entOf_plain hb).1
    rw [e] at hp
    simp only [Bool.false_eq_true, if_false, List.mem_singleton] at hp
    rw [hp]
    exact hg
   ·rw [hb] at hp
    simp only [if_true] at hp
    obtain ⟨f, hf, rfl⟩ := List.mem_map.1 hp
    rw [ih _ (hl.inOf _) (inOf_len hk)] at hf
    exact (inOf_mem hf).1
  ·intro hp
   rcases hb : (entOf p).2.1 with _ | _
   ·have e := (entOf_plain hb).1
    refine ⟨entOf p, entOf_in hl hp hb, ?_⟩
    rw [hb, e]
    simp
   ·obtain ⟨r, hr, he, hs⟩ := entOf_dir hb
    obtain ⟨x, hx, e⟩ := entsOf_new hp
    refine ⟨x, hx, ?_⟩
    obtain ⟨g, hg, rfl⟩ := entsOf_mem hx
    rcases hc : (entOf g).2.1 with _ | _
    ·exact absurd e (hl.no_both hg hp hc hb)
    ·simp only [if_true]
     refine List.mem_map.2 ⟨(r, p.2), ?_, ?_⟩
     ·rw [ih _ (hl.inOf _) (inOf_len hk), e]
      exact mem_inOf hp hr
     ·rw [e, ← he]
theorem flat_cut {k : Nat} {l : List Fil} {x : Ent3} (hx : x ∈ entsOf l) {p : Fil} (hp : p ∈ (if x.2.1 then (flat k (inOf l x.1)).map (fun f => (x.1 ++ 47 :: f.1, f.2)) else [(x.1, x.2.2)])) : (cutS p.1).1 = x.1 := by
 obtain ⟨g, hg, rfl⟩ := entsOf_mem hx
 rcases hb : (entOf g).2.1 with _ | _
 ·rw [hb] at hp
  have e := entOf_plain hb
  simp only [Bool.false_eq_true, if_false, List.mem_singleton] at hp
  rw [hp, e.1]
  simp only
  rw [cutS_self e.2]
 ·rw [hb] at hp
  obtain ⟨r, _, _, h2⟩ := entOf_dir hb
  simp only [if_true] at hp
  obtain ⟨f, _, rfl⟩ := List.mem_map.1 hp
  simp only
  rw [cutS_put h2]
theorem flat_nodup (k : Nat) : ∀ (l : List Fil), FineB l → (flat k l).Nodup := by
 induction k with
 | zero => intro l _; exact List.nodup_nil
 | succ k ih =>
  intro l hl
  unfold flat List.Nodup
  rw [List.pairwise_flatMap]
  refine ⟨fun x hx => ?_, ?_⟩
  ·split
   ·refine List.pairwise_map.2 ((ih _ (hl.inOf _)).imp fun {a b} h e => h ?_)
    simp only [Prod.mk.injEq, List.append_cancel_left_eq, List.cons.injEq, true_and] at e
    exact Prod.ext e.1 e.2
   ·simp
  ·have h1 := entsOf_rise l
   unfold RiseT at h1
   rw [List.pairwise_map] at h1
   refine h1.imp_of_mem fun {x y} hx hy hlt p hp q hq e => ?_
   subst e
   rw [← flat_cut hx hp, ← flat_cut hy hq] at hlt
   exact List.lt_irrefl _ hlt
theorem flat_perm {k : Nat} {l : List Fil} (hl : FineB l) (hk : ∀ f ∈ l, f.1.length < k) : (flat k l).Perm l :=
 (List.perm_ext_iff_of_nodup (flat_nodup k l hl) (by
  have h := hl.rise
  rw [List.pairwise_map] at h
  exact h.imp fun {a b} h e => by rw [e] at h; exact List.lt_irrefl _ h)).2 (flat_mem k l hl hk)
theorem read_is {k : Nat} {l s : List Fil} (hl : FineB l) (hk : ∀ f ∈ l, f.1.length < k) (hs : (s.map (·.1)).Pairwise (fun a b => ¬ b < a)) (hp : s.Perm (flat k l)) : s = l :=
 sorted_is _ hs (hp.trans (flat_perm hl hk)) hl.rise
theorem flat_len {k : Nat} {l : List Fil} (hl : FineB l) (hk : ∀ f ∈ l, f.1.length < k) : (flat k l).length = l.length := (flat_perm hl hk).length_eq
def flatTo (k : Nat) (l : List Fil) (i : Nat) : List Fil := ((entsOf l).take i).flatMap fun x => if x.2.1 then (flat k (inOf l x.1)).map (fun f => (x.1 ++ 47 :: f.1, f.2)) else [(x.1, x.2.2)]
theorem flatTo_succ {k : Nat} {l : List Fil} {i : Nat} {x : Ent3} (h : (entsOf l)[i]? = some x) : flatTo k l (i + 1) = flatTo k l i ++ (if x.2.1 then (flat k (inOf l x.1)).map (fun f => (x.1 ++ 47 :: f.1, f.2)) else [(x.1, x.2.2)]) := by
 unfold flatTo
 rw [List.take_add_one, h, List.flatMap_append]
 simp
theorem flatTo_all (k : Nat) (l : List Fil) : flatTo k l (entsOf l).length = flat (k + 1) l := by
 unfold flatTo
 rw [List.take_of_length_le (Nat.le_refl _)]
 rfl
theorem flatTo_len {k : Nat} {l : List Fil} (i : Nat) : (flatTo k l i).length ≤ (flat (k + 1) l).length := by
 unfold flatTo
 conv => rhs; unfold flat
 rw [← List.take_append_drop i (entsOf l), List.flatMap_append, List.length_append]
 rw [List.take_append_drop i (entsOf l)]
 exact Nat.le_add_right _ _
theorem pc_cons (c : UInt8) (t : Bs) : pc (c :: t) = if c = 47 then [] :: pc t else match pc t with
  | [] => [[c]]
  | y :: r => (c :: y) :: r := rfl
theorem pc_app (a r : Bs) : pc (a ++ 47 :: r) = pc a ++ pc r := by
 induction a with
 | nil => rw [List.nil_append, pc_cons, if_pos rfl]; rfl
 | cons c t ih =>
  rw [List.cons_append, pc_cons, pc_cons, ih]
  split
  ·rfl
  ·rcases h : pc t with _ | ⟨y, z⟩
   ·exact absurd h (PathLaw.pc_ne t)
   ·rfl
theorem named_above {a r : Bs} (h : named (a ++ 47 :: r) = true) : named a = true := by
 unfold named at *
 rw [pc_app] at h
 simp only [List.all_append, List.length_append, List.length_cons, Bool.and_eq_true, decide_eq_true_eq] at h ⊢
 have h1 := h.2.1
 have h2 := h.2.2
 exact ⟨h.1.1, by omega, by omega⟩
theorem ents_named {l : List Fil} {dir : Bs} (h : ∀ f ∈ l, named (dir ++ f.1) = true) {x : Ent3} (hx : x ∈ entsOf l) : named (dir ++ x.1) = true := by
 obtain ⟨g, hg, rfl⟩ := entsOf_mem hx
 have h1 := h g hg
 rcases hb : (entOf g).2.1 with _ | _
 ·rw [(entOf_plain hb).1]
  exact h1
 ·obtain ⟨r, _, hr, _⟩ := entOf_dir hb
  rw [hr, ← List.append_assoc] at h1
  exact named_above h1
theorem in_named {l : List Fil} {dir d : Bs} (h : ∀ f ∈ l, named (dir ++ f.1) = true) : ∀ f ∈ inOf l d, named (dir ++ d ++ [47] ++ f.1) = true := by
 intro f hf
 have h1 := h _ (inOf_mem (l := l) (d := d) (r := f.1) (i := f.2) hf).1
 simpa using h1
theorem fineB_of {l : List Fil} (h : CheckP l) : FineB l where
 rise := h.1
 parts f hf := by
  have h1 := (h.2.1 f hf).1
  unfold named at h1
  simp only [Bool.and_eq_true, decide_eq_true_eq] at h1
  exact ⟨h1.1, h1.2.2⟩
 ids f hf := (h.2.1 f hf).2
 apart := h.2.2.1
 few := h.2.2.2
theorem short_of {l : List Fil} (h : CheckP l) : ∀ f ∈ l, f.1.length < 151 := fun f hf => by
 have := ((fineB_of h).parts f hf).2
 omega
def rootL (l : List Fil) : Bs := idL 151 l
def treesL (l : List Fil) : List Bs := (buildL 151 l []).2
def putAllR : List Bs → List Bs → Int × List Bs
 | R, [] => (0, R)
 | R, raw :: t => if putZ R raw = 0 then putAllR (putR R raw) t else (putZ R raw, putR R raw)
theorem putR_sub {R : List Bs} {raw x : Bs} (h : x ∈ R) : x ∈ putR R raw := by
 unfold putR
 split
 ·simp [h]
 ·exact h
theorem putR_new {R : List Bs} {raw : Bs} (h : putZ R raw = 0) : raw ∈ putR R raw := by
 unfold putZ at h
 unfold putR
 split
 ·simp
 ·rename_i r hr
  rw [hr] at h
  by_cases h1 : r = raw
  ·rw [← h1]; exact (getObj_mem hr).1
  ·simp [h1] at h
theorem putAll_sub (all : List Bs) : ∀ (R : List Bs) (x : Bs), x ∈ R → x ∈ (putAllR R all).2 := by
 induction all with
 | nil => intro R x h; exact h
 | cons a t ih =>
  intro R x h
  unfold putAllR
  split
  ·exact ih _ _ (putR_sub h)
  ·exact putR_sub h
theorem putAll_all (all : List Bs) : ∀ (R : List Bs), (putAllR R all).1 = 0 → ∀ x ∈ all, x ∈ (putAllR R all).2 := by
 induction all with
 | nil => intro R _ x h; cases h
 | cons a t ih =>
  intro R h x hx
  unfold putAllR at h ⊢
  split at h
  ·rename_i h0
   rw [if_pos h0]
   rcases List.mem_cons.1 hx with hx | hx
   ·rw [hx]; exact putAll_sub _ _ _ (putR_new h0)
   ·exact ih _ h x hx
  ·rename_i h0
   exact absurd h h0
theorem putZ_or (R : List Bs) (raw : Bs) : putZ R raw = 0 ∨ putZ R raw = 7 := by
 unfold putZ
 split
 ·exact .inl rfl
 ·split
  ·exact .inl rfl
  ·exact .inr rfl
end TreeLaw
end Go.Proofs.YtcednfmkiaelnaaGreatDoor
namespace Go.Proofs.YtcednfmkiaelnaaGreatDoor
open Go.RowKit
open PathLaw (named under)
set_option maxRecDepth 100000 in
set_option maxHeartbeats 8000000 in
theorem checkX_any (A : Option Addr) (n c : Nat) (l : List Fil) (w : World) (hA : Sl w 2 A n (fls l)) (hn : n ≤ 1048576) (hP : ∀ f ∈ l, f.1.length ≤ 2147483648) (hM : MaxL w) :
  Calls Tryz.prog 9 #[.slice A n c] w fun e w' => ∃ z : Int, e = .returned (I z) ∧ ((z = 0 ∧ CheckP l) ∨ (z = 1 ∧ ¬ CheckP l)) ∧ Below w.heap.size w w' := by
 have HA := Lib.hid hA
 have HP := Lib.hid hP
 have HM := Lib.hid hM
 have hln := fls_count hA
 have hmm := @run_makeMap Tryz.prog
 have hm0 := MapIs.made seenC w
 have Hm0 := Lib.hid hm0
 have Hln := Lib.hid hln
 clear hA hP hM hm0 hln
 go_enter Tryz.func9, Tryz.ntmps9
 obtain ⟨m, hm⟩ : ∃ m, m = w.heap.size := ⟨_, rfl⟩
 go_wp2
 simp only [← hm]
 rw [← hm] at Hm0
 have HMW : Hid (m = w.heap.size) := Lib.hid hm
 clear hm
 have B0 : Hid (Below w.heap.size w (w.alloc (.map #[] 0))) := Lib.hid (balloc (Below.refl _ w) _)
 go_loopw [2, 4, 5, 6, 7, 11] (fun s2 s4 s5 s6 s7 i wr => ∃ k : Nat, s2 = I 0 ∧ i = .int .i64 k ∧ Hid (k ≤ n) ∧ Hid (FineL (l.take k) ∧ ApartTo l k) ∧ Hid (MapIs seenC wr m k (known l k)) ∧ Hid (Below w.heap.size w wr)) (fun _ _ _ _ _ i _ => n - (intOf i).toNat)
 case atStart => exact ⟨0, rfl, rfl, Lib.hid (Nat.zero_le _), Lib.hid ⟨fine_nil, fun f hf => by simp at hf⟩, Lib.hid (by
  have h := Hm0.out
  have e : (fun _ => none : List UInt8 → Option Int) = known l 0 := by funext s; simp [known]
  rwa [e] at h), B0⟩
 case round =>
  obtain ⟨k, rfl, rfl, hk, hfi, hm1, hb⟩ := hrel
  by_cases hlt : k < n
  ·obtain ⟨b, off, f, rfl, _, hf, x0, x1⟩ := (HA.out.below hb.out).fil hlt
   have Hf := Lib.hid hf
   clear hf
   obtain ⟨p, id⟩ := f
   have HB5 := Lib.hid (Blk.new wr 61 #[S p, S id])
   have b5 := balloc (Below.refl _ wr) (.cells #[S p, S id] 61)
   obtain ⟨W, hW⟩ : ∃ W, W = wr.alloc (.cells #[S p, S id] 61) := ⟨_, rfl⟩
   obtain ⟨g5, hg5⟩ : ∃ g5, g5 = wr.heap.size := ⟨_, rfl⟩
   rw [← hW, ← hg5] at HB5
   rw [← hW] at b5
   have BW := Lib.hid (bstep hb.out b5)
   have HMk := Lib.hid (hm1.out.step b5)
   have hgm : g5 ≠ m := fun e => by have := hm1.out.lt; omega
   have hgp0 : p.length ≤ 2147483648 := HP.out _ (List.mem_of_getElem? Hf.out)
   have hgp : p.length ≤ maxLen := Nat.le_trans hgp0 (by decide)
   have Hgp0 := Lib.hid hgp0
   obtain ⟨prev, hprev⟩ : ∃ prev, prev = ((l[k - 1]?).map (·.1)).getD [] := ⟨_, rfl⟩
   obtain ⟨b0, hb00⟩ : ∃ b0, b0 = decide (0 < k) := ⟨_, rfl⟩
   have hb0 := Lib.hid hb00
   have Hk1 : Hid (b0 = true → 1 ≤ k) := Lib.hid (fun h => by rw [hb00] at h; have := of_decide_eq_true h; omega)
   have Hpq : Hid (b0 = true → ∃ q, l[k - 1]? = some q ∧ q.1 = prev) := Lib.hid (fun h0 => by
    have h1 := Hk1.out h0
    obtain ⟨b', off', f', e1, _, hf', z0, _⟩ := (HA.out.below hb.out).fil (k := k - 1) (by omega)
    exact ⟨f', hf', by rw [hprev, hf']; rfl⟩)
   have Hpv : Hid (∀ W', Below W.heap.size W W' → b0 = true → W'.cell? ⟨b, off + (k - 1) * 2, none⟩ = some (S prev)) := Lib.hid (fun W' h h0 => by
    have h1 := Hk1.out h0
    obtain ⟨b', off', f', e1, _, hf', z0, _⟩ := (HA.out.below (bstep BW.out h)).fil (k := k - 1) (by omega)
    cases e1
    rw [hprev, hf']
    exact z0)
   have Hb0f : Hid (b0 = false → k = 0) := Lib.hid (fun h => by rw [hb00] at h; have := of_decide_eq_false h; omega)
   obtain ⟨ge, hge⟩ : ∃ ge, ge = (!Op.bytesLess prev p) := ⟨_, rfl⟩
   have Hge := Lib.hid hge.symm
   have Hge2 : Hid (ge = false → prev < p) := Lib.hid (fun h => by
    rw [hge, Go.Proofs.bytesLess_eq] at h
    simpa using h)
   clear hb00 hprev hge hgp0
   rcases hnm : PathLaw.named p with _ | _
   ·have C5 : Hid (∀ W', Below W.heap.size W W' → Calls Tryz.prog 11 #[S p] W' fun e w' => e = .returned (.bool false) ∧ Below W'.heap.size W' w') := Lib.hid (fun W' h => by
     have h1 := named_any p W' Hgp0.out (HM.out.step (bstep BW.out h))
     rw [hnm] at h1
     exact h1)
    have HNO : Hid (¬ CheckP l) := Lib.hid (no_named Hf.out hnm)
    clear hnm
    go_wp2
    rw [← hW]
    simp only [← hg5]
    clear hW hg5 b5
    have H32 : Hid (true = true) := Lib.hid rfl
    refine wp_region_guards (by kernel_rfl) 24 (by kernel_rfl) ?_ (ck1Phi g5 p) ck1Phi_mono (fun i o hi ho a w hb hs hm => ?_) (fun o ho a w hb hs hm => ?_)
    ·exact dst_lt9 (n := 66) (by kernel_rfl)
    ·exact match i, hi, ho with
     | 0, _, ho => by
       cases ho
       rw [if_pos (wanted_none _ rfl)]
       refine wp_value (st_field rfl ((hs.keeps (by kernel_rfl)).trans rfl) (by kernel_rfl)) ⟨_, rfl, rfl, Below.refl _ _⟩
     | 1, _, ho => by
       cases ho
       rw [if_pos (wanted_none _ rfl)]
       have hx : w.cell? ⟨g5, 0, none⟩ = some (S p) := (HB5.out.step hb).cell 0; refine wp_value (st_load rfl (hm.get 0 16 (by kernel_rfl)) (by go_simp)) ⟨_, rfl, rfl, Below.refl _ _⟩
     | 2, _, ho => by
       cases ho
       rw [if_pos (wanted_none _ rfl)]
       have h1 := eval_getD (hm.get 1 17 (by kernel_rfl)); unfold Oper.wp; simp only [execOp]; go_simp; refine (C5.out w hb).mono ?_; rintro e w' ⟨rfl, hb'⟩; exact ⟨_, rfl, rfl, hb'⟩
     | 3, _, ho => by
       cases ho
       rw [if_pos (wanted_none _ rfl)]
       have h1 := eval_getD (hm.get 2 18 (by kernel_rfl)); unfold Oper.wp; simp only [execOp]; go_simp; exact ⟨_, rfl, rfl, Below.refl _ _⟩
     | 4, _, ho => by
       cases ho
       rw [if_pos (wanted_none _ rfl)]
       refine wp_value (st_move rfl (hm.get 3 19 (by kernel_rfl))) ⟨_, rfl, rfl, Below.refl _ _⟩
     | 5, _, ho => by
       cases ho
       generalize hW : Region.wanted _ _ = W
       obtain rfl : W = (true == false) := hW.symm.trans (wanted_of rfl rfl rfl (show a.eval (.tmp 20) = .bool true from (hm.get 4 20 (by kernel_rfl))))
       clear hW
       rw [if_neg (show ¬ (true == false) = true by decide)]
       exact rfl
     | 6, _, ho => by
       cases ho
       generalize hW : Region.wanted _ _ = W
       obtain rfl : W = (true == false) := hW.symm.trans (wanted_of rfl rfl rfl (show a.eval (.tmp 20) = .bool true from (hm.get 4 20 (by kernel_rfl))))
       clear hW
       rw [if_neg (show ¬ (true == false) = true by decide)]
       exact rfl
     | 7, _, ho => by
       cases ho
       generalize hW : Region.wanted _ _ = W
       obtain rfl : W = (true == false) := hW.symm.trans (wanted_of rfl rfl rfl (show a.eval (.tmp 20) = .bool true from (hm.get 4 20 (by kernel_rfl))))
       clear hW
       rw [if_neg (show ¬ (true == false) = true by decide)]
       exact rfl
     | 8, _, ho => by
       cases ho
       generalize hW : Region.wanted _ _ = W
       obtain rfl : W = (true == false) := hW.symm.trans (wanted_of rfl rfl rfl (show a.eval (.tmp 20) = .bool true from (hm.get 4 20 (by kernel_rfl))))
       clear hW
       rw [if_neg (show ¬ (true == false) = true by decide)]
       exact rfl
     | 9, _, ho => by
       cases ho
       rw [if_pos (wanted_none _ rfl)]
       have h1 := eval_getD (hm.get 4 20 (by kernel_rfl)); unfold Oper.wp; simp only [execOp]; go_simp; exact ⟨_, rfl, rfl, Below.refl _ _⟩
     | 10, _, ho => by
       cases ho
       rw [if_pos (wanted_none _ rfl)]
       refine wp_value (st_move rfl (hm.get 9 25 (by kernel_rfl))) ⟨_, rfl, rfl, Below.refl _ _⟩
     | 11, _, ho => by
       cases ho
       generalize hW : Region.wanted _ _ = W
       obtain rfl : W = (true == false) := hW.symm.trans (wanted_of rfl rfl rfl (show a.eval (.tmp 26) = .bool true from (hm.get 10 26 (by kernel_rfl))))
       clear hW
       rw [if_neg (show ¬ (true == false) = true by decide)]
       exact rfl
     | 12, _, ho => by
       cases ho
       generalize hW : Region.wanted _ _ = W
       obtain rfl : W = (true == false) := hW.symm.trans (wanted_of rfl rfl rfl (show a.eval (.tmp 26) = .bool true from (hm.get 10 26 (by kernel_rfl))))
       clear hW
       rw [if_neg (show ¬ (true == false) = true by decide)]
       exact rfl
     | 13, _, ho => by
       cases ho
       generalize hW : Region.wanted _ _ = W
       obtain rfl : W = (true == false) := hW.symm.trans (wanted_of rfl rfl rfl (show a.eval (.tmp 26) = .bool true from (hm.get 10 26 (by kernel_rfl))))
       clear hW
       rw [if_neg (show ¬ (true == false) = true by decide)]
       exact rfl
     | 14, _, ho => by
       cases ho
       rw [if_neg (show ¬ Region.wanted _ _ = true by rw [wanted_undef rfl rfl rfl (show a.eval (.tmp 29) = undef from (hm.get 13 29 (by kernel_rfl)))]; decide)]
       exact rfl
     | 15, _, ho => by
       cases ho
       rw [if_neg (show ¬ Region.wanted _ _ = true by rw [wanted_undef rfl rfl rfl (show a.eval (.tmp 29) = undef from (hm.get 13 29 (by kernel_rfl)))]; decide)]
       exact rfl
     | 16, _, ho => by
       cases ho
       rw [if_neg (show ¬ Region.wanted _ _ = true by rw [wanted_undef rfl rfl rfl (show a.eval (.tmp 29) = undef from (hm.get 13 29 (by kernel_rfl)))]; decide)]
       exact rfl
     | 17, _, ho => by
       cases ho
       rw [if_neg (show ¬ Region.wanted _ _ = true by rw [wanted_undef rfl rfl rfl (show a.eval (.tmp 29) = undef from (hm.get 13 29 (by kernel_rfl)))]; decide)]
       exact rfl
     | 18, _, ho => by
       cases ho
       rw [if_neg (show ¬ Region.wanted _ _ = true by rw [wanted_undef rfl rfl rfl (show a.eval (.tmp 29) = undef from (hm.get 13 29 (by kernel_rfl)))]; decide)]
       exact rfl
     | 19, _, ho => by
       cases ho
       rw [if_neg (show ¬ Region.wanted _ _ = true by rw [wanted_undef rfl rfl rfl (show a.eval (.tmp 29) = undef from (hm.get 13 29 (by kernel_rfl)))]; decide)]
       exact rfl
     | 20, _, ho => by
       cases ho
       rw [if_neg (show ¬ Region.wanted _ _ = true by rw [wanted_undef rfl rfl rfl (show a.eval (.tmp 29) = undef from (hm.get 13 29 (by kernel_rfl)))]; decide)]
       exact rfl
     | 21, _, ho => by
       cases ho
       rw [if_neg (show ¬ Region.wanted _ _ = true by rw [wanted_undef rfl rfl rfl (show a.eval (.tmp 29) = undef from (hm.get 13 29 (by kernel_rfl)))]; decide)]
       exact rfl
     | 22, _, ho => by
       cases ho
       rw [if_neg (show ¬ Region.wanted _ _ = true by rw [wanted_undef rfl rfl rfl (show a.eval (.tmp 29) = undef from (hm.get 13 29 (by kernel_rfl)))]; decide)]
       exact rfl
     | 23, _, ho => by
       cases ho
       generalize hW : Region.wanted _ _ = W
       obtain rfl : W = (true == false) := hW.symm.trans (wanted_of rfl rfl rfl (show a.eval (.tmp 26) = .bool true from (hm.get 10 26 (by kernel_rfl))))
       clear hW
       rw [if_neg (show ¬ (true == false) = true by decide)]
       exact rfl
     | (n + 24), hi, _ => absurd hi (by omega)
    ·have e1 : a.eval (.tmp 26) = .bool true := by cases ho; exact hm.get 10 26 (by kernel_rfl)
     have hfr := hs.frame [16, 17, 18, 19, 20, 21, 22, 23, 24, 25, 26, 27, 28, 29, 30, 31, 32, 33, 34, 35, 36, 37, 38, 39, 40] (by kernel_rfl)
     cases ho
     rw [hfr]
     simp only [List.foldl_cons, List.foldl_nil, e1]
     clear hfr hs hm e1 
     generalize a.eval (.tmp 16) = u16, a.eval (.tmp 17) = u17, a.eval (.tmp 18) = u18, a.eval (.tmp 19) = u19, a.eval (.tmp 20) = u20, a.eval (.tmp 21) = u21, a.eval (.tmp 22) = u22, a.eval (.tmp 23) = u23, a.eval (.tmp 24) = u24, a.eval (.tmp 25) = u25, a.eval (.tmp 27) = u27, a.eval (.tmp 28) = u28, a.eval (.tmp 29) = u29, a.eval (.tmp 30) = u30, a.eval (.tmp 31) = u31, a.eval (.tmp 32) = u32, a.eval (.tmp 33) = u33, a.eval (.tmp 34) = u34, a.eval (.tmp 35) = u35, a.eval (.tmp 36) = u36, a.eval (.tmp 37) = u37, a.eval (.tmp 38) = u38, a.eval (.tmp 39) = u39, a.eval (.tmp 40) = u40
     unfold Oper.wp
     simp only [execOp]
     go_simp
     clear a
     have BX := Lib.hid (bstep BW.out hb)
     clear Hpv Hk1 C5 hb0
     go_wp2
     go_ret
     exact ⟨1, rfl, .inr ⟨rfl, HNO.out⟩, BX.out⟩
   ·have C5 : Hid (∀ W', Below W.heap.size W W' → Calls Tryz.prog 11 #[S p] W' fun e w' => e = .returned (.bool true) ∧ Below W'.heap.size W' w') := Lib.hid (fun W' h => by
     have h1 := named_any p W' Hgp0.out (HM.out.step (bstep BW.out h))
     rw [hnm] at h1
     exact h1)
    have Hnm := Lib.hid hnm
    clear hnm
    by_cases h32 : id.length = 32
    ·have H32 : Hid (((id.length : Int) != 32) = false) := Lib.hid (by simp; omega)
     have Hi := Lib.hid h32
     clear h32
     go_wp2
     rw [← hW]
     simp only [← hg5]
     clear hW hg5 b5
     refine wp_region_guards (by kernel_rfl) 24 (by kernel_rfl) ?_ (ck3Phi b off n c k g5 p id prev b0 ge) ck3Phi_mono (fun i o hi ho a w hb hs hm => ?_) (fun o ho a w hb hs hm => ?_)
     ·exact dst_lt9 (n := 66) (by kernel_rfl)
     ·exact match i, hi, ho with
      | 0, _, ho => by
        cases ho
        rw [if_pos (wanted_none _ rfl)]
        refine wp_value (st_field rfl ((hs.keeps (by kernel_rfl)).trans rfl) (by kernel_rfl)) ⟨_, rfl, rfl, Below.refl _ _⟩
      | 1, _, ho => by
        cases ho
        rw [if_pos (wanted_none _ rfl)]
        have hx : w.cell? ⟨g5, 0, none⟩ = some (S p) := (HB5.out.step hb).cell 0; refine wp_value (st_load rfl (hm.get 0 16 (by kernel_rfl)) (by go_simp)) ⟨_, rfl, rfl, Below.refl _ _⟩
      | 2, _, ho => by
        cases ho
        rw [if_pos (wanted_none _ rfl)]
        have h1 := eval_getD (hm.get 1 17 (by kernel_rfl)); unfold Oper.wp; simp only [execOp]; go_simp; refine (C5.out w hb).mono ?_; rintro e w' ⟨rfl, hb'⟩; exact ⟨_, rfl, rfl, hb'⟩
      | 3, _, ho => by
        cases ho
        rw [if_pos (wanted_none _ rfl)]
        have h1 := eval_getD (hm.get 2 18 (by kernel_rfl)); unfold Oper.wp; simp only [execOp]; go_simp; exact ⟨_, rfl, rfl, Below.refl _ _⟩
      | 4, _, ho => by
        cases ho
        rw [if_pos (wanted_none _ rfl)]
        refine wp_value (st_move rfl (hm.get 3 19 (by kernel_rfl))) ⟨_, rfl, rfl, Below.refl _ _⟩
      | 5, _, ho => by
        cases ho
        generalize hW : Region.wanted _ _ = W
        obtain rfl : W = (false == false) := hW.symm.trans (wanted_of rfl rfl rfl (show a.eval (.tmp 20) = .bool false from (hm.get 4 20 (by kernel_rfl))))
        clear hW
        rw [if_pos (show (false == false) = true by decide)]
        refine wp_value (st_field rfl ((hs.keeps (by kernel_rfl)).trans rfl) (by kernel_rfl)) ⟨_, rfl, rfl, Below.refl _ _⟩
      | 6, _, ho => by
        cases ho
        generalize hW : Region.wanted _ _ = W
        obtain rfl : W = (false == false) := hW.symm.trans (wanted_of rfl rfl rfl (show a.eval (.tmp 20) = .bool false from (hm.get 4 20 (by kernel_rfl))))
        clear hW
        rw [if_pos (show (false == false) = true by decide)]
        have hx : w.cell? ⟨g5, 1, none⟩ = some (S id) := (HB5.out.step hb).cell 1; refine wp_value (st_load rfl (hm.get 5 21 (by kernel_rfl)) (by go_simp)) ⟨_, rfl, rfl, Below.refl _ _⟩
      | 7, _, ho => by
        cases ho
        generalize hW : Region.wanted _ _ = W
        obtain rfl : W = (false == false) := hW.symm.trans (wanted_of rfl rfl rfl (show a.eval (.tmp 20) = .bool false from (hm.get 4 20 (by kernel_rfl))))
        clear hW
        rw [if_pos (show (false == false) = true by decide)]
        have h1 := eval_getD (hm.get 6 22 (by kernel_rfl)); unfold Oper.wp; simp only [execOp]; go_simp; exact ⟨_, rfl, (show Value.int _ _ = Value.int _ _ by first | rfl | simp), Below.refl _ _⟩
      | 8, _, ho => by
        cases ho
        generalize hW : Region.wanted _ _ = W
        obtain rfl : W = (false == false) := hW.symm.trans (wanted_of rfl rfl rfl (show a.eval (.tmp 20) = .bool false from (hm.get 4 20 (by kernel_rfl))))
        clear hW
        rw [if_pos (show (false == false) = true by decide)]
        have h1 := eval_getD (hm.get 7 23 (by kernel_rfl)); unfold Oper.wp; simp only [execOp]; go_simp; exact ⟨_, rfl, (show Value.bool _ = Value.bool _ by first | rw [H32.out] | (simp; done) | rfl), Below.refl _ _⟩
      | 9, _, ho => by
        cases ho
        rw [if_pos (wanted_none _ rfl)]
        have h1 := eval_getD (hm.get 4 20 (by kernel_rfl)); have h3 := eval_getD (hm.get 8 24 (by kernel_rfl)); unfold Oper.wp; simp only [execOp]; go_simp; exact ⟨_, rfl, rfl, Below.refl _ _⟩
      | 10, _, ho => by
        cases ho
        rw [if_pos (wanted_none _ rfl)]
        refine wp_value (st_move rfl (hm.get 9 25 (by kernel_rfl))) ⟨_, rfl, rfl, Below.refl _ _⟩
      | 11, _, ho => by
        cases ho
        generalize hW : Region.wanted _ _ = W
        obtain rfl : W = (false == false) := hW.symm.trans (wanted_of rfl rfl rfl (show a.eval (.tmp 26) = .bool false from (hm.get 10 26 (by kernel_rfl))))
        clear hW
        rw [if_pos (show (false == false) = true by decide)]
        refine wp_value (st_move rfl ((hs.keeps (by kernel_rfl)).trans rfl)) ⟨_, rfl, rfl, Below.refl _ _⟩
      | 12, _, ho => by
        cases ho
        generalize hW : Region.wanted _ _ = W
        obtain rfl : W = (false == false) := hW.symm.trans (wanted_of rfl rfl rfl (show a.eval (.tmp 26) = .bool false from (hm.get 10 26 (by kernel_rfl))))
        clear hW
        rw [if_pos (show (false == false) = true by decide)]
        have h1 := eval_getD (hm.get 11 27 (by kernel_rfl)); unfold Oper.wp; simp only [execOp]; go_simp; exact ⟨_, rfl, (show Value.bool _ = Value.bool _ by rw [hb0.out]), Below.refl _ _⟩
      | 13, _, ho => by
        cases ho
        generalize hW : Region.wanted _ _ = W
        obtain rfl : W = (false == false) := hW.symm.trans (wanted_of rfl rfl rfl (show a.eval (.tmp 26) = .bool false from (hm.get 10 26 (by kernel_rfl))))
        clear hW
        rw [if_pos (show (false == false) = true by decide)]
        refine wp_value (st_move rfl (hm.get 12 28 (by kernel_rfl))) ⟨_, rfl, rfl, Below.refl _ _⟩
      | 14, _, ho => by
        cases ho
        generalize hW : Region.wanted _ _ = W
        obtain rfl : W = (b0 == true) := hW.symm.trans (wanted_of rfl rfl rfl (show a.eval (.tmp 29) = .bool b0 from (hm.get 13 29 (by kernel_rfl))))
        clear hW
        rcases fls_tru (b0) with hf | hf
        ·rw [if_neg (show ¬ (b0 == true) = true by rw [hf]; decide)]; exact fun h => Bool.noConfusion (h.symm.trans hf)
        ·rw [if_pos (show (b0 == true) = true by rw [hf]; decide)]
         refine wp_value (st_move rfl ((hs.keeps (by kernel_rfl)).trans rfl)) ⟨_, rfl, fun _ => rfl, Below.refl _ _⟩
      | 15, _, ho => by
        cases ho
        generalize hW : Region.wanted _ _ = W
        obtain rfl : W = (b0 == true) := hW.symm.trans (wanted_of rfl rfl rfl (show a.eval (.tmp 29) = .bool b0 from (hm.get 13 29 (by kernel_rfl))))
        clear hW
        rcases fls_tru (b0) with hf | hf
        ·rw [if_neg (show ¬ (b0 == true) = true by rw [hf]; decide)]; exact fun h => Bool.noConfusion (h.symm.trans hf)
        ·rw [if_pos (show (b0 == true) = true by rw [hf]; decide)]
         refine wp_value (st_move rfl ((hs.keeps (by kernel_rfl)).trans rfl)) ⟨_, rfl, fun _ => rfl, Below.refl _ _⟩
      | 16, _, ho => by
        cases ho
        generalize hW : Region.wanted _ _ = W
        obtain rfl : W = (b0 == true) := hW.symm.trans (wanted_of rfl rfl rfl (show a.eval (.tmp 29) = .bool b0 from (hm.get 13 29 (by kernel_rfl))))
        clear hW
        rcases fls_tru (b0) with hf | hf
        ·rw [if_neg (show ¬ (b0 == true) = true by rw [hf]; decide)]; exact fun h => Bool.noConfusion (h.symm.trans hf)
        ·rw [if_pos (show (b0 == true) = true by rw [hf]; decide)]
         have hk1 := Hk1.out hf; have hv : IntKind.i64.wrap ((k : Int) - 1) = ((k - 1 : Nat) : Int) := (by rw [IntWalk.i64_in _ (by omega)]; try omega); have h1 := eval_getD ((hm.get 15 31 (by kernel_rfl)) hf); unfold Oper.wp; simp only [execOp]; go_simp; exact ⟨_, rfl, fun _ => (show Value.int _ _ = Value.int _ _ by first | rfl | rw [hv] | (congr 1; omega)), Below.refl _ _⟩
      | 17, _, ho => by
        cases ho
        generalize hW : Region.wanted _ _ = W
        obtain rfl : W = (b0 == true) := hW.symm.trans (wanted_of rfl rfl rfl (show a.eval (.tmp 29) = .bool b0 from (hm.get 13 29 (by kernel_rfl))))
        clear hW
        rcases fls_tru (b0) with hf | hf
        ·rw [if_neg (show ¬ (b0 == true) = true by rw [hf]; decide)]; exact fun h => Bool.noConfusion (h.symm.trans hf)
        ·rw [if_pos (show (b0 == true) = true by rw [hf]; decide)]
         have hk1 := Hk1.out hf; have hlt1 : k - 1 < n := (by omega); have h1 := eval_getD ((hm.get 14 30 (by kernel_rfl)) hf); have h2 := eval_getD ((hm.get 16 32 (by kernel_rfl)) hf); unfold Oper.wp; simp only [execOp]; go_simp; exact ⟨_, rfl, fun _ => rfl, Below.refl _ _⟩
      | 18, _, ho => by
        cases ho
        generalize hW : Region.wanted _ _ = W
        obtain rfl : W = (b0 == true) := hW.symm.trans (wanted_of rfl rfl rfl (show a.eval (.tmp 29) = .bool b0 from (hm.get 13 29 (by kernel_rfl))))
        clear hW
        rcases fls_tru (b0) with hf | hf
        ·rw [if_neg (show ¬ (b0 == true) = true by rw [hf]; decide)]; exact fun h => Bool.noConfusion (h.symm.trans hf)
        ·rw [if_pos (show (b0 == true) = true by rw [hf]; decide)]
         have h1 := eval_getD ((hm.get 17 33 (by kernel_rfl)) hf); unfold Oper.wp; simp only [execOp]; go_simp; exact ⟨_, rfl, fun _ => rfl, Below.refl _ _⟩
      | 19, _, ho => by
        cases ho
        generalize hW : Region.wanted _ _ = W
        obtain rfl : W = (b0 == true) := hW.symm.trans (wanted_of rfl rfl rfl (show a.eval (.tmp 29) = .bool b0 from (hm.get 13 29 (by kernel_rfl))))
        clear hW
        rcases fls_tru (b0) with hf | hf
        ·rw [if_neg (show ¬ (b0 == true) = true by rw [hf]; decide)]; exact fun h => Bool.noConfusion (h.symm.trans hf)
        ·rw [if_pos (show (b0 == true) = true by rw [hf]; decide)]
         have hx := Hpv.out w hb hf; have h1 := eval_getD ((hm.get 18 34 (by kernel_rfl)) hf); unfold Oper.wp; simp only [execOp]; go_simp; exact ⟨_, rfl, fun _ => rfl, Below.refl _ _⟩
      | 20, _, ho => by
        cases ho
        generalize hW : Region.wanted _ _ = W
        obtain rfl : W = (b0 == true) := hW.symm.trans (wanted_of rfl rfl rfl (show a.eval (.tmp 29) = .bool b0 from (hm.get 13 29 (by kernel_rfl))))
        clear hW
        rcases fls_tru (b0) with hf | hf
        ·rw [if_neg (show ¬ (b0 == true) = true by rw [hf]; decide)]; exact fun h => Bool.noConfusion (h.symm.trans hf)
        ·rw [if_pos (show (b0 == true) = true by rw [hf]; decide)]
         refine wp_value (st_field rfl ((hs.keeps (by kernel_rfl)).trans rfl) (by kernel_rfl)) ⟨_, rfl, fun _ => rfl, Below.refl _ _⟩
      | 21, _, ho => by
        cases ho
        generalize hW : Region.wanted _ _ = W
        obtain rfl : W = (b0 == true) := hW.symm.trans (wanted_of rfl rfl rfl (show a.eval (.tmp 29) = .bool b0 from (hm.get 13 29 (by kernel_rfl))))
        clear hW
        rcases fls_tru (b0) with hf | hf
        ·rw [if_neg (show ¬ (b0 == true) = true by rw [hf]; decide)]; exact fun h => Bool.noConfusion (h.symm.trans hf)
        ·rw [if_pos (show (b0 == true) = true by rw [hf]; decide)]
         have hx : w.cell? ⟨g5, 0, none⟩ = some (S p) := (HB5.out.step hb).cell 0; refine wp_value (st_load rfl ((hm.get 20 36 (by kernel_rfl)) hf) (by go_simp)) ⟨_, rfl, fun _ => rfl, Below.refl _ _⟩
      | 22, _, ho => by
        cases ho
        generalize hW : Region.wanted _ _ = W
        obtain rfl : W = (b0 == true) := hW.symm.trans (wanted_of rfl rfl rfl (show a.eval (.tmp 29) = .bool b0 from (hm.get 13 29 (by kernel_rfl))))
        clear hW
        rcases fls_tru (b0) with hf | hf
        ·rw [if_neg (show ¬ (b0 == true) = true by rw [hf]; decide)]; exact fun h => Bool.noConfusion (h.symm.trans hf)
        ·rw [if_pos (show (b0 == true) = true by rw [hf]; decide)]
         have h1 := eval_getD ((hm.get 19 35 (by kernel_rfl)) hf); have h2 := eval_getD ((hm.get 21 37 (by kernel_rfl)) hf); unfold Oper.wp; simp only [execOp]; go_simp; exact ⟨_, rfl, fun _ => (show Value.bool _ = Value.bool _ by first | rw [Hge.out] | (simp; done) | rfl), Below.refl _ _⟩
      | 23, _, ho => by
        cases ho
        generalize hW : Region.wanted _ _ = W
        obtain rfl : W = (false == false) := hW.symm.trans (wanted_of rfl rfl rfl (show a.eval (.tmp 26) = .bool false from (hm.get 10 26 (by kernel_rfl))))
        clear hW
        rw [if_pos (show (false == false) = true by decide)]
        have h1 := eval_getD (hm.get 13 29 (by kernel_rfl))
        have h2 := (hm.get 22 38 (by kernel_rfl))
        rcases fls_tru (b0) with hg | hg
        ·rw [hg] at h1
         unfold Oper.wp; simp only [execOp]; go_simp
         exact ⟨_, rfl, (show Value.bool _ = Value.bool _ by first | (rw [hg]; simp) | simp), Below.refl _ _⟩
        ·rw [hg] at h1
         have h3 := eval_getD (h2 hg)
         unfold Oper.wp; simp only [execOp]; go_simp
         exact ⟨_, rfl, (show Value.bool _ = Value.bool _ by first | (rw [hg]; simp) | simp), Below.refl _ _⟩
      | (n + 24), hi, _ => absurd hi (by omega)
     ·have e1 : a.eval (.tmp 26) = .bool false := by cases ho; exact hm.get 10 26 (by kernel_rfl)
      have e2 : a.eval (.tmp 39) = .bool (b0 && ge) := by cases ho; exact hm.get 23 39 (by kernel_rfl)
      have hfr := hs.frame [16, 17, 18, 19, 20, 21, 22, 23, 24, 25, 26, 27, 28, 29, 30, 31, 32, 33, 34, 35, 36, 37, 38, 39, 40] (by kernel_rfl)
      cases ho
      rw [hfr]
      simp only [List.foldl_cons, List.foldl_nil, e1, e2]
      clear hfr hs hm e1 e2
      generalize a.eval (.tmp 16) = u16, a.eval (.tmp 17) = u17, a.eval (.tmp 18) = u18, a.eval (.tmp 19) = u19, a.eval (.tmp 20) = u20, a.eval (.tmp 21) = u21, a.eval (.tmp 22) = u22, a.eval (.tmp 23) = u23, a.eval (.tmp 24) = u24, a.eval (.tmp 25) = u25, a.eval (.tmp 27) = u27, a.eval (.tmp 28) = u28, a.eval (.tmp 29) = u29, a.eval (.tmp 30) = u30, a.eval (.tmp 31) = u31, a.eval (.tmp 32) = u32, a.eval (.tmp 33) = u33, a.eval (.tmp 34) = u34, a.eval (.tmp 35) = u35, a.eval (.tmp 36) = u36, a.eval (.tmp 37) = u37, a.eval (.tmp 38) = u38, a.eval (.tmp 40) = u40
      unfold Oper.wp
      simp only [execOp]
      go_simp
      clear a
      have BX := Lib.hid (bstep BW.out hb)
      have HB6 := Lib.hid (HB5.out.step hb)
      have hM6 := HMk.out.step hb
      have hkm : k < maxLen := Nat.lt_of_lt_of_le hlt (Nat.le_trans hn (by decide))
      have HF2 : Hid ((b0 && ge) = false → FineL (l.take (k + 1))) := Lib.hid (fun h => by
       refine fine_snoc hfi.out.1 Hf.out Hnm.out Hi.out ?_
       cases hb1 : b0 with
       | false => exact .inl (Hb0f.out hb1)
       | true =>
        rw [hb1] at h
        obtain ⟨q, hq, hq2⟩ := Hpq.out hb1
        exact .inr ⟨q, hq, by rw [hq2]; exact Hge2.out (by simpa using h)⟩)
      have HNR : Hid ((b0 && ge) = true → ¬ CheckP l) := Lib.hid (fun h => by
       obtain ⟨h1, h2⟩ := Bool.and_eq_true_iff.1 h
       obtain ⟨q, hq, hq2⟩ := Hpq.out h1
       refine no_rise Hf.out (Hk1.out h1) hq ?_
       rw [hq2]
       have h3 := Hge.out
       rw [h2, Go.Proofs.bytesLess_eq] at h3
       simpa using h3)
      clear Hpv Hk1 C5 hb0 Hpq Hb0f Hge Hge2 Hnm Hi
      cases hz : (b0 && ge) with
      | true =>
       have HNO := Lib.hid (HNR.out hz)
       go_wp2
       go_ret
       exact ⟨1, rfl, .inr ⟨rfl, HNO.out⟩, BX.out⟩
      | false =>
       have HF3 := Lib.hid (HF2.out hz)
       have r5 := HB6.out.cell
       clear HF2 HNR
       go_wp2_with (at_mapUpdate; refine wpList_store _ rfl _ _ _ 79 rfl seenC Tryz.underlying79 m k _ rfl hM6 hkm p rfl hgp 1 rfl ?_; intro W2 hm2 hg2; have HX2 := Lib.hid (BX.out.grown hg2 BX.out.size (fun j e => by cases e; have := HMW.out; omega)); have HM2 := Lib.hid hm2; have HB7 := Lib.hid (HB6.out.grown hg2 (fun e => hgm (by cases e; rfl))); have r7 := HB7.out.cell; clear hm2 hg2 r5)
       have hps : (⟨p.toArray⟩ : ByteArray).size = p.length := size_mk p
       go_loopw [2, 6, 7] (fun s2 s6 s7 wr' => ∃ pos, s2 = I 0 ∧ wr' = W2.iter ⟨p.toArray⟩ pos ∧ Hid (NoneTo l k p pos)) (fun _ _ _ wr' => p.length - wr'.iterPos W2.heap.size)
       case atStart => exact ⟨0, rfl, rfl, Lib.hid (none_zero l k p)⟩
       case round =>
        obtain ⟨pos, rfl, rfl, hno⟩ := hrel
        by_cases hp : pos < p.length
        ·have hnx : ∀ ty, (Instr.next (.pointer (some ⟨W2.heap.size, 0, none⟩)) true ty).run Tryz.prog (W2.iter ⟨p.toArray⟩ pos) = _ := fun ty => run_next_any W2 ⟨p.toArray⟩ pos ty (by rw [hps]; exact hp)
         have hwd := rune_width hp
         by_cases h47 : (Utf8.decode ⟨p.toArray⟩ pos).1 = 47
         ·have hq : (((Utf8.decode ⟨p.toArray⟩ pos).1 : Int) == 47) = true := beq_iff_eq.2 (congrArg Int.ofNat h47)
          have he : (⟨p.toArray⟩ : ByteArray).extract 0 pos = ⟨(p.take pos).toArray⟩ := by simpa using extract_mk p 0 pos
          have hgq : (p.take pos).length ≤ maxLen := by rw [List.length_take]; omega
          have hM7 : MapIs seenC (W2.iter ⟨p.toArray⟩ (pos + (Utf8.decode ⟨p.toArray⟩ pos).2)) m (k + 1) (upd (known l k) p (some 1)) := HM2.out.alloc _
          have r8 := (show Blk (W2.iter ⟨p.toArray⟩ (pos + (Utf8.decode ⟨p.toArray⟩ pos).2)) g5 _ _ from HB7.out.alloc _).cell
          obtain ⟨v, hv⟩ : ∃ v, (upd (known l k) p (some 1) (p.take pos)).getD 0 = v := ⟨_, rfl⟩
          have hkv : Hid (seenC.vv ((upd (known l k) p (some 1) (p.take pos)).getD 0) = I v) := Lib.hid (by rw [hv]; rfl)
          cases hd : decide (0 < v) with
          | false =>
           have HN2 : Hid (NoneTo l k p (pos + (Utf8.decode ⟨p.toArray⟩ pos).2)) := Lib.hid (none_step hno.out fun _ => known_none Hf.out (by rw [hv]; exact hd))
           clear hv
           go_wp2_with (at_lookup; refine wpList_lookG _ (by rfl) _ _ 79 rfl seenC Tryz.underlying79 0 (Tryz.zeroI _) m (k + 1) _ rfl hM7 (p.take pos) rfl hgq ?_; rw [hkv.out])
           go_roundw
           case rel => exact ⟨pos + (Utf8.decode ⟨p.toArray⟩ pos).2, rfl, rfl, HN2⟩
           case measure => simp; omega
          | true =>
           have HNO : Hid (¬ CheckP l) := Lib.hid (no_apart Hf.out (rune_slash hp h47) (known_some Hf.out (by rw [hv]; exact hd)))
           clear hv
           go_wp2_with (at_lookup; refine wpList_lookG _ (by rfl) _ _ 79 rfl seenC Tryz.underlying79 0 (Tryz.zeroI _) m (k + 1) _ rfl hM7 (p.take pos) rfl hgq ?_; rw [hkv.out])
           go_ret
           exact ⟨1, rfl, .inr ⟨rfl, HNO.out⟩, balloc HX2.out _⟩
         ·have hq : (((Utf8.decode ⟨p.toArray⟩ pos).1 : Int) == 47) = false := beq_eq_false_iff_ne.2 (fun e => h47 (Int.ofNat.inj e))
          have HN2 : Hid (NoneTo l k p (pos + (Utf8.decode ⟨p.toArray⟩ pos).2)) := Lib.hid (none_step hno.out fun h => absurd (rune_is h) h47)
          go_wp2
          go_roundw
          case rel => exact ⟨pos + (Utf8.decode ⟨p.toArray⟩ pos).2, rfl, rfl, HN2⟩
          case measure => simp; omega
        ·have hnx : ∀ ty, (Instr.next (.pointer (some ⟨W2.heap.size, 0, none⟩)) true ty).run Tryz.prog (W2.iter ⟨p.toArray⟩ pos) = _ := fun ty => run_next_end W2 ⟨p.toArray⟩ pos ty (by rw [hps]; exact hp)
         have HA3 : Hid (FineL (l.take (k + 1)) ∧ ApartTo l (k + 1)) := Lib.hid ⟨HF3.out, apart_snoc Hf.out HF3.out hfi.out.2 (fun j hj => hno.out j (by omega))⟩
         go_wp2
         go_roundw
         case rel => exact ⟨k + 1, rfl, by go_num, Lib.hid hlt, HA3, Lib.hid (by rw [← known_succ Hf.out]; exact HM2.out.alloc _), Lib.hid (balloc HX2.out _)⟩
         case measure => simp [intOf]; omega
    ·have H32 : Hid (((id.length : Int) != 32) = true) := Lib.hid (by simp; omega)
     have HNO : Hid (¬ CheckP l) := Lib.hid (no_id Hf.out h32)
     clear h32
     go_wp2
     rw [← hW]
     simp only [← hg5]
     clear hW hg5 b5
     refine wp_region_guards (by kernel_rfl) 24 (by kernel_rfl) ?_ (ck2Phi g5 p id) ck2Phi_mono (fun i o hi ho a w hb hs hm => ?_) (fun o ho a w hb hs hm => ?_)
     ·exact dst_lt9 (n := 66) (by kernel_rfl)
     ·exact match i, hi, ho with
      | 0, _, ho => by
        cases ho
        rw [if_pos (wanted_none _ rfl)]
        refine wp_value (st_field rfl ((hs.keeps (by kernel_rfl)).trans rfl) (by kernel_rfl)) ⟨_, rfl, rfl, Below.refl _ _⟩
      | 1, _, ho => by
        cases ho
        rw [if_pos (wanted_none _ rfl)]
        have hx : w.cell? ⟨g5, 0, none⟩ = some (S p) := (HB5.out.step hb).cell 0; refine wp_value (st_load rfl (hm.get 0 16 (by kernel_rfl)) (by go_simp)) ⟨_, rfl, rfl, Below.refl _ _⟩
      | 2, _, ho => by
        cases ho
        rw [if_pos (wanted_none _ rfl)]
        have h1 := eval_getD (hm.get 1 17 (by kernel_rfl)); unfold Oper.wp; simp only [execOp]; go_simp; refine (C5.out w hb).mono ?_; rintro e w' ⟨rfl, hb'⟩; exact ⟨_, rfl, rfl, hb'⟩
      | 3, _, ho => by
        cases ho
        rw [if_pos (wanted_none _ rfl)]
        have h1 := eval_getD (hm.get 2 18 (by kernel_rfl)); unfold Oper.wp; simp only [execOp]; go_simp; exact ⟨_, rfl, rfl, Below.refl _ _⟩
      | 4, _, ho => by
        cases ho
        rw [if_pos (wanted_none _ rfl)]
        refine wp_value (st_move rfl (hm.get 3 19 (by kernel_rfl))) ⟨_, rfl, rfl, Below.refl _ _⟩
      | 5, _, ho => by
        cases ho
        generalize hW : Region.wanted _ _ = W
        obtain rfl : W = (false == false) := hW.symm.trans (wanted_of rfl rfl rfl (show a.eval (.tmp 20) = .bool false from (hm.get 4 20 (by kernel_rfl))))
        clear hW
        rw [if_pos (show (false == false) = true by decide)]
        refine wp_value (st_field rfl ((hs.keeps (by kernel_rfl)).trans rfl) (by kernel_rfl)) ⟨_, rfl, rfl, Below.refl _ _⟩
      | 6, _, ho => by
        cases ho
        generalize hW : Region.wanted _ _ = W
        obtain rfl : W = (false == false) := hW.symm.trans (wanted_of rfl rfl rfl (show a.eval (.tmp 20) = .bool false from (hm.get 4 20 (by kernel_rfl))))
        clear hW
        rw [if_pos (show (false == false) = true by decide)]
        have hx : w.cell? ⟨g5, 1, none⟩ = some (S id) := (HB5.out.step hb).cell 1; refine wp_value (st_load rfl (hm.get 5 21 (by kernel_rfl)) (by go_simp)) ⟨_, rfl, rfl, Below.refl _ _⟩
      | 7, _, ho => by
        cases ho
        generalize hW : Region.wanted _ _ = W
        obtain rfl : W = (false == false) := hW.symm.trans (wanted_of rfl rfl rfl (show a.eval (.tmp 20) = .bool false from (hm.get 4 20 (by kernel_rfl))))
        clear hW
        rw [if_pos (show (false == false) = true by decide)]
        have h1 := eval_getD (hm.get 6 22 (by kernel_rfl)); unfold Oper.wp; simp only [execOp]; go_simp; exact ⟨_, rfl, (show Value.int _ _ = Value.int _ _ by first | rfl | simp), Below.refl _ _⟩
      | 8, _, ho => by
        cases ho
        generalize hW : Region.wanted _ _ = W
        obtain rfl : W = (false == false) := hW.symm.trans (wanted_of rfl rfl rfl (show a.eval (.tmp 20) = .bool false from (hm.get 4 20 (by kernel_rfl))))
        clear hW
        rw [if_pos (show (false == false) = true by decide)]
        have h1 := eval_getD (hm.get 7 23 (by kernel_rfl)); unfold Oper.wp; simp only [execOp]; go_simp; exact ⟨_, rfl, (show Value.bool _ = Value.bool _ by first | rw [H32.out] | (simp; done) | rfl), Below.refl _ _⟩
      | 9, _, ho => by
        cases ho
        rw [if_pos (wanted_none _ rfl)]
        have h1 := eval_getD (hm.get 4 20 (by kernel_rfl)); have h3 := eval_getD (hm.get 8 24 (by kernel_rfl)); unfold Oper.wp; simp only [execOp]; go_simp; exact ⟨_, rfl, rfl, Below.refl _ _⟩
      | 10, _, ho => by
        cases ho
        rw [if_pos (wanted_none _ rfl)]
        refine wp_value (st_move rfl (hm.get 9 25 (by kernel_rfl))) ⟨_, rfl, rfl, Below.refl _ _⟩
      | 11, _, ho => by
        cases ho
        generalize hW : Region.wanted _ _ = W
        obtain rfl : W = (true == false) := hW.symm.trans (wanted_of rfl rfl rfl (show a.eval (.tmp 26) = .bool true from (hm.get 10 26 (by kernel_rfl))))
        clear hW
        rw [if_neg (show ¬ (true == false) = true by decide)]
        exact rfl
      | 12, _, ho => by
        cases ho
        generalize hW : Region.wanted _ _ = W
        obtain rfl : W = (true == false) := hW.symm.trans (wanted_of rfl rfl rfl (show a.eval (.tmp 26) = .bool true from (hm.get 10 26 (by kernel_rfl))))
        clear hW
        rw [if_neg (show ¬ (true == false) = true by decide)]
        exact rfl
      | 13, _, ho => by
        cases ho
        generalize hW : Region.wanted _ _ = W
        obtain rfl : W = (true == false) := hW.symm.trans (wanted_of rfl rfl rfl (show a.eval (.tmp 26) = .bool true from (hm.get 10 26 (by kernel_rfl))))
        clear hW
        rw [if_neg (show ¬ (true == false) = true by decide)]
        exact rfl
      | 14, _, ho => by
        cases ho
        rw [if_neg (show ¬ Region.wanted _ _ = true by rw [wanted_undef rfl rfl rfl (show a.eval (.tmp 29) = undef from (hm.get 13 29 (by kernel_rfl)))]; decide)]
        exact rfl
      | 15, _, ho => by
        cases ho
        rw [if_neg (show ¬ Region.wanted _ _ = true by rw [wanted_undef rfl rfl rfl (show a.eval (.tmp 29) = undef from (hm.get 13 29 (by kernel_rfl)))]; decide)]
        exact rfl
      | 16, _, ho => by
        cases ho
        rw [if_neg (show ¬ Region.wanted _ _ = true by rw [wanted_undef rfl rfl rfl (show a.eval (.tmp 29) = undef from (hm.get 13 29 (by kernel_rfl)))]; decide)]
        exact rfl
      | 17, _, ho => by
        cases ho
        rw [if_neg (show ¬ Region.wanted _ _ = true by rw [wanted_undef rfl rfl rfl (show a.eval (.tmp 29) = undef from (hm.get 13 29 (by kernel_rfl)))]; decide)]
        exact rfl
      | 18, _, ho => by
        cases ho
        rw [if_neg (show ¬ Region.wanted _ _ = true by rw [wanted_undef rfl rfl rfl (show a.eval (.tmp 29) = undef from (hm.get 13 29 (by kernel_rfl)))]; decide)]
        exact rfl
      | 19, _, ho => by
        cases ho
        rw [if_neg (show ¬ Region.wanted _ _ = true by rw [wanted_undef rfl rfl rfl (show a.eval (.tmp 29) = undef from (hm.get 13 29 (by kernel_rfl)))]; decide)]
        exact rfl
      | 20, _, ho => by
        cases ho
        rw [if_neg (show ¬ Region.wanted _ _ = true by rw [wanted_undef rfl rfl rfl (show a.eval (.tmp 29) = undef from (hm.get 13 29 (by kernel_rfl)))]; decide)]
        exact rfl
      | 21, _, ho => by
        cases ho
        rw [if_neg (show ¬ Region.wanted _ _ = true by rw [wanted_undef rfl rfl rfl (show a.eval (.tmp 29) = undef from (hm.get 13 29 (by kernel_rfl)))]; decide)]
        exact rfl
      | 22, _, ho => by
        cases ho
        rw [if_neg (show ¬ Region.wanted _ _ = true by rw [wanted_undef rfl rfl rfl (show a.eval (.tmp 29) = undef from (hm.get 13 29 (by kernel_rfl)))]; decide)]
        exact rfl
      | 23, _, ho => by
        cases ho
        generalize hW : Region.wanted _ _ = W
        obtain rfl : W = (true == false) := hW.symm.trans (wanted_of rfl rfl rfl (show a.eval (.tmp 26) = .bool true from (hm.get 10 26 (by kernel_rfl))))
        clear hW
        rw [if_neg (show ¬ (true == false) = true by decide)]
        exact rfl
      | (n + 24), hi, _ => absurd hi (by omega)
     ·have e1 : a.eval (.tmp 26) = .bool true := by cases ho; exact hm.get 10 26 (by kernel_rfl)
      have hfr := hs.frame [16, 17, 18, 19, 20, 21, 22, 23, 24, 25, 26, 27, 28, 29, 30, 31, 32, 33, 34, 35, 36, 37, 38, 39, 40] (by kernel_rfl)
      cases ho
      rw [hfr]
      simp only [List.foldl_cons, List.foldl_nil, e1]
      clear hfr hs hm e1 
      generalize a.eval (.tmp 16) = u16, a.eval (.tmp 17) = u17, a.eval (.tmp 18) = u18, a.eval (.tmp 19) = u19, a.eval (.tmp 20) = u20, a.eval (.tmp 21) = u21, a.eval (.tmp 22) = u22, a.eval (.tmp 23) = u23, a.eval (.tmp 24) = u24, a.eval (.tmp 25) = u25, a.eval (.tmp 27) = u27, a.eval (.tmp 28) = u28, a.eval (.tmp 29) = u29, a.eval (.tmp 30) = u30, a.eval (.tmp 31) = u31, a.eval (.tmp 32) = u32, a.eval (.tmp 33) = u33, a.eval (.tmp 34) = u34, a.eval (.tmp 35) = u35, a.eval (.tmp 36) = u36, a.eval (.tmp 37) = u37, a.eval (.tmp 38) = u38, a.eval (.tmp 39) = u39, a.eval (.tmp 40) = u40
      unfold Oper.wp
      simp only [execOp]
      go_simp
      clear a
      have BX := Lib.hid (bstep BW.out hb)
      clear Hpv Hk1 C5 hb0
      go_wp2
      go_ret
      exact ⟨1, rfl, .inr ⟨rfl, HNO.out⟩, BX.out⟩
  ·obtain rfl : k = n := by have := hk.out; omega
   have hfi2 := hfi.out.1
   have hfi3 : ∀ f ∈ l, ∀ g ∈ l, under f.1 g.1 = false := fun f hf g hg => hfi.out.2 f (by rw [List.take_of_length_le (by rw [Hln.out]; exact Nat.le_refl _)]; exact hf) g (by rw [List.take_of_length_le (by rw [Hln.out]; exact Nat.le_refl _)]; exact hg)
   rw [List.take_of_length_le (by rw [Hln.out]; exact Nat.le_refl _)] at hfi2
   have HF := Lib.hid hfi2
   have HF3 := Lib.hid hfi3
   clear hfi2 hfi hfi3
   by_cases hbig : k ≤ 4096
   ·have hgt : decide ((4096 : Int) < (k : Int)) = false := decide_eq_false (by omega)
    have HX : Hid (CheckP l) := Lib.hid ⟨HF.out.1, HF.out.2, HF3.out, by rw [Hln.out]; exact hbig⟩
    clear HF HF3
    go_wp2
    go_ret
    exact ⟨0, rfl, .inl ⟨rfl, HX.out⟩, hb.out⟩
   ·have hgt : decide ((4096 : Int) < (k : Int)) = true := decide_eq_true (by omega)
    have HX : Hid (¬ CheckP l) := Lib.hid (fun h => hbig (by have h1 := h.2.2.2; rw [Hln.out] at h1; exact h1))
    clear HF HF3
    go_wp2
    go_ret
    exact ⟨1, rfl, .inr ⟨rfl, HX.out⟩, hb.out⟩
end Go.Proofs.YtcednfmkiaelnaaGreatDoor
