/-
  Plain law of package index: entries, no path and stage twice; set, drop, conflict, find; in order; what stands beside what. No program in sight, no condition.
-/
import Derived.Test.YtjcelelgebohkaaDoorPathLaw
namespace Go.Proofs.YtjcelelgebohkaaDoor
namespace IdxLaw
open PathLaw (Bs named under)
structure Ent where
  path : Bs
  stage : Int
  id : Bs
  size : Int
  stamp : Int
deriving DecidableEq, Inhabited
abbrev Key := Bs × Int
def Ent.key (e : Ent) : Key := (e.path, e.stage)
def zE : Ent := ⟨[], 0, [], 0, 0⟩
def inN (n : Int) : Bool := decide (0 ≤ n) && decide (n ≤ 1099511627776)
def bare (e : Ent) : Bool := decide (e.stage = 0) || (decide (e.size = 0) && decide (e.stamp = 0))
/-- may an entry be? -/
def right (e : Ent) : Bool := named e.path && (decide (0 ≤ e.stage) && (decide (e.stage ≤ 3) && (decide (e.id.length = 32) && (inN e.size && (inN e.stamp && bare e)))))

/-- how texts and numbers are compared -/
def cmpS (a b : Bs) : Int := if a < b then -1 else if b < a then 1 else 0
def cmpI (a b : Int) : Int := if a < b then -1 else if b < a then 1 else 0
def cmpE (a b : Ent) : Int := if cmpS a.path b.path = 0 then cmpI a.stage b.stage else cmpS a.path b.path
def ltE (a b : Ent) : Bool := decide (cmpE a b < 0)
theorem ltE_iff {a b : Ent} : ltE a b = true ↔ a.path < b.path ∨ (a.path = b.path ∧ a.stage < b.stage) := by
  unfold ltE cmpE cmpS
  rw [decide_eq_true_eq]
  by_cases h1 : a.path < b.path
  · simp [h1]
  · by_cases h2 : b.path < a.path
    · have h3 : ¬ a.path = b.path := fun e => List.lt_irrefl b.path (by rw [e] at h2; exact h2)
      simp [h1, h2, h3]
    · have h3 : a.path = b.path := List.le_antisymm (List.not_lt.1 h2) (List.not_lt.1 h1)
      have e : (a.path < b.path ∨ (a.path = b.path ∧ a.stage < b.stage)) ↔ a.stage < b.stage := ⟨fun h => h.elim (fun h => absurd h h1) (·.2), fun h => .inr ⟨h3, h⟩⟩
      rw [e, if_pos (by rw [if_neg h1, if_neg h2])]
      unfold cmpI
      by_cases h4 : a.stage < b.stage
      · simp [h4]
      · by_cases h5 : b.stage < a.stage <;> simp [h4, h5]
theorem ltE_trans {a b c : Ent} (h : ltE a b = true) (k : ltE b c = true) : ltE a c = true := by
  rw [ltE_iff] at *
  rcases h with h | ⟨h, h'⟩
  · rcases k with k | ⟨k, k'⟩
    · exact .inl (List.lt_trans h k)
    · exact .inl (k ▸ h)
  · rcases k with k | ⟨k, k'⟩
    · exact .inl (h ▸ k)
    · exact .inr ⟨h.trans k, by omega⟩
theorem ltE_irrefl (a : Ent) : ltE a a = false := by
  rw [← Bool.not_eq_true, ltE_iff]
  rintro (h | ⟨_, h⟩)
  · exact List.lt_irrefl _ h
  · omega
theorem ltE_key {a b : Ent} (h : ltE a b = false) (k : ltE b a = false) : a.key = b.key := by
  rw [← Bool.not_eq_true, ltE_iff, not_or] at h k
  have e : a.path = b.path := List.le_antisymm (List.not_lt.1 k.1) (List.not_lt.1 h.1)
  unfold Ent.key
  rw [e]
  have h2 : ¬ a.stage < b.stage := fun x => h.2 ⟨e, x⟩
  have k2 : ¬ b.stage < a.stage := fun x => k.2 ⟨e.symm, x⟩
  rw [show a.stage = b.stage by omega]
/-- in order -/
def sortE (l : List Ent) : List Ent := l.mergeSort (fun x y => !ltE y x)
theorem sortE_perm (l : List Ent) : (sortE l).Perm l := List.mergeSort_perm _ _
theorem le_trans {a b c : Ent} (h : (!ltE b a) = true) (k : (!ltE c b) = true) : (!ltE c a) = true := by
  simp only [Bool.not_eq_true'] at *
  cases hca : ltE c a with
  | false => rfl
  | true =>
    cases hab : ltE a b with
    | true => rw [ltE_trans hca hab] at k; cases k
    | false =>
      have e := ltE_key hab h
      rw [ltE_iff] at hca
      have h1 : a.path = b.path := congrArg Prod.fst e
      have h2 : a.stage = b.stage := congrArg Prod.snd e
      rw [h1, h2, ← ltE_iff] at hca
      rw [hca] at k
      cases k
theorem le_total (a b : Ent) : ((!ltE b a) || (!ltE a b)) = true := by
  cases h : ltE b a with
  | false => rfl
  | true =>
    cases k : ltE a b with
    | false => rfl
    | true => have := ltE_trans h k; rw [ltE_irrefl] at this; cases this
theorem sortE_sorted (l : List Ent) : (sortE l).Pairwise (fun x y => (!ltE y x) = true) :=
  List.pairwise_mergeSort (le := fun x y => !ltE y x) (fun _ _ _ => le_trans) (fun a b => le_total a b) l
def Uniq (l : List Ent) : Prop := (l.map Ent.key).Nodup
theorem Uniq.inj {l : List Ent} (h : Uniq l) {a b : Ent} (ha : a ∈ l) (hb : b ∈ l) (hk : a.key = b.key) : a = b := by
  induction l with
  | nil => simp at ha
  | cons x r ih =>
    unfold Uniq at h ih
    rw [List.map_cons, List.nodup_cons] at h
    rcases List.mem_cons.1 ha with rfl | ha'
    · rcases List.mem_cons.1 hb with rfl | hb'
      · rfl
      · exact absurd (hk ▸ List.mem_map_of_mem (f := Ent.key) hb') h.1
    · rcases List.mem_cons.1 hb with rfl | hb'
      · exact absurd (List.mem_map_of_mem (f := Ent.key) ha') (by rw [hk]; exact h.1)
      · exact ih h.2 ha' hb'
theorem Uniq.perm {l k : List Ent} (h : Uniq l) (hp : l.Perm k) : Uniq k := (hp.map _).nodup_iff.1 h
/-- whatever is in order and holds the same is what 'sortE' gives -/
theorem sortE_unique {l k : List Ent} (hu : Uniq l) (hp : k.Perm l) (hs : k.Pairwise (fun x y => (!ltE y x) = true)) : k = sortE l := by
  refine List.Perm.eq_of_pairwise (le := fun x y => (!ltE y x) = true) (fun a b ha hb h1 h2 => ?_) hs (sortE_sorted l) (hp.trans (sortE_perm l).symm)
  simp only [Bool.not_eq_true'] at h1 h2
  exact hu.inj (hp.mem_iff.1 ha) ((sortE_perm l).mem_iff.1 hb) (ltE_key h2 h1)
theorem sortE_perm_eq {l k : List Ent} (hu : Uniq l) (hp : l.Perm k) : sortE l = sortE k :=
  sortE_unique (hu.perm hp) ((sortE_perm l).trans hp) (sortE_sorted l)

/-- what is in the way of a path -/
def inWay (p : Bs) (k : Key) : Bool := decide (k.1 = p) || (decide (k.2 = 0) && (under k.1 p || under p k.1))
theorem inWay_no {p : Bs} {k : Key} (h : inWay p k = false) : k.1 ≠ p ∧ (k.2 = 0 → under k.1 p = false ∧ under p k.1 = false) := by
  unfold inWay at h
  rw [Bool.or_eq_false_iff] at h
  refine ⟨of_decide_eq_false h.1, fun e => ?_⟩
  have h2 := h.2
  rw [decide_eq_true e, Bool.true_and, Bool.or_eq_false_iff] at h2
  exact h2
def clear (l : List Ent) (p : Bs) : List Ent := l.filter (fun e => !inWay p e.key)
def drop (l : List Ent) (p : Bs) : List Ent := l.filter (fun e => !decide (e.path = p))
def set (l : List Ent) (e : Ent) : Nat × List Ent := if right e = true ∧ e.stage = 0 then (0, e :: clear l e.path) else (1, l)
def three (p a b c : Bs) : List Ent := ([⟨p, 1, a, 0, 0⟩, ⟨p, 2, b, 0, 0⟩, ⟨p, 3, c, 0, 0⟩] : List Ent).filter (fun e => !decide (e.id = []))
def conflict (l : List Ent) (p a b c : Bs) : Nat × List Ent := if three p a b c = [] ∨ (three p a b c).any (fun e => !right e) = true then (1, l) else (0, (three p a b c).reverse ++ drop l p)
def find (l : List Ent) (k : Key) : Option Ent := l.find? (fun e => decide (e.key = k))
theorem find_mem {l : List Ent} (h : Uniq l) {k : Key} {e : Ent} : find l k = some e ↔ e ∈ l ∧ e.key = k := by
  unfold find
  constructor
  · intro hf
    exact ⟨List.mem_of_find?_eq_some hf, by simpa using List.find?_some hf⟩
  · rintro ⟨hm, rfl⟩
    cases hf : l.find? (fun x => decide (x.key = e.key)) with
    | none => have := List.find?_eq_none.1 hf e hm; simp at this
    | some x =>
      have h1 := List.mem_of_find?_eq_some hf
      have h2 : x.key = e.key := by simpa using List.find?_some hf
      rw [h.inj h1 hm h2]
theorem find_none {l : List Ent} {k : Key} : find l k = none ↔ ∀ e ∈ l, e.key ≠ k := by
  unfold find
  rw [List.find?_eq_none]
  simp
theorem Uniq.filter {l : List Ent} (h : Uniq l) (f : Ent → Bool) : Uniq (l.filter f) := by
  unfold Uniq at h ⊢
  exact h.sublist (List.filter_sublist.map _)
theorem uniq_set {l : List Ent} (h : Uniq l) (e : Ent) : Uniq (set l e).2 := by
  unfold set
  split
  · unfold Uniq
    rw [List.map_cons, List.nodup_cons]
    refine ⟨fun hm => ?_, h.filter _⟩
    obtain ⟨x, hx, hk⟩ := List.mem_map.1 hm
    have := (List.mem_filter.1 hx).2
    have hp : x.path = e.path := congrArg Prod.fst hk
    simp [inWay, Ent.key, hp] at this
  · exact h
theorem three_path {p a b c : Bs} : ∀ e ∈ three p a b c, e.path = p := by
  intro e he
  have := (List.mem_filter.1 he).1
  simp at this
  rcases this with rfl | rfl | rfl <;> rfl
theorem three_stage {p a b c : Bs} : ∀ e ∈ three p a b c, e.stage ≠ 0 := by
  intro e he
  have := (List.mem_filter.1 he).1
  simp at this
  rcases this with rfl | rfl | rfl <;> simp
theorem three_uniq {p a b c : Bs} : Uniq (three p a b c) := Uniq.filter (by simp [Uniq, Ent.key]) _
theorem three_len {p a b c : Bs} : (three p a b c).length ≤ 3 := List.length_filter_le _ _
theorem uniq_conflict {l : List Ent} (h : Uniq l) (p a b c : Bs) : Uniq (conflict l p a b c).2 := by
  unfold conflict
  split
  · exact h
  · unfold Uniq
    rw [List.map_append, List.nodup_append]
    refine ⟨three_uniq.perm (List.reverse_perm _).symm, h.filter _, fun k hk j hj e => ?_⟩
    obtain ⟨x, hx, rfl⟩ := List.mem_map.1 hk
    obtain ⟨y, hy, rfl⟩ := List.mem_map.1 hj
    have h1 := three_path x (List.mem_reverse.1 hx)
    have h2 := (List.mem_filter.1 hy).2
    have h3 : x.path = y.path := congrArg Prod.fst e
    simp [← h3, h1] at h2

/-- what holds of every index -/
structure Inv (l : List Ent) : Prop where
  uniq : Uniq l
  right : ∀ e ∈ l, right e = true
  beside : ∀ a ∈ l, ∀ b ∈ l, a.stage = 0 → (b.path = a.path → b.stage = 0) ∧ (b.stage = 0 → under b.path a.path = false)
theorem inv_nil : Inv [] := ⟨List.nodup_nil, by simp, by simp⟩
theorem Inv.filter {l : List Ent} (h : Inv l) (f : Ent → Bool) : Inv (l.filter f) :=
  ⟨h.uniq.filter f, fun e he => h.right e (List.mem_filter.1 he).1, fun a ha b hb => h.beside a (List.mem_filter.1 ha).1 b (List.mem_filter.1 hb).1⟩
theorem inv_set {l : List Ent} (h : Inv l) (e : Ent) : Inv (set l e).2 := by
  refine ⟨uniq_set h.uniq e, ?_, ?_⟩
  · unfold set
    split
    · rename_i hr
      intro x hx
      rcases List.mem_cons.1 hx with rfl | hx
      · exact hr.1
      · exact h.right x (List.mem_filter.1 hx).1
    · exact h.right
  · unfold set
    split
    · rename_i hr
      intro a ha b hb h0
      rcases List.mem_cons.1 ha with rfl | ha
      · rcases List.mem_cons.1 hb with rfl | hb
        · exact ⟨fun _ => h0, fun _ => PathLaw.under_irrefl _⟩
        · have hB := inWay_no (by simpa using (List.mem_filter.1 hb).2)
          exact ⟨fun e => absurd e hB.1, fun e => (hB.2 e).1⟩
      · have hA := inWay_no (by simpa using (List.mem_filter.1 ha).2)
        rcases List.mem_cons.1 hb with rfl | hb
        · exact ⟨fun e => absurd e.symm hA.1, fun _ => (hA.2 h0).2⟩
        · exact h.beside a (List.mem_filter.1 ha).1 b (List.mem_filter.1 hb).1 h0
    · exact h.beside
theorem inv_conflict {l : List Ent} (h : Inv l) (p a b c : Bs) : Inv (conflict l p a b c).2 := by
  refine ⟨uniq_conflict h.uniq p a b c, ?_, ?_⟩
  · unfold conflict
    split
    · exact h.right
    · rename_i hr
      rw [not_or, Bool.not_eq_true, List.any_eq_false] at hr
      intro x hx
      rcases List.mem_append.1 hx with hx | hx
      · simpa using hr.2 x (List.mem_reverse.1 hx)
      · exact h.right x (List.mem_filter.1 hx).1
  · unfold conflict
    split
    · exact h.beside
    · intro x hx y hy h0
      rcases List.mem_append.1 hx with hx | hx
      · exact absurd h0 (three_stage x (List.mem_reverse.1 hx))
      · rcases List.mem_append.1 hy with hy | hy
        · refine ⟨fun e => ?_, fun e => absurd e (three_stage y (List.mem_reverse.1 hy))⟩
          have h1 := three_path y (List.mem_reverse.1 hy)
          have h2 := (List.mem_filter.1 hx).2
          simp [← e, h1] at h2
        · exact h.beside x (List.mem_filter.1 hx).1 y (List.mem_filter.1 hy).1 h0

/-- what is set is found; what is not in the way stays; so many entries there are -/
theorem one_law {l : List Ent} (h : Uniq l) {e : Ent} (hs : (set l e).1 = 0) :
    find (set l e).2 (e.path, 0) = some e ∧ (∀ z ∈ l, inWay e.path z.key = false → find (set l e).2 z.key = some z) ∧ (set l e).2.length = (l.filter (fun z => !inWay e.path z.key)).length + 1 := by
  have hu := uniq_set h e
  unfold set at hs hu ⊢
  split at hs
  · rename_i hr
    rw [if_pos hr] at hu ⊢
    refine ⟨?_, fun z hz hw => ?_, rfl⟩
    · rw [find_mem hu]
      exact ⟨by simp, by rw [Ent.key, hr.2]⟩
    · rw [find_mem hu]
      exact ⟨List.mem_cons_of_mem _ (List.mem_filter.2 ⟨hz, by simp [hw]⟩), rfl⟩
  · cases hs
end IdxLaw
end Go.Proofs.YtjcelelgebohkaaDoor
