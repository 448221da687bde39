/-
  Plain law of what turned between two lists of files: paths rising, each once, old and new ids; laid upon the first it makes the second; the other way round it is the other way round. No program in sight, no condition but a law's own.
-/
import Derived.Test.YtkginbfpokbhcaaGreatDoorCompact
namespace Go.Proofs.YtkginbfpokbhcaaGreatDoor
namespace DiffLaw
abbrev Bs := List UInt8
abbrev Fl := Bs × Bs
/-- the id of a path's first file; nothing: there is none -/
def fid : List Fl → Bs → Bs
  | [], _ => []
  | f :: l, p => if f.1 = p then f.2 else fid l p
abbrev Ch := Bs × Bs × Bs
def ofPaths (ps : List Bs) (a b : List Fl) : List Ch := ps.filterMap fun p => if fid a p = fid b p then none else some (p, fid a p, fid b p)
/-- what turned, told over any list of paths that rise -/
def Paths (ps : List Bs) (a b : List Fl) : Prop := ps.Pairwise (· < ·) ∧ ∀ p, p ∈ ps ↔ (p ∈ a.map (·.1) ∨ p ∈ b.map (·.1))
theorem paths_eq {ps qs : List Bs} {a b : List Fl} (h : Paths ps a b) (k : Paths qs a b) : ps = qs := rising_ext h.1 k.1 fun x => (h.2 x).trans (k.2 x).symm
theorem paths_swap {ps qs : List Bs} {a b : List Fl} (h : Paths ps a b) (k : Paths qs b a) : ps = qs := rising_ext h.1 k.1 fun x => (h.2 x).trans (Or.comm.trans (k.2 x).symm)
theorem fid_none {l : List Fl} {p : Bs} (h : p ∉ l.map (·.1)) : fid l p = [] := by
  induction l with
  | nil => rfl
  | cons f r ih =>
    rw [List.map_cons, List.mem_cons, not_or] at h
    rw [fid, if_neg (fun e => h.1 e.symm)]
    exact ih h.2
theorem fid_mem {l : List Fl} (hn : (l.map (·.1)).Nodup) {f : Fl} (h : f ∈ l) : fid l f.1 = f.2 := by
  induction l with
  | nil => simp at h
  | cons g r ih =>
    rw [List.map_cons, List.nodup_cons] at hn
    rw [fid]
    rcases List.mem_cons.1 h with rfl | h
    · rw [if_pos rfl]
    · rw [if_neg (fun (e : g.1 = f.1) => hn.1 (by rw [e]; exact List.mem_map_of_mem h))]
      exact ih hn.2 h
theorem swap_eq (ps : List Bs) (a b : List Fl) : ofPaths ps b a = (ofPaths ps a b).map fun c => (c.1, c.2.2, c.2.1) := by
  unfold ofPaths
  rw [List.map_filterMap]
  congr 1
  funext p
  by_cases h : fid a p = fid b p
  · rw [if_pos h, if_pos h.symm]; rfl
  · rw [if_neg h, if_neg (fun e => h e.symm)]; rfl
theorem same_nil (ps : List Bs) (a : List Fl) : ofPaths ps a a = [] := by
  unfold ofPaths
  rw [List.filterMap_eq_nil_iff]
  intro p _
  rw [if_pos rfl]
theorem of_mem {ps : List Bs} {a b : List Fl} {c : Ch} (h : c ∈ ofPaths ps a b) : c.1 ∈ ps ∧ c.2.1 = fid a c.1 ∧ c.2.2 = fid b c.1 ∧ fid a c.1 ≠ fid b c.1 := by
  unfold ofPaths at h
  obtain ⟨p, hp, h2⟩ := List.mem_filterMap.1 h
  by_cases e : fid a p = fid b p
  · rw [if_pos e] at h2; cases h2
  · rw [if_neg e] at h2
    cases h2
    exact ⟨hp, rfl, rfl, e⟩
theorem mem_of {ps : List Bs} {a b : List Fl} {p : Bs} (hp : p ∈ ps) (h : fid a p ≠ fid b p) : (p, fid a p, fid b p) ∈ ofPaths ps a b :=
  List.mem_filterMap.2 ⟨p, hp, by rw [if_neg h]⟩
theorem of_rises {ps : List Bs} (h : ps.Pairwise (· < ·)) (a b : List Fl) : ((ofPaths ps a b).map (·.1)).Pairwise (· < ·) := by
  induction ps with
  | nil => exact List.Pairwise.nil
  | cons p r ih =>
    rw [List.pairwise_cons] at h
    unfold ofPaths
    rw [List.filterMap_cons]
    by_cases e : fid a p = fid b p
    · rw [if_pos e]; exact ih h.2
    · rw [if_neg e]
      rw [List.map_cons, List.pairwise_cons]
      refine ⟨fun x hx => ?_, ih h.2⟩
      obtain ⟨c, hc, rfl⟩ := List.mem_map.1 hx
      exact h.1 _ (of_mem hc).1

/-- files that may be: paths rise, no id is nothing -/
structure Good (l : List Fl) : Prop where
  rise : (l.map (·.1)).Pairwise (· < ·)
  full : ∀ f ∈ l, f.2 ≠ []
theorem rise_nodup {l : List Bs} (h : l.Pairwise (· < ·)) : l.Nodup := h.imp fun {a b} hab (e : a = b) => lt_irr_bs a (by rw [← e] at hab; exact hab)
theorem Good.nodup {l : List Fl} (h : Good l) : (l.map (·.1)).Nodup := rise_nodup h.rise
theorem Good.some {l : List Fl} (h : Good l) {p : Bs} : fid l p ≠ [] ↔ p ∈ l.map (·.1) := by
  constructor
  · intro h2
    exact Classical.byContradiction fun h3 => h2 (fid_none h3)
  · intro h2
    obtain ⟨f, hf, rfl⟩ := List.mem_map.1 h2
    rw [fid_mem h.nodup hf]
    exact h.full f hf
/-- a path's file is another one, or gone -/
def put (l : List Fl) (p i : Bs) : List Fl := l.filter (fun f => !decide (f.1 = p)) ++ (if i = [] then [] else [(p, i)])
/-- paths once each, no id nothing: order is not said -/
structure Once (l : List Fl) : Prop where
  nodup : (l.map (·.1)).Nodup
  full : ∀ f ∈ l, f.2 ≠ []
theorem Good.once {l : List Fl} (h : Good l) : Once l := ⟨h.nodup, h.full⟩
theorem Once.some {l : List Fl} (h : Once l) {p : Bs} : fid l p ≠ [] ↔ p ∈ l.map (·.1) := by
  constructor
  · intro h2
    exact Classical.byContradiction fun h3 => h2 (fid_none h3)
  · intro h2
    obtain ⟨f, hf, rfl⟩ := List.mem_map.1 h2
    rw [fid_mem h.nodup hf]
    exact h.full f hf
theorem fid_filter (l : List Fl) (p q : Bs) : fid (l.filter (fun f => !decide (f.1 = p))) q = if q = p then [] else fid l q := by
  induction l with
  | nil => simp [fid]
  | cons f r ih =>
    rw [List.filter_cons]
    by_cases h : f.1 = p
    · simp only [h, decide_true, Bool.not_true, Bool.false_eq_true, if_false]
      rw [ih, fid]
      by_cases hq : q = p
      · rw [if_pos hq, if_pos hq]
      · rw [if_neg hq, if_neg hq, if_neg (fun e => hq (e.symm.trans h))]
    · simp only [h, decide_false, Bool.not_false, if_true]
      rw [fid, fid, ih]
      by_cases hq : q = p
      · rw [if_pos hq, if_pos hq, if_neg (fun e => h (e.trans hq))]
      · simp only [if_neg hq]
theorem fid_append (l k : List Fl) (q : Bs) (h : q ∉ l.map (·.1)) : fid (l ++ k) q = fid k q := by
  induction l with
  | nil => rfl
  | cons f r ih =>
    rw [List.map_cons, List.mem_cons, not_or] at h
    rw [List.cons_append, fid, if_neg (fun e => h.1 e.symm)]
    exact ih h.2
theorem fid_append_in (l k : List Fl) (q : Bs) (h : q ∈ l.map (·.1)) : fid (l ++ k) q = fid l q := by
  induction l with
  | nil => simp at h
  | cons f r ih =>
    rw [List.cons_append, fid, fid]
    by_cases e : f.1 = q
    · rw [if_pos e, if_pos e]
    · rw [if_neg e, if_neg e]
      rw [List.map_cons, List.mem_cons] at h
      exact ih (h.resolve_left (fun h => e h.symm))
theorem filter_keys (l : List Fl) (p : Bs) : (l.filter (fun f => !decide (f.1 = p))).map (·.1) = (l.map (·.1)).filter (fun q => !decide (q = p)) := by
  rw [List.filter_map]; rfl
theorem fid_put (l : List Fl) (p i q : Bs) : fid (put l p i) q = if q = p then i else fid l q := by
  unfold put
  by_cases hq : q = p
  · rw [if_pos hq]
    rw [fid_append _ _ _ (by rw [filter_keys]; simp [hq])]
    by_cases hi : i = []
    · rw [if_pos hi, hi]; rfl
    · rw [if_neg hi, fid, if_pos hq.symm]
  · rw [if_neg hq]
    by_cases hm : q ∈ (l.filter (fun f => !decide (f.1 = p))).map (·.1)
    · rw [fid_append_in _ _ _ hm, fid_filter, if_neg hq]
    · rw [fid_append _ _ _ hm]
      have h0 : fid l q = [] := by
        have := fid_filter l p q
        rw [if_neg hq] at this
        rw [← this, fid_none hm]
      rw [h0]
      by_cases hi : i = []
      · rw [if_pos hi]; rfl
      · rw [if_neg hi, fid, if_neg (fun e => hq e.symm)]; rfl
theorem Once.put {l : List Fl} (h : Once l) (p i : Bs) : Once (put l p i) := by
  unfold DiffLaw.put
  constructor
  · rw [List.map_append, List.nodup_append]
    refine ⟨by rw [filter_keys]; exact h.nodup.filter _, ?_, ?_⟩
    · by_cases hi : i = []
      · simp [hi]
      · simp [hi]
    · intro x hx y hy e
      rw [filter_keys] at hx
      by_cases hi : i = []
      · simp [hi] at hy
      · simp [hi] at hy
        rw [hy] at e
        simp [e] at hx
  · intro f hf
    rcases List.mem_append.1 hf with hf | hf
    · exact h.full f (List.mem_filter.1 hf).1
    · by_cases hi : i = []
      · simp [hi] at hf
      · simp [hi] at hf
        rw [hf]
        exact hi
/-- two lists, one rising, that say the same of each path: the other's files, in order, are they -/
theorem sorted_is {l k s : List Fl} (hl : Once l) (hk : Good k) (h : ∀ p, fid l p = fid k p) (hp : s.Perm l) (hs : (s.map (·.1)).Pairwise (· ≤ ·)) : s = k := by
  have hsn : (s.map (·.1)).Nodup := ((hp.map (·.1)).nodup_iff).2 hl.nodup
  have hkeys : s.map (·.1) = k.map (·.1) := by
    refine rising_ext ?_ hk.rise fun x => ?_
    · have : (s.map (·.1)).Pairwise (fun a b => a ≤ b ∧ a ≠ b) := List.Pairwise.and hs hsn
      exact this.imp fun h => lt_of_le_ne h.1 h.2
    · rw [(hp.map (·.1)).mem_iff, ← hl.some, ← hk.some, h]
  refine List.ext_getElem ?_ fun j h1 h2 => ?_
  · have := congrArg List.length hkeys
    simpa using this
  · have e1 : s[j].1 = k[j].1 := by
      have h3 := congrArg (fun (t : List Bs) => t[j]?) hkeys
      simp [h1, h2] at h3
      exact h3
    have e2 : s[j].2 = k[j].2 := by
      rw [← fid_mem hl.nodup (hp.mem_iff.1 (List.getElem_mem h1)), ← fid_mem hk.nodup (List.getElem_mem h2), h, e1]
    exact Prod.ext e1 e2
/-- all changes laid -/
def lay (l : List Fl) (cs : List (Bs × Bs)) : List Fl := cs.foldl (fun l c => put l c.1 c.2) l
theorem lay_once {l : List Fl} (h : Once l) (cs : List (Bs × Bs)) : Once (lay l cs) := by
  unfold lay
  induction cs generalizing l with
  | nil => exact h
  | cons c r ih => exact ih (h.put _ _)
theorem lay_snoc (l : List Fl) (cs : List (Bs × Bs)) (c : Bs × Bs) : lay l (cs ++ [c]) = put (lay l cs) c.1 c.2 := by simp [lay]
/-- where steps say of each path what is to stand there, or nothing at all, and then it stood already -/
theorem lay_fid {want : Bs → Bs} (cs : List (Bs × Bs)) (hw : ∀ c ∈ cs, c.2 = want c.1) (l : List Fl) (p : Bs) : fid (lay l cs) p = if p ∈ cs.map (·.1) then want p else fid l p := by
  unfold lay
  induction cs generalizing l with
  | nil => simp
  | cons c r ih =>
    rw [List.foldl_cons, ih (fun c hc => hw c (List.mem_cons_of_mem _ hc)), fid_put]
    by_cases h1 : p ∈ r.map (·.1)
    · rw [if_pos h1, if_pos (by rw [List.map_cons]; exact List.mem_cons_of_mem _ h1)]
    · rw [if_neg h1]
      by_cases h2 : p = c.1
      · rw [if_pos h2, if_pos (by rw [List.map_cons, h2]; exact List.mem_cons_self), h2, hw c (by simp)]
      · rw [if_neg h2, if_neg]
        rw [List.map_cons, List.mem_cons, not_or]
        exact ⟨h2, h1⟩
/-- what turned makes the other -/
theorem makes {ps : List Bs} {a b s : List Fl} (ha : Good a) (hb : Good b) (hP : Paths ps a b) (hp : s.Perm (lay a ((ofPaths ps a b).map fun c => (c.1, c.2.2)))) (hs : (s.map (·.1)).Pairwise (· ≤ ·)) : s = b := by
  refine sorted_is (lay_once ha.once _) hb (fun p => ?_) hp hs
  rw [lay_fid (want := fid b) _ (fun c hc => by
    obtain ⟨d, hd, rfl⟩ := List.mem_map.1 hc
    exact (of_mem hd).2.2.1)]
  by_cases h : p ∈ ((ofPaths ps a b).map fun c => (c.1, c.2.2)).map (·.1)
  · rw [if_pos h]
  · rw [if_neg h]
    refine Classical.byContradiction fun hne => h ?_
    have hmem : p ∈ ps := by
      rw [hP.2]
      refine Classical.byContradiction fun h3 => hne ?_
      rw [not_or] at h3
      rw [fid_none h3.1, fid_none h3.2]
    rw [List.map_map]
    exact List.mem_map.2 ⟨_, mem_of hmem hne, rfl⟩
end DiffLaw
end Go.Proofs.YtkginbfpokbhcaaGreatDoor
