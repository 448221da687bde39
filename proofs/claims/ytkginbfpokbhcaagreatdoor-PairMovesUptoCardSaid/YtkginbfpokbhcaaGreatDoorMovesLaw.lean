/-
  Plain law of one file that is called otherwise: two changes, one gone, one fresh, of one blob. No program in sight.
-/
import Derived.Test.YtkginbfpokbhcaaGreatDoorDiffLaw
namespace Go.Proofs.YtkginbfpokbhcaaGreatDoor
namespace DiffLaw
theorem nodup_idx {α : Type} {l : List α} (h : l.Nodup) {i j : Nat} (hi : i < l.length) (hj : j < l.length) (e : l[i] = l[j]) : i = j := by
  have h1 := List.pairwise_iff_getElem.1 h
  rcases Nat.lt_trichotomy i j with h2 | h2 | h2
  · exact absurd e (h1 i j hi hj h2)
  · exact h2
  · exact absurd e.symm (h1 j i hj hi h2)
/-- a thing that alone meets what is asked -/
theorem filter_one {cs : List Ch} {f : Ch → Bool} {x : Ch} (hn : (cs.map (·.1)).Nodup) (hx : x ∈ cs) (hf : f x = true) (h : ∀ c ∈ cs, f c = true → c.1 = x.1) : cs.filter f = [x] := by
  induction cs with
  | nil => simp at hx
  | cons c r ih =>
    rw [List.map_cons, List.nodup_cons] at hn
    rcases List.mem_cons.1 hx with rfl | hx
    · rw [List.filter_cons, if_pos hf]
      congr 1
      rw [List.filter_eq_nil_iff]
      intro d hd hfd
      have h1 := h d (List.mem_cons_of_mem _ hd) hfd
      exact hn.1 (h1 ▸ List.mem_map_of_mem hd)
    · have hc : f c = false := by
        cases e : f c with
        | false => rfl
        | true =>
          have h1 := h c (by simp) e
          exact absurd (List.mem_map_of_mem (f := (·.1)) hx) (by rw [← h1]; exact hn.1)
      rw [List.filter_cons, if_neg (by rw [hc]; simp)]
      exact ih hn.2 hx (fun d hd => h d (List.mem_cons_of_mem _ hd))
section
variable {l m : List Fl} {k : Nat} {fr id to : Bs}
theorem set_keys (l : List Fl) (k : Nat) (to id : Bs) : (l.set k (to, id)).map (·.1) = (l.map (·.1)).set k to := by
  rw [List.map_set]
theorem from_not (hl : (l.map (·.1)).Nodup) (hk : l[k]? = some (fr, id)) (hm : m.Perm (l.set k (to, id))) (hne : to ≠ fr) : fr ∉ m.map (·.1) := by
  intro hmem
  rw [(hm.map (·.1)).mem_iff, set_keys] at hmem
  obtain ⟨j, hj, e⟩ := List.mem_iff_getElem.1 hmem
  have hj' : j < (l.map (·.1)).length := by simpa using hj
  obtain ⟨hk1, hk2⟩ := List.getElem?_eq_some_iff.1 hk
  rw [List.getElem_set] at e
  split at e
  · exact hne e
  · rename_i hjk
    have e2 : (l.map (·.1))[j] = (l.map (·.1))[k]'(by simpa using hk1) := by rw [e]; simp [hk2]
    exact hjk (nodup_idx hl _ _ e2).symm
theorem to_not (hk : l[k]? = some (fr, id)) (hm : m.Perm (l.set k (to, id))) (hg : (m.map (·.1)).Nodup) (hne : to ≠ fr) : to ∉ l.map (·.1) := by
  intro hmem
  have hg2 : ((l.map (·.1)).set k to).Nodup := by rw [← set_keys l k to id]; exact (hm.map (·.1)).nodup_iff.1 hg
  obtain ⟨j, hj, e⟩ := List.mem_iff_getElem.1 hmem
  obtain ⟨hk1, hk2⟩ := List.getElem?_eq_some_iff.1 hk
  have hjk : k ≠ j := by
    rintro rfl
    simp [hk2] at e
    exact hne e.symm
  have h1 : ((l.map (·.1)).set k to)[j]'(by simpa using hj) = to := by rw [List.getElem_set, if_neg hjk]; exact e
  have h2 : ((l.map (·.1)).set k to)[k]'(by simpa using hk1) = to := by rw [List.getElem_set, if_pos rfl]
  exact hjk (nodup_idx hg2 _ _ (h2.trans h1.symm))
theorem other_same (hl : (l.map (·.1)).Nodup) (hk : l[k]? = some (fr, id)) (hm : m.Perm (l.set k (to, id))) (hg : (m.map (·.1)).Nodup) {q : Bs} (h1 : q ≠ fr) (h2 : q ≠ to) : fid l q = fid m q := by
  by_cases hq : q ∈ l.map (·.1)
  · obtain ⟨f, hf, rfl⟩ := List.mem_map.1 hq
    obtain ⟨j, hj, e⟩ := List.mem_iff_getElem.1 hf
    obtain ⟨hk1, hk2⟩ := List.getElem?_eq_some_iff.1 hk
    have hjk : k ≠ j := by
      rintro rfl
      rw [hk2] at e
      exact h1 (by rw [← e])
    have hfm : f ∈ m := by
      rw [hm.mem_iff]
      refine List.mem_iff_getElem.2 ⟨j, by simpa using hj, ?_⟩
      rw [List.getElem_set, if_neg hjk]
      exact e
    rw [fid_mem hl hf, fid_mem hg hfm]
  · have hqm : q ∉ m.map (·.1) := by
      intro hmem
      rw [(hm.map (·.1)).mem_iff, set_keys] at hmem
      rcases List.mem_or_eq_of_mem_set hmem with h | h
      · exact hq h
      · exact h2 h
    rw [fid_none hq, fid_none hqm]
theorem moves {ps : List Bs} (hl : Good l) (hk : l[k]? = some (fr, id)) (hm : m.Perm (l.set k (to, id))) (hg : Good m) (hne : to ≠ fr) (hP : Paths ps l m) (hid : id ≠ []) {gone fresh : Ch → Bool}
    (hgo : ∀ c, gone c = true ↔ (c.2.2 = [] ∧ c.2.1 ≠ [])) (hfr : ∀ c, fresh c = true ↔ (c.2.1 = [] ∧ c.2.2 ≠ [])) :
    (ofPaths ps l m).filter gone = [(fr, id, [])] ∧ ((ofPaths ps l m).filter (fun c => !gone c)).filter fresh = [(to, [], id)] := by
  have hn : ((ofPaths ps l m).map (·.1)).Nodup := rise_nodup (of_rises hP.1 l m)
  have a1 : fid l fr = id := fid_mem hl.nodup (f := (fr, id)) (List.mem_of_getElem? hk)
  have a2 : fid m fr = [] := fid_none (from_not hl.nodup hk hm hne)
  have a3 : fid l to = [] := fid_none (to_not hk hm hg.nodup hne)
  have hkl := (List.getElem?_eq_some_iff.1 hk).1
  have hto : (to, id) ∈ m := hm.mem_iff.2 (List.mem_iff_getElem.2 ⟨k, by simpa using hkl, by rw [List.getElem_set, if_pos rfl]⟩)
  have a4 : fid m to = id := fid_mem hg.nodup (f := (to, id)) hto
  have f1 : fr ∈ ps := (hP.2 fr).2 (.inl (List.mem_map_of_mem (f := (·.1)) (List.mem_of_getElem? hk)))
  have f2 : to ∈ ps := (hP.2 to).2 (.inr (List.mem_map_of_mem (f := (·.1)) hto))
  have x1 : (fr, id, []) ∈ ofPaths ps l m := by
    have := mem_of (a := l) (b := m) f1 (by rw [a1, a2]; exact hid)
    rwa [a1, a2] at this
  have x2 : (to, [], id) ∈ ofPaths ps l m := by
    have := mem_of (a := l) (b := m) f2 (by rw [a3, a4]; exact fun e => hid e.symm)
    rwa [a3, a4] at this
  have hall : ∀ c ∈ ofPaths ps l m, c.1 = fr ∨ c.1 = to := by
    intro c hc
    obtain ⟨_, _, _, h4⟩ := of_mem hc
    by_cases e1 : c.1 = fr
    · exact .inl e1
    · by_cases e2 : c.1 = to
      · exact .inr e2
      · exact absurd (other_same hl.nodup hk hm hg.nodup e1 e2) h4
  constructor
  · refine filter_one hn x1 ((hgo _).2 ⟨rfl, hid⟩) fun c hc hf => ?_
    rcases hall c hc with e | e
    · exact e
    · obtain ⟨_, h2, _, _⟩ := of_mem hc
      rw [e, a3] at h2
      exact absurd h2 ((hgo c).1 hf).2
  · have hn2 : (((ofPaths ps l m).filter (fun c => !gone c)).map (·.1)).Nodup := hn.sublist (List.filter_sublist.map _)
    have hng : gone (to, [], id) = false := by
      cases e : gone (to, [], id) with
      | false => rfl
      | true => exact absurd rfl ((hgo _).1 e).2
    refine filter_one hn2 (List.mem_filter.2 ⟨x2, by simp [hng]⟩) ((hfr _).2 ⟨rfl, hid⟩) fun c hc hf => ?_
    have hc' := (List.mem_filter.1 hc).1
    rcases hall c hc' with e | e
    · obtain ⟨_, _, h3, _⟩ := of_mem hc'
      rw [e, a2] at h3
      exact absurd h3 ((hfr c).1 hf).2
    · exact e
end
end DiffLaw
end Go.Proofs.YtkginbfpokbhcaaGreatDoor
