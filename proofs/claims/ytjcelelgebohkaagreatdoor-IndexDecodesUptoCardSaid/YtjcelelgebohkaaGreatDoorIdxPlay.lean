/-
  Plain law: what the document's index does to entries in order is what the program's does, in order; the answers are alike. Condition: no path and stage twice.
-/
import Derived.Test.YtjcelelgebohkaaGreatDoorIdxStep
namespace Go.Proofs.YtjcelelgebohkaaGreatDoor
open PathLaw (under)
open IdxLaw (Ent Key zE ltE sortE Uniq three)

theorem find_perm {l k : List Ent} (hu : Uniq l) (hp : k.Perm l) (q : Key) : IdxLaw.find k q = IdxLaw.find l q := by
  cases h : IdxLaw.find l q with
  | some e =>
    obtain ⟨h1, h2⟩ := (IdxLaw.find_mem hu).1 h
    exact (IdxLaw.find_mem (hu.perm hp.symm)).2 ⟨hp.mem_iff.2 h1, h2⟩
  | none =>
    rw [IdxLaw.find_none] at h ⊢
    exact fun e he => h e (hp.mem_iff.1 he)
def Srt (l : List Ent) : Prop := l.Pairwise (fun x y => (!ltE y x) = true)
theorem insE_cons (x y : Ent) (r : List Ent) : insE x (y :: r) = if ltE y x = true then y :: insE x r else x :: y :: r := by
  unfold insE
  by_cases h : ltE y x = true
  · rw [if_pos h, List.takeWhile_cons_of_pos (by simpa using h), List.dropWhile_cons_of_pos (by simpa using h)]; rfl
  · rw [if_neg h, List.takeWhile_cons_of_neg (by simpa using h), List.dropWhile_cons_of_neg (by simpa using h)]; rfl
theorem insE_srt (x : Ent) : ∀ {l : List Ent}, Srt l → Srt (insE x l)
  | [], _ => by simp [insE, Srt]
  | y :: r, h => by
    obtain ⟨h1, h2⟩ := List.pairwise_cons.1 h
    rw [insE_cons]
    by_cases hy : ltE y x = true
    · rw [if_pos hy]
      refine List.pairwise_cons.2 ⟨fun z hz => ?_, insE_srt x h2⟩
      rcases insE_mem.1 hz with rfl | hz
      · cases hx : ltE z y with
        | false => rfl
        | true => have := IdxLaw.ltE_trans hy hx; rw [IdxLaw.ltE_irrefl] at this; cases this
      · exact h1 z hz
    · rw [if_neg hy]
      have hyx : (!ltE y x) = true := by simpa using hy
      refine List.pairwise_cons.2 ⟨fun z hz => ?_, h⟩
      rcases List.mem_cons.1 hz with rfl | hz
      · exact hyx
      · exact IdxLaw.le_trans hyx (h1 z hz)
theorem filter_sortE {l : List Ent} (hu : Uniq l) (f : Ent → Bool) : (sortE l).filter f = sortE (l.filter f) :=
  IdxLaw.sortE_unique (hu.filter f) ((IdxLaw.sortE_perm l).filter f) ((IdxLaw.sortE_sorted l).filter f)
theorem addAll_srt : ∀ (es : List Ent) {l : List Ent}, Srt l → Srt (addAll l es)
  | [], _, h => h
  | e :: es, _, h => addAll_srt es (insE_srt e h)
theorem addAll_perm : ∀ (es l : List Ent), (addAll l es).Perm (es.reverse ++ l)
  | [], l => List.Perm.refl _
  | e :: es, l => by
    refine (addAll_perm es (insE e l)).trans ?_
    rw [List.reverse_cons, List.append_assoc]
    exact (insE_perm e l).append_left _
theorem rkeep_way (p : List UInt8) : rkeep true p = fun e => !IdxLaw.inWay p e.key := by
  funext e
  by_cases h1 : e.path = p <;> by_cases h2 : e.stage = 0 <;> simp [rkeep, IdxLaw.inWay, Ent.key, h1, h2]
theorem rkeep_path (p : List UInt8) : rkeep false p = fun e => !decide (e.path = p) := by
  funext e
  simp [rkeep]
theorem play_sort {l : List Ent} (h : IdxLaw.Inv l) (o : OpG) : playR o (sortE l) = sortE (playL o l) := by
  have hu := h.uniq
  unfold playL playR
  split
  · have hU := IdxLaw.uniq_conflict hu o.e.path o.a o.b o.c
    unfold IdxLaw.conflict at hU ⊢
    unfold rconf
    by_cases hc : three o.e.path o.a o.b o.c = [] ∨ (three o.e.path o.a o.b o.c).any (fun e => !IdxLaw.right e) = true
    · rw [if_pos hc, if_pos hc]
    · rw [if_neg hc] at hU
      rw [if_neg hc, if_neg hc]
      rw [rkeep_path, filter_sortE hu]
      refine IdxLaw.sortE_unique hU ((addAll_perm _ _).trans ?_) (addAll_srt _ (IdxLaw.sortE_sorted _))
      exact (IdxLaw.sortE_perm _).append_left _
  · split
    · exact filter_sortE hu _
    · split
      · rfl
      · split
        · rfl
        · have hU := IdxLaw.uniq_set hu o.e
          unfold IdxLaw.set at hU ⊢
          unfold rset
          by_cases hc : IdxLaw.right o.e = true ∧ o.e.stage = 0
          · rw [if_pos hc] at hU
            rw [if_pos hc, if_pos hc]
            rw [rkeep_way, filter_sortE hu]
            exact IdxLaw.sortE_unique hU ((insE_perm _ _).trans ((IdxLaw.sortE_perm _).cons _)) (insE_srt _ (IdxLaw.sortE_sorted _))
          · rw [if_neg hc, if_neg hc]
theorem step_yes {l : List Ent} (h : IdxLaw.Inv l) (o : OpG) : stepB o l (sortE l) = true := by
  have hu := h.uniq
  have hf := fun q => find_perm hu (IdxLaw.sortE_perm l) q
  unfold stepB
  split
  · unfold IdxLaw.conflict rconf
    split <;> simp
  · split
    · unfold fewer IdxLaw.drop
      rw [filter_sortE hu, (IdxLaw.sortE_perm _).length_eq, (IdxLaw.sortE_perm _).length_eq]
      simp
    · split
      · rw [hf]
        simp [eqE_iff]
      · split
        · rw [hf]; simp
        · unfold IdxLaw.set rset
          split <;> simp
end Go.Proofs.YtjcelelgebohkaaGreatDoor
