/-
  Plain law of layer 17, fourth part: what is made is lines again, and has as many signs of each kind as there are conflicts. No program in sight.
-/
import Derived.Test.YtpnogcblafmaiaaDoorBlendLaw3
namespace Go.Proofs.YtpnogcblafmaiaaDoor
namespace BlendLaw
open LineLaw (Hk Ok diff)

/-! ## lines that end by a line feed, but for the last one -/
def Cl (s : Bs) : Prop := ∃ p, s = p ++ [10] ∧ (10 : UInt8) ∉ p
def WL : Ls → Prop
  | [] => True
  | s :: t => Cl s ∧ WL t ∨ t = [] ∧ s ≠ [] ∧ (10 : UInt8) ∉ s
theorem Cl.feed {s : Bs} (h : Cl s) : feedEnd s = true := by
  obtain ⟨p, rfl, _⟩ := h
  simp [feedEnd]
theorem open_feed {s : Bs} (h : (10 : UInt8) ∉ s) : feedEnd s = false := by
  unfold feedEnd
  rw [beq_eq_false_iff_ne]
  intro e
  exact h (List.mem_of_getLast? e)
theorem lns_cl {s : Bs} (h : Cl s) (r : Bs) : LinesLaw.lns (s ++ r) = s :: LinesLaw.lns r := by
  obtain ⟨p, rfl, hp⟩ := h
  rw [List.append_assoc]
  exact LinesLaw.lns_line p r hp
theorem WL.lined : ∀ {L : Ls}, WL L → LinesLaw.lns L.flatten = L
  | [], _ => rfl
  | s :: t, h => by
    rcases h with ⟨h1, h2⟩ | ⟨rfl, h1, h2⟩
    · rw [List.flatten_cons, lns_cl h1, h2.lined]
    · obtain ⟨p, x, rfl⟩ : ∃ p x, s = p ++ [x] := ⟨s.dropLast, s.getLast h1, (List.dropLast_concat_getLast h1).symm⟩
      simp only [List.flatten_cons, List.flatten_nil, List.append_nil]
      exact LinesLaw.lns_last p x (fun h => h2 (by simp [h]))
theorem wl_lns : ∀ b : Bs, WL (LinesLaw.lns b)
  | [] => trivial
  | x :: b => by
    have ih := wl_lns b
    unfold LinesLaw.lns
    split
    · rename_i h
      subst h
      exact Or.inl ⟨⟨[], rfl, by simp⟩, ih⟩
    · rename_i h
      split
      · exact Or.inr ⟨rfl, by simp, by simp; exact fun e => h e.symm⟩
      · rename_i l ls hl
        rw [hl] at ih
        rcases ih with ⟨⟨p, rfl, hp⟩, h2⟩ | ⟨rfl, h1, h2⟩
        · exact Or.inl ⟨⟨x :: p, rfl, by simp [hp]; exact fun e => h e.symm⟩, h2⟩
        · exact Or.inr ⟨rfl, by simp, by simp [h2]; exact fun e => h e.symm⟩
theorem WL.tail {s : Bs} {t : Ls} (h : WL (s :: t)) : WL t := by
  rcases h with ⟨_, h⟩ | ⟨rfl, _⟩
  · exact h
  · trivial
theorem WL.drop : ∀ {L : Ls} (k : Nat), WL L → WL (L.drop k)
  | [], k, _ => by simp; trivial
  | s :: t, 0, h => h
  | s :: t, k + 1, h => by rw [List.drop_succ_cons]; exact h.tail.drop k
theorem WL.take : ∀ {L : Ls} (k : Nat), WL L → WL (L.take k)
  | [], k, _ => by simp; trivial
  | s :: t, 0, _ => trivial
  | s :: t, k + 1, h => by
    rw [List.take_succ_cons]
    rcases h with ⟨h1, h2⟩ | ⟨rfl, h1, h2⟩
    · exact Or.inl ⟨h1, h2.take k⟩
    · exact Or.inr ⟨by simp, h1, h2⟩
theorem WL.part {L : Ls} (h : WL L) (p q : Nat) : WL (partOf L p q) := (h.drop p).take _
theorem WL.at_ : ∀ {L : Ls} {i : Nat} {s : Bs}, WL L → L[i]? = some s → i + 1 < L.length → Cl s
  | [], i, s, _, h, _ => by simp at h
  | a :: t, 0, s, h, hs, hl => by
    obtain rfl : a = s := by simpa using hs
    rcases h with ⟨h1, h2⟩ | ⟨rfl, h1, h2⟩
    · exact h1
    · simp at hl
  | a :: t, i + 1, s, h, hs, hl => h.tail.at_ (i := i) (by simpa using hs) (by simp at hl; omega)
theorem WL.app : ∀ {A B : Ls}, (∀ s ∈ A, Cl s) → WL B → WL (A ++ B)
  | [], _, _, h => h
  | a :: t, B, hA, h => Or.inl ⟨hA a (by simp), WL.app (fun s hs => hA s (by simp [hs])) h⟩
theorem WL.feed_or : ∀ {L : Ls} {s : Bs}, WL L → s ∈ L → Cl s ∨ L.getLast? = some s ∧ feedEnd s = false
  | a :: t, s, h, hs => by
    rcases h with ⟨h1, h2⟩ | ⟨rfl, h1, h2⟩
    · rcases List.mem_cons.1 hs with rfl | hs
      · exact Or.inl h1
      · rcases h2.feed_or hs with h3 | ⟨h3, h4⟩
        · exact Or.inl h3
        · refine Or.inr ⟨?_, h4⟩
          rw [List.getLast?_cons, h3]; rfl
    · obtain rfl : s = a := by simpa using hs
      exact Or.inr ⟨rfl, open_feed h2⟩
theorem open_cl {s : Bs} (h2 : (10 : UInt8) ∉ s) : Cl (s ++ [10]) := ⟨s, rfl, h2⟩
theorem closed_cons2 (a b : Bs) (t : Ls) : closed (a :: b :: t) = a :: closed (b :: t) := by
  unfold closed
  rw [List.getLast?_cons_cons]
  cases h : (b :: t).getLast? with
  | none => simp at h
  | some s =>
    simp only
    split
    · rfl
    · rfl
theorem closed_cl : ∀ {L : Ls}, WL L → ∀ s ∈ closed L, Cl s
  | [], _, s, hs => by simp [closed] at hs
  | [a], h, s, hs => by
    rcases h with ⟨h1, _⟩ | ⟨_, h1, h2⟩
    · simp [closed, h1.feed] at hs
      subst hs; exact h1
    · simp [closed, open_feed h2] at hs
      subst hs; exact open_cl h2
  | a :: b :: t, h, s, hs => by
    rw [closed_cons2] at hs
    rcases h with ⟨h1, h2⟩ | ⟨h1, _⟩
    · rcases List.mem_cons.1 hs with rfl | hs
      · exact h1
      · exact closed_cl h2 s hs
    · cases h1
theorem mem_closed {L : Ls} {s : Bs} (hs : s ∈ L) (hf : feedEnd s = true) : s ∈ closed L := by
  unfold closed
  split
  · rename_i h; rw [List.getLast?_eq_none_iff] at h; subst h; cases hs
  · rename_i t h
    split
    · exact hs
    · rename_i hne
      obtain ⟨p, rfl⟩ := List.getLast?_eq_some_iff.1 h
      rcases List.mem_append.1 hs with hs | hs
      · simp [hs]
      · obtain rfl : s = t := by simpa using hs
        exact absurd hf hne
theorem last_closed {L : Ls} {s : Bs} (hs : L.getLast? = some s) (hf : feedEnd s = false) : s ++ [10] ∈ closed L := by
  unfold closed
  rw [hs]
  simp [hf]
theorem of_closed {L : Ls} {s : Bs} (hs : s ∈ closed L) : s ∈ L ∨ ∃ t ∈ L, s = t ++ [10] ∧ feedEnd t = false := by
  unfold closed at hs
  split at hs
  · cases hs
  · rename_i t h
    split at hs
    · exact Or.inl hs
    · rename_i hne
      rcases List.mem_append.1 hs with hs | hs
      · exact Or.inl (List.dropLast_subset _ hs)
      · exact Or.inr ⟨t, List.mem_of_getLast? h, by simpa using hs, by simpa using hne⟩
/-- a line that is nobody's, when all are closed, is none of a part's lines -/
theorem not_part {L P : Ls} {g : Bs} (h : WL L) (hg : Cl g) (hn : g ∉ closed L) (hP : ∀ s ∈ P, s ∈ L) : g ∉ P ∧ g ∉ closed P := by
  have h1 : g ∉ P := fun hs => hn (mem_closed (hP g hs) hg.feed)
  refine ⟨h1, fun hs => ?_⟩
  rcases of_closed hs with hs | ⟨t, ht, rfl, hf⟩
  · exact h1 hs
  · rcases h.feed_or (hP t ht) with h2 | ⟨h2, h3⟩
    · rw [h2.feed] at hf; cases hf
    · exact hn (last_closed h2 hf)

/-! ## what a merge makes is lines -/
/-- base's lines ahead of a region end by a line feed -/
theorem At.seg {x l : Ls} {hs t : List Hk} {h : Hk} {i j at_ : Nat} (H : At x l hs (h :: t) i j) (wx : WL x) (wl : WL l) (h1 : i ≤ at_) : ∀ s ∈ (x.drop at_).take (h.a0 - at_), Cl s := by
  intro s hs'
  obtain ⟨f, k1, k2, k3, k4, k5, k6, k7, k8, _, k9, _⟩ := H.ok
  obtain ⟨k, hk⟩ := List.getElem?_of_mem hs'
  have hlt : k < h.a0 - at_ := by
    rcases Nat.lt_or_ge k (h.a0 - at_) with hlt | hge
    · exact hlt
    · rw [List.getElem?_take, if_neg (by omega)] at hk; cases hk
  rw [List.getElem?_take, if_pos hlt, List.getElem?_drop] at hk
  by_cases hx : h.a0 < x.length
  · exact wx.at_ hk (by omega)
  · have e1 := congrArg (·[at_ - i + k]?) k9
    simp only [List.getElem?_take, List.getElem?_drop] at e1
    rw [if_pos (by omega), if_pos (by omega), show i + (at_ - i + k) = at_ + k by omega, hk] at e1
    exact wl.at_ e1.symm (by omega)
/-- where a part goes to a side's end, base is at its end -/
theorem At.full {x l : Ls} {hs r : List Hk} {i j hi : Nat} (H : At x l hs r i j) (hi1 : i ≤ hi) (hx : hi ≤ x.length) (hb : beyond hi r) (he : j + (hi - i) = l.length) : hi = x.length := by
  obtain ⟨f, h⟩ := H.ok
  cases r with
  | nil =>
    have h1 := congrArg List.length h.2.2
    simp only [List.length_drop] at h1
    have h2 := h.2.1
    omega
  | cons a t =>
    obtain ⟨h1, h2, h3, h4, h5, h6, h7, h8, _⟩ := h
    simp only [beyond] at hb
    omega
theorem At.nothing {x l : Ls} {hs r : List Hk} {i j : Nat} (H : At x l hs r i j) (hb : beyond x.length r) : r = [] := by
  cases r with
  | nil => rfl
  | cons a t =>
    have := H.hunk
    simp only [beyond] at hb
    omega
theorem part_cl {L : Ls} (h : WL L) {p q : Nat} (hq : q < L.length) : ∀ s ∈ partOf L p q, Cl s := by
  intro s hs
  obtain ⟨k, hk⟩ := List.getElem?_of_mem hs
  unfold partOf at hk
  have hlt : k < q - p := by
    rcases Nat.lt_or_ge k (q - p) with hlt | hge
    · exact hlt
    · rw [List.getElem?_take, if_neg (by omega)] at hk; cases hk
  rw [List.getElem?_take, if_pos hlt, List.getElem?_drop] at hk
  exact h.at_ hk (by omega)
def signs : Ls := [sBegin, sMiddle, sEnd]
theorem sign_cl : ∀ g ∈ signs, Cl g := by
  intro g hg
  simp only [signs, List.mem_cons, List.not_mem_nil, or_false] at hg
  rcases hg with rfl | rfl | rfl
  · exact ⟨[60, 60, 60, 60, 60, 60, 60], rfl, by decide⟩
  · exact ⟨[61, 61, 61, 61, 61, 61, 61], rfl, by decide⟩
  · exact ⟨[62, 62, 62, 62, 62, 62, 62], rfl, by decide⟩
theorem taken_shape (t0 t1 : Bool) (a b : Ls) : taken t0 t1 a b = (a, false) ∨ taken t0 t1 a b = (b, false) ∨ taken t0 t1 a b = (sBegin :: (closed a ++ sMiddle :: (closed b ++ [sEnd])), true) := by
  unfold taken
  split
  · exact Or.inl rfl
  · split
    · exact Or.inr (Or.inl rfl)
    · exact Or.inr (Or.inr rfl)
theorem conflict_count {a b : Ls} (ha : ∀ g ∈ signs, g ∉ closed a) (hb : ∀ g ∈ signs, g ∉ closed b) : ∀ g ∈ signs, (sBegin :: (closed a ++ sMiddle :: (closed b ++ [sEnd]))).count g = 1 := by
  intro g hg
  have h1 := List.count_eq_zero.2 (ha g hg)
  have h2 := List.count_eq_zero.2 (hb g hg)
  simp only [List.count_cons, List.count_append, h1, h2, List.count_nil]
  simp only [signs, List.mem_cons, List.not_mem_nil, or_false] at hg
  rcases hg with rfl | rfl | rfl <;> decide

theorem go_marks {x l0 l1 : Ls} {H0 H1 : List Hk} (wx : WL x) (w0 : WL l0) (w1 : WL l1) : ∀ (n at_ : Nat) (h0 h1 : List Hk) (i0 j0 i1 j1 : Nat), At x l0 H0 h0 i0 j0 → At x l1 H1 h1 i1 j1 → i0 ≤ at_ → i1 ≤ at_ → (∀ h, firstHk h0 h1 = some h → at_ ≤ h.a0) → h0.length + h1.length ≤ n →
    WL (go x l0 l1 H0 H1 n at_ h0 h1).1 ∧ ((∀ g ∈ signs, g ∉ closed x ∧ g ∉ closed l0 ∧ g ∉ closed l1) → ∃ k, (0 < k ↔ (go x l0 l1 H0 H1 n at_ h0 h1).2 = true) ∧ ∀ g ∈ signs, (go x l0 l1 H0 H1 n at_ h0 h1).1.count g = k)
  | n, at_, h0, h1, i0, j0, i1, j1, A0, A1, e0, e1, hah, hn => by
    cases hf : firstHk h0 h1 with
    | none =>
      obtain ⟨rfl, rfl⟩ := first_none hf
      rw [go_none]
      refine ⟨wx.drop _, fun hg => ⟨0, by simp, fun g hg' => ?_⟩⟩
      exact List.count_eq_zero.2 (not_part wx (sign_cl g hg') (hg g hg').1 (fun s hs => List.mem_of_mem_drop hs)).1
    | some h =>
      have hle := hah h hf
      have hh := first_hunk hf A0 A1
      have hless := grow_less hf hh.1
      obtain ⟨n, rfl⟩ : ∃ m, n = m + 1 := ⟨n - 1, by omega⟩
      obtain ⟨a0, b0, a1, b1, k1, k2, k3, k4, k5, k6⟩ := grow_at h.a1 h0 h1 A0 A1 (by omega) (by omega) hh.2
      have hby := grow_beyond h.a1 h0 h1
      have hseg : ∀ s ∈ (x.drop at_).take (h.a0 - at_), Cl s := by
        match h0, h1, hf, A0, A1 with
        | a :: t, [], hf, A0, A1 => obtain rfl : a = h := by simpa [firstHk] using hf
                                    exact A0.seg wx w0 e0
        | [], b :: s, hf, A0, A1 => obtain rfl : b = h := by simpa [firstHk] using hf
                                    exact A1.seg wx w1 e1
        | a :: t, b :: s, hf, A0, A1 =>
          simp only [firstHk] at hf
          split at hf
          · obtain rfl : b = h := by simpa using hf
            exact A1.seg wx w1 e1
          · obtain rfl : a = h := by simpa using hf
            exact A0.seg wx w0 e0
      obtain ⟨r1, r2⟩ := go_marks wx w0 w1 n (grow h.a1 h0 h1).1 (grow h.a1 h0 h1).2.1 (grow h.a1 h0 h1).2.2 a0 b0 a1 b1 k1 k2 k3 k4 (fun q hq => Nat.le_of_lt (first_beyond hq hby.1 hby.2)) (by omega)
      have hend : (grow h.a1 h0 h1).1 = x.length → (go x l0 l1 H0 H1 n (grow h.a1 h0 h1).1 (grow h.a1 h0 h1).2.1 (grow h.a1 h0 h1).2.2).1 = [] := by
        intro he
        have q0 := k1.nothing (by rw [← he]; exact hby.1)
        have q1 := k2.nothing (by rw [← he]; exact hby.2)
        rw [q0, q1, go_none, he]
        simp
      have f0 : (grow h.a1 h0 h1).1 = x.length ∨ pos H0 (grow h.a1 h0 h1).2.1 (grow h.a1 h0 h1).1 < l0.length := by
        rw [k1.pos_eq k3]
        have := k1.room k3 k5 hby.1
        by_cases hlt : b0 + ((grow h.a1 h0 h1).1 - a0) < l0.length
        · exact Or.inr hlt
        · exact Or.inl (k1.full k3 k5 hby.1 (by omega))
      have f1 : (grow h.a1 h0 h1).1 = x.length ∨ pos H1 (grow h.a1 h0 h1).2.2 (grow h.a1 h0 h1).1 < l1.length := by
        rw [k2.pos_eq k4]
        have := k2.room k4 k5 hby.2
        by_cases hlt : b1 + ((grow h.a1 h0 h1).1 - a1) < l1.length
        · exact Or.inr hlt
        · exact Or.inl (k2.full k4 k5 hby.2 (by omega))
      rw [go_some hf]
      generalize decide ((grow h.a1 h0 h1).2.1.length < h0.length) = t0
      generalize decide ((grow h.a1 h0 h1).2.2.length < h1.length) = t1
      generalize hrest : go x l0 l1 H0 H1 n (grow h.a1 h0 h1).1 (grow h.a1 h0 h1).2.1 (grow h.a1 h0 h1).2.2 = rest at *
      have hsx : ∀ g ∈ signs, g ∉ closed x → ((x.drop at_).take (h.a0 - at_)).count g = 0 := fun g hg hn' => List.count_eq_zero.2 (not_part wx (sign_cl g hg) hn' (fun s hs => List.mem_of_mem_drop (List.mem_of_mem_take hs))).1
      have pl : ∀ {l : Ls} {p q : Nat}, WL l → ((grow h.a1 h0 h1).1 = x.length ∨ q < l.length) → WL (partOf l p q ++ rest.1) := by
        intro l p q wl hq
        rcases hq with hq | hq
        · rw [hend hq, List.append_nil]; exact wl.part p q
        · exact WL.app (part_cl wl hq) r1
      rcases taken_shape t0 t1 (partOf l0 (pos H0 h0 h.a0) (pos H0 (grow h.a1 h0 h1).2.1 (grow h.a1 h0 h1).1)) (partOf l1 (pos H1 h1 h.a0) (pos H1 (grow h.a1 h0 h1).2.2 (grow h.a1 h0 h1).1)) with e | e | e
      all_goals rw [e]
      · refine ⟨WL.app hseg (pl w0 f0), fun hg => ?_⟩
        obtain ⟨k, c1, c2⟩ := r2 hg
        refine ⟨k, by simpa using c1, fun g hg' => ?_⟩
        rw [List.count_append, List.count_append, hsx g hg' (hg g hg').1, List.count_eq_zero.2 (not_part w0 (sign_cl g hg') (hg g hg').2.1 (fun s hs => part_mem hs)).1, c2 g hg']
        omega
      · refine ⟨WL.app hseg (pl w1 f1), fun hg => ?_⟩
        obtain ⟨k, c1, c2⟩ := r2 hg
        refine ⟨k, by simpa using c1, fun g hg' => ?_⟩
        rw [List.count_append, List.count_append, hsx g hg' (hg g hg').1, List.count_eq_zero.2 (not_part w1 (sign_cl g hg') (hg g hg').2.2 (fun s hs => part_mem hs)).1, c2 g hg']
        omega
      · refine ⟨WL.app hseg (WL.app ?_ r1), fun hg => ?_⟩
        · intro s hs
          simp only [List.mem_cons, List.mem_append, List.not_mem_nil, or_false] at hs
          rcases hs with rfl | hs | rfl | hs | rfl
          · exact sign_cl _ (by simp [signs])
          · exact closed_cl (w0.part _ _) s hs
          · exact sign_cl _ (by simp [signs])
          · exact closed_cl (w1.part _ _) s hs
          · exact sign_cl _ (by simp [signs])
        · obtain ⟨k, c1, c2⟩ := r2 hg
          refine ⟨k + 1, by simp, fun g hg' => ?_⟩
          rw [List.count_append, List.count_append, hsx g hg' (hg g hg').1, conflict_count (fun q hq => (not_part w0 (sign_cl q hq) (hg q hq).2.1 (fun s hs => part_mem hs)).2) (fun q hq => (not_part w1 (sign_cl q hq) (hg q hq).2.2 (fun s hs => part_mem hs)).2) g hg', c2 g hg']
          omega
/-- AS MANY SIGNS OF EACH KIND AS THERE ARE CONFLICTS -/
theorem merge_marks (b o t : Bs) : LinesLaw.lns (merge b o t).1 = (mergeL (LinesLaw.lns b) (LinesLaw.lns o) (LinesLaw.lns t)).1 ∧ ((∀ g ∈ signs, g ∉ closed (LinesLaw.lns b) ∧ g ∉ closed (LinesLaw.lns o) ∧ g ∉ closed (LinesLaw.lns t)) →
    ∃ k, (0 < k ↔ (merge b o t).2 = true) ∧ ∀ g ∈ signs, (LinesLaw.lns (merge b o t).1).count g = k) := by
  obtain ⟨h1, h2⟩ := go_marks (wl_lns b) (wl_lns o) (wl_lns t) ((diff (LinesLaw.lns b) (LinesLaw.lns o)).length + (diff (LinesLaw.lns b) (LinesLaw.lns t)).length) 0 _ _ 0 0 0 0 (At.start (LinesLaw.lns b) (LinesLaw.lns o)) (At.start (LinesLaw.lns b) (LinesLaw.lns t)) (Nat.le_refl _) (Nat.le_refl _) (fun _ _ => Nat.zero_le _) (Nat.le_refl _)
  have e : LinesLaw.lns (merge b o t).1 = (mergeL (LinesLaw.lns b) (LinesLaw.lns o) (LinesLaw.lns t)).1 := h1.lined
  refine ⟨e, fun h => ?_⟩
  rw [e]
  exact h2 h
end BlendLaw
end Go.Proofs.YtpnogcblafmaiaaDoor
