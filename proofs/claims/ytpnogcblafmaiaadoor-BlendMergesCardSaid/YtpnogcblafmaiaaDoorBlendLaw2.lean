/-
  Plain law of layer 17, second part: where a region's end stands, what is taken, how much there is. No program in sight.
-/
import Derived.Test.YtpnogcblafmaiaaDoorBlendLaw
namespace Go.Proofs.YtpnogcblafmaiaaDoor
namespace BlendLaw
open LineLaw (Hk Ok diff)

/-- behind a region: where both sides stand -/
theorem grow_at {x l0 l1 : Ls} {H0 H1 : List Hk} (hi : Nat) (h0 h1 : List Hk) : ∀ {i0 j0 i1 j1 : Nat}, At x l0 H0 h0 i0 j0 → At x l1 H1 h1 i1 j1 → i0 ≤ hi → i1 ≤ hi → hi ≤ x.length →
    ∃ a0 b0 a1 b1, At x l0 H0 (grow hi h0 h1).2.1 a0 b0 ∧ At x l1 H1 (grow hi h0 h1).2.2 a1 b1 ∧ a0 ≤ (grow hi h0 h1).1 ∧ a1 ≤ (grow hi h0 h1).1 ∧ (grow hi h0 h1).1 ≤ x.length ∧ hi ≤ (grow hi h0 h1).1 := by
  fun_induction grow hi h0 h1 with
  | case1 hi => intro i0 j0 i1 j1 h0 h1 a b c; exact ⟨_, _, _, _, h0, h1, a, b, c, Nat.le_refl _⟩
  | case2 hi a t h ih =>
    intro i0 j0 i1 j1 h0 h1 p q r
    have hu := h0.hunk
    obtain ⟨a0, b0, a1, b1, k1, k2, k3, k4, k5, k6⟩ := ih h0.step h1 (by omega) (by omega) (by omega)
    exact ⟨a0, b0, a1, b1, k1, k2, k3, k4, k5, by omega⟩
  | case3 hi a t h => intro i0 j0 i1 j1 h0 h1 a b c; exact ⟨_, _, _, _, h0, h1, a, b, c, Nat.le_refl _⟩
  | case4 hi b s h ih =>
    intro i0 j0 i1 j1 h0 h1 p q r
    have hu := h1.hunk
    obtain ⟨a0, b0, a1, b1, k1, k2, k3, k4, k5, k6⟩ := ih h0 h1.step (by omega) (by omega) (by omega)
    exact ⟨a0, b0, a1, b1, k1, k2, k3, k4, k5, by omega⟩
  | case5 hi b s h => intro i0 j0 i1 j1 h0 h1 a b c; exact ⟨_, _, _, _, h0, h1, a, b, c, Nat.le_refl _⟩
  | case6 hi a t b s h ih =>
    intro i0 j0 i1 j1 h0 h1 p q r
    have hu := h0.hunk
    obtain ⟨a0, b0, a1, b1, k1, k2, k3, k4, k5, k6⟩ := ih h0.step h1 (by omega) (by omega) (by omega)
    exact ⟨a0, b0, a1, b1, k1, k2, k3, k4, k5, by omega⟩
  | case7 hi a t b s h h' ih =>
    intro i0 j0 i1 j1 h0 h1 p q r
    have hu := h1.hunk
    obtain ⟨a0, b0, a1, b1, k1, k2, k3, k4, k5, k6⟩ := ih h0 h1.step (by omega) (by omega) (by omega)
    exact ⟨a0, b0, a1, b1, k1, k2, k3, k4, k5, by omega⟩
  | case8 hi a t b s h h' => intro i0 j0 i1 j1 h0 h1 a b c; exact ⟨_, _, _, _, h0, h1, a, b, c, Nat.le_refl _⟩

/-- the first hunk lies in base -/
theorem first_hunk {x l0 l1 : Ls} {H0 H1 r0 r1 : List Hk} {i0 j0 i1 j1 : Nat} {h : Hk} (hf : firstHk r0 r1 = some h) (A0 : At x l0 H0 r0 i0 j0) (A1 : At x l1 H1 r1 i1 j1) : h.a0 ≤ h.a1 ∧ h.a1 ≤ x.length := by
  match r0, r1, hf with
  | a :: t, [], hf => obtain rfl : a = h := by simpa [firstHk] using hf
                      exact ⟨A0.hunk.2.2.1, A0.hunk.2.2.2.2.1⟩
  | [], b :: s, hf => obtain rfl : b = h := by simpa [firstHk] using hf
                      exact ⟨A1.hunk.2.2.1, A1.hunk.2.2.2.2.1⟩
  | a :: t, b :: s, hf =>
    simp only [firstHk] at hf
    split at hf
    · obtain rfl : b = h := by simpa using hf
      exact ⟨A1.hunk.2.2.1, A1.hunk.2.2.2.2.1⟩
    · obtain rfl : a = h := by simpa using hf
      exact ⟨A0.hunk.2.2.1, A0.hunk.2.2.2.2.1⟩
theorem first_beyond {r0 r1 : List Hk} {h : Hk} {k : Nat} (hf : firstHk r0 r1 = some h) (b0 : beyond k r0) (b1 : beyond k r1) : k < h.a0 := by
  match r0, r1, hf with
  | a :: t, [], hf => obtain rfl : a = h := by simpa [firstHk] using hf
                      exact b0
  | [], b :: s, hf => obtain rfl : b = h := by simpa [firstHk] using hf
                      exact b1
  | a :: t, b :: s, hf =>
    simp only [firstHk] at hf
    split at hf
    · obtain rfl : b = h := by simpa using hf
      exact b1
    · obtain rfl : a = h := by simpa using hf
      exact b0
theorem first_none {r0 r1 : List Hk} (hf : firstHk r0 r1 = none) : r0 = [] ∧ r1 = [] := by
  match r0, r1, hf with
  | [], [], _ => exact ⟨rfl, rfl⟩
  | a :: t, b :: s, hf => simp only [firstHk] at hf; split at hf <;> cases hf

theorem closed_len (l : Ls) : (closed l).length = l.length := by
  unfold closed
  split
  · rename_i h; have := List.getLast?_eq_none_iff.1 h; subst this; rfl
  · rename_i s h
    split
    · rfl
    · obtain ⟨p, rfl⟩ := List.getLast?_eq_some_iff.1 h
      simp
theorem closed_mem {l : Ls} {s : Bs} {M : Nat} (h : ∀ t ∈ l, t.length ≤ M) (hs : s ∈ closed l) : s.length ≤ M + 1 := by
  unfold closed at hs
  split at hs
  · cases hs
  · rename_i t ht
    have htm := h t (List.mem_of_getLast? ht)
    split at hs
    · have := h s hs; omega
    · rcases List.mem_append.1 hs with hs | hs
      · have := h s (List.dropLast_subset _ hs); omega
      · simp at hs; subst hs; simp; omega
theorem taken_len (t0 t1 : Bool) (a b : Ls) : (taken t0 t1 a b).1.length ≤ a.length + b.length + 3 := by
  unfold taken
  split
  · simp; omega
  · split
    · simp; omega
    · simp [closed_len]; omega
theorem taken_mem {t0 t1 : Bool} {a b : Ls} {s : Bs} {M : Nat} (hM : 8 ≤ M) (ha : ∀ t ∈ a, t.length ≤ M) (hb : ∀ t ∈ b, t.length ≤ M) (hs : s ∈ (taken t0 t1 a b).1) : s.length ≤ M + 1 := by
  unfold taken at hs
  split at hs
  · have := ha s hs; omega
  · split at hs
    · have := hb s hs; omega
    · simp only [List.mem_cons, List.mem_append, List.not_mem_nil, or_false] at hs
      rcases hs with rfl | hs | rfl | hs | rfl
      · simp [sBegin]; omega
      · exact closed_mem ha hs
      · simp [sMiddle]; omega
      · exact closed_mem hb hs
      · simp [sEnd]; omega
theorem part_mem {l : Ls} {p q : Nat} {s : Bs} (h : s ∈ partOf l p q) : s ∈ l := List.mem_of_mem_drop (List.mem_of_mem_take h)
theorem part_len (l : Ls) (p q : Nat) : (partOf l p q).length ≤ l.length := by unfold partOf; simp; omega
theorem flat_len {l : Ls} {M : Nat} (h : ∀ s ∈ l, s.length ≤ M) : l.flatten.length ≤ l.length * M := by
  induction l with
  | nil => simp
  | cons a t ih =>
    have h1 := h a (by simp)
    have h2 := ih (fun s hs => h s (by simp [hs]))
    simp only [List.flatten_cons, List.length_append, List.length_cons, Nat.add_mul]
    omega
theorem line_len {b s : Bs} (h : s ∈ LinesLaw.lns b) : s.length ≤ b.length := by
  have h1 := LinesLaw.lns_flat b
  have h2 : s.length ≤ (LinesLaw.lns b).flatten.length := (List.sublist_flatten_of_mem h).length_le
  rw [h1] at h2
  exact h2
theorem ok_few' {x l : Ls} : ∀ {r : List Hk} {i j : Nat} {f : Bool}, Ok x l i j f r → r.length + i + j ≤ x.length + l.length
  | [], _, _, _, h => by obtain ⟨h1, h2, _⟩ := h; simp; omega
  | a :: t, i, j, f, h => by
    obtain ⟨h1, h2, h3, h4, h5, h6, h7, _, _, _, h8⟩ := h
    have := ok_few' h8
    simp; omega
theorem diff_few (x l : Ls) : (diff x l).length ≤ x.length + l.length := by have := ok_few' (LineLaw.diff_ok x l); omega
/-- one round of the merge -/
theorem go_some {x l0 l1 : Ls} {H0 H1 : List Hk} {n at_ : Nat} {h0 h1 : List Hk} {h : Hk} (hf : firstHk h0 h1 = some h) :
    go x l0 l1 H0 H1 (n + 1) at_ h0 h1 =
      ((x.drop at_).take (h.a0 - at_) ++ ((taken (decide ((grow h.a1 h0 h1).2.1.length < h0.length)) (decide ((grow h.a1 h0 h1).2.2.length < h1.length)) (partOf l0 (pos H0 h0 h.a0) (pos H0 (grow h.a1 h0 h1).2.1 (grow h.a1 h0 h1).1)) (partOf l1 (pos H1 h1 h.a0) (pos H1 (grow h.a1 h0 h1).2.2 (grow h.a1 h0 h1).1))).1 ++
        (go x l0 l1 H0 H1 n (grow h.a1 h0 h1).1 (grow h.a1 h0 h1).2.1 (grow h.a1 h0 h1).2.2).1),
       (taken (decide ((grow h.a1 h0 h1).2.1.length < h0.length)) (decide ((grow h.a1 h0 h1).2.2.length < h1.length)) (partOf l0 (pos H0 h0 h.a0) (pos H0 (grow h.a1 h0 h1).2.1 (grow h.a1 h0 h1).1)) (partOf l1 (pos H1 h1 h.a0) (pos H1 (grow h.a1 h0 h1).2.2 (grow h.a1 h0 h1).1))).2 ||
        (go x l0 l1 H0 H1 n (grow h.a1 h0 h1).1 (grow h.a1 h0 h1).2.1 (grow h.a1 h0 h1).2.2).2) := by
  conv => lhs; unfold go
  rw [hf]
theorem go_none {x l0 l1 : Ls} {H0 H1 : List Hk} {n at_ : Nat} : go x l0 l1 H0 H1 n at_ [] [] = (x.drop at_, false) := by
  cases n <;> simp [go, firstHk]
end BlendLaw
end Go.Proofs.YtpnogcblafmaiaaDoor
