/-
  Plain law of layer 17, sixth part: the sweep's regions lie apart, are made up of the hunks, and tell what is made. No program in sight.
-/
import Derived.Test.YtpnogcblafmaiaaDoorBlendLaw5
namespace Go.Proofs.YtpnogcblafmaiaaDoor
namespace BlendLaw
open LineLaw (Hk Ok diff)

/-- hunks that rise -/
def Asc (r : List Hk) : Prop := r.Pairwise (fun a b => a.a1 < b.a0) ∧ ∀ a ∈ r, a.a0 ≤ a.a1
theorem ok_lower {x l : Ls} : ∀ {r : List Hk} {i j : Nat}, Ok x l i j false r → ∀ a ∈ r, i < a.a0
  | b :: t, i, j, h, a, ha => by
    obtain ⟨h1, h2, h3, h4, h5, h6, h7, h8, h9, _, h10⟩ := h
    have := h9 rfl
    rcases List.mem_cons.1 ha with rfl | ha
    · exact this
    · have := ok_lower h10 a ha; omega
theorem ok_asc {x l : Ls} : ∀ {r : List Hk} {i j : Nat} {f : Bool}, Ok x l i j f r → Asc r
  | [], _, _, _, _ => ⟨List.Pairwise.nil, fun a ha => by cases ha⟩
  | b :: t, i, j, f, h => by
    obtain ⟨h1, h2, h3, h4, h5, h6, h7, h8, _, _, h9⟩ := h
    have ih := ok_asc h9
    refine ⟨List.pairwise_cons.2 ⟨fun a ha => ok_lower h9 a ha, ih.1⟩, fun a ha => ?_⟩
    rcases List.mem_cons.1 ha with rfl | ha
    · exact h3
    · exact ih.2 a ha
theorem At.asc {x l : Ls} {hs r : List Hk} {i j : Nat} (H : At x l hs r i j) : Asc r := by
  obtain ⟨f, h⟩ := H.ok
  exact ok_asc h
theorem Asc.tail {a : Hk} {t : List Hk} (h : Asc (a :: t)) : Asc t := ⟨(List.pairwise_cons.1 h.1).2, fun b hb => h.2 b (by simp [hb])⟩
theorem Asc.beyond_all {r : List Hk} {k : Nat} (h : Asc r) (hb : beyond k r) : ∀ a ∈ r, k < a.a0 := by
  cases r with
  | nil => intro a ha; cases ha
  | cons b t =>
    intro a ha
    have h1 : k < b.a0 := hb
    rcases List.mem_cons.1 ha with rfl | ha
    · exact h1
    · have h2 := (List.pairwise_cons.1 h.1).1 a ha
      have h3 := h.2 b (by simp)
      omega
theorem Asc.right {q r : List Hk} (h : Asc (q ++ r)) : Asc r := ⟨(List.pairwise_append.1 h.1).2.1, fun a ha => h.2 a (by simp [ha])⟩

/-- what a region takes -/
theorem grow_split (hi : Nat) (h0 h1 : List Hk) : ∃ q0 q1, h0 = q0 ++ (grow hi h0 h1).2.1 ∧ h1 = q1 ++ (grow hi h0 h1).2.2 ∧ (∀ d, d ∈ q0 ∨ d ∈ q1 → d.a1 ≤ (grow hi h0 h1).1) ∧ hi ≤ (grow hi h0 h1).1 ∧
    ∀ p, hi ≤ p → p < (grow hi h0 h1).1 → ∃ d, (d ∈ q0 ∨ d ∈ q1) ∧ d.a0 ≤ p ∧ p + 1 ≤ d.a1 := by
  have none_ : ∀ (hi : Nat) (h0 h1 : List Hk), ∃ q0 q1, h0 = q0 ++ h0 ∧ h1 = q1 ++ h1 ∧ (∀ d : Hk, d ∈ q0 ∨ d ∈ q1 → d.a1 ≤ hi) ∧ hi ≤ hi ∧ ∀ p, hi ≤ p → p < hi → ∃ d : Hk, (d ∈ q0 ∨ d ∈ q1) ∧ d.a0 ≤ p ∧ p + 1 ≤ d.a1 :=
    fun hi h0 h1 => ⟨[], [], rfl, rfl, fun d h => by simp at h, Nat.le_refl _, fun p _ _ => by omega⟩
  have left_ : ∀ {hi g : Nat} {a : Hk} {t h1 r0 r1 : List Hk}, a.a0 ≤ hi → (∃ q0 q1, t = q0 ++ r0 ∧ h1 = q1 ++ r1 ∧ (∀ d, d ∈ q0 ∨ d ∈ q1 → d.a1 ≤ g) ∧ max hi a.a1 ≤ g ∧ ∀ p, max hi a.a1 ≤ p → p < g → ∃ d, (d ∈ q0 ∨ d ∈ q1) ∧ d.a0 ≤ p ∧ p + 1 ≤ d.a1) →
      ∃ q0 q1, a :: t = q0 ++ r0 ∧ h1 = q1 ++ r1 ∧ (∀ d, d ∈ q0 ∨ d ∈ q1 → d.a1 ≤ g) ∧ hi ≤ g ∧ ∀ p, hi ≤ p → p < g → ∃ d, (d ∈ q0 ∨ d ∈ q1) ∧ d.a0 ≤ p ∧ p + 1 ≤ d.a1 := by
    rintro hi g a t h1 r0 r1 ha ⟨q0, q1, e0, e1, k1, k2, k3⟩
    refine ⟨a :: q0, q1, by rw [e0]; rfl, e1, fun d hd => ?_, by omega, fun p hp1 hp2 => ?_⟩
    · rcases hd with hd | hd
      · rcases List.mem_cons.1 hd with rfl | hd
        · omega
        · exact k1 d (Or.inl hd)
      · exact k1 d (Or.inr hd)
    · by_cases h : max hi a.a1 ≤ p
      · obtain ⟨d, hd, h1, h2⟩ := k3 p h hp2
        exact ⟨d, by rcases hd with hd | hd; exact Or.inl (by simp [hd]); exact Or.inr hd, h1, h2⟩
      · exact ⟨a, Or.inl (by simp), by omega, by omega⟩
  have right_ : ∀ {hi g : Nat} {b : Hk} {s h0 r0 r1 : List Hk}, b.a0 ≤ hi → (∃ q0 q1, h0 = q0 ++ r0 ∧ s = q1 ++ r1 ∧ (∀ d, d ∈ q0 ∨ d ∈ q1 → d.a1 ≤ g) ∧ max hi b.a1 ≤ g ∧ ∀ p, max hi b.a1 ≤ p → p < g → ∃ d, (d ∈ q0 ∨ d ∈ q1) ∧ d.a0 ≤ p ∧ p + 1 ≤ d.a1) →
      ∃ q0 q1, h0 = q0 ++ r0 ∧ b :: s = q1 ++ r1 ∧ (∀ d, d ∈ q0 ∨ d ∈ q1 → d.a1 ≤ g) ∧ hi ≤ g ∧ ∀ p, hi ≤ p → p < g → ∃ d, (d ∈ q0 ∨ d ∈ q1) ∧ d.a0 ≤ p ∧ p + 1 ≤ d.a1 := by
    rintro hi g b s h0 r0 r1 hb ⟨q0, q1, e0, e1, k1, k2, k3⟩
    refine ⟨q0, b :: q1, e0, by rw [e1]; rfl, fun d hd => ?_, by omega, fun p hp1 hp2 => ?_⟩
    · rcases hd with hd | hd
      · exact k1 d (Or.inl hd)
      · rcases List.mem_cons.1 hd with rfl | hd
        · omega
        · exact k1 d (Or.inr hd)
    · by_cases h : max hi b.a1 ≤ p
      · obtain ⟨d, hd, h1, h2⟩ := k3 p h hp2
        exact ⟨d, by rcases hd with hd | hd; exact Or.inl hd; exact Or.inr (by simp [hd]), h1, h2⟩
      · exact ⟨b, Or.inr (by simp), by omega, by omega⟩
  fun_induction grow hi h0 h1 with
  | case1 hi => exact none_ hi [] []
  | case2 hi a t h ih => exact left_ h ih
  | case3 hi a t h => exact none_ hi _ _
  | case4 hi b s h ih => exact right_ h ih
  | case5 hi b s h => exact none_ hi _ _
  | case6 hi a t b s h ih => exact left_ h ih
  | case7 hi a t b s h h' ih => exact right_ h' ih
  | case8 hi a t b s h h' => exact none_ hi _ _

theorem first_mem {r0 r1 : List Hk} {h : Hk} (hf : firstHk r0 r1 = some h) : r0.head? = some h ∨ r1.head? = some h := by
  match r0, r1, hf with
  | a :: t, [], hf => obtain rfl : a = h := by simpa [firstHk] using hf
                      exact Or.inl rfl
  | [], b :: s, hf => obtain rfl : b = h := by simpa [firstHk] using hf
                      exact Or.inr rfl
  | a :: t, b :: s, hf =>
    simp only [firstHk] at hf
    split at hf
    · obtain rfl : b = h := by simpa using hf
      exact Or.inr rfl
    · obtain rfl : a = h := by simpa using hf
      exact Or.inl rfl
theorem head_taken {q r : List Hk} {h : Hk} {k : Nat} (hh : (q ++ r).head? = some h) (hb : beyond k r) (hk : h.a0 ≤ k) : h ∈ q := by
  cases q with
  | nil =>
    cases r with
    | nil => cases hh
    | cons a t =>
      obtain rfl : a = h := by simpa using hh
      have h1 : k < a.a0 := hb
      omega
  | cons a t =>
    obtain rfl : a = h := by simpa using hh
    simp
theorem Asc.first {r0 r1 : List Hk} {h : Hk} (a0 : Asc r0) (a1 : Asc r1) (hf : firstHk r0 r1 = some h) : h.a0 ≤ h.a1 ∧ (∀ a ∈ r0, h.a0 ≤ a.a0) ∧ (∀ a ∈ r1, h.a0 ≤ a.a0) := by
  have hl := first_le hf
  have up : ∀ {r : List Hk}, Asc r → (∀ a, r.head? = some a → h.a0 ≤ a.a0) → ∀ a ∈ r, h.a0 ≤ a.a0 := by
    intro r hr hh a ha
    cases r with
    | nil => cases ha
    | cons b t =>
      have h1 := hh b rfl
      rcases List.mem_cons.1 ha with rfl | ha
      · exact h1
      · have h2 := (List.pairwise_cons.1 hr.1).1 a ha
        have h3 := hr.2 b (by simp)
        omega
  refine ⟨?_, up a0 hl.1, up a1 hl.2⟩
  rcases first_mem hf with h1 | h1
  · exact a0.2 h (List.mem_of_mem_head? h1)
  · exact a1.2 h (List.mem_of_mem_head? h1)

theorem mem_hunkRgs {H0 H1 : List Hk} {e : Rg} : e ∈ hunkRgs H0 H1 ↔ (∃ d ∈ H0, e = ⟨d.a0, d.a1, true, false⟩) ∨ ∃ d ∈ H1, e = ⟨d.a0, d.a1, false, true⟩ := by
  unfold hunkRgs
  simp only [List.mem_append, List.mem_map]
  constructor
  · rintro (⟨d, hd, h⟩ | ⟨d, hd, h⟩)
    · exact Or.inl ⟨d, hd, h.symm⟩
    · exact Or.inr ⟨d, hd, h.symm⟩
  · rintro (⟨d, hd, h⟩ | ⟨d, hd, h⟩)
    · exact Or.inl ⟨d, hd, h.symm⟩
    · exact Or.inr ⟨d, hd, h.symm⟩

theorem sw_some {n : Nat} {h0 h1 : List Hk} {h : Hk} (hf : firstHk h0 h1 = some h) : sw (n + 1) h0 h1 = ⟨h.a0, (grow h.a1 h0 h1).1, decide ((grow h.a1 h0 h1).2.1.length < h0.length), decide ((grow h.a1 h0 h1).2.2.length < h1.length)⟩ :: sw n (grow h.a1 h0 h1).2.1 (grow h.a1 h0 h1).2.2 := by
  conv => lhs; unfold sw
  rw [hf]
theorem sw_none {n : Nat} : sw n [] [] = [] := by cases n <;> simp [sw, firstHk]

/-- the sweep's regions lie apart, and are made up of the hunks -/
theorem sw_parts : ∀ (n : Nat) (h0 h1 : List Hk), Asc h0 → Asc h1 → h0.length + h1.length ≤ n →
    (Apart (sw n h0 h1) ∧ ∀ k, beyond k h0 → beyond k h1 → ∀ c ∈ sw n h0 h1, k < c.lo) ∧ Parts (sw n h0 h1) (hunkRgs h0 h1)
  | n, h0, h1, a0, a1, hn => by
    cases hf : firstHk h0 h1 with
    | none =>
      obtain ⟨rfl, rfl⟩ := first_none hf
      rw [sw_none]
      exact ⟨⟨⟨List.Pairwise.nil, fun c hc => by cases hc⟩, fun _ _ _ c hc => by cases hc⟩, ⟨(fun e he => by cases he), (fun c hc => by cases hc), (fun c hc => by cases hc), (fun c hc => by cases hc), (fun c hc => by cases hc)⟩⟩
    | some h =>
      obtain ⟨hle, u0, u1⟩ := a0.first a1 hf
      have hless := grow_less hf hle
      obtain ⟨n, rfl⟩ : ∃ m, n = m + 1 := ⟨n - 1, by omega⟩
      obtain ⟨q0, q1, e0, e1, k1, k2, k3⟩ := grow_split h.a1 h0 h1
      have hby := grow_beyond h.a1 h0 h1
      rw [sw_some hf]
      generalize grow h.a1 h0 h1 = G at *
      obtain ⟨g, r0, r1⟩ := G
      simp only at e0 e1 k1 k2 k3 hby hless ⊢
      have b0 : Asc r0 := (e0 ▸ a0).right
      have b1 : Asc r1 := (e1 ▸ a1).right
      obtain ⟨⟨s1, s2⟩, s3⟩ := sw_parts n r0 r1 b0 b1 (by omega)
      have s2' := s2 g hby.1 hby.2
      have hq : h ∈ q0 ∨ h ∈ q1 := by
        rcases first_mem hf with hh | hh
        · exact Or.inl (head_taken (e0 ▸ hh) hby.1 (by omega))
        · exact Or.inr (head_taken (e1 ▸ hh) hby.2 (by omega))
      have low : ∀ d, d ∈ q0 ∨ d ∈ q1 → h.a0 ≤ d.a0 ∧ d.a0 ≤ d.a1 := by
        rintro d (hd | hd)
        · exact ⟨u0 d (by rw [e0]; simp [hd]), a0.2 d (by rw [e0]; simp [hd])⟩
        · exact ⟨u1 d (by rw [e1]; simp [hd]), a1.2 d (by rw [e1]; simp [hd])⟩
      have n0 : r0.length < h0.length ↔ q0 ≠ [] := by rw [e0, List.length_append]; cases q0 <;> simp
      have n1 : r1.length < h1.length ↔ q1 ≠ [] := by rw [e1, List.length_append]; cases q1 <;> simp
      have inq : ∀ d, d ∈ q0 ∨ d ∈ q1 → ∃ e ∈ hunkRgs h0 h1, e.lo = d.a0 ∧ e.hi = d.a1 := by
        rintro d (hd | hd)
        · exact ⟨_, mem_hunkRgs.2 (Or.inl ⟨d, by rw [e0]; simp [hd], rfl⟩), rfl, rfl⟩
        · exact ⟨_, mem_hunkRgs.2 (Or.inr ⟨d, by rw [e1]; simp [hd], rfl⟩), rfl, rfl⟩
      have more : ∀ e ∈ hunkRgs r0 r1, e ∈ hunkRgs h0 h1 := by
        intro e he
        rw [mem_hunkRgs] at he ⊢
        rcases he with ⟨d, hd, h⟩ | ⟨d, hd, h⟩
        · exact Or.inl ⟨d, by rw [e0]; simp [hd], h⟩
        · exact Or.inr ⟨d, by rw [e1]; simp [hd], h⟩
      refine ⟨⟨⟨List.pairwise_cons.2 ⟨fun c hc => s2' c hc, s1.1⟩, fun c hc => ?_⟩, fun k hk0 hk1 c hc => ?_⟩, ⟨fun e he => ?_, fun c hc p hp1 hp2 => ?_, fun c hc p hp1 hp2 => ?_, fun c hc ht => ?_, fun c hc ht => ?_⟩⟩
      · rcases List.mem_cons.1 hc with rfl | hc
        · simp only; omega
        · exact s1.2 c hc
      · have hk := first_beyond hf hk0 hk1
        rcases List.mem_cons.1 hc with rfl | hc
        · exact hk
        · have := s2' c hc; omega
      · rw [mem_hunkRgs] at he
        have inr : e ∈ hunkRgs r0 r1 → e.lo ≤ e.hi ∧ ∃ c ∈ (⟨h.a0, g, decide (r0.length < h0.length), decide (r1.length < h1.length)⟩ : Rg) :: sw n r0 r1, c.lo ≤ e.lo ∧ e.hi ≤ c.hi ∧ (e.t0 = true → c.t0 = true) ∧ (e.t1 = true → c.t1 = true) := by
          intro he
          obtain ⟨h5, c, hc, h6⟩ := s3.sound e he
          exact ⟨h5, c, by simp [hc], h6⟩
        rcases he with ⟨d, hd, rfl⟩ | ⟨d, hd, rfl⟩
        · rw [e0] at hd
          rcases List.mem_append.1 hd with hd | hd
          · have := low d (Or.inl hd)
            exact ⟨this.2, _, List.mem_cons_self, this.1, k1 d (Or.inl hd), (fun _ => decide_eq_true (n0.2 (List.ne_nil_of_mem hd))), (fun h => by cases h)⟩
          · exact inr (mem_hunkRgs.2 (Or.inl ⟨d, hd, rfl⟩))
        · rw [e1] at hd
          rcases List.mem_append.1 hd with hd | hd
          · have := low d (Or.inr hd)
            exact ⟨this.2, _, List.mem_cons_self, this.1, k1 d (Or.inr hd), (fun h => by cases h), (fun _ => decide_eq_true (n1.2 (List.ne_nil_of_mem hd)))⟩
          · exact inr (mem_hunkRgs.2 (Or.inr ⟨d, hd, rfl⟩))
      · rcases List.mem_cons.1 hc with rfl | hc
        · simp only at hp1 hp2
          by_cases hp : p ≤ h.a1
          · obtain ⟨e, he, h5, h6⟩ := inq h hq
            exact ⟨e, he, by omega, by omega⟩
          · obtain ⟨d, hd, h5, h6⟩ := k3 (p - 1) (by omega) (by omega)
            obtain ⟨e, he, h7, h8⟩ := inq d hd
            exact ⟨e, he, by omega, by omega⟩
        · obtain ⟨e, he, h5⟩ := s3.cover c hc p hp1 hp2
          exact ⟨e, more e he, h5⟩
      · rcases List.mem_cons.1 hc with rfl | hc
        · simp only at hp1 hp2
          by_cases hp : p < h.a1
          · obtain ⟨e, he, h5, h6⟩ := inq h hq
            exact ⟨e, he, by omega, by omega⟩
          · obtain ⟨d, hd, h5, h6⟩ := k3 p (by omega) (by omega)
            obtain ⟨e, he, h7, h8⟩ := inq d hd
            exact ⟨e, he, by omega, by omega⟩
        · obtain ⟨e, he, h5⟩ := s3.gaps c hc p hp1 hp2
          exact ⟨e, more e he, h5⟩
      · rcases List.mem_cons.1 hc with rfl | hc
        · simp only [decide_eq_true_eq] at ht
          obtain ⟨d, hd⟩ := List.exists_mem_of_ne_nil _ (n0.1 ht)
          have h5 := low d (Or.inl hd)
          exact ⟨_, mem_hunkRgs.2 (Or.inl ⟨d, by rw [e0]; simp [hd], rfl⟩), h5.1, k1 d (Or.inl hd), rfl⟩
        · obtain ⟨e, he, h5⟩ := s3.by0 c hc ht
          exact ⟨e, more e he, h5⟩
      · rcases List.mem_cons.1 hc with rfl | hc
        · simp only [decide_eq_true_eq] at ht
          obtain ⟨d, hd⟩ := List.exists_mem_of_ne_nil _ (n1.1 ht)
          have h5 := low d (Or.inr hd)
          exact ⟨_, mem_hunkRgs.2 (Or.inr ⟨d, by rw [e1]; simp [hd], rfl⟩), h5.1, k1 d (Or.inr hd), rfl⟩
        · obtain ⟨e, he, h5⟩ := s3.by1 c hc ht
          exact ⟨e, more e he, h5⟩

/-! ## what is made, told by regions -/
/-- how many lines more those hunks make -/
def dlIf (p : Hk → Bool) : List Hk → Int
  | [] => 0
  | h :: t => (if p h = true then (h.b1 : Int) - h.b0 - ((h.a1 : Int) - h.a0) else 0) + dlIf p t
theorem dlIf_append (p : Hk → Bool) (A B : List Hk) : dlIf p (A ++ B) = dlIf p A + dlIf p B := by
  induction A with
  | nil => simp [dlIf]
  | cons a t ih => simp only [List.cons_append, dlIf, ih]; omega
theorem dlIf_all {p : Hk → Bool} : ∀ {A : List Hk}, (∀ a ∈ A, p a = true) → dlIf p A = dl A
  | [], _ => rfl
  | a :: t, h => by
    have ih := dlIf_all (A := t) (fun b hb => h b (List.mem_cons_of_mem _ hb))
    simp only [dlIf, dl, h a (by simp), if_true, ih]
theorem dlIf_none {p : Hk → Bool} : ∀ {A : List Hk}, (∀ a ∈ A, p a = false) → dlIf p A = 0
  | [], _ => rfl
  | a :: t, h => by
    have ih := dlIf_none (A := t) (fun b hb => h b (List.mem_cons_of_mem _ hb))
    simp [dlIf, h a (by simp), ih]
theorem dl_append (A B : List Hk) : dl (A ++ B) = dl A + dl B := by
  induction A with
  | nil => simp [dl]
  | cons a t ih => simp only [List.cons_append, dl, ih]; omega
def fromI (H : List Hk) (lo : Nat) : Int := lo + dlIf (fun h => decide (h.a1 < lo)) H
def toI (H : List Hk) (hi : Nat) : Int := hi + dlIf (fun h => decide (h.a1 ≤ hi)) H
def hasOf (l : Ls) (H : List Hk) (r : Rg) : Ls := partOf l (fromI H r.lo).toNat (toI H r.hi).toNat
def takenOf (l0 l1 : Ls) (H0 H1 : List Hk) (r : Rg) : Ls × Bool := taken r.t0 r.t1 (hasOf l0 H0 r) (hasOf l1 H1 r)
/-- what regions make -/
def emit (x l0 l1 : Ls) (H0 H1 : List Hk) : Nat → List Rg → Ls × Bool
  | at_, [] => (x.drop at_, false)
  | at_, r :: R => ((x.drop at_).take (r.lo - at_) ++ ((takenOf l0 l1 H0 H1 r).1 ++ (emit x l0 l1 H0 H1 r.hi R).1), (takenOf l0 l1 H0 H1 r).2 || (emit x l0 l1 H0 H1 r.hi R).2)
/-- where a side's part lies -/
def FitS (l : Ls) (H : List Hk) (r : Rg) : Prop := ∃ p q : Nat, fromI H r.lo = p ∧ toI H r.hi = q ∧ p ≤ q ∧ q ≤ l.length

theorem side_fit {x l : Ls} {H D r : List Hk} {i j i' j' lo hi : Nat} (A : At x l H r i j) (eH : H = D ++ r) (hD : ∀ d ∈ D, d.a1 < lo) (hr : ∀ a ∈ r, lo ≤ a.a0) (hi1 : i ≤ lo) {q r' : List Hk} (er : r = q ++ r') (hq : ∀ d ∈ q, d.a1 ≤ hi) (hlh : lo ≤ hi) (A' : At x l H r' i' j') (hi2 : i' ≤ hi) (hr' : ∀ a ∈ r', hi < a.a0) :
    fromI H lo = ((j + (lo - i) : Nat) : Int) ∧ toI H hi = ((j' + (hi - i') : Nat) : Int) ∧ pos H r lo = j + (lo - i) ∧ pos H r' hi = j' + (hi - i') := by
  have asc := A.asc
  have asc' := A'.asc
  refine ⟨?_, ?_, A.pos_eq hi1, A'.pos_eq hi2⟩
  · have h1 := A.off
    unfold fromI
    rw [eH, dlIf_append, dlIf_all (fun a ha => decide_eq_true (hD a ha)), dlIf_none (fun a ha => decide_eq_false (by have := hr a ha; have := asc.2 a ha; omega))]
    rw [eH, dl_append] at h1
    omega
  · have h1 := A'.off
    unfold toI
    have e2 : H = (D ++ q) ++ r' := by rw [eH, er, List.append_assoc]
    rw [e2, dlIf_append, dlIf_all (fun a ha => decide_eq_true (by rcases List.mem_append.1 ha with ha | ha; have := hD a ha; omega; exact hq a ha)), dlIf_none (fun a ha => decide_eq_false (by have := hr' a ha; have := asc'.2 a ha; omega))]
    rw [e2, dl_append] at h1
    omega

theorem go_emit {x l0 l1 : Ls} {H0 H1 : List Hk} : ∀ (n at_ : Nat) (D0 D1 h0 h1 : List Hk) (i0 j0 i1 j1 : Nat), At x l0 H0 h0 i0 j0 → At x l1 H1 h1 i1 j1 → i0 ≤ at_ → i1 ≤ at_ → H0 = D0 ++ h0 → H1 = D1 ++ h1 → (∀ d, d ∈ D0 ∨ d ∈ D1 → ∀ a, a ∈ h0 ∨ a ∈ h1 → d.a1 < a.a0) →
    (∀ h, firstHk h0 h1 = some h → at_ ≤ h.a0) → h0.length + h1.length ≤ n →
    go x l0 l1 H0 H1 n at_ h0 h1 = emit x l0 l1 H0 H1 at_ (sw n h0 h1) ∧ ∀ r ∈ sw n h0 h1, r.hi ≤ x.length ∧ FitS l0 H0 r ∧ FitS l1 H1 r
  | n, at_, D0, D1, h0, h1, i0, j0, i1, j1, A0, A1, e0, e1, d0, d1, hD, hah, hn => by
    cases hf : firstHk h0 h1 with
    | none =>
      obtain ⟨rfl, rfl⟩ := first_none hf
      rw [go_none, sw_none]
      exact ⟨rfl, fun r hr => by cases hr⟩
    | some h =>
      have hle := hah h hf
      have hh := first_hunk hf A0 A1
      obtain ⟨_, u0, u1⟩ := A0.asc.first A1.asc hf
      have hless := grow_less hf hh.1
      obtain ⟨n, rfl⟩ : ∃ m, n = m + 1 := ⟨n - 1, by omega⟩
      obtain ⟨q0, q1, f0, f1, k1, k2, _⟩ := grow_split h.a1 h0 h1
      have hby := grow_beyond h.a1 h0 h1
      obtain ⟨a0, b0, a1, b1, A0', A1', m1, m2, m3, _⟩ := grow_at h.a1 h0 h1 A0 A1 (by omega) (by omega) hh.2
      have p0 := grow_pos (P := j0 + (h.a0 - i0)) h.a1 h0 h1 A0 u0 hh.1 (Or.inr ⟨by omega, rfl⟩) (by omega)
      have p1 := grow_pos (P := j1 + (h.a0 - i1)) h.a1 h1 h0 A1 u1 hh.1 (Or.inr ⟨by omega, rfl⟩) (by omega)
      rw [grow_swap h.a1 h0 h1] at p1
      have hfm : h ∈ h0 ∨ h ∈ h1 := by
        rcases first_mem hf with hh | hh
        · exact Or.inl (List.mem_of_mem_head? hh)
        · exact Or.inr (List.mem_of_mem_head? hh)
      rw [sw_some hf, go_some hf]
      generalize grow h.a1 h0 h1 = G at *
      obtain ⟨g, r0, r1⟩ := G
      simp only at f0 f1 k1 k2 hby hless A0' A1' m1 m2 m3 p0 p1 ⊢
      have s0 := side_fit A0 d0 (fun d hd => hD d (Or.inl hd) h hfm) u0 (by omega) f0 (fun d hd => k1 d (Or.inl hd)) (by omega) A0' m1 (A0'.asc.beyond_all hby.1)
      have s1 := side_fit A1 d1 (fun d hd => hD d (Or.inr hd) h hfm) u1 (by omega) f1 (fun d hd => k1 d (Or.inr hd)) (by omega) A1' m2 (A1'.asc.beyond_all hby.2)
      have ih := go_emit (x := x) (l0 := l0) (l1 := l1) n g (D0 ++ q0) (D1 ++ q1) r0 r1 a0 b0 a1 b1 A0' A1' m1 m2 (by rw [d0, f0, List.append_assoc]) (by rw [d1, f1, List.append_assoc])
        (fun d hd a ha => by
          have hg : g < a.a0 := by
            rcases ha with ha | ha
            · exact A0'.asc.beyond_all hby.1 a ha
            · exact A1'.asc.beyond_all hby.2 a ha
          have hin : a ∈ h0 ∨ a ∈ h1 := by
            rcases ha with ha | ha
            · exact Or.inl (by rw [f0]; simp [ha])
            · exact Or.inr (by rw [f1]; simp [ha])
          rcases hd with hd | hd
          · rcases List.mem_append.1 hd with hd | hd
            · exact hD d (Or.inl hd) a hin
            · have := k1 d (Or.inl hd); omega
          · rcases List.mem_append.1 hd with hd | hd
            · exact hD d (Or.inr hd) a hin
            · have := k1 d (Or.inr hd); omega)
        (fun q hq => Nat.le_of_lt (first_beyond hq hby.1 hby.2)) (by omega)
      refine ⟨?_, fun r hr => ?_⟩
      · simp only [emit, takenOf, hasOf, ih.1, s0.1, s0.2.1, s0.2.2.1, s0.2.2.2, s1.1, s1.2.1, s1.2.2.1, s1.2.2.2, Int.toNat_natCast]
      · rcases List.mem_cons.1 hr with rfl | hr
        · refine ⟨m3, ⟨_, _, s0.1, s0.2.1, ?_, A0'.room m1 m3 hby.1⟩, ⟨_, _, s1.1, s1.2.1, ?_, A1'.room m2 m3 hby.2⟩⟩
          · rw [← s0.2.2.2]; exact p0
          · rw [← s1.2.2.2]; exact p1
        · exact ih.2 r hr
/-- a merge, told by the sweep's regions -/
theorem mergeL_emit (x l0 l1 : Ls) : mergeL x l0 l1 = emit x l0 l1 (diff x l0) (diff x l1) 0 (sw ((diff x l0).length + (diff x l1).length) (diff x l0) (diff x l1)) ∧ ∀ r ∈ sw ((diff x l0).length + (diff x l1).length) (diff x l0) (diff x l1), r.hi ≤ x.length ∧ FitS l0 (diff x l0) r ∧ FitS l1 (diff x l1) r :=
  go_emit _ 0 [] [] _ _ 0 0 0 0 (At.start x l0) (At.start x l1) (Nat.le_refl _) (Nat.le_refl _) rfl rfl (fun d hd => by simp at hd) (fun _ _ => Nat.zero_le _) (Nat.le_refl _)
theorem diff_parts_sw (x l0 l1 : Ls) : Apart (sw ((diff x l0).length + (diff x l1).length) (diff x l0) (diff x l1)) ∧ Parts (sw ((diff x l0).length + (diff x l1).length) (diff x l0) (diff x l1)) (hunkRgs (diff x l0) (diff x l1)) := by
  have h := sw_parts ((diff x l0).length + (diff x l1).length) (diff x l0) (diff x l1) (At.start x l0).asc (At.start x l1).asc (Nat.le_refl _)
  exact ⟨h.1.1, h.2⟩
end BlendLaw
end Go.Proofs.YtpnogcblafmaiaaDoor
