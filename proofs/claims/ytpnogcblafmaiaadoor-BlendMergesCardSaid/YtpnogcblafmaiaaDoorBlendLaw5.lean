/-
  Plain law of layer 17, fifth part: the document's regions (hunks put together as long as two touch, then sorted) are those of the sweep. No program in sight.
-/
import Derived.Test.YtpnogcblafmaiaaDoorBlendLaw3
namespace Go.Proofs.YtpnogcblafmaiaaDoor
namespace BlendLaw
open LineLaw (Hk Ok diff)

/-- a part of base that turned; by whom -/
structure Rg where
  lo : Nat
  hi : Nat
  t0 : Bool
  t1 : Bool
def touch (a b : Rg) : Prop := b.lo ≤ a.hi ∧ a.lo ≤ b.hi
def joinRg (a b : Rg) : Rg := ⟨min a.lo b.lo, max a.hi b.hi, a.t0 || b.t0, a.t1 || b.t1⟩
/-- all hunks, each a region -/
def hunkRgs (H0 H1 : List Hk) : List Rg := H0.map (fun h => ⟨h.a0, h.a1, true, false⟩) ++ H1.map (fun h => ⟨h.a0, h.a1, false, true⟩)
/-- the sweep's regions -/
def sw : Nat → List Hk → List Hk → List Rg
  | 0, _, _ => []
  | n + 1, h0, h1 => match firstHk h0 h1 with
    | none => []
    | some h => ⟨h.a0, (grow h.a1 h0 h1).1, decide ((grow h.a1 h0 h1).2.1.length < h0.length), decide ((grow h.a1 h0 h1).2.2.length < h1.length)⟩ :: sw n (grow h.a1 h0 h1).2.1 (grow h.a1 h0 h1).2.2

/-! ## what holds while two that touch are put together -/
/-- C: regions that lie apart -/
def Apart (C : List Rg) : Prop := C.Pairwise (fun a b => a.hi < b.lo) ∧ ∀ c ∈ C, c.lo ≤ c.hi
/-- L: parts of the regions of C, which make them up -/
structure Parts (C L : List Rg) : Prop where
  sound : ∀ e ∈ L, e.lo ≤ e.hi ∧ ∃ c ∈ C, c.lo ≤ e.lo ∧ e.hi ≤ c.hi ∧ (e.t0 = true → c.t0 = true) ∧ (e.t1 = true → c.t1 = true)
  cover : ∀ c ∈ C, ∀ p, c.lo ≤ p → p ≤ c.hi → ∃ e ∈ L, e.lo ≤ p ∧ p ≤ e.hi
  gaps : ∀ c ∈ C, ∀ p, c.lo ≤ p → p < c.hi → ∃ e ∈ L, e.lo ≤ p ∧ p + 1 ≤ e.hi
  by0 : ∀ c ∈ C, c.t0 = true → ∃ e ∈ L, c.lo ≤ e.lo ∧ e.hi ≤ c.hi ∧ e.t0 = true
  by1 : ∀ c ∈ C, c.t1 = true → ∃ e ∈ L, c.lo ≤ e.lo ∧ e.hi ≤ c.hi ∧ e.t1 = true
theorem apart_one {C : List Rg} (h : Apart C) {a b : Rg} (ha : a ∈ C) (hb : b ∈ C) (ht : b.lo ≤ a.hi ∧ a.lo ≤ b.hi) : a = b := by
  obtain ⟨i, hi⟩ := List.getElem?_of_mem ha
  obtain ⟨k, hk⟩ := List.getElem?_of_mem hb
  obtain ⟨hi1, hi2⟩ := List.getElem?_eq_some_iff.1 hi
  obtain ⟨hk1, hk2⟩ := List.getElem?_eq_some_iff.1 hk
  have hp := List.pairwise_iff_getElem.1 h.1
  rcases Nat.lt_trichotomy i k with hlt | heq | hgt
  · have := hp i k hi1 hk1 hlt
    rw [hi2, hk2] at this; omega
  · subst heq
    rw [← hi2, ← hk2]
  · have := hp k i hk1 hi1 hgt
    rw [hi2, hk2] at this; omega
theorem Parts.step {C L L' : List Rg} (hC : Apart C) (h : Parts C L) {a b : Rg} (ha : a ∈ L) (hb : b ∈ L) (ht : touch a b) (hL : ∀ e, e ∈ L' → e ∈ L ∨ e = joinRg a b) (hL' : ∀ e ∈ L, e ∈ L' ∨ e = a ∨ e = b) (hj : joinRg a b ∈ L') : Parts C L' := by
  obtain ⟨ha1, ca, hca, ha2, ha3, ha4, ha5⟩ := h.sound a ha
  obtain ⟨hb1, cb, hcb, hb2, hb3, hb4, hb5⟩ := h.sound b hb
  obtain ⟨ht1, ht2⟩ := ht
  obtain rfl : ca = cb := apart_one hC hca hcb ⟨by omega, by omega⟩
  have snd : ∀ e ∈ L', e.lo ≤ e.hi ∧ ∃ c ∈ C, c.lo ≤ e.lo ∧ e.hi ≤ c.hi ∧ (e.t0 = true → c.t0 = true) ∧ (e.t1 = true → c.t1 = true) := by
    intro e he
    rcases hL e he with he | rfl
    · exact h.sound e he
    · refine ⟨by simp only [joinRg]; omega, ca, hca, by simp only [joinRg]; omega, by simp only [joinRg]; omega, ?_, ?_⟩
      · simp only [joinRg, Bool.or_eq_true]
        rintro (h | h)
        · exact ha4 h
        · exact hb4 h
      · simp only [joinRg, Bool.or_eq_true]
        rintro (h | h)
        · exact ha5 h
        · exact hb5 h
  -- what a part goes into
  have into : ∀ e ∈ L, ∃ e' ∈ L', e'.lo ≤ e.lo ∧ e.hi ≤ e'.hi ∧ (e.t0 = true → e'.t0 = true) ∧ (e.t1 = true → e'.t1 = true) := by
    intro e he
    rcases hL' e he with h1 | rfl | rfl
    · exact ⟨e, h1, Nat.le_refl _, Nat.le_refl _, fun h => h, fun h => h⟩
    · exact ⟨_, hj, by simp only [joinRg]; omega, by simp only [joinRg]; omega, fun h => by simp [joinRg, h], fun h => by simp [joinRg, h]⟩
    · exact ⟨_, hj, by simp only [joinRg]; omega, by simp only [joinRg]; omega, fun h => by simp [joinRg, h], fun h => by simp [joinRg, h]⟩
  -- it lies in the same region
  have inside : ∀ e ∈ L, ∀ c ∈ C, c.lo ≤ e.lo → e.hi ≤ c.hi → ∀ e' ∈ L', e'.lo ≤ e.lo → e.hi ≤ e'.hi → c.lo ≤ e'.lo ∧ e'.hi ≤ c.hi := by
    intro e he c hc h1 h2 e' he' h3 h4
    obtain ⟨_, c', hc', h5, h6, _⟩ := snd e' he'
    have := (h.sound e he).1
    obtain rfl : c = c' := apart_one hC hc hc' ⟨by omega, by omega⟩
    exact ⟨h5, h6⟩
  refine ⟨snd, fun c hc p h1 h2 => ?_, fun c hc p h1 h2 => ?_, fun c hc h1 => ?_, fun c hc h1 => ?_⟩
  · obtain ⟨e, he, h3, h4⟩ := h.cover c hc p h1 h2
    obtain ⟨e', he', h5, h6, _⟩ := into e he
    exact ⟨e', he', by omega, by omega⟩
  · obtain ⟨e, he, h3, h4⟩ := h.gaps c hc p h1 h2
    obtain ⟨e', he', h5, h6, _⟩ := into e he
    exact ⟨e', he', by omega, by omega⟩
  · obtain ⟨e, he, h3, h4, h5⟩ := h.by0 c hc h1
    obtain ⟨e', he', h6, h7, h8, _⟩ := into e he
    have := inside e he c hc h3 h4 e' he' h6 h7
    exact ⟨e', he', this.1, this.2, h8 h5⟩
  · obtain ⟨e, he, h3, h4, h5⟩ := h.by1 c hc h1
    obtain ⟨e', he', h6, h7, _, h8⟩ := into e he
    have := inside e he c hc h3 h4 e' he' h6 h7
    exact ⟨e', he', this.1, this.2, h8 h5⟩
/-- no two touch -/
def Loose (L : List Rg) : Prop := ∀ (i k : Nat) (a b : Rg), k < i → L[i]? = some a → L[k]? = some b → ¬ touch a b
theorem loose_one {L : List Rg} (h : Loose L) {a b : Rg} (ha : a ∈ L) (hb : b ∈ L) (ht : touch a b) : a = b := by
  obtain ⟨i, hi⟩ := List.getElem?_of_mem ha
  obtain ⟨k, hk⟩ := List.getElem?_of_mem hb
  rcases Nat.lt_trichotomy i k with hlt | heq | hgt
  · exact absurd ⟨ht.2, ht.1⟩ (h k i b a hlt hk hi)
  · subst heq; rw [hi] at hk; exact Option.some.inj hk
  · exact absurd ht (h i k a b hgt hi hk)
/-- where no two touch, they are the regions -/
theorem Parts.whole {C L : List Rg} (hC : Apart C) (h : Parts C L) (hl : Loose L) : ∀ e, e ∈ L ↔ e ∈ C := by
  have key : ∀ c ∈ C, c ∈ L := by
    intro c hc
    obtain ⟨e, he, h1, h2⟩ := h.cover c hc c.lo (Nat.le_refl _) (hC.2 c hc)
    obtain ⟨h3, c', hc', h4, h5, h6, h7⟩ := h.sound e he
    have hcc := hC.2 c hc
    obtain rfl : c = c' := apart_one hC hc hc' ⟨by omega, by omega⟩
    have hhi : e.hi = c.hi := by
      rcases Nat.lt_or_ge e.hi c.hi with hlt | hge
      · obtain ⟨e', he', h8, h9⟩ := h.gaps c hc e.hi (by omega) hlt
        have := loose_one hl he he' ⟨by omega, by omega⟩
        subst this
        omega
      · omega
    have hlo : e.lo = c.lo := by omega
    have one : ∀ e' ∈ L, c.lo ≤ e'.lo → e'.hi ≤ c.hi → e' = e := by
      intro e' he' k1 k2
      have k3 := (h.sound e' he').1
      exact loose_one hl he' he ⟨by omega, by omega⟩
    have h0 : e.t0 = c.t0 := by
      cases hct : c.t0 with
      | true => obtain ⟨e', he', k1, k2, k3⟩ := h.by0 c hc hct
                rw [one e' he' k1 k2] at k3; exact k3
      | false => cases het : e.t0 with
                 | true => have := h6 het; rw [hct] at this; cases this
                 | false => rfl
    have h1' : e.t1 = c.t1 := by
      cases hct : c.t1 with
      | true => obtain ⟨e', he', k1, k2, k3⟩ := h.by1 c hc hct
                rw [one e' he' k1 k2] at k3; exact k3
      | false => cases het : e.t1 with
                 | true => have := h7 het; rw [hct] at this; cases this
                 | false => rfl
    have : e = c := by
      cases e; cases c
      simp only at hlo hhi h0 h1'
      subst hlo hhi h0 h1'
      rfl
    exact this ▸ he
  intro e
  refine ⟨fun he => ?_, key e⟩
  obtain ⟨h3, c, hc, h4, h5, _⟩ := h.sound e he
  have hcl := key c hc
  have := loose_one hl he hcl ⟨by omega, by omega⟩
  rw [this]; exact hc

/-! ## sorting by where they begin -/
def insRg (x : Rg) (out : List Rg) : List Rg := out.takeWhile (fun r => decide (r.lo < x.lo)) ++ x :: out.dropWhile (fun r => decide (r.lo < x.lo))
def sortRg (out : List Rg) : List Rg → List Rg
  | [] => out
  | x :: t => sortRg (insRg x out) t
theorem ins_mem {x e : Rg} {out : List Rg} : e ∈ insRg x out ↔ e = x ∨ e ∈ out := by
  unfold insRg
  have h := List.takeWhile_append_dropWhile (p := fun r : Rg => decide (r.lo < x.lo)) (l := out)
  constructor
  · intro he
    rcases List.mem_append.1 he with he | he
    · exact Or.inr (h ▸ List.mem_append.2 (Or.inl he))
    · rcases List.mem_cons.1 he with rfl | he
      · exact Or.inl rfl
      · exact Or.inr (h ▸ List.mem_append.2 (Or.inr he))
  · rintro (rfl | he)
    · simp
    · rw [← h] at he
      rcases List.mem_append.1 he with he | he
      · exact List.mem_append.2 (Or.inl he)
      · exact List.mem_append.2 (Or.inr (List.mem_cons_of_mem _ he))
theorem sort_mem {e : Rg} : ∀ {L out : List Rg}, e ∈ sortRg out L ↔ e ∈ out ∨ e ∈ L
  | [], out => by simp [sortRg]
  | x :: t, out => by
    rw [sortRg, sort_mem, ins_mem]
    simp only [List.mem_cons]
    constructor
    · rintro ((h | h) | h)
      · exact Or.inr (Or.inl h)
      · exact Or.inl h
      · exact Or.inr (Or.inr h)
    · rintro (h | h | h)
      · exact Or.inl (Or.inr h)
      · exact Or.inl (Or.inl h)
      · exact Or.inr h
def Rising (L : List Rg) : Prop := L.Pairwise (fun a b => a.lo < b.lo)
theorem take_lt {x : Rg} : ∀ (out : List Rg), ∀ e ∈ out.takeWhile (fun r => decide (r.lo < x.lo)), e.lo < x.lo
  | [], e, h => by simp at h
  | a :: t, e, h => by
    rw [List.takeWhile_cons] at h
    by_cases ha : a.lo < x.lo
    · simp only [decide_eq_true ha, if_true] at h
      rcases List.mem_cons.1 h with rfl | h
      · exact ha
      · exact take_lt t e h
    · simp only [decide_eq_false ha] at h
      simp at h
theorem ins_rising {x : Rg} : ∀ {out : List Rg}, Rising out → (∀ e ∈ out, e.lo ≠ x.lo) → Rising (insRg x out)
  | [], _, _ => by simp [insRg, Rising]
  | a :: t, h, hne => by
    have h1 := List.pairwise_cons.1 h
    have hna := hne a (by simp)
    by_cases ha : a.lo < x.lo
    · have e : insRg x (a :: t) = a :: insRg x t := by simp [insRg, ha]
      rw [e]
      refine List.pairwise_cons.2 ⟨fun b hb => ?_, ins_rising h1.2 (fun e he => hne e (by simp [he]))⟩
      rcases ins_mem.1 hb with rfl | hb
      · exact ha
      · exact h1.1 b hb
    · have e : insRg x (a :: t) = x :: a :: t := by simp [insRg, ha]
      rw [e]
      refine List.pairwise_cons.2 ⟨fun b hb => ?_, h⟩
      rcases List.mem_cons.1 hb with rfl | hb
      · omega
      · have := h1.1 b hb; omega
theorem sort_rising : ∀ {L out : List Rg}, Rising out → (∀ e ∈ out, ∀ x ∈ L, e.lo ≠ x.lo) → L.Pairwise (fun a b => a.lo ≠ b.lo) → Rising (sortRg out L)
  | [], _, h, _, _ => h
  | x :: t, out, h, hne, hp => by
    have hp' := List.pairwise_cons.1 hp
    rw [sortRg]
    refine sort_rising (ins_rising h (fun e he => hne e he x (by simp))) (fun e he y hy => ?_) hp'.2
    rcases ins_mem.1 he with rfl | he
    · exact hp'.1 y hy
    · exact hne e he y (by simp [hy])
theorem rising_eq : ∀ {A B : List Rg}, Rising A → Rising B → (∀ e, e ∈ A ↔ e ∈ B) → A = B
  | [], [], _, _, _ => rfl
  | [], b :: s, _, _, h => by have := (h b).2 (by simp); cases this
  | a :: t, [], _, _, h => by have := (h a).1 (by simp); cases this
  | a :: t, b :: s, hA, hB, h => by
    have hA' := List.pairwise_cons.1 hA
    have hB' := List.pairwise_cons.1 hB
    have e : a = b := by
      rcases List.mem_cons.1 ((h a).1 (by simp)) with e | h1
      · exact e
      · rcases List.mem_cons.1 ((h b).2 (by simp)) with e | h2
        · exact e.symm
        · have := hA'.1 b h2; have := hB'.1 a h1; omega
    subst e
    congr 1
    refine rising_eq hA'.2 hB'.2 (fun e => ?_)
    constructor
    · intro he
      rcases List.mem_cons.1 ((h e).1 (by simp [he])) with rfl | h1
      · have := hA'.1 _ he; omega
      · exact h1
    · intro he
      rcases List.mem_cons.1 ((h e).2 (by simp [he])) with rfl | h1
      · have := hB'.1 _ he; omega
      · exact h1
/-- sorted, they are the sweep's -/
theorem sorted_eq {C L : List Rg} (hC : Apart C) (h : Parts C L) (hl : Loose L) : sortRg [] L = C := by
  have hw := h.whole hC hl
  refine rising_eq (sort_rising List.Pairwise.nil (fun e he => by cases he) ?_) ?_ (fun e => ?_)
  · rw [List.pairwise_iff_getElem]
    intro i k hi hk hlt e
    have h1 := (h.sound _ (List.getElem_mem hi)).1
    have h2 := (h.sound _ (List.getElem_mem hk)).1
    exact hl k i L[k] L[i] hlt (List.getElem?_eq_getElem hk) (List.getElem?_eq_getElem hi) ⟨by omega, by omega⟩
  · unfold Rising
    have h1 := hC.1
    rw [List.pairwise_iff_getElem] at h1 ⊢
    intro i k hi hk hlt
    have h2 := h1 i k hi hk hlt
    have h3 := hC.2 _ (List.getElem_mem hi)
    omega
  · rw [sort_mem]
    simp [hw e]

/-! ## a row without two of its members -/
def skip2 {α : Type} (i k : Nat) : Nat → List α → List α
  | _, [] => []
  | n, a :: t => if n = i ∨ n = k then skip2 i k (n + 1) t else a :: skip2 i k (n + 1) t
theorem skip2_snoc {α : Type} (i k : Nat) (a : α) : ∀ (n : Nat) (L : List α), skip2 i k n (L ++ [a]) = skip2 i k n L ++ if n + L.length = i ∨ n + L.length = k then [] else [a]
  | n, [] => by simp only [List.nil_append, skip2, List.length_nil, Nat.add_zero]
  | n, b :: t => by
    have ih := skip2_snoc i k a (n + 1) t
    simp only [List.cons_append, skip2, List.length_cons]
    rw [ih, show n + 1 + t.length = n + (t.length + 1) by omega]
    split <;> simp
theorem skip2_mem {α : Type} {i k : Nat} {e : α} : ∀ {n : Nat} {L : List α}, e ∈ skip2 i k n L → e ∈ L
  | n, a :: t, h => by
    unfold skip2 at h
    split at h
    · exact List.mem_cons_of_mem _ (skip2_mem h)
    · rcases List.mem_cons.1 h with rfl | h
      · simp
      · exact List.mem_cons_of_mem _ (skip2_mem h)
theorem mem_skip2 {α : Type} {i k : Nat} {e : α} : ∀ {n : Nat} {L : List α} {j : Nat}, L[j]? = some e → n + j ≠ i → n + j ≠ k → e ∈ skip2 i k n L
  | n, [], j, h, _, _ => by simp at h
  | n, a :: t, 0, h, h1, h2 => by
    obtain rfl : a = e := by simpa using h
    unfold skip2
    rw [if_neg (by omega)]
    simp
  | n, a :: t, j + 1, h, h1, h2 => by
    have := mem_skip2 (i := i) (k := k) (n := n + 1) (L := t) (j := j) (by simpa using h) (by omega) (by omega)
    unfold skip2
    split
    · exact this
    · exact List.mem_cons_of_mem _ this
theorem skip2_len {α : Type} {i k : Nat} : ∀ (n : Nat) (L : List α), (skip2 i k n L).length + (if n ≤ i ∧ i < n + L.length then 1 else 0) + (if n ≤ k ∧ k < n + L.length ∧ i ≠ k then 1 else 0) = L.length
  | n, [] => by simp [skip2]; omega
  | n, a :: t => by
    have ih := skip2_len (i := i) (k := k) (n + 1) t
    simp only [skip2, List.length_cons]
    split
    · rename_i h
      rcases h with rfl | rfl
      · simp only [Nat.le_refl, true_and] at ih ⊢
        split at ih <;> split at ih <;> split <;> split <;> omega
      · split at ih <;> split at ih <;> split <;> split <;> omega
    · simp only [List.length_cons]
      split at ih <;> split at ih <;> split <;> split <;> omega
/-- two that touch put together -/
theorem Parts.merged {C L : List Rg} (hC : Apart C) (h : Parts C L) {i k : Nat} {a b : Rg} (hi : L[i]? = some a) (hk : L[k]? = some b) (ht : touch a b) : Parts C (skip2 i k 0 L ++ [joinRg a b]) := by
  refine h.step hC (List.mem_of_getElem? hi) (List.mem_of_getElem? hk) ht (fun e he => ?_) (fun e he => ?_) (by simp)
  · rcases List.mem_append.1 he with he | he
    · exact Or.inl (skip2_mem he)
    · exact Or.inr (by simpa using he)
  · obtain ⟨j, hj⟩ := List.getElem?_of_mem he
    by_cases h1 : j = i
    · subst h1; rw [hi] at hj; exact Or.inr (Or.inl (Option.some.inj hj).symm)
    · by_cases h2 : j = k
      · subst h2; rw [hk] at hj; exact Or.inr (Or.inr (Option.some.inj hj).symm)
      · exact Or.inl (List.mem_append.2 (Or.inl (mem_skip2 hj (by omega) (by omega))))
end BlendLaw
end Go.Proofs.YtpnogcblafmaiaaDoor
