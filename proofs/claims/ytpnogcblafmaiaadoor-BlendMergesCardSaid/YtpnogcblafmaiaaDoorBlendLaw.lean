/-
  Plain law of layer 17: two contents that came of one, as one again: regions, what is taken. No program in sight.
-/
import Derived.Test.YtpnogcblafmaiaaDoorLineLaw
import Derived.Test.YtpnogcblafmaiaaDoorLinesLaw
namespace Go.Proofs.YtpnogcblafmaiaaDoor
namespace BlendLaw
open LineLaw (Hk Ok diff)
abbrev Bs := List UInt8
abbrev Ls := List Bs

/-- how far a region's end goes: next hunks that touch it are taken -/
def grow (hi : Nat) (h0 h1 : List Hk) : Nat × List Hk × List Hk := match h0, h1 with
  | [], [] => (hi, [], [])
  | a :: t, [] => if a.a0 ≤ hi then grow (max hi a.a1) t [] else (hi, a :: t, [])
  | [], b :: s => if b.a0 ≤ hi then grow (max hi b.a1) [] s else (hi, [], b :: s)
  | a :: t, b :: s => if a.a0 ≤ hi then grow (max hi a.a1) t (b :: s) else if b.a0 ≤ hi then grow (max hi b.a1) (a :: t) s else (hi, a :: t, b :: s)
termination_by h0.length + h1.length

/-- does a side's next hunk begin behind hi? -/
def beyond (hi : Nat) : List Hk → Prop
  | [] => True
  | a :: _ => hi < a.a0

theorem grow_left {hi : Nat} {a : Hk} {t h1 : List Hk} (h : a.a0 ≤ hi) : grow hi (a :: t) h1 = grow (max hi a.a1) t h1 := by
  cases h1 with
  | nil => rw [grow, if_pos h]
  | cons b s => rw [grow, if_pos h]
theorem grow_right {b : Hk} {s : List Hk} : ∀ {h0 : List Hk} {hi : Nat}, b.a0 ≤ hi → grow hi h0 (b :: s) = grow (max hi b.a1) h0 s
  | [], hi, h => by rw [grow, if_pos h]
  | a :: t, hi, h => by
    by_cases ha : a.a0 ≤ hi
    · rw [grow_left ha, grow_left (by omega : a.a0 ≤ max hi b.a1), grow_right (by omega : b.a0 ≤ max hi a.a1)]
      congr 1
      omega
    · rw [grow, if_neg ha, if_pos h]
theorem grow_stop {hi : Nat} {h0 h1 : List Hk} (ha : beyond hi h0) (hb : beyond hi h1) : grow hi h0 h1 = (hi, h0, h1) := by
  cases h0 with
  | nil =>
    cases h1 with
    | nil => rw [grow]
    | cons b s => rw [grow, if_neg (by simp only [beyond] at hb; omega)]
  | cons a t =>
    cases h1 with
    | nil => rw [grow, if_neg (by simp only [beyond] at ha; omega)]
    | cons b s => rw [grow, if_neg (by simp only [beyond] at ha; omega), if_neg (by simp only [beyond] at hb; omega)]
theorem grow_beyond (hi : Nat) (h0 h1 : List Hk) : beyond (grow hi h0 h1).1 (grow hi h0 h1).2.1 ∧ beyond (grow hi h0 h1).1 (grow hi h0 h1).2.2 := by
  fun_induction grow hi h0 h1 with
  | case1 hi => exact ⟨trivial, trivial⟩
  | case2 hi a t h ih => exact ih
  | case3 hi a t h => exact ⟨by simp only [beyond]; omega, trivial⟩
  | case4 hi b s h ih => exact ih
  | case5 hi b s h => exact ⟨trivial, by simp only [beyond]; omega⟩
  | case6 hi a t b s h ih => exact ih
  | case7 hi a t b s h h' ih => exact ih
  | case8 hi a t b s h h' => exact ⟨by simp only [beyond]; omega, by simp only [beyond]; omega⟩
theorem grow_len (hi : Nat) (h0 h1 : List Hk) : (grow hi h0 h1).2.1.length ≤ h0.length ∧ (grow hi h0 h1).2.2.length ≤ h1.length := by
  fun_induction grow hi h0 h1 <;> simp_all <;> omega

/-- the hunk that begins first -/
def firstHk : List Hk → List Hk → Option Hk
  | [], [] => none
  | a :: _, [] => some a
  | [], b :: _ => some b
  | a :: _, b :: _ => if b.a0 < a.a0 then some b else some a

theorem grow_less {h0 h1 : List Hk} {h : Hk} (hf : firstHk h0 h1 = some h) (hle : h.a0 ≤ h.a1) : (grow h.a1 h0 h1).2.1.length + (grow h.a1 h0 h1).2.2.length < h0.length + h1.length := by
  match h0, h1, hf with
  | a :: t, [], hf =>
    obtain rfl : a = h := by simpa [firstHk] using hf
    rw [grow_left hle]
    have := grow_len (max a.a1 a.a1) t []
    simp only [List.length_cons]; omega
  | [], b :: s, hf =>
    obtain rfl : b = h := by simpa [firstHk] using hf
    rw [grow_right hle]
    have := grow_len (max b.a1 b.a1) [] s
    simp only [List.length_cons]; omega
  | a :: t, b :: s, hf =>
    simp only [firstHk] at hf
    split at hf
    · obtain rfl : b = h := by simpa using hf
      rw [grow_right hle]
      have := grow_len (max b.a1 b.a1) (a :: t) s
      simp only [List.length_cons] at this ⊢; omega
    · obtain rfl : a = h := by simpa using hf
      rw [grow_left hle]
      have := grow_len (max a.a1 a.a1) t (b :: s)
      simp only [List.length_cons] at this ⊢; omega

/-- how many lines more -/
def dl : List Hk → Int
  | [] => 0
  | h :: t => (h.b1 : Int) - h.b0 - ((h.a1 : Int) - h.a0) + dl t

/-- a side at work: hs are all its hunks, r those that are left; the last one that is done ended at (i, j) -/
structure At (x l : Ls) (hs r : List Hk) (i j : Nat) : Prop where
  ok : ∃ f, Ok x l i j f r
  suf : hs.drop (hs.length - r.length) = r
  few : r.length ≤ hs.length
  off : dl hs - dl r = (j : Int) - i

theorem At.start (x l : Ls) : At x l (diff x l) (diff x l) 0 0 :=
  ⟨⟨_, LineLaw.diff_ok x l⟩, by simp, Nat.le_refl _, by omega⟩
theorem At.get {x l : Ls} {hs t : List Hk} {h : Hk} {i j : Nat} (H : At x l hs (h :: t) i j) : hs[hs.length - (h :: t).length]? = some h := by
  have h1 := congrArg (·[0]?) H.suf
  simpa using h1
theorem At.le {x l : Ls} {hs r : List Hk} {i j : Nat} (H : At x l hs r i j) : i ≤ x.length ∧ j ≤ l.length := by
  obtain ⟨f, h⟩ := H.ok
  cases r with
  | nil => exact ⟨h.1, h.2.1⟩
  | cons a t => obtain ⟨h1, h2, h3, h4, h5, h6, _⟩ := h; exact ⟨by omega, by omega⟩
theorem At.hunk {x l : Ls} {hs t : List Hk} {h : Hk} {i j : Nat} (H : At x l hs (h :: t) i j) : i ≤ h.a0 ∧ j ≤ h.b0 ∧ h.a0 ≤ h.a1 ∧ h.b0 ≤ h.b1 ∧ h.a1 ≤ x.length ∧ h.b1 ≤ l.length ∧ h.a0 - i = h.b0 - j := by
  obtain ⟨f, h1, h2, h3, h4, h5, h6, h7, h8, _⟩ := H.ok
  exact ⟨h1, h2, h3, h4, h5, h6, h8⟩
theorem At.step {x l : Ls} {hs t : List Hk} {h : Hk} {i j : Nat} (H : At x l hs (h :: t) i j) : At x l hs t h.a1 h.b1 := by
  have hu := H.hunk
  obtain ⟨f, _, _, _, _, _, _, _, _, _, _, h8⟩ := H.ok
  have hf := H.few
  refine ⟨⟨_, h8⟩, ?_, by simp at hf; omega, ?_⟩
  · have h1 := congrArg List.tail H.suf
    rw [List.tail_drop] at h1
    simp only [List.length_cons, List.tail_cons] at h1 hf
    rw [← show hs.length - (t.length + 1) + 1 = hs.length - t.length by omega]
    exact h1
  · have h1 := H.off
    simp only [dl] at h1
    omega
/-- nothing is left: what follows is the same -/
theorem At.done {x l : Ls} {hs : List Hk} {i j : Nat} (H : At x l hs [] i j) : x.drop i = l.drop j := by
  obtain ⟨f, h⟩ := H.ok
  exact h.2.2

/-- where a part of a side lies: from lo (in base) to hi, when hunks r went before and r' are left -/
theorem At.room {x l : Ls} {hs r : List Hk} {i j hi : Nat} (H : At x l hs r i j) (hi1 : i ≤ hi) (hx : hi ≤ x.length) (hb : beyond hi r) : j + (hi - i) ≤ l.length := by
  obtain ⟨f, h⟩ := H.ok
  cases r with
  | nil =>
    have h1 := congrArg List.length h.2.2
    simp only [List.length_drop] at h1
    have h2 := h.2.1
    omega
  | cons a t =>
    obtain ⟨h1, h2, h3, h4, h5, h6, h7, h8, _⟩ := h
    simp only [beyond] at hb
    omega

theorem ok_up {x l : Ls} {lo : Nat} : ∀ {r : List Hk} {i j : Nat} {f : Bool}, Ok x l i j f r → (∀ a, r.head? = some a → lo ≤ a.a0) → ∀ a ∈ r, lo ≤ a.a0
  | [], _, _, _, _, _, a, ha => by cases ha
  | b :: t, i, j, f, h, hh, a, ha => by
    have hb := hh b rfl
    obtain ⟨h1, h2, h3, h4, h5, h6, h7, h8, _, _, h9⟩ := h
    rcases List.mem_cons.1 ha with rfl | ha
    · exact hb
    · refine ok_up h9 (fun c hc => ?_) a ha
      cases t with
      | nil => cases hc
      | cons d t =>
        obtain rfl : d = c := by simpa using hc
        have := h9.1
        omega
theorem At.up {x l : Ls} {hs r : List Hk} {i j lo : Nat} (H : At x l hs r i j) (hh : ∀ a, r.head? = some a → lo ≤ a.a0) : ∀ a ∈ r, lo ≤ a.a0 := by
  obtain ⟨f, h⟩ := H.ok
  exact ok_up h hh
theorem first_le {r0 r1 : List Hk} {h : Hk} (hf : firstHk r0 r1 = some h) : (∀ a, r0.head? = some a → h.a0 ≤ a.a0) ∧ (∀ a, r1.head? = some a → h.a0 ≤ a.a0) := by
  match r0, r1, hf with
  | a :: t, [], hf => obtain rfl : a = h := by simpa [firstHk] using hf
                      exact ⟨fun b hb => by simp at hb; subst hb; exact Nat.le_refl _, (fun b hb => by cases hb)⟩
  | [], b :: s, hf => obtain rfl : b = h := by simpa [firstHk] using hf
                      exact ⟨(fun c hc => by cases hc), fun c hc => by simp at hc; subst hc; exact Nat.le_refl _⟩
  | a :: t, b :: s, hf =>
    simp only [firstHk] at hf
    split at hf
    · obtain rfl : b = h := by simpa using hf
      exact ⟨fun c hc => by simp at hc; subst hc; omega, fun c hc => by simp at hc; subst hc; omega⟩
    · obtain rfl : a = h := by simpa using hf
      exact ⟨fun c hc => by simp at hc; subst hc; omega, fun c hc => by simp at hc; subst hc; omega⟩

def partOf (l : Ls) (p q : Nat) : Ls := (l.drop p).take (q - p)
def feedEnd (s : Bs) : Bool := s.getLast? == some 10
/-- the last line ends by a line feed -/
def closed (l : Ls) : Ls := match l.getLast? with
  | none => []
  | some s => if feedEnd s then l else l.dropLast ++ [s ++ [10]]
def sBegin : Bs := [60, 60, 60, 60, 60, 60, 60, 10]
def sMiddle : Bs := [61, 61, 61, 61, 61, 61, 61, 10]
def sEnd : Bs := [62, 62, 62, 62, 62, 62, 62, 10]
/-- what a region becomes; is it a conflict? -/
def taken (t0 t1 : Bool) (a b : Ls) : Ls × Bool :=
  if t1 = false ∨ t0 = true ∧ a = b then (a, false) else if t0 = false then (b, false) else (sBegin :: (closed a ++ sMiddle :: (closed b ++ [sEnd])), true)

/-- where, in a side, a place of base lies, when r are left -/
def pos (hs r : List Hk) (p : Nat) : Nat := ((p : Int) + (dl hs - dl r)).toNat
theorem At.pos_eq {x l : Ls} {hs r : List Hk} {i j p : Nat} (H : At x l hs r i j) (hp : i ≤ p) : pos hs r p = j + (p - i) := by
  have h1 := H.off
  unfold pos
  omega

/-- the rest of the merge: x is base, l0 l1 the sides' lines, H0 H1 all their hunks; at: up to where base is done; h0 h1: the hunks that are left. Bound: so many rounds. -/
def go (x l0 l1 : Ls) (H0 H1 : List Hk) : Nat → Nat → List Hk → List Hk → Ls × Bool
  | 0, at_, _, _ => (x.drop at_, false)
  | n + 1, at_, h0, h1 => match firstHk h0 h1 with
    | none => (x.drop at_, false)
    | some h =>
      let g := grow h.a1 h0 h1
      let r := taken (decide (g.2.1.length < h0.length)) (decide (g.2.2.length < h1.length)) (partOf l0 (pos H0 h0 h.a0) (pos H0 g.2.1 g.1)) (partOf l1 (pos H1 h1 h.a0) (pos H1 g.2.2 g.1))
      let rest := go x l0 l1 H0 H1 n g.1 g.2.1 g.2.2
      ((x.drop at_).take (h.a0 - at_) ++ (r.1 ++ rest.1), r.2 || rest.2)
/-- lines, merged -/
def mergeL (x l0 l1 : Ls) : Ls × Bool := go x l0 l1 (diff x l0) (diff x l1) ((diff x l0).length + (diff x l1).length) 0 (diff x l0) (diff x l1)
/-- bytes, merged -/
def merge (base ours theirs : Bs) : Bs × Bool := ((mergeL (LinesLaw.lns base) (LinesLaw.lns ours) (LinesLaw.lns theirs)).1.flatten, (mergeL (LinesLaw.lns base) (LinesLaw.lns ours) (LinesLaw.lns theirs)).2)
end BlendLaw
end Go.Proofs.YtpnogcblafmaiaaDoor
