/-
  Plain law of layer 17, third part: the other way round; where one side is the base; what is turned apart; of nothing. No program in sight.
-/
import Derived.Test.YtpnogcblafmaiaaDoorBlendLaw2
namespace Go.Proofs.YtpnogcblafmaiaaDoor
namespace BlendLaw
open LineLaw (Hk Ok diff)

/-! ## the other way round -/
theorem beyond_nil (hi : Nat) : beyond hi [] := trivial
theorem beyond_cons {hi : Nat} {a : Hk} {t : List Hk} (h : hi < a.a0) : beyond hi (a :: t) := h
theorem grow_swap (hi : Nat) (h0 h1 : List Hk) : grow hi h1 h0 = ((grow hi h0 h1).1, (grow hi h0 h1).2.2, (grow hi h0 h1).2.1) := by
  fun_induction grow hi h0 h1 with
  | case1 hi => rw [grow]
  | case2 hi a t h ih => rw [grow_right h, ih]
  | case3 hi a t h => rw [grow_stop (beyond_nil _) (beyond_cons (by omega))]
  | case4 hi b s h ih => rw [grow_left h, ih]
  | case5 hi b s h => rw [grow_stop (beyond_cons (by omega)) (beyond_nil _)]
  | case6 hi a t b s h ih => rw [grow_right h, ih]
  | case7 hi a t b s h h' ih => rw [grow_left h', ih]
  | case8 hi a t b s h h' => rw [grow_stop (beyond_cons (by omega)) (beyond_cons (by omega))]

def Sound (l : List Hk) : Prop := ∀ a, l.head? = some a → a.a0 ≤ a.a1
theorem first_swap {h0 h1 : List Hk} {h : Hk} (hf : firstHk h0 h1 = some h) (s0 : Sound h0) (s1 : Sound h1) : ∃ h', firstHk h1 h0 = some h' ∧ h'.a0 = h.a0 ∧ grow h'.a1 h0 h1 = grow h.a1 h0 h1 := by
  match h0, h1, hf with
  | a :: t, [], hf => obtain rfl : a = h := by simpa [firstHk] using hf
                      exact ⟨a, rfl, rfl, rfl⟩
  | [], b :: s, hf => obtain rfl : b = h := by simpa [firstHk] using hf
                      exact ⟨b, rfl, rfl, rfl⟩
  | a :: t, b :: s, hf =>
    have ha := s0 a rfl
    have hb := s1 b rfl
    by_cases h1 : b.a0 < a.a0
    · simp only [firstHk, if_pos h1] at hf
      obtain rfl : b = h := by simpa using hf
      refine ⟨b, ?_, rfl, rfl⟩
      simp only [firstHk]
      rw [if_neg (by omega)]
    · simp only [firstHk, if_neg h1] at hf
      obtain rfl : a = h := by simpa using hf
      by_cases h2 : a.a0 < b.a0
      · refine ⟨a, ?_, rfl, rfl⟩
        simp only [firstHk]
        rw [if_pos h2]
      · refine ⟨b, ?_, by omega, ?_⟩
        · simp only [firstHk]
          rw [if_neg h2]
        · rw [grow_left (by omega : a.a0 ≤ b.a1), grow_left (by omega : a.a0 ≤ a.a1), grow_right (by omega : b.a0 ≤ max b.a1 a.a1), grow_right (by omega : b.a0 ≤ max a.a1 a.a1)]
          congr 1; omega
theorem taken_swap {t0 t1 : Bool} (a b : Ls) (h : t0 = true ∨ t1 = true) : (taken t0 t1 a b).2 = (taken t1 t0 b a).2 ∧ ((taken t0 t1 a b).2 = false → (taken t0 t1 a b).1 = (taken t1 t0 b a).1) := by
  cases t0 <;> cases t1 <;> simp [taken] at h ⊢
  by_cases e : a = b
  · subst e; simp
  · have e' : ¬ b = a := fun h => e h.symm
    simp [e, e']
theorem At.sound {x l : Ls} {hs r : List Hk} {i j : Nat} (H : At x l hs r i j) : Sound r := by
  intro a ha
  cases r with
  | nil => cases ha
  | cons b t => obtain rfl : b = a := by simpa using ha
                exact H.hunk.2.2.1
theorem grown_one {h0 h1 : List Hk} {h : Hk} (hf : firstHk h0 h1 = some h) (hle : h.a0 ≤ h.a1) : decide ((grow h.a1 h0 h1).2.1.length < h0.length) = true ∨ decide ((grow h.a1 h0 h1).2.2.length < h1.length) = true := by
  have h2 := grow_len h.a1 h0 h1
  have h1 := grow_less hf hle
  simp only [decide_eq_true_eq]
  omega

theorem go_swap {x l0 l1 : Ls} {H0 H1 : List Hk} : ∀ (n at_ : Nat) (h0 h1 : List Hk) (i0 j0 i1 j1 : Nat), At x l0 H0 h0 i0 j0 → At x l1 H1 h1 i1 j1 → i0 ≤ at_ → i1 ≤ at_ → (∀ h, firstHk h0 h1 = some h → at_ ≤ h.a0) →
    (go x l0 l1 H0 H1 n at_ h0 h1).2 = (go x l1 l0 H1 H0 n at_ h1 h0).2 ∧ ((go x l0 l1 H0 H1 n at_ h0 h1).2 = false → (go x l0 l1 H0 H1 n at_ h0 h1).1 = (go x l1 l0 H1 H0 n at_ h1 h0).1)
  | 0, _, _, _, _, _, _, _, _, _, _, _, _ => ⟨rfl, fun _ => rfl⟩
  | n + 1, at_, h0, h1, i0, j0, i1, j1, A0, A1, e0, e1, hah => by
    cases hf : firstHk h0 h1 with
    | none =>
      obtain ⟨rfl, rfl⟩ := first_none hf
      rw [go_none, go_none]
      exact ⟨rfl, fun _ => rfl⟩
    | some h =>
      have hle := hah h hf
      have hh := first_hunk hf A0 A1
      obtain ⟨h', hf', ea, eg⟩ := first_swap hf A0.sound A1.sound
      obtain ⟨a0, b0, a1, b1, k1, k2, k3, k4, k5, k6⟩ := grow_at h.a1 h0 h1 A0 A1 (by omega) (by omega) hh.2
      have hby := grow_beyond h.a1 h0 h1
      have hone := grown_one hf hh.1
      rw [go_some hf, go_some hf', grow_swap h'.a1 h0 h1, eg, ea]
      obtain ⟨r1, r2⟩ := go_swap n (grow h.a1 h0 h1).1 (grow h.a1 h0 h1).2.1 (grow h.a1 h0 h1).2.2 a0 b0 a1 b1 k1 k2 k3 k4 (fun q hq => Nat.le_of_lt (first_beyond hq hby.1 hby.2))
      obtain ⟨t1, t2⟩ := taken_swap (partOf l0 (pos H0 h0 h.a0) (pos H0 (grow h.a1 h0 h1).2.1 (grow h.a1 h0 h1).1)) (partOf l1 (pos H1 h1 h.a0) (pos H1 (grow h.a1 h0 h1).2.2 (grow h.a1 h0 h1).1)) hone
      refine ⟨?_, fun hc => ?_⟩
      · simp only [t1, r1]
      · have hc' := hc
        simp only [Bool.or_eq_false_iff] at hc'
        simp only [t2 hc'.1, r2 hc'.2]
/-- THE OTHER WAY ROUND -/
theorem merge_swap (b o t : Bs) : (merge b o t).2 = (merge b t o).2 ∧ ((merge b o t).2 = false → (merge b o t).1 = (merge b t o).1) := by
  obtain ⟨h1, h2⟩ := go_swap ((diff (LinesLaw.lns b) (LinesLaw.lns o)).length + (diff (LinesLaw.lns b) (LinesLaw.lns t)).length) 0 _ _ 0 0 0 0 (At.start (LinesLaw.lns b) (LinesLaw.lns o)) (At.start (LinesLaw.lns b) (LinesLaw.lns t)) (Nat.le_refl _) (Nat.le_refl _) (fun _ _ => Nat.zero_le _)
  simp only [merge, mergeL, Nat.add_comm (diff (LinesLaw.lns b) (LinesLaw.lns t)).length]
  exact ⟨h1, fun h => by rw [h2 h]⟩

/-! ## where a part of a side lies -/
theorem grow_pos {x l0 : Ls} {H0 : List Hk} {lo P : Nat} (hi : Nat) (h0 h1 : List Hk) : ∀ {i0 j0 : Nat}, At x l0 H0 h0 i0 j0 → (∀ a ∈ h0, lo ≤ a.a0) → lo ≤ hi → (P ≤ j0 ∨ i0 ≤ lo ∧ P = j0 + (lo - i0)) → i0 ≤ hi →
    P ≤ pos H0 (grow hi h0 h1).2.1 (grow hi h0 h1).1 := by
  fun_induction grow hi h0 h1 with
  | case1 hi => intro i0 j0 A _ hl hP hi1; rw [A.pos_eq hi1]; omega
  | case2 hi a t h ih =>
    intro i0 j0 A hlo hl hP hi1
    have hu := A.hunk
    have hla := hlo a (by simp)
    exact ih A.step (fun b hb => hlo b (by simp [hb])) (by omega) (Or.inl (by omega)) (by omega)
  | case3 hi a t h => intro i0 j0 A _ hl hP hi1; rw [A.pos_eq hi1]; omega
  | case4 hi b s h ih => intro i0 j0 A hlo hl hP hi1; exact ih A hlo (by omega) hP (by omega)
  | case5 hi b s h => intro i0 j0 A _ hl hP hi1; rw [A.pos_eq hi1]; omega
  | case6 hi a t b s h ih =>
    intro i0 j0 A hlo hl hP hi1
    have hu := A.hunk
    have hla := hlo a (by simp)
    exact ih A.step (fun b hb => hlo b (by simp [hb])) (by omega) (Or.inl (by omega)) (by omega)
  | case7 hi a t b s h h' ih => intro i0 j0 A hlo hl hP hi1; exact ih A hlo (by omega) hP (by omega)
  | case8 hi a t b s h h' => intro i0 j0 A _ hl hP hi1; rw [A.pos_eq hi1]; omega

theorem part_drop {l : Ls} {p q : Nat} (h : p ≤ q) : partOf l p q ++ l.drop q = l.drop p := by
  unfold partOf
  have h1 : l.drop q = (l.drop p).drop (q - p) := by rw [List.drop_drop]; congr 1; omega
  rw [h1, List.take_append_drop]
/-- what lies in base before a hunk lies in the side too -/
theorem At.ahead {x l : Ls} {hs t : List Hk} {h : Hk} {i j at_ : Nat} (H : At x l hs (h :: t) i j) (h1 : i ≤ at_) (h2 : at_ ≤ h.a0) :
    (x.drop at_).take (h.a0 - at_) ++ l.drop (j + (h.a0 - i)) = l.drop (j + (at_ - i)) := by
  obtain ⟨f, k1, k2, k3, k4, k5, k6, k7, k8, _, k9, _⟩ := H.ok
  have e1 := congrArg (List.drop (at_ - i)) k9
  rw [List.drop_take, List.drop_take, List.drop_drop, List.drop_drop] at e1
  rw [show i + (at_ - i) = at_ by omega, show h.a0 - i - (at_ - i) = h.a0 - at_ by omega] at e1
  rw [e1]
  have h3 : l.drop (j + (h.a0 - i)) = (l.drop (j + (at_ - i))).drop (h.a0 - at_) := by rw [List.drop_drop]; congr 1; omega
  rw [h3, List.take_append_drop]
theorem At.rest {x l : Ls} {hs : List Hk} {i j at_ : Nat} (H : At x l hs [] i j) (h1 : i ≤ at_) : x.drop at_ = l.drop (j + (at_ - i)) := by
  have h2 := congrArg (List.drop (at_ - i)) H.done
  rw [List.drop_drop, List.drop_drop] at h2
  rw [← h2]; congr 1; omega

/-! ## one side alone turned -/
/-- the second side alone is left -/
theorem go_second {x l0 l1 : Ls} {H0 H1 : List Hk} : ∀ (n at_ : Nat) (h1 : List Hk) (i j : Nat), At x l1 H1 h1 i j → i ≤ at_ → (∀ h, h1.head? = some h → at_ ≤ h.a0) → h1.length ≤ n →
    go x l0 l1 H0 H1 n at_ [] h1 = (l1.drop (j + (at_ - i)), false)
  | n, at_, [], i, j, A, e, _, _ => by rw [go_none, A.rest e]
  | 0, at_, h :: t, _, _, _, _, _, hn => by simp at hn
  | n + 1, at_, h :: t, i, j, A, e, hah, hn => by
    have hle := hah h rfl
    have hu := A.hunk
    have hf : firstHk [] (h :: t) = some h := rfl
    have hup := A.up (lo := h.a0) (fun a ha => by obtain rfl : h = a := by simpa using ha
                                                  exact Nat.le_refl _)
    have hby := grow_beyond h.a1 [] (h :: t)
    have hlen := grow_len h.a1 [] (h :: t)
    have hp := grow_pos (P := j + (h.a0 - i)) h.a1 (h :: t) [] A hup (by omega) (Or.inr ⟨by omega, rfl⟩) (by omega)
    rw [grow_swap h.a1 [] (h :: t)] at hp
    obtain ⟨a0, b0, a1, b1, k1, k2, k3, k4, k5, k6⟩ := grow_at (l0 := x) (H0 := []) h.a1 [] (h :: t) (i0 := 0) (j0 := 0) (by have := At.start x x; rwa [LineLaw.diff_self] at this) A (by omega) (by omega) hu.2.2.2.2.1
    have e1 : (grow h.a1 [] (h :: t)).2.1 = [] := List.eq_nil_of_length_eq_zero (by simpa using hlen.1)
    have hless := grow_less hf hu.2.2.1
    rw [go_some hf]
    rw [e1] at k1 hless ⊢
    simp only [List.length_nil, Nat.zero_add] at hless
    rw [go_second n _ _ a1 b1 k2 k4 (fun q hq => by
      have h2 := hby.2
      cases hr : (grow h.a1 [] (h :: t)).2.2 with
      | nil => rw [hr] at hq; cases hq
      | cons c s => rw [hr] at hq h2; obtain rfl : c = q := by simpa using hq
                    simp only [beyond] at h2; omega) (by omega)]
    have ht : decide ((grow h.a1 [] (h :: t)).2.2.length < (h :: t).length) = true := decide_eq_true hless
    rw [ht, A.pos_eq (by omega)]
    simp only [taken, List.length_nil, Nat.lt_irrefl, decide_false]
    simp only [Bool.true_eq_false, Bool.false_eq_true, false_and, or_self, if_false, if_true]
    rw [← k2.pos_eq k4, part_drop hp, A.ahead e hle]
    rfl
theorem diff_refl_merge (x l : Ls) : mergeL x x l = (l, false) := by
  have h := go_second (x := x) (l0 := x) (H0 := []) ((diff x l).length) 0 _ 0 0 (At.start x l) (Nat.le_refl _) (fun _ _ => Nat.zero_le _) (Nat.le_refl _)
  simpa [mergeL, LineLaw.diff_self] using h
/-- THE FIRST SIDE IS THE BASE -/
theorem merge_base (b t : Bs) : merge b b t = (t, false) := by
  simp [merge, diff_refl_merge, LinesLaw.lns_flat]
/-- THE SECOND SIDE IS -/
theorem merge_base' (b t : Bs) : merge b t b = (t, false) := by
  have h := merge_swap b b t
  have e := merge_base b t
  rw [e] at h
  have h2 := h.2 rfl
  ext1
  · exact h2.symm
  · exact h.1.symm

/-! ## both sides are the same -/
theorem grow_same : ∀ (r : List Hk) (hi : Nat), (grow hi r r).2.1 = (grow hi r r).2.2
  | [], hi => by rw [grow]
  | a :: t, hi => by
    by_cases h : a.a0 ≤ hi
    · rw [grow_left h, grow_right (by omega)]
      exact grow_same t _
    · rw [grow_stop (beyond_cons (by omega)) (beyond_cons (by omega))]
theorem go_both {x l : Ls} {H : List Hk} : ∀ (n at_ : Nat) (r : List Hk) (i j : Nat), At x l H r i j → i ≤ at_ → (∀ h, r.head? = some h → at_ ≤ h.a0) → r.length ≤ n →
    go x l l H H n at_ r r = (l.drop (j + (at_ - i)), false)
  | n, at_, [], i, j, A, e, _, _ => by rw [go_none, A.rest e]
  | 0, at_, h :: t, _, _, _, _, _, hn => by simp at hn
  | n + 1, at_, h :: t, i, j, A, e, hah, hn => by
    have hle := hah h rfl
    have hu := A.hunk
    have hf : firstHk (h :: t) (h :: t) = some h := by simp [firstHk]
    have hup := A.up (lo := h.a0) (fun a ha => by obtain rfl : h = a := by simpa using ha
                                                  exact Nat.le_refl _)
    have hby := grow_beyond h.a1 (h :: t) (h :: t)
    have hlen := grow_len h.a1 (h :: t) (h :: t)
    have hp := grow_pos (P := j + (h.a0 - i)) h.a1 (h :: t) (h :: t) A hup (by omega) (Or.inr ⟨by omega, rfl⟩) (by omega)
    obtain ⟨a0, b0, a1, b1, k1, k2, k3, k4, k5, k6⟩ := grow_at h.a1 (h :: t) (h :: t) A A (by omega) (by omega) hu.2.2.2.2.1
    have e1 := grow_same (h :: t) h.a1
    have hless := grow_less hf hu.2.2.1
    rw [go_some hf]
    rw [← e1] at hless k2 ⊢
    rw [go_both n _ _ a0 b0 k1 k3 (fun q hq => by
      have h2 := hby.1
      cases hr : (grow h.a1 (h :: t) (h :: t)).2.1 with
      | nil => rw [hr] at hq; cases hq
      | cons c s => rw [hr] at hq h2; obtain rfl : c = q := by simpa using hq
                    simp only [beyond] at h2; omega) (by simp only [List.length_cons] at hless hn; omega)]
    rw [A.pos_eq (by omega)]
    have ht : decide ((grow h.a1 (h :: t) (h :: t)).2.1.length < (h :: t).length) = true := decide_eq_true (by omega)
    simp only [ht, taken, Bool.true_eq_false, true_and, or_true, if_true, Bool.or_self]
    rw [← k1.pos_eq k3, part_drop hp, A.ahead e hle]
/-- BOTH SIDES ARE THE SAME -/
theorem merge_same (b t : Bs) : merge b t t = (t, false) := by
  have h := go_both ((diff (LinesLaw.lns b) (LinesLaw.lns t)).length + (diff (LinesLaw.lns b) (LinesLaw.lns t)).length) 0 _ 0 0 (At.start (LinesLaw.lns b) (LinesLaw.lns t)) (Nat.le_refl _) (fun _ _ => Nat.zero_le _) (Nat.le_add_right _ _)
  simp only [merge, mergeL, h]
  simp [LinesLaw.lns_flat]

/-! ## of nothing -/
theorem diff_of_nil {l : Ls} (h : l ≠ []) : diff [] l = [⟨0, 0, 0, l.length⟩] := by
  have := LineLaw.diff_added [] l h
  simpa using this
/-- OF NOTHING -/
theorem merge_nil (a b : Bs) : (merge [] a b).2 = decide (0 < a.length ∧ 0 < b.length ∧ a ≠ b) := by
  by_cases ha : a = []
  · subst ha; rw [merge_base]; simp
  · by_cases hb : b = []
    · subst hb; rw [merge_base']; simp
    · have h0 : LinesLaw.lns a ≠ [] := fun h => ha (LinesLaw.lns_nil h)
      have h1 : LinesLaw.lns b ≠ [] := fun h => hb (LinesLaw.lns_nil h)
      have e0 : 0 < a.length := List.length_pos_iff.2 ha
      have e1 : 0 < b.length := List.length_pos_iff.2 hb
      have hab : LinesLaw.lns a = LinesLaw.lns b ↔ a = b := ⟨fun h => by rw [← LinesLaw.lns_flat a, h, LinesLaw.lns_flat], fun h => by rw [h]⟩
      have hd0 := diff_of_nil h0
      have hd1 := diff_of_nil h1
      have hg : grow 0 [⟨0, 0, 0, (LinesLaw.lns a).length⟩] [⟨0, 0, 0, (LinesLaw.lns b).length⟩] = (0, [], []) := by
        rw [grow_left (by simp), grow_right (by simp), grow]
        rfl
      have hf : firstHk [⟨0, 0, 0, (LinesLaw.lns a).length⟩] [⟨0, 0, 0, (LinesLaw.lns b).length⟩] = some ⟨0, 0, 0, (LinesLaw.lns a).length⟩ := rfl
      have p0 : ∀ n : Nat, pos [⟨0, 0, 0, n⟩] [⟨0, 0, 0, n⟩] 0 = 0 := fun n => by simp [pos]
      have p1 : ∀ n : Nat, pos [⟨0, 0, 0, n⟩] [] 0 = n := fun n => by simp [pos, dl]
      have hn : LinesLaw.lns ([] : Bs) = [] := rfl
      simp only [merge, mergeL, hn, hd0, hd1, List.length_singleton]
      rw [go_some hf]
      simp only [hg, go_none, Bool.or_false, p0, p1]
      simp only [partOf, List.drop_zero, Nat.sub_zero, List.take_length, taken, List.length_nil, List.length_singleton, Nat.zero_lt_one, decide_true, Bool.true_eq_false, false_or, true_and, hab]
      by_cases hne : a = b
      · simp [hne]
      · simp [hne, e0, e1]

/-! ## apart -/
theorem go_apart {x l0 l1 : Ls} {H0 H1 : List Hk} {N : Nat} (A1 : At x l1 H1 H1 0 0) (hx : N ≤ x.length) (hN : ∀ b ∈ H1, N < b.a0) : ∀ (n at_ : Nat) (h0 : List Hk) (i j : Nat), At x l0 H0 h0 i j → i ≤ at_ → (∀ h, h0.head? = some h → at_ ≤ h.a0) → at_ ≤ N → (∀ a ∈ h0, a.a1 ≤ N ∧ a.a0 ≤ a.a1) → h0.length + H1.length ≤ n →
    ∃ Z k, go x l0 l1 H0 H1 n at_ h0 H1 = (Z ++ l1.drop k, false) ∧ l0.drop (j + (at_ - i)) = Z ++ x.drop k ∧ k ≤ N
  | n, at_, [], i, j, A, e, _, hat, _, hn => by
    refine ⟨[], at_, ?_, by rw [A.rest e]; rfl, hat⟩
    rw [go_second n at_ H1 0 0 A1 (Nat.zero_le _) (fun h hh => by have := hN h (List.mem_of_mem_head? hh); omega) (by simpa using hn)]
    simp
  | 0, at_, h :: t, _, _, _, _, _, _, _, hn => by simp at hn
  | n + 1, at_, h :: t, i, j, A, e, hah, hat, hall, hn => by
    have hle := hah h rfl
    have hu := A.hunk
    have hf : firstHk (h :: t) H1 = some h := by
      cases hH : H1 with
      | nil => rfl
      | cons b s =>
        have h1 := hN b (by rw [hH]; simp)
        have h2 := hall h (by simp)
        simp only [firstHk]
        rw [if_neg (by omega)]
    have hup := A.up (lo := h.a0) (fun a ha => by obtain rfl : h = a := by simpa using ha
                                                  exact Nat.le_refl _)
    have hbey : ∀ hi, hi ≤ N → beyond hi H1 := by
      intro hi hhi
      cases hH : H1 with
      | nil => exact beyond_nil _
      | cons b s => have h1 := hN b (by rw [hH]; simp)
                    exact beyond_cons (by omega)
    have key : ∀ (r : List Hk) (hi : Nat), (∀ a ∈ r, a.a1 ≤ N) → hi ≤ N → (grow hi r H1).2.2 = H1 ∧ (grow hi r H1).1 ≤ N ∧ ∀ a ∈ (grow hi r H1).2.1, a ∈ r := by
      intro r
      induction r with
      | nil =>
        intro hi _ hhi
        rw [grow_stop (beyond_nil _) (hbey hi hhi)]
        exact ⟨rfl, hhi, fun a ha => ha⟩
      | cons c s ih =>
        intro hi hr hhi
        by_cases hc : c.a0 ≤ hi
        · rw [grow_left hc]
          have hc1 := hr c (by simp)
          obtain ⟨k1, k2, k3⟩ := ih (max hi c.a1) (fun a ha => hr a (by simp [ha])) (by omega)
          exact ⟨k1, k2, fun a ha => by simp [k3 a ha]⟩
        · rw [grow_stop (beyond_cons (by omega)) (hbey hi hhi)]
          exact ⟨rfl, hhi, fun a ha => ha⟩
    obtain ⟨g1, g2, g3⟩ := key (h :: t) h.a1 (fun a ha => (hall a ha).1) (hall h (by simp)).1
    have hby := grow_beyond h.a1 (h :: t) H1
    have hp := grow_pos (P := j + (h.a0 - i)) h.a1 (h :: t) H1 A hup (by omega) (Or.inr ⟨by omega, rfl⟩) (by omega)
    obtain ⟨a0, b0, a1, b1, k1, k2, k3, k4, k5, k6⟩ := grow_at h.a1 (h :: t) H1 A A1 (by omega) (by omega) hu.2.2.2.2.1
    have hless := grow_less hf hu.2.2.1
    rw [go_some hf]
    rw [g1] at hless ⊢
    obtain ⟨Z, k, z1, z2, z3⟩ := go_apart A1 hx hN n (grow h.a1 (h :: t) H1).1 (grow h.a1 (h :: t) H1).2.1 a0 b0 k1 k3 (fun q hq => by
      have h2 := hby.1
      cases hr : (grow h.a1 (h :: t) H1).2.1 with
      | nil => rw [hr] at hq; cases hq
      | cons c s => rw [hr] at hq h2; obtain rfl : c = q := by simpa using hq
                    simp only [beyond] at h2; omega) g2 (fun a ha => hall a (g3 a ha)) (by omega)
    refine ⟨(x.drop at_).take (h.a0 - at_) ++ (partOf l0 (j + (h.a0 - i)) (pos H0 (grow h.a1 (h :: t) H1).2.1 (grow h.a1 (h :: t) H1).1) ++ Z), k, ?_, ?_, z3⟩
    · rw [z1, A.pos_eq (by omega)]
      simp [taken]
    · rw [List.append_assoc, List.append_assoc, ← z2, ← k1.pos_eq k3, part_drop hp, A.ahead e hle]
/-- WHAT IS TURNED APART IS TAKEN FROM BOTH -/
theorem mergeL_apart {X Y U V : Ls} {W : Bs} (h0 : ∀ a ∈ diff (X ++ W :: U) (Y ++ W :: U), a.a1 ≤ X.length) (h1 : ∀ b ∈ diff (X ++ W :: U) (X ++ W :: V), X.length < b.a0) :
    mergeL (X ++ W :: U) (Y ++ W :: U) (X ++ W :: V) = (Y ++ W :: V, false) := by
  have hsnd : ∀ {x l : Ls} {r : List Hk} {i j : Nat} {f : Bool}, Ok x l i j f r → ∀ a ∈ r, a.a0 ≤ a.a1 := by
    intro x l r
    induction r with
    | nil => intro _ _ _ _ a ha; cases ha
    | cons b t ih =>
      intro i j f h a ha
      obtain ⟨_, _, q, _, _, _, _, _, _, _, k⟩ := h
      rcases List.mem_cons.1 ha with rfl | ha
      · exact q
      · exact ih k a ha
  obtain ⟨Z, k, z1, z2, z3⟩ := go_apart (N := X.length) (At.start (X ++ W :: U) (X ++ W :: V)) (by simp) h1 ((diff (X ++ W :: U) (Y ++ W :: U)).length + (diff (X ++ W :: U) (X ++ W :: V)).length) 0 _ 0 0 (At.start (X ++ W :: U) (Y ++ W :: U)) (Nat.le_refl _) (fun _ _ => Nat.zero_le _) (Nat.zero_le _) (fun a ha => ⟨h0 a ha, hsnd (LineLaw.diff_ok _ _) a ha⟩) (Nat.le_refl _)
  unfold mergeL
  rw [z1]
  simp only [Nat.zero_add, Nat.sub_zero, List.drop_zero] at z2
  rw [List.drop_append_of_le_length z3] at z2 ⊢
  rw [← List.append_assoc] at z2 ⊢
  have h3 := List.append_cancel_right z2
  rw [← h3]
end BlendLaw
end Go.Proofs.YtpnogcblafmaiaaDoor
