/-
  A law for a region that draws its order and has guards: whatever is not the last operation only reads or makes memory; what a guard leaves out yields nothing. Plain lemmas.
-/
import Derived.Test.YtjcelelgebohkaaDoorAnyOrder
namespace Go.Proofs.YtjcelelgebohkaaDoor
open Go.RowKit

/-- the closed checks: edges go back; guards look back, the last one has none; each slot is written once; whatever is not the last is met by the last one's edges, in two steps at most -/
def regionOk2 (ops : Array Oper) (n : Nat) : Bool :=
  ops.size == n + 1 && (List.range (n + 1)).all (fun i => match ops[i]? with
    | some o => (match o.guard with | none => true | some (g, _) => g < i && i != n) && o.after.all (fun e => e.on < i) && (List.range i).all (fun j => match ops[j]? with
      | some p => (match p.dst, o.dst with | some x, some y => x != y | _, _ => true)
      | none => true)
    | none => false) &&
  (List.range n).all (fun j => (List.range (n + 1)).any (fun k => decide (j < k) && (match ops[k]? with
    | some o => o.after.any (fun e => Region.binds .any e && e.on == j)
    | none => false)))

theorem wp_region_guards {P : Program} {ops : Array Oper} {Q : Exit → Act → World → Prop} {id : Nat} {a0 : Act} {w0 : World} (hm : P.follows .mixedOrders = true) (n : Nat) (hok : regionOk2 ops n = true)
    (hsz : ∀ (i : Nat) (o : Oper) (d : Nat), ops[i]? = some o → o.dst = some d → d < a0.tmps.size)
    (φ : Nat → Value → World → Prop) (hmono : ∀ j v w w', φ j v w → Below w.heap.size w w' → φ j v w')
    (hstep : ∀ (i : Nat) (o : Oper), i < n → ops[i]? = some o → ∀ a w, Below w0.heap.size w0 w → SameAct ops a0 a → Met ops φ o a w →
      if Region.wanted o (yielded ops a.tmps) = true then Oper.wp P o a w (fun a' w' => ∃ v, a' = a.put o.dst v ∧ φ i v w' ∧ Below w.heap.size w w') Q else φ i undef w)
    (hlast : ∀ (o : Oper), ops[n]? = some o → ∀ a w, Below w0.heap.size w0 w → SameAct ops a0 a → Met ops φ o a w → Oper.wp P o a w (fun a' w' => Q .normal a' w') Q) :
    (Code.region id ops true).wp P Q a0 w0 := by
  have hok' := hok
  simp only [regionOk2, Bool.and_eq_true, beq_iff_eq, List.all_eq_true, List.mem_range] at hok'
  obtain ⟨⟨hn, hop⟩, hcov⟩ := hok'
  have hback : ∀ (i : Nat) (o : Oper), ops[i]? = some o → (i = n → o.guard = none) ∧ (∀ e ∈ o.after, e.on < i) ∧ ∀ (j : Nat) (p : Oper) (x : Nat), j < i → ops[j]? = some p → p.dst = some x → o.dst ≠ some x := by
    intro i o ho
    have hlt := (Array.getElem?_eq_some_iff.1 ho).1
    have h1 := hop i (by omega)
    rw [ho] at h1
    simp only [Bool.and_eq_true, List.all_eq_true, List.mem_range] at h1
    obtain ⟨⟨h2, h3⟩, h4⟩ := h1
    refine ⟨fun hi => by
      cases hg : o.guard with
      | none => rfl
      | some q => rw [hg] at h2; simp at h2; omega, fun e he => by simpa using Array.all_eq_true_iff_forall_mem.1 h3 e he, fun j p x hj hp hx hd => ?_⟩
    have h5 := h4 j hj
    rw [hp] at h5
    simp only [hx, hd] at h5
    simp at h5
  have hdst : ∀ (i j : Nat) (o p : Oper) (x : Nat), i ≠ j → ops[i]? = some o → ops[j]? = some p → o.dst = some x → p.dst ≠ some x := by
    intro i j o p x hne ho hp hx hpx
    rcases Nat.lt_or_gt_of_ne hne with h | h
    · exact (hback j p hp).2.2 i o x h ho hx hpx
    · exact (hback i o ho).2.2 j p x h hp hpx hx
  refine wp_region_any hm ?_
  refine wpAny_inv (fun listed a w => (∀ (i : Nat) (o : Oper), ops[i]? = some o → listed[i]? = some true → ∀ e ∈ o.after, Region.binds .any e = true → listed[e.on]? = some true) ∧
      (listed[n]? = some false → SameAct ops a0 a ∧ Below w0.heap.size w0 w ∧ ∀ (j : Nat) (p : Oper) (d : Nat), j < n → ops[j]? = some p → p.dst = some d → listed[j]? = some true → φ j (a.eval (.tmp d)) w) ∧
      (listed[n]? = some true → (∀ j, j < n → listed[j]? = some true) ∧ Q .normal a w)) ?_ ?_ ops.size (Array.replicate ops.size false) a0 _ (by simp) ?_ ?_
  · rintro listed a w i hs ⟨hcl, hun, hfin⟩ hi
    obtain ⟨o, ho, hl, haft⟩ := ready_parts hs hi
    have hlt := (Array.getElem?_eq_some_iff.1 ho).1
    have hnl : listed[n]? = some false := by
      cases hb : listed[n]? with
      | none => rw [Array.getElem?_eq_none_iff] at hb; omega
      | some b => cases b with
        | false => rfl
        | true =>
          obtain ⟨h1, _⟩ := hfin hb
          rcases Nat.lt_or_ge i n with h | h
          · rw [h1 i h] at hl; cases hl
          · obtain rfl : i = n := by omega
            rw [hb] at hl; cases hl
    obtain ⟨hsame, hbel, hphi⟩ := hun hnl
    have hmet : Met ops φ o a w := by
      intro e he hb p d hp hd
      have hon := (hback i o ho).2.1 e he
      exact hphi e.on p d (by omega) hp hd (haft e he hb)
    have hset : ∀ k, (listed.setIfInBounds i true)[k]? = if i = k then some true else listed[k]? := by
      intro k
      rw [Array.getElem?_setIfInBounds]
      split
      · rename_i h; subst h; rw [if_pos (by omega)]
      · rfl
    refine wpOp_step ho (fun K' hK' => ?_)
    have hcl' : ∀ (k : Nat) (p : Oper), ops[k]? = some p → (listed.setIfInBounds i true)[k]? = some true → ∀ e ∈ p.after, Region.binds .any e = true → (listed.setIfInBounds i true)[e.on]? = some true := by
      intro k p hp hk e he hb
      rw [hset] at hk ⊢
      split
      · rfl
      · by_cases hik : i = k
        · subst hik
          obtain rfl : p = o := Option.some.inj (hp.symm.trans ho)
          exact haft e he hb
        · rw [if_neg hik] at hk
          exact hcl k p hp hk e he hb
    rcases Nat.lt_or_ge i n with hin | hin
    · have key : ∀ (v : Value) (w' : World), φ i v w' → Below w.heap.size w w' → K' (a.put o.dst v) w' := by
        intro v w' hv hb'
        refine hK' _ _ ?_
        refine ⟨hcl', fun _ => ⟨hsame.put ho v, hbel.trans (hb'.mono hbel.size), fun j p d hj hp hd hlj => ?_⟩, fun hf => ?_⟩
        · rw [hset] at hlj
          by_cases hij : i = j
          · subst hij
            obtain rfl : p = o := Option.some.inj (hp.symm.trans ho)
            have hdlt := hsz i p d ho hd
            rw [hd]
            have : (a.put (some d) v).eval (.tmp d) = v := by
              simp [Act.put, Act.eval, Array.getD_eq_getD_getElem?, hsame.size, hdlt]
            rw [this]
            exact hv
          · rw [if_neg hij] at hlj
            have hne : o.dst ≠ some d := hdst j i p o d (fun e => hij e.symm) hp ho hd
            have : (a.put o.dst v).eval (.tmp d) = a.eval (.tmp d) := by
              cases hod : o.dst with
              | none => rfl
              | some x =>
                have hxd : x ≠ d := fun e => hne (by rw [hod, e])
                simp [Act.put, Act.eval, Array.getD_eq_getD_getElem?, hxd]
            rw [this]
            exact hmono _ _ _ _ (hphi j p d hj hp hd hlj) hb'
        · rw [hset, if_neg (by omega), hnl] at hf
          cases hf
      have hst := hstep i o hin ho a w hbel hsame hmet
      split
      · rename_i hw
        rw [if_pos hw] at hst
        refine Oper.wp_mono (fun a' w' h' => ?_) hst
        obtain ⟨v, rfl, hv, hb'⟩ := h'
        exact key v w' hv hb'
      · rename_i hw
        rw [if_neg hw] at hst
        exact key undef w hst (Below.refl _ _)
    · obtain rfl : i = n := by omega
      rw [if_pos (by simp [Region.wanted, (hback i o ho).1 rfl])]
      refine Oper.wp_mono (fun a' w' h' => hK' a' w' ?_) (hlast o ho a w hbel hsame hmet)
      refine ⟨hcl', fun hf => ?_, fun _ => ⟨fun j hj => ?_, h'⟩⟩
      · rw [hset, if_pos rfl] at hf
        cases hf
      · rw [hset, if_neg (by omega)]
        have hall : ∀ (d j : Nat), j < i → i - j ≤ d → listed[j]? = some true := by
          intro d
          induction d with
          | zero => intro j hj hd; omega
          | succ d ih =>
            intro j hj hd
            have h1 := hcov j hj
            rw [List.any_eq_true] at h1
            obtain ⟨k, hk, h1⟩ := h1
            rw [List.mem_range] at hk
            simp only [Bool.and_eq_true, decide_eq_true_eq] at h1
            obtain ⟨hjk, h1⟩ := h1
            split at h1
            · rename_i q hq
              rw [← Array.any_toList, List.any_eq_true] at h1
              obtain ⟨e, he, h1⟩ := h1
              simp only [Bool.and_eq_true, beq_iff_eq] at h1
              obtain ⟨hb, rfl⟩ := h1
              replace he := Array.mem_toList_iff.1 he
              by_cases hki : k = i
              · subst hki
                obtain rfl : q = o := Option.some.inj (hq.symm.trans ho)
                exact haft e he hb
              · exact hcl k q hq (ih k (by omega) (by omega)) e he hb
            · cases h1
        exact hall i j hj (by omega)
  · rintro listed a w hs ⟨hcl, hun, hfin⟩ hr
    have hall : ∀ i, i ≤ n → listed[i]? = some true := by
      intro i
      induction i using Nat.strongRecOn with
      | _ i ih =>
        intro hi
        have hlt : i < listed.size := by omega
        have hlo : i < ops.size := by omega
        cases hb : listed[i] with
        | true => rw [Array.getElem?_eq_getElem hlt, hb]
        | false =>
          have hmem := ready_mem (md := .any) (Array.getElem?_eq_getElem hlo) (by rw [Array.getElem?_eq_getElem hlt, hb] : listed[i]? = some false) (fun e he _ => ih e.on ((hback i _ (Array.getElem?_eq_getElem hlo)).2.1 e he) (by have := (hback i _ (Array.getElem?_eq_getElem hlo)).2.1 e he; omega))
          rw [hr] at hmem
          cases hmem
    exact (hfin (hall n (Nat.le_refl _))).2
  · have hu : ∀ m, undone (List.replicate m false) = m := by
      intro m
      induction m with
      | zero => rfl
      | succ m ih => rw [List.replicate_succ, undone, ih]; simp; omega
    simp [hu]
  · refine ⟨fun i o ho hl => ?_, fun _ => ⟨⟨rfl, rfl, fun _ _ => rfl⟩, ⟨rfl, rfl, rfl, Nat.le_refl _, fun _ _ => rfl⟩, fun j p d hj hp hd hl => ?_⟩, fun hl => ?_⟩
    · rw [Array.getElem?_replicate] at hl; split at hl <;> cases hl
    · rw [Array.getElem?_replicate] at hl; split at hl <;> cases hl
    · rw [Array.getElem?_replicate] at hl; split at hl <;> cases hl

/-- is a guarded operation wanted? -/
theorem wanted_of {ops : Array Oper} {o p : Oper} {a : Act} {j d : Nat} {b c : Bool} (hg : o.guard = some (j, b)) (hp : ops[j]? = some p) (hd : p.dst = some d) (hv : a.eval (.tmp d) = .bool c) : Region.wanted o (yielded ops a.tmps) = (c == b) := by
  have h : a.tmps[d]? = some (.bool c) := by
    simp only [Act.eval, Array.getD_eq_getD_getElem?] at hv
    cases hx : a.tmps[d]? with
    | none => rw [hx] at hv; simp [undef] at hv
    | some u => rw [hx] at hv; simp at hv; rw [hv]
  unfold Region.wanted yielded
  rw [hg]
  simp [hp, hd, h]
theorem wanted_none {o : Oper} (y : Nat → Option Bool) (hg : o.guard = none) : Region.wanted o y = true := by simp [Region.wanted, hg]
/-- the frame behind a region: the slots of D are what they are, all others are as before -/
theorem act_fold {a : Act} : ∀ (D : List Nat) (acc : Act), acc.tmps.size = a.tmps.size → acc.defers = a.defers → (∀ t, t ∉ D → acc.tmps[t]? = a.tmps[t]?) → D.foldl (fun acc d => acc.put (some d) (a.eval (.tmp d))) acc = a
  | [], acc, hs, hd, ht => by
    obtain ⟨t0, d0⟩ := acc
    obtain ⟨t1, d1⟩ := a
    simp only at hs hd ht
    subst hd
    have : t0 = t1 := Array.ext_getElem? (fun i => ht i (by simp))
    subst this
    rfl
  | d :: D, acc, hs, hd, ht => by
    rw [List.foldl_cons]
    refine act_fold D _ (by simpa [Act.put] using hs) hd (fun t hn => ?_)
    by_cases e : d = t
    · subst e
      simp only [Act.put, Act.eval, Array.getD_eq_getD_getElem?]
      rw [Array.getElem?_setIfInBounds, if_pos rfl]
      by_cases hlt : d < acc.tmps.size
      · rw [if_pos hlt, Array.getElem?_eq_getElem (by omega : d < a.tmps.size)]; rfl
      · rw [if_neg hlt, Array.getElem?_eq_none (by omega)]
    · simp only [Act.put]
      rw [Array.getElem?_setIfInBounds, if_neg e]
      exact ht t (by simp [Ne.symm e, hn])
def dstsIn (ops : Array Oper) (D : List Nat) : Bool := ops.all (fun o => match o.dst with | some d => D.contains d | none => true)
theorem SameAct.frame {ops : Array Oper} {a0 a : Act} (h : SameAct ops a0 a) (D : List Nat) (hD : dstsIn ops D = true) : a = D.foldl (fun acc d => acc.put (some d) (a.eval (.tmp d))) a0 := by
  refine (act_fold D a0 h.size.symm h.defers.symm (fun t ht => ?_)).symm
  refine (h.slot t (fun i o ho e => ht ?_)).symm
  have h1 := Array.all_eq_true_iff_forall_mem.1 hD o (Array.mem_of_getElem? ho)
  rw [e] at h1
  simpa using h1
end Go.Proofs.YtjcelelgebohkaaDoor
