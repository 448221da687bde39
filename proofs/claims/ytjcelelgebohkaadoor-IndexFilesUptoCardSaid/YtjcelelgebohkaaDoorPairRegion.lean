/-
  A law for a region that draws its order and has two calls that write, the second behind the first: whatever else is not the last operation only reads or makes memory. Plain lemmas.
-/
import Derived.Test.YtjcelelgebohkaaDoorAnyGuards
namespace Go.Proofs.YtjcelelgebohkaaDoor
open Go.RowKit

/-- the closed checks: c1 before c2, neither has a guard, c2 waits for c1 -/
def pairOk (ops : Array Oper) (n c1 c2 : Nat) : Bool :=
  decide (c1 < c2) && decide (c2 < n) && (match ops[c2]? with
    | some o => o.guard.isNone && o.after.any (fun e => Region.binds .any e && e.on == c1)
    | none => false) && (match ops[c1]? with
    | some o => o.guard.isNone
    | none => false)
/-- how far the two calls have come -/
def PairSt (J : Nat → World → Prop) (c1 c2 : Nat) (listed : Array Bool) (w : World) : Prop :=
  (listed[c1]? = some false ∧ listed[c2]? = some false ∧ J 0 w) ∨ (listed[c1]? = some true ∧ listed[c2]? = some false ∧ J 1 w) ∨ (listed[c1]? = some true ∧ listed[c2]? = some true ∧ J 2 w)

theorem SameAct.all {ops : Array Oper} {n : Nat} {a0 a : Act} (h : SameAct (ops.extract 0 n) a0 a) : SameAct ops a0 a :=
  ⟨h.defers, h.size, fun t ht => h.slot t (fun i o ho => by
    rw [Array.getElem?_extract] at ho
    split at ho
    · rw [Nat.zero_add] at ho; exact ht i o ho
    · cases ho)⟩
theorem wp_region_pairR {P : Program} {ops : Array Oper} {Q : Exit → Act → World → Prop} {id : Nat} {a0 : Act} {w0 : World} (hm : P.follows .mixedOrders = true) (n : Nat) (hok : regionOk2 ops n = true)
    (hsz : ∀ (i : Nat) (o : Oper) (d : Nat), ops[i]? = some o → o.dst = some d → d < a0.tmps.size)
    (φ : Nat → Value → Prop) (c1 c2 : Nat) (hpair : pairOk ops n c1 c2 = true) (R : World → World → Prop) (hR : ∀ w, R w w) (J : Nat → World → Prop) (hJ : ∀ k w w', J k w → R w w' → J k w') (h0 : J 0 w0.drew)
    (hstep : ∀ (i : Nat) (o : Oper), i < n → i ≠ c1 → i ≠ c2 → ops[i]? = some o → ∀ a w k, J k w → k ≤ 2 → SameAct (ops.extract 0 n) a0 a → Met ops (fun j v _ => φ j v) o a w →
      if Region.wanted o (yielded ops a.tmps) = true then Oper.wp P o a w (fun a' w' => ∃ v, a' = a.put o.dst v ∧ φ i v ∧ R w w') Q else φ i undef)
    (hc1 : ∀ (o : Oper), ops[c1]? = some o → ∀ a w, J 0 w → SameAct (ops.extract 0 n) a0 a → Met ops (fun j v _ => φ j v) o a w → Oper.wp P o a w (fun a' w' => ∃ v, a' = a.put o.dst v ∧ φ c1 v ∧ J 1 w') Q)
    (hc2 : ∀ (o : Oper), ops[c2]? = some o → ∀ a w, J 1 w → SameAct (ops.extract 0 n) a0 a → Met ops (fun j v _ => φ j v) o a w → Oper.wp P o a w (fun a' w' => ∃ v, a' = a.put o.dst v ∧ φ c2 v ∧ J 2 w') Q)
    (hlast : ∀ (o : Oper), ops[n]? = some o → ∀ a w, J 2 w → SameAct (ops.extract 0 n) a0 a → Met ops (fun j v _ => φ j v) o a w → Oper.wp P o a w (fun a' w' => Q .normal a' w') Q) :
    (Code.region id ops true).wp P Q a0 w0 := by
  have hok' := hok
  simp only [regionOk2, Bool.and_eq_true, beq_iff_eq, List.all_eq_true, List.mem_range] at hok'
  obtain ⟨⟨hn, hop⟩, hcov⟩ := hok'
  have hback : ∀ (i : Nat) (o : Oper), ops[i]? = some o → (i = n → o.guard = none) ∧ (∀ e ∈ o.after, e.on < i) ∧ ∀ (j : Nat) (p : Oper) (x : Nat), j < i → ops[j]? = some p → p.dst = some x → o.dst ≠ some x := by
    intro i o ho
    have hlt := (Array.getElem?_eq_some_iff.1 ho).1
    have h1 := hop i (by omega)
    rw [ho] at h1
    simp only [Bool.and_eq_true, List.all_eq_true, List.mem_range] at h1
    obtain ⟨⟨h2, h3⟩, h4⟩ := h1
    refine ⟨fun hi => by
      cases hg : o.guard with
      | none => rfl
      | some q => rw [hg] at h2; simp at h2; omega, fun e he => by simpa using Array.all_eq_true_iff_forall_mem.1 h3 e he, fun j p x hj hp hx hd => ?_⟩
    have h5 := h4 j hj
    rw [hp] at h5
    simp only [hx, hd] at h5
    simp at h5
  have hdst : ∀ (i j : Nat) (o p : Oper) (x : Nat), i ≠ j → ops[i]? = some o → ops[j]? = some p → o.dst = some x → p.dst ≠ some x := by
    intro i j o p x hne ho hp hx hpx
    rcases Nat.lt_or_gt_of_ne hne with h | h
    · exact (hback j p hp).2.2 i o x h ho hx hpx
    · exact (hback i o ho).2.2 j p x h hp hpx hx
  simp only [pairOk, Bool.and_eq_true, decide_eq_true_eq] at hpair
  obtain ⟨⟨⟨hlt12, hlt2⟩, hp2⟩, hp1⟩ := hpair
  have hg1 : ∀ o, ops[c1]? = some o → o.guard = none := fun o ho => by rw [ho] at hp1; simpa using hp1
  have hg2 : ∀ o, ops[c2]? = some o → o.guard = none ∧ ∃ e ∈ o.after, Region.binds .any e = true ∧ e.on = c1 := fun o ho => by
    rw [ho] at hp2
    simp only [Bool.and_eq_true] at hp2
    refine ⟨by simpa using hp2.1, ?_⟩
    have h2 := hp2.2
    rw [← Array.any_toList, List.any_eq_true] at h2
    obtain ⟨e, he, h2⟩ := h2
    simp only [Bool.and_eq_true, beq_iff_eq] at h2
    exact ⟨e, Array.mem_toList_iff.1 he, h2.1, h2.2⟩
  have hex : ∀ (i : Nat) (o : Oper), i < n → ops[i]? = some o → (ops.extract 0 n)[i]? = some o := fun i o hi ho => by
    have := (Array.getElem?_eq_some_iff.1 ho).1
    rw [Array.getElem?_extract, if_pos (by omega), Nat.zero_add, ho]
  refine wp_region_any hm ?_
  refine wpAny_inv (fun listed a w => (∀ (i : Nat) (o : Oper), ops[i]? = some o → listed[i]? = some true → ∀ e ∈ o.after, Region.binds .any e = true → listed[e.on]? = some true) ∧
      (listed[n]? = some false → SameAct (ops.extract 0 n) a0 a ∧ PairSt J c1 c2 listed w ∧ ∀ (j : Nat) (p : Oper) (d : Nat), j < n → ops[j]? = some p → p.dst = some d → listed[j]? = some true → φ j (a.eval (.tmp d))) ∧
      (listed[n]? = some true → (∀ j, j < n → listed[j]? = some true) ∧ Q .normal a w)) ?_ ?_ ops.size (Array.replicate ops.size false) a0 _ (by simp) ?_ ?_
  · rintro listed a w i hs ⟨hcl, hun, hfin⟩ hi
    obtain ⟨o, ho, hl, haft⟩ := ready_parts hs hi
    have hlt := (Array.getElem?_eq_some_iff.1 ho).1
    have hnl : listed[n]? = some false := by
      cases hb : listed[n]? with
      | none => rw [Array.getElem?_eq_none_iff] at hb; omega
      | some b => cases b with
        | false => rfl
        | true =>
          obtain ⟨h1, _⟩ := hfin hb
          rcases Nat.lt_or_ge i n with h | h
          · rw [h1 i h] at hl; cases hl
          · obtain rfl : i = n := by omega
            rw [hb] at hl; cases hl
    obtain ⟨hsame, hbel, hphi⟩ := hun hnl
    have hmet : Met ops (fun j v _ => φ j v) o a w := by
      intro e he hb p d hp hd
      have hon := (hback i o ho).2.1 e he
      exact hphi e.on p d (by omega) hp hd (haft e he hb)
    have hset : ∀ k, (listed.setIfInBounds i true)[k]? = if i = k then some true else listed[k]? := by
      intro k
      rw [Array.getElem?_setIfInBounds]
      split
      · rename_i h; subst h; rw [if_pos (by omega)]
      · rfl
    refine wpOp_step ho (fun K' hK' => ?_)
    have hcl' : ∀ (k : Nat) (p : Oper), ops[k]? = some p → (listed.setIfInBounds i true)[k]? = some true → ∀ e ∈ p.after, Region.binds .any e = true → (listed.setIfInBounds i true)[e.on]? = some true := by
      intro k p hp hk e he hb
      rw [hset] at hk ⊢
      split
      · rfl
      · by_cases hik : i = k
        · subst hik
          obtain rfl : p = o := Option.some.inj (hp.symm.trans ho)
          exact haft e he hb
        · rw [if_neg hik] at hk
          exact hcl k p hp hk e he hb
    rcases Nat.lt_or_ge i n with hin | hin
    · have key : ∀ (v : Value) (w' : World), φ i v → PairSt J c1 c2 (listed.setIfInBounds i true) w' → K' (a.put o.dst v) w' := by
        intro v w' hv hst'
        refine hK' _ _ ?_
        refine ⟨hcl', fun _ => ⟨hsame.put (hex i o hin ho) v, hst', fun j p d hj hp hd hlj => ?_⟩, fun hf => ?_⟩
        · rw [hset] at hlj
          by_cases hij : i = j
          · subst hij
            obtain rfl : p = o := Option.some.inj (hp.symm.trans ho)
            have hdlt := hsz i p d ho hd
            rw [hd]
            have : (a.put (some d) v).eval (.tmp d) = v := by
              simp [Act.put, Act.eval, Array.getD_eq_getD_getElem?, hsame.size, hdlt]
            rw [this]
            exact hv
          · rw [if_neg hij] at hlj
            have hne : o.dst ≠ some d := hdst j i p o d (fun e => hij e.symm) hp ho hd
            have : (a.put o.dst v).eval (.tmp d) = a.eval (.tmp d) := by
              cases hod : o.dst with
              | none => rfl
              | some x =>
                have hxd : x ≠ d := fun e => hne (by rw [hod, e])
                simp [Act.put, Act.eval, Array.getD_eq_getD_getElem?, hxd]
            rw [this]
            exact hphi j p d hj hp hd hlj
        · rw [hset, if_neg (by omega), hnl] at hf
          cases hf
      by_cases hi1 : i = c1
      · subst hi1
        obtain ⟨hb1, hb2, hJ0⟩ : listed[i]? = some false ∧ listed[c2]? = some false ∧ J 0 w := by
          rcases hbel with h | ⟨h, _⟩ | ⟨h, _⟩
          · exact h
          · rw [h] at hl; cases hl
          · rw [h] at hl; cases hl
        rw [if_pos (by simp [Region.wanted, hg1 o ho])]
        refine Oper.wp_mono (fun a' w' h' => ?_) (hc1 o ho a w hJ0 hsame hmet)
        obtain ⟨v, rfl, hv, hj⟩ := h'
        exact key v w' hv (.inr (.inl ⟨by rw [hset, if_pos rfl], by rw [hset, if_neg (by omega)]; exact hb2, hj⟩))
      · by_cases hi2 : i = c2
        · subst hi2
          obtain ⟨hgn, e, he, hbe, hon⟩ := hg2 o ho
          have hc1l : listed[c1]? = some true := hon ▸ haft e he hbe
          obtain ⟨hb1, hb2, hJ1⟩ : listed[c1]? = some true ∧ listed[i]? = some false ∧ J 1 w := by
            rcases hbel with ⟨h, _⟩ | h | ⟨_, h, _⟩
            · rw [hc1l] at h; cases h
            · exact h
            · rw [h] at hl; cases hl
          rw [if_pos (by simp [Region.wanted, hgn])]
          refine Oper.wp_mono (fun a' w' h' => ?_) (hc2 o ho a w hJ1 hsame hmet)
          obtain ⟨v, rfl, hv, hj⟩ := h'
          exact key v w' hv (.inr (.inr ⟨by rw [hset, if_neg hi1]; exact hb1, by rw [hset, if_pos rfl], hj⟩))
        · have hsome : ∃ k, J k w ∧ k ≤ 2 := by
            rcases hbel with ⟨_, _, h⟩ | ⟨_, _, h⟩ | ⟨_, _, h⟩
            · exact ⟨0, h, by omega⟩
            · exact ⟨1, h, by omega⟩
            · exact ⟨2, h, by omega⟩
          have hkeep : ∀ w', R w w' → PairSt J c1 c2 (listed.setIfInBounds i true) w' := by
            intro w' hb
            unfold PairSt
            rw [hset, hset, if_neg hi1, if_neg hi2]
            rcases hbel with ⟨h1, h2, h⟩ | ⟨h1, h2, h⟩ | ⟨h1, h2, h⟩
            · exact .inl ⟨h1, h2, hJ _ _ _ h hb⟩
            · exact .inr (.inl ⟨h1, h2, hJ _ _ _ h hb⟩)
            · exact .inr (.inr ⟨h1, h2, hJ _ _ _ h hb⟩)
          obtain ⟨k, hk, hk2⟩ := hsome
          have hst := hstep i o hin hi1 hi2 ho a w k hk hk2 hsame hmet
          split
          · rename_i hw
            rw [if_pos hw] at hst
            refine Oper.wp_mono (fun a' w' h' => ?_) hst
            obtain ⟨v, rfl, hv, hb'⟩ := h'
            exact key v w' hv (hkeep w' hb')
          · rename_i hw
            rw [if_neg hw] at hst
            exact key undef w hst (hkeep w (hR w))
    · obtain rfl : i = n := by omega
      rw [if_pos (by simp [Region.wanted, (hback i o ho).1 rfl])]
      have hall : ∀ (d j : Nat), j < i → i - j ≤ d → listed[j]? = some true := by
        intro d
        induction d with
        | zero => intro j hj hd; omega
        | succ d ih =>
          intro j hj hd
          have h1 := hcov j hj
          rw [List.any_eq_true] at h1
          obtain ⟨k, hk, h1⟩ := h1
          rw [List.mem_range] at hk
          simp only [Bool.and_eq_true, decide_eq_true_eq] at h1
          obtain ⟨hjk, h1⟩ := h1
          split at h1
          · rename_i q hq
            rw [← Array.any_toList, List.any_eq_true] at h1
            obtain ⟨e, he, h1⟩ := h1
            simp only [Bool.and_eq_true, beq_iff_eq] at h1
            obtain ⟨hb, rfl⟩ := h1
            replace he := Array.mem_toList_iff.1 he
            by_cases hki : k = i
            · subst hki
              obtain rfl : q = o := Option.some.inj (hq.symm.trans ho)
              exact haft e he hb
            · exact hcl k q hq (ih k (by omega) (by omega)) e he hb
          · cases h1
      have hJ2 : J 2 w := by
        rcases hbel with ⟨h, _⟩ | ⟨_, h, _⟩ | ⟨_, _, h⟩
        · rw [hall i c1 (by omega) (by omega)] at h; cases h
        · rw [hall i c2 (by omega) (by omega)] at h; cases h
        · exact h
      refine Oper.wp_mono (fun a' w' h' => hK' a' w' ?_) (hlast o ho a w hJ2 hsame hmet)
      refine ⟨hcl', fun hf => ?_, fun _ => ⟨fun j hj => ?_, h'⟩⟩
      · rw [hset, if_pos rfl] at hf
        cases hf
      · rw [hset, if_neg (by omega)]
        exact hall i j hj (by omega)
  · rintro listed a w hs ⟨hcl, hun, hfin⟩ hr
    have hall : ∀ i, i ≤ n → listed[i]? = some true := by
      intro i
      induction i using Nat.strongRecOn with
      | _ i ih =>
        intro hi
        have hlt : i < listed.size := by omega
        have hlo : i < ops.size := by omega
        cases hb : listed[i] with
        | true => rw [Array.getElem?_eq_getElem hlt, hb]
        | false =>
          have hmem := ready_mem (md := .any) (Array.getElem?_eq_getElem hlo) (by rw [Array.getElem?_eq_getElem hlt, hb] : listed[i]? = some false) (fun e he _ => ih e.on ((hback i _ (Array.getElem?_eq_getElem hlo)).2.1 e he) (by have := (hback i _ (Array.getElem?_eq_getElem hlo)).2.1 e he; omega))
          rw [hr] at hmem
          cases hmem
    exact (hfin (hall n (Nat.le_refl _))).2
  · have hu : ∀ m, undone (List.replicate m false) = m := by
      intro m
      induction m with
      | zero => rfl
      | succ m ih => rw [List.replicate_succ, undone, ih]; simp; omega
    simp [hu]
  · refine ⟨fun i o ho hl => ?_, fun _ => ⟨⟨rfl, rfl, fun _ _ => rfl⟩, .inl ⟨by rw [Array.getElem?_replicate, if_pos (by omega)], by rw [Array.getElem?_replicate, if_pos (by omega)], h0⟩, fun j p d hj hp hd hl => ?_⟩, fun hl => ?_⟩
    · rw [Array.getElem?_replicate] at hl; split at hl <;> cases hl
    · rw [Array.getElem?_replicate] at hl; split at hl <;> cases hl
    · rw [Array.getElem?_replicate] at hl; split at hl <;> cases hl


theorem wp_region_pair {P : Program} {ops : Array Oper} {Q : Exit → Act → World → Prop} {id : Nat} {a0 : Act} {w0 : World} (hm : P.follows .mixedOrders = true) (n : Nat) (hok : regionOk2 ops n = true)
    (hsz : ∀ (i : Nat) (o : Oper) (d : Nat), ops[i]? = some o → o.dst = some d → d < a0.tmps.size)
    (φ : Nat → Value → Prop) (c1 c2 : Nat) (hpair : pairOk ops n c1 c2 = true) (J : Nat → World → Prop) (hJ : ∀ k w w', J k w → Below w.heap.size w w' → J k w') (h0 : J 0 w0.drew)
    (hstep : ∀ (i : Nat) (o : Oper), i < n → i ≠ c1 → i ≠ c2 → ops[i]? = some o → ∀ a w k, J k w → k ≤ 2 → SameAct ops a0 a → Met ops (fun j v _ => φ j v) o a w →
      if Region.wanted o (yielded ops a.tmps) = true then Oper.wp P o a w (fun a' w' => ∃ v, a' = a.put o.dst v ∧ φ i v ∧ Below w.heap.size w w') Q else φ i undef)
    (hc1 : ∀ (o : Oper), ops[c1]? = some o → ∀ a w, J 0 w → SameAct ops a0 a → Met ops (fun j v _ => φ j v) o a w → Oper.wp P o a w (fun a' w' => ∃ v, a' = a.put o.dst v ∧ φ c1 v ∧ J 1 w') Q)
    (hc2 : ∀ (o : Oper), ops[c2]? = some o → ∀ a w, J 1 w → SameAct ops a0 a → Met ops (fun j v _ => φ j v) o a w → Oper.wp P o a w (fun a' w' => ∃ v, a' = a.put o.dst v ∧ φ c2 v ∧ J 2 w') Q)
    (hlast : ∀ (o : Oper), ops[n]? = some o → ∀ a w, J 2 w → SameAct ops a0 a → Met ops (fun j v _ => φ j v) o a w → Oper.wp P o a w (fun a' w' => Q .normal a' w') Q) :
    (Code.region id ops true).wp P Q a0 w0 :=
  wp_region_pairR hm n hok hsz φ c1 c2 hpair (fun w w' => Below w.heap.size w w') (fun _ => Below.refl _ _) J hJ h0 (fun i o h1 h2 h3 h4 a w k h5 h6 hs => hstep i o h1 h2 h3 h4 a w k h5 h6 hs.all) (fun o h1 a w h2 hs => hc1 o h1 a w h2 hs.all) (fun o h1 a w h2 hs => hc2 o h1 a w h2 hs.all) (fun o h1 a w h2 hs => hlast o h1 a w h2 hs.all)

end Go.Proofs.YtjcelelgebohkaaDoor
