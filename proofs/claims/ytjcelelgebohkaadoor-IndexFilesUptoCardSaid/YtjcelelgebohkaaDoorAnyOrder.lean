/-
  A statement that draws its order, all whose operations but the last only read or make memory: each operation's value has a property that more memory leaves alone; so the order does not matter. One law, whatever the number of operations. No condition but the closed checks on the operations.
-/
import Derived.Test.YtjcelelgebohkaaDoorBase
import Derived.RegionTactic
namespace Go.Proofs.YtjcelelgebohkaaDoor
open Go.RowKit

/-- how many are not done -/
def undone : List Bool → Nat
  | [] => 0
  | b :: l => (if b then 0 else 1) + undone l
theorem undone_set : ∀ {l : List Bool} {i : Nat}, l[i]? = some false → undone (l.set i true) + 1 = undone l
  | [], _, h => by simp at h
  | b :: l, 0, h => by simp at h; subst h; simp [undone]; omega
  | b :: l, i + 1, h => by simp at h; have := undone_set h; simp [undone]; omega
theorem undone_zero : ∀ {l : List Bool}, undone l = 0 → ∀ (i : Nat) (b : Bool), l[i]? = some b → b = true
  | [], _, _, _, h => by simp at h
  | c :: l, hz, 0, b, h => by simp at h; subst h; cases c <;> simp [undone] at hz ⊢
  | c :: l, hz, i + 1, b, h => by simp at h; exact undone_zero (by cases c <;> simp [undone] at hz ⊢ <;> omega) i b h

section
variable {P : Program} {ops : Array Oper} {Q : Exit → Act → World → Prop} {md : Region.Mode}
theorem ready_parts {listed : Array Bool} {i : Nat} (hs : listed.size = ops.size) (h : i ∈ Region.ready md ops listed) : ∃ o, ops[i]? = some o ∧ listed[i]? = some false ∧ ∀ e ∈ o.after, Region.binds md e = true → listed[e.on]? = some true := by
  unfold Region.ready at h
  simp only [List.mem_filter, List.mem_range, Bool.and_eq_true, Bool.not_eq_true'] at h
  obtain ⟨hlt, h1, h2⟩ := h
  have hl : i < listed.size := by omega
  refine ⟨ops[i], Array.getElem?_eq_getElem hlt, ?_, fun e he hb => ?_⟩
  · rw [Array.getElem?_eq_getElem hl]
    simp [Array.getD, hl] at h1
    rw [h1]
  · simp only [Array.getElem?_eq_getElem hlt, Option.map_some, Option.getD_some] at h2
    have h3 := Array.all_eq_true_iff_forall_mem.1 h2 e he
    simp only [hb, Bool.not_true, Bool.false_or] at h3
    by_cases hon : e.on < listed.size
    · rw [Array.getElem?_eq_getElem hon]
      simp [Array.getD, hon] at h3
      rw [h3]
    · simp [Array.getD, hon] at h3
theorem ready_mem {listed : Array Bool} {i : Nat} {o : Oper} (ho : ops[i]? = some o) (hl : listed[i]? = some false) (ha : ∀ e ∈ o.after, Region.binds md e = true → listed[e.on]? = some true) : i ∈ Region.ready md ops listed := by
  have hlt := (Array.getElem?_eq_some_iff.1 ho).1
  obtain ⟨hl1, hl2⟩ := Array.getElem?_eq_some_iff.1 hl
  unfold Region.ready
  simp only [List.mem_filter, List.mem_range, Bool.and_eq_true, Bool.not_eq_true']
  refine ⟨hlt, by simp [Array.getD, hl1, hl2], ?_⟩
  rw [ho]
  simp only [Option.map_some, Option.getD_some]
  refine Array.all_eq_true_iff_forall_mem.2 (fun e he => ?_)
  by_cases hb : Region.binds md e = true
  · obtain ⟨h1, h2⟩ := Array.getElem?_eq_some_iff.1 (ha e he hb)
    simp [Array.getD, h1, h2]
  · simp at hb
    simp [hb]
theorem wpAny_inv (Inv : Array Bool → Act → World → Prop)
    (hstep : ∀ listed a w i, listed.size = ops.size → Inv listed a w → i ∈ Region.ready md ops listed → wpOp P ops Q i (Inv (listed.setIfInBounds i true)) a w)
    (hdone : ∀ listed a w, listed.size = ops.size → Inv listed a w → Region.ready md ops listed = [] → Q .normal a w) :
    ∀ (fuel : Nat) (listed : Array Bool) (a : Act) (w : World), listed.size = ops.size → undone listed.toList ≤ fuel → Inv listed a w → wpAny P md ops Q fuel listed a w
  | 0, listed, a, w, hs, hu, hI => by
    have hr : Region.ready md ops listed = [] := by
      rw [List.eq_nil_iff_forall_not_mem]
      intro i hi
      obtain ⟨o, _, hl, _⟩ := ready_parts hs hi
      have := undone_zero (by omega : undone listed.toList = 0) i false (by simpa using hl)
      cases this
    exact ⟨hr, hdone listed a w hs hI hr⟩
  | fuel + 1, listed, a, w, hs, hu, hI => by
    refine ⟨hdone listed a w hs hI, fun i hi => ?_⟩
    obtain ⟨o, _, hl, _⟩ := ready_parts hs hi
    refine wpOp_mono (fun a' w' h' => ?_) (hstep listed a w i hs hI hi)
    refine wpAny_inv Inv hstep hdone fuel _ a' w' (by simpa using hs) ?_ h'
    have := undone_set (l := listed.toList) (i := i) (by simpa using hl)
    rw [Array.toList_setIfInBounds]
    omega
end

/-- the closed checks: edges go back; no guard; each slot is written once; whatever is not the last is met by the last one's edges, in two steps at most -/
def regionOk (ops : Array Oper) (n : Nat) : Bool :=
  ops.size == n + 1 && (List.range (n + 1)).all (fun i => match ops[i]? with
    | some o => o.guard.isNone && o.after.all (fun e => e.on < i) && (List.range i).all (fun j => match ops[j]? with
      | some p => (match p.dst, o.dst with | some x, some y => x != y | _, _ => true)
      | none => true)
    | none => false) &&
  (List.range n).all (fun j => match ops[n]? with
    | some o => o.after.any (fun e => Region.binds .any e && (e.on == j || (match ops[e.on]? with | some p => p.after.any (fun f => Region.binds .any f && f.on == j) | none => false)))
    | none => false)

/-- the frame outside of what the region writes is as it was -/
structure SameAct (ops : Array Oper) (a0 a : Act) : Prop where
  defers : a.defers = a0.defers
  size : a.tmps.size = a0.tmps.size
  slot : ∀ t, (∀ (i : Nat) (o : Oper), ops[i]? = some o → o.dst ≠ some t) → a.tmps[t]? = a0.tmps[t]?
theorem SameAct.put {ops : Array Oper} {a0 a : Act} (h : SameAct ops a0 a) {i : Nat} {o : Oper} (ho : ops[i]? = some o) (v : Value) : SameAct ops a0 (a.put o.dst v) := by
  cases hd : o.dst with
  | none => exact h
  | some d =>
    refine ⟨h.defers, by simpa [Act.put] using h.size, fun t ht => ?_⟩
    have hne : d ≠ t := fun e => ht i o ho (by rw [hd, e])
    rw [← h.slot t ht]
    simp [Act.put, hne]
theorem SameAct.eval {ops : Array Oper} {a0 a : Act} (h : SameAct ops a0 a) {t : Nat} (ht : ∀ (i : Nat) (o : Oper), ops[i]? = some o → o.dst ≠ some t) : a.eval (.tmp t) = a0.eval (.tmp t) := by
  have := h.slot t ht
  simp only [Act.eval, Array.getD_eq_getD_getElem?, this]

/-- what is known of the values that an operation waits for -/
def Met (ops : Array Oper) (φ : Nat → Value → World → Prop) (o : Oper) (a : Act) (w : World) : Prop :=
  ∀ e ∈ o.after, Region.binds .any e = true → ∀ p d, ops[e.on]? = some p → p.dst = some d → φ e.on (a.eval (.tmp d)) w

theorem wp_region_grow {P : Program} {ops : Array Oper} {Q : Exit → Act → World → Prop} {id : Nat} {a0 : Act} {w0 : World} (hm : P.follows .mixedOrders = true) (n : Nat) (hok : regionOk ops n = true)
    (hsz : ∀ (i : Nat) (o : Oper) (d : Nat), ops[i]? = some o → o.dst = some d → d < a0.tmps.size)
    (φ : Nat → Value → World → Prop) (hmono : ∀ j v w w', φ j v w → Below w.heap.size w w' → φ j v w')
    (hstep : ∀ (i : Nat) (o : Oper), i < n → ops[i]? = some o → ∀ a w, Below w0.heap.size w0 w → SameAct ops a0 a → Met ops φ o a w →
      Oper.wp P o a w (fun a' w' => ∃ v, a' = a.put o.dst v ∧ φ i v w' ∧ Below w.heap.size w w') Q)
    (hlast : ∀ (o : Oper), ops[n]? = some o → ∀ a w, Below w0.heap.size w0 w → SameAct ops a0 a → Met ops φ o a w → Oper.wp P o a w (fun a' w' => Q .normal a' w') Q) :
    (Code.region id ops true).wp P Q a0 w0 := by
  have hok' := hok
  simp only [regionOk, Bool.and_eq_true, beq_iff_eq, List.all_eq_true, List.mem_range] at hok'
  obtain ⟨⟨hn, hop⟩, hcov⟩ := hok'
  have hback : ∀ (i : Nat) (o : Oper), ops[i]? = some o → o.guard = none ∧ (∀ e ∈ o.after, e.on < i) ∧ ∀ (j : Nat) (p : Oper) (x : Nat), j < i → ops[j]? = some p → p.dst = some x → o.dst ≠ some x := by
    intro i o ho
    have hlt := (Array.getElem?_eq_some_iff.1 ho).1
    have h1 := hop i (by omega)
    rw [ho] at h1
    simp only [Bool.and_eq_true, List.all_eq_true, List.mem_range] at h1
    obtain ⟨⟨h2, h3⟩, h4⟩ := h1
    refine ⟨by simpa using h2, fun e he => by simpa using Array.all_eq_true_iff_forall_mem.1 h3 e he, fun j p x hj hp hx hd => ?_⟩
    have h5 := h4 j hj
    rw [hp] at h5
    simp only [hx, hd] at h5
    simp at h5
  have hdst : ∀ (i j : Nat) (o p : Oper) (x : Nat), i ≠ j → ops[i]? = some o → ops[j]? = some p → o.dst = some x → p.dst ≠ some x := by
    intro i j o p x hne ho hp hx hpx
    rcases Nat.lt_or_gt_of_ne hne with h | h
    · exact (hback j p hp).2.2 i o x h ho hx hpx
    · exact (hback i o ho).2.2 j p x h hp hpx hx
  refine wp_region_any hm ?_
  refine wpAny_inv (fun listed a w => (∀ (i : Nat) (o : Oper), ops[i]? = some o → listed[i]? = some true → ∀ e ∈ o.after, Region.binds .any e = true → listed[e.on]? = some true) ∧
      (listed[n]? = some false → SameAct ops a0 a ∧ Below w0.heap.size w0 w ∧ ∀ (j : Nat) (p : Oper) (d : Nat), j < n → ops[j]? = some p → p.dst = some d → listed[j]? = some true → φ j (a.eval (.tmp d)) w) ∧
      (listed[n]? = some true → (∀ j, j < n → listed[j]? = some true) ∧ Q .normal a w)) ?_ ?_ ops.size (Array.replicate ops.size false) a0 _ (by simp) ?_ ?_
  · rintro listed a w i hs ⟨hcl, hun, hfin⟩ hi
    obtain ⟨o, ho, hl, haft⟩ := ready_parts hs hi
    have hlt := (Array.getElem?_eq_some_iff.1 ho).1
    have hnl : listed[n]? = some false := by
      cases hb : listed[n]? with
      | none => rw [Array.getElem?_eq_none_iff] at hb; omega
      | some b => cases b with
        | false => rfl
        | true =>
          obtain ⟨h1, _⟩ := hfin hb
          rcases Nat.lt_or_ge i n with h | h
          · rw [h1 i h] at hl; cases hl
          · obtain rfl : i = n := by omega
            rw [hb] at hl; cases hl
    obtain ⟨hsame, hbel, hphi⟩ := hun hnl
    have hmet : Met ops φ o a w := by
      intro e he hb p d hp hd
      have hon := (hback i o ho).2.1 e he
      exact hphi e.on p d (by omega) hp hd (haft e he hb)
    have hset : ∀ k, (listed.setIfInBounds i true)[k]? = if i = k then some true else listed[k]? := by
      intro k
      rw [Array.getElem?_setIfInBounds]
      split
      · rename_i h; subst h; rw [if_pos (by omega)]
      · rfl
    refine wpOp_step ho (fun K' hK' => ?_)
    have hwant : Region.wanted o (yielded ops a.tmps) = true := by simp [Region.wanted, (hback i o ho).1]
    rw [if_pos hwant]
    have hcl' : ∀ (k : Nat) (p : Oper), ops[k]? = some p → (listed.setIfInBounds i true)[k]? = some true → ∀ e ∈ p.after, Region.binds .any e = true → (listed.setIfInBounds i true)[e.on]? = some true := by
      intro k p hp hk e he hb
      rw [hset] at hk ⊢
      split
      · rfl
      · by_cases hik : i = k
        · subst hik
          obtain rfl : p = o := Option.some.inj (hp.symm.trans ho)
          exact haft e he hb
        · rw [if_neg hik] at hk
          exact hcl k p hp hk e he hb
    rcases Nat.lt_or_ge i n with hin | hin
    · refine Oper.wp_mono (fun a' w' h' => hK' a' w' ?_) (hstep i o hin ho a w hbel hsame hmet)
      obtain ⟨v, rfl, hv, hb'⟩ := h'
      refine ⟨hcl', fun _ => ⟨hsame.put ho v, hbel.trans (hb'.mono hbel.size), fun j p d hj hp hd hlj => ?_⟩, fun hf => ?_⟩
      · rw [hset] at hlj
        by_cases hij : i = j
        · subst hij
          obtain rfl : p = o := Option.some.inj (hp.symm.trans ho)
          have hdlt := hsz i p d ho hd
          rw [hd]
          have : (a.put (some d) v).eval (.tmp d) = v := by
            simp [Act.put, Act.eval, Array.getD_eq_getD_getElem?, hsame.size, hdlt]
          rw [this]
          exact hv
        · rw [if_neg hij] at hlj
          have hne : o.dst ≠ some d := hdst j i p o d (fun e => hij e.symm) hp ho hd
          have : (a.put o.dst v).eval (.tmp d) = a.eval (.tmp d) := by
            cases hod : o.dst with
            | none => rfl
            | some x =>
              have hxd : x ≠ d := fun e => hne (by rw [hod, e])
              simp [Act.put, Act.eval, Array.getD_eq_getD_getElem?, hxd]
          rw [this]
          exact hmono _ _ _ _ (hphi j p d hj hp hd hlj) hb'
      · rw [hset, if_neg (by omega), hnl] at hf
        cases hf
    · obtain rfl : i = n := by omega
      refine Oper.wp_mono (fun a' w' h' => hK' a' w' ?_) (hlast o ho a w hbel hsame hmet)
      refine ⟨hcl', fun hf => ?_, fun _ => ⟨fun j hj => ?_, h'⟩⟩
      · rw [hset, if_pos rfl] at hf
        cases hf
      · rw [hset, if_neg (by omega)]
        have h1 := hcov j hj
        rw [ho] at h1
        simp only at h1
        rw [← Array.any_toList, List.any_eq_true] at h1
        obtain ⟨e, he, h1⟩ := h1
        simp only [Bool.and_eq_true, Bool.or_eq_true, beq_iff_eq] at h1
        obtain ⟨hb, h2⟩ := h1
        replace he := Array.mem_toList_iff.1 he
        have hon := haft e he hb
        rcases h2 with rfl | h2
        · exact hon
        · split at h2
          · rename_i p hp
            rw [← Array.any_toList, List.any_eq_true] at h2
            obtain ⟨f, hf, h2⟩ := h2
            simp only [Bool.and_eq_true, beq_iff_eq] at h2
            obtain ⟨hfb, rfl⟩ := h2
            replace hf := Array.mem_toList_iff.1 hf
            exact hcl e.on p hp hon f hf hfb
          · cases h2
  · rintro listed a w hs ⟨hcl, hun, hfin⟩ hr
    have hall : ∀ i, i ≤ n → listed[i]? = some true := by
      intro i
      induction i using Nat.strongRecOn with
      | _ i ih =>
        intro hi
        have hlt : i < listed.size := by omega
        have hlo : i < ops.size := by omega
        cases hb : listed[i] with
        | true => rw [Array.getElem?_eq_getElem hlt, hb]
        | false =>
          have hmem := ready_mem (md := .any) (Array.getElem?_eq_getElem hlo) (by rw [Array.getElem?_eq_getElem hlt, hb] : listed[i]? = some false) (fun e he _ => ih e.on ((hback i _ (Array.getElem?_eq_getElem hlo)).2.1 e he) (by have := (hback i _ (Array.getElem?_eq_getElem hlo)).2.1 e he; omega))
          rw [hr] at hmem
          cases hmem
    exact (hfin (hall n (Nat.le_refl _))).2
  · have hu : ∀ m, undone (List.replicate m false) = m := by
      intro m
      induction m with
      | zero => rfl
      | succ m ih => rw [List.replicate_succ, undone, ih]; simp; omega
    simp [hu]
  · refine ⟨fun i o ho hl => ?_, fun _ => ⟨⟨rfl, rfl, fun _ _ => rfl⟩, ⟨rfl, rfl, rfl, Nat.le_refl _, fun _ _ => rfl⟩, fun j p d hj hp hd hl => ?_⟩, fun hl => ?_⟩
    · rw [Array.getElem?_replicate] at hl; split at hl <;> cases hl
    · rw [Array.getElem?_replicate] at hl; split at hl <;> cases hl
    · rw [Array.getElem?_replicate] at hl; split at hl <;> cases hl

/-- no operation of the region writes slot t -/
def noDst (ops : Array Oper) (t : Nat) : Bool := ops.all (fun o => o.dst != some t)
theorem SameAct.keeps {ops : Array Oper} {a0 a : Act} (h : SameAct ops a0 a) {t : Nat} (hn : noDst ops t = true) : a.eval (.tmp t) = a0.eval (.tmp t) :=
  h.eval (fun i o ho e => by
    have hm := Array.mem_of_getElem? ho
    have h1 := Array.all_eq_true_iff_forall_mem.1 hn o hm
    rw [e] at h1
    simp at h1)
/-- operation o waits for number j, which writes slot d -/
def waitsFor (ops : Array Oper) (o : Oper) (j d : Nat) : Bool := o.after.any (fun e => e.on == j && Region.binds .any e) && (match ops[j]? with | some p => p.dst == some d | none => false)
theorem Met.get {ops : Array Oper} {φ : Nat → Value → World → Prop} {o : Oper} {a : Act} {w : World} (h : Met ops φ o a w) (j d : Nat) (hc : waitsFor ops o j d = true) : φ j (a.eval (.tmp d)) w := by
  simp only [waitsFor, Bool.and_eq_true] at hc
  obtain ⟨h1, h2⟩ := hc
  rw [← Array.any_toList, List.any_eq_true] at h1
  obtain ⟨e, he, h1⟩ := h1
  simp only [Bool.and_eq_true, beq_iff_eq] at h1
  obtain ⟨rfl, hb⟩ := h1
  split at h2
  · rename_i p hp
    exact h e (Array.mem_toList_iff.1 he) hb p d hp (by simpa using h2)
  · cases h2

section
variable {P : Program} {o : Oper} {a : Act} {w w' : World} {K : Act → World → Prop} {Q : Exit → Act → World → Prop} {v v' : Value} {x : Operand}
theorem wp_value (h : (execOp a.eval o).run P w = .ok (.value v) w') (hk : K (a.put o.dst v) w') : Oper.wp P o a w K Q := by
  unfold Oper.wp; rw [h]; exact hk
theorem wp_skip (h : (execOp a.eval o).run P w = .ok .skip w') (hk : K (a.put o.dst undef) w') : Oper.wp P o a w K Q := by
  unfold Oper.wp; rw [h]; exact hk
theorem st_move (ho : o.op = .move x) (hx : a.eval x = v) : (execOp a.eval o).run P w = .ok (.value v) w := by simp only [execOp, ho, hx]; rfl
theorem st_nil {p : Addr} (ho : o.op = .nilCheck x) (hx : a.eval x = .pointer (some p)) : (execOp a.eval o).run P w = .ok (.value (.pointer (some p))) w := by simp only [execOp, ho, hx]; rfl
theorem st_field {s : TypeId} {f : Nat} (ho : o.op = .fieldAddr s x f) (hx : a.eval x = v) (hr : (Instr.fieldAt s v f).run P w = .ok v' w) : (execOp a.eval o).run P w = .ok (.value v') w := by
  simp only [execOp, ho, hx, Sem.run_bind, hr, Result.andThen_ok, Sem.run_pure]
theorem st_index {s : TypeId} {y : Operand} {u : Value} (ho : o.op = .indexAddr s x y) (hx : a.eval x = v) (hy : a.eval y = u) (hr : (Instr.indexAt s v u).run P w = .ok v' w) : (execOp a.eval o).run P w = .ok (.value v') w := by
  simp only [execOp, ho, hx, hy, Sem.run_bind, hr, Result.andThen_ok, Sem.run_pure]
theorem st_load {s : TypeId} (ho : o.op = .load s x) (hx : a.eval x = v) (hr : (Instr.loadAt s v).run P w = .ok v' w) : (execOp a.eval o).run P w = .ok (.value v') w := by
  simp only [execOp, ho, hx, Sem.run_bind, hr, Result.andThen_ok, Sem.run_pure]
theorem st_build {s : TypeId} {n : Nat} {parts : Array (Nat × Operand)} {q : Array (Nat × Value)} (ho : o.op = .buildSlice s n parts) (hq : (parts.map fun (i, x) => (i, a.eval x)) = q) (hr : (Instr.buildSlice s n q).run P w = .ok v' w') : (execOp a.eval o).run P w = .ok (.value v') w' := by
  simp only [execOp, ho, hq, Sem.run_bind, hr, Result.andThen_ok, Sem.run_pure]
theorem st_store {s : TypeId} {y : Operand} {u : Value} (ho : o.op = .store s x y) (hx : a.eval x = v) (hy : a.eval y = u) (hr : (Instr.storeAt s v u).run P w = .ok () w') : (execOp a.eval o).run P w = .ok .skip w' := by
  simp only [execOp, ho, hx, hy, Sem.run_bind, hr, Result.andThen_ok, Sem.run_pure]
theorem eval_getD {t : Nat} (h : a.eval (.tmp t) = v) : a.tmps[t]?.getD undef = v := by rw [← h]; simp [Act.eval]
end
end Go.Proofs.YtjcelelgebohkaaDoor
