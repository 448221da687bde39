/-
  A map in memory as a list of keys with their values, no key twice: look-ups, stores, deletions, its length, a range over it. Plain laws; conditions: the coding's own.
-/
import Derived.Test.YtjcelelgebohkaaDoorMaps
import Derived.Maps.RangeWalk
import Derived.Sort.MapsRangeIn
import Derived.OwnWalkIn
namespace Go.Proofs.YtjcelelgebohkaaDoor
open Go.RowKit

/-- what reads as a key or a value is one of the coding's -/
structure Coding.Full {P : Program} {k e : TypeId} {κ α : Type} (C : Coding P k e κ α) : Prop where
  invK : ∀ v l, keyOf P k v = some l → ∃ x, v = C.kv x ∧ C.good x
  invV : ∀ v y, C.R v = some y → ∃ a, v = C.vv a

section
variable {κ α : Type} [DecidableEq κ]
def lk (l : List (κ × α)) (x : κ) : Option α := (l.find? (fun p => p.1 = x)).map (·.2)
def strike (l : List (κ × α)) (x : κ) : List (κ × α) := l.filter (fun p => !decide (p.1 = x))
def layL (l : List (κ × α)) (x : κ) (a : α) : List (κ × α) := (x, a) :: strike l x
theorem lk_cons (p : κ × α) (l : List (κ × α)) (x : κ) : lk (p :: l) x = if p.1 = x then some p.2 else lk l x := by
  unfold lk
  by_cases h : p.1 = x <;> simp [h]
theorem lk_none {l : List (κ × α)} {x : κ} : lk l x = none ↔ x ∉ l.map (·.1) := by
  induction l with
  | nil => simp [lk]
  | cons p r ih =>
    rw [lk_cons]
    by_cases h : p.1 = x
    · simp [h]
    · simp only [if_neg h, ih, List.map_cons, List.mem_cons, not_or]
      exact ⟨fun h1 => ⟨fun e => h e.symm, h1⟩, fun h1 => h1.2⟩
theorem lk_mem {l : List (κ × α)} (hn : (l.map (·.1)).Nodup) {x : κ} {a : α} : lk l x = some a ↔ (x, a) ∈ l := by
  induction l with
  | nil => simp [lk]
  | cons p r ih =>
    rw [List.map_cons, List.nodup_cons] at hn
    rw [lk_cons]
    by_cases h : p.1 = x
    · rw [if_pos h, List.mem_cons]
      constructor
      · intro e
        left
        cases p
        simp at h e ⊢
        exact ⟨h.symm, e.symm⟩
      · rintro (e | e)
        · rw [← e]
        · exact absurd (List.mem_map_of_mem (f := (·.1)) e) (by rw [← h]; exact hn.1)
    · rw [if_neg h, ih hn.2, List.mem_cons]
      constructor
      · exact .inr
      · rintro (e | e)
        · rw [← e] at h; exact absurd rfl h
        · exact e
theorem lk_perm {l k : List (κ × α)} (hn : (l.map (·.1)).Nodup) (h : l.Perm k) (x : κ) : lk l x = lk k x := by
  have hk : (k.map (·.1)).Nodup := (h.map (·.1)).nodup_iff.1 hn
  rcases e : lk k x with _ | a
  · rw [lk_none] at e ⊢
    intro h1
    exact e ((h.map (·.1)).mem_iff.1 h1)
  · rw [lk_mem hk] at e
    rw [lk_mem hn]
    exact h.mem_iff.2 e
theorem strike_keys (l : List (κ × α)) (x : κ) : (strike l x).map (·.1) = (l.map (·.1)).filter (fun y => !decide (y = x)) := by
  unfold strike
  rw [List.filter_map]
  rfl
theorem lk_strike (l : List (κ × α)) (x y : κ) : lk (strike l x) y = if y = x then none else lk l y := by
  by_cases h : y = x
  · rw [if_pos h, lk_none, strike_keys]
    simp [h]
  · rw [if_neg h]
    induction l with
    | nil => rfl
    | cons p r ih =>
      unfold strike at ih ⊢
      rw [List.filter_cons]
      by_cases hp : p.1 = x
      · have : ¬ p.1 = y := fun e => h (e.symm.trans hp)
        simp only [hp, decide_true, Bool.not_true, Bool.false_eq_true, if_false]
        rw [ih, lk_cons, if_neg this]
      · simp only [hp, decide_false, Bool.not_false, if_true]
        rw [lk_cons, lk_cons, ih]
theorem nodup_strike {l : List (κ × α)} (h : (l.map (·.1)).Nodup) (x : κ) : ((strike l x).map (·.1)).Nodup := by
  rw [strike_keys]
  exact h.filter _
theorem strike_len {l : List (κ × α)} (h : (l.map (·.1)).Nodup) (x : κ) : (strike l x).length + (if (lk l x).isSome then 1 else 0) = l.length := by
  induction l with
  | nil => rfl
  | cons p r ih =>
    rw [List.map_cons, List.nodup_cons] at h
    have ih := ih h.2
    rw [lk_cons]
    unfold strike at ih ⊢
    rw [List.filter_cons]
    by_cases hp : p.1 = x
    · have hn : lk r x = none := lk_none.2 (hp ▸ h.1)
      rw [hn] at ih
      simp [hp] at ih ⊢
      omega
    · simp only [hp, decide_false, Bool.not_false, if_true, if_false, List.length_cons]
      omega
theorem strike_self {l : List (κ × α)} {x : κ} (h : x ∉ l.map (·.1)) : strike l x = l := by
  unfold strike
  rw [List.filter_eq_self]
  intro p hp
  have : p.1 ≠ x := fun e => h (e ▸ List.mem_map_of_mem hp)
  simp [this]
end

section
variable {P : Program} {k e : TypeId} {κ α : Type} [DecidableEq κ] {C : Coding P k e κ α} {w w' : World} {m n : Nat} {l : List (κ × α)} {D : DataW Unit}

/-- D holds just what l holds -/
structure HasL (C : Coding P k e κ α) (D : DataW Unit) (l : List (κ × α)) : Prop where
  nodup : (l.map (·.1)).Nodup
  good : ∀ p ∈ l, C.good p.1
  size : Maps.size D = l.length
  view : ∀ x, C.good x → View D (C.kl x) ((lk l x).map C.vd)
theorem HasL.perm {j : List (κ × α)} (h : HasL C D l) (hp : l.Perm j) : HasL C D j :=
  ⟨(hp.map (·.1)).nodup_iff.1 h.nodup, fun p hm => h.good p (hp.mem_iff.2 hm), h.size.trans hp.length_eq, fun x hx => by rw [← lk_perm h.nodup hp]; exact h.view x hx⟩
theorem View.has {o : Option (DataW Unit)} {kl : Lit} (h : View D kl o) : Maps.has D kl = o.isSome := by
  cases o with
  | none => exact h
  | some d => exact h.1
theorem HasL.put (h : HasL C D l) (hD : Maps.Tidy D) {x : κ} (hx : C.good x) (a : α) : HasL C (D.put (C.kl x) (C.vd a)) (layL l x a) where
  nodup := by
    unfold layL
    rw [List.map_cons, List.nodup_cons]
    exact ⟨by rw [strike_keys]; simp, nodup_strike h.nodup x⟩
  good p hp := by
    unfold layL at hp
    rcases List.mem_cons.1 hp with rfl | hp
    · exact hx
    · exact h.good p ((List.mem_filter.1 hp).1)
  size := by
    rw [Maps.size_put hD, (h.view x hx).has, layL, List.length_cons, Option.isSome_map]
    have := strike_len h.nodup x
    have := h.size
    split <;> simp_all <;> omega
  view y hy := by
    have := view_put (f := lk l) (a := a) hD.isMap hx hy (C.lit hx) (h.view y hy)
    unfold upd at this
    rw [layL, lk_cons]
    by_cases hxy : y = x
    · rw [if_pos hxy] at this
      rw [if_pos hxy.symm]
      exact this
    · rw [if_neg hxy] at this
      rw [if_neg (fun e => hxy e.symm), lk_strike, if_neg hxy]
      exact this
theorem HasL.del (h : HasL C D l) (hD : Maps.Tidy D) {x : κ} (hx : C.good x) : HasL C (D.del (C.kl x)) (strike l x) where
  nodup := nodup_strike h.nodup x
  good p hp := h.good p ((List.mem_filter.1 hp).1)
  size := by
    have h1 := Maps.size_del (k := C.kl x) hD
    rw [(h.view x hx).has, Option.isSome_map, h.size, ← strike_len h.nodup x] at h1
    omega
  view y hy := by
    have := view_del (f := lk l) hx hy (h.view y hy)
    unfold upd at this
    rw [lk_strike]
    exact this

/-- block m is a map of at most n entries that holds just what l holds -/
def MapL (C : Coding P k e κ α) (w : World) (m n : Nat) (l : List (κ × α)) : Prop := ∃ D, w.ownsMap P k C.R m n D ∧ HasL C D l
theorem MapL.made (C : Coding P k e κ α) (w : World) : MapL C (w.alloc (.map #[] 0)) w.heap.size 0 [] :=
  ⟨_, World.ownsMap_made w P k C.R, ⟨List.nodup_nil, by simp, rfl, fun _ _ => rfl⟩⟩
theorem MapL.is (h : MapL C w m n l) : MapIs C w m n (lk l) := by
  obtain ⟨D, h1, h2⟩ := h
  exact ⟨D, h1, h2.view⟩
theorem MapL.nodup (h : MapL C w m n l) : (l.map (·.1)).Nodup := by obtain ⟨D, h1, h2⟩ := h; exact h2.nodup
theorem MapL.good (h : MapL C w m n l) : ∀ p ∈ l, C.good p.1 := by obtain ⟨D, h1, h2⟩ := h; exact h2.good
theorem MapL.le (h : MapL C w m n l) : l.length ≤ n := by
  obtain ⟨D, h1, h2⟩ := h
  rw [← h2.size]
  exact h1.size_le
theorem MapL.mono {n' : Nat} (h : MapL C w m n l) (hn : n ≤ n') : MapL C w m n' l := by
  obtain ⟨D, h1, h2⟩ := h
  exact ⟨D, h1.mono hn, h2⟩
theorem MapL.perm {j : List (κ × α)} (h : MapL C w m n l) (hp : l.Perm j) : MapL C w m n j := by
  obtain ⟨D, h1, h2⟩ := h
  exact ⟨D, h1, h2.perm hp⟩
theorem MapL.lt (h : MapL C w m n l) : m < w.heap.size := h.is.lt
theorem MapL.block (h : MapL C w m n l) (hb : w'.heap[m]? = w.heap[m]?) : MapL C w' m n l := by
  obtain ⟨D, ⟨es, clock, h1, h2⟩, h3⟩ := h
  exact ⟨D, ⟨es, clock, hb.trans h1, h2⟩, h3⟩
theorem MapL.grown {row : Option Nat} (h : MapL C w m n l) (hg : w.grownBy w' row) (hne : some m ≠ row) : MapL C w' m n l := h.block (hg.block m h.lt hne)
theorem MapL.step (h : MapL C w m n l) (hb : Below w.heap.size w w') : MapL C w' m n l := h.block (hb.block m h.lt)
theorem MapL.fr {E : Nat → Prop} (h : MapL C w m n l) (hf : Fr E w w') (hE : ¬ E m) : MapL C w' m n l := h.block (hf.block m h.lt hE)
theorem MapL.alloc (h : MapL C w m n l) (o : Obj) : MapL C (w.alloc o) m n l := h.step (balloc (Below.refl _ _) o)
theorem MapL.drew (h : MapL C w m n l) : MapL C w.drew m n l := h
theorem MapL.drewN (h : MapL C w m n l) (j : Nat) : MapL C (w.drewN j) m n l := h
theorem MapL.far (h : MapL C w m n l) {p : Addr} (hp : m ≠ p.block) (u : Value) : MapL C (w.setCell p u) m n l := h.block (Below.heap_setCell w p u m hp)
theorem MapL.ne_blk (h : MapL C w m n l) {g : Nat} {t : TypeId} {cs : Array Value} (hg : Blk w g t cs) : m ≠ g := h.is.ne_blk hg
theorem MapL.ne_own (h : MapL C w m n l) {base sz j : Nat} {t : TypeId} {v : Value} {xs : List Value} (hg : w.ownsRow base t sz v j xs) : some m ≠ v.ownBlock := h.is.ne_own hg
theorem MapL.no_cells (h : MapL C w m n l) {t : TypeId} (cs : Array Value) (fr : Nat × Nat) : w.heap[m]? ≠ some (.cells cs t fr) := h.is.no_cells cs fr

theorem MapL.run_store (h : MapL C w m n l) {t : TypeId} (ht : P.underlying t = some (.map k e)) (hn : n < maxLen) {x : κ} (hx : C.good x) (a : α) :
    ∃ w', (Instr.mapUpdate t (.map (some m)) (C.kv x) (C.vv a)).run P w = .ok () w' ∧ MapL C w' m (n + 1) (layL l x a) ∧ w.grownBy w' (some m) := by
  obtain ⟨D, h1, h2⟩ := h
  obtain ⟨w', hrun, r1, r2⟩ := h1.update C.keyed ht hn (C.key x hx) (C.enc a)
  exact ⟨w', hrun, ⟨_, r1, h2.put (h1.tidy C.keyed) hx a⟩, r2⟩
theorem MapL.run_drop (h : MapL C w m n l) {t : TypeId} (ht : P.underlying t = some (.map k e)) {x : κ} (hx : C.good x) (ty : TypeId) :
    ∃ w', (Builtin.delete_ #[t, k] ty #[.map (some m), C.kv x]).run P w = .ok (.tuple #[]) w' ∧ MapL C w' m n (strike l x) ∧ w.grownBy w' (some m) := by
  obtain ⟨D, h1, h2⟩ := h
  obtain ⟨w', hrun, r1, r2⟩ := h1.drop C.keyed ht (C.key x hx) ty
  exact ⟨w', hrun, ⟨_, r1, h2.del (h1.tidy C.keyed) hx⟩, r2.grown⟩
theorem MapL.run_len (h : MapL C w m n l) {t : TypeId} (ht : P.underlying t = some (.map k e)) (ty : TypeId) : (Builtin.len_ #[t] ty #[.map (some m)]).run P w = .ok (.int .i64 (l.length : Nat)) w := by
  obtain ⟨D, h1, h2⟩ := h
  rw [h1.len ht ty, h2.size]

/-- a range over the map is under way; 'rest' is still to come -/
def RangeL (C : Coding P k e κ α) (w : World) (m r n : Nat) (l rest : List (κ × α)) (cnt : Nat) : Prop :=
  ∃ D left, w.ranges P k C.R m r n D left cnt ∧ HasL C D l ∧ (rest.map (·.1)).Nodup ∧ (∀ p ∈ rest, p ∈ l) ∧ ∀ x, C.good x → left (C.kl x) = decide (x ∈ rest.map (·.1))
section
variable {r cnt : Nat} {rest : List (κ × α)}
theorem RangeL.map (h : RangeL C w m r n l rest cnt) : MapL C w m n l := by
  obtain ⟨D, left, h1, h2, _⟩ := h
  exact ⟨D, h1.owns, h2⟩
theorem RangeL.sub (h : RangeL C w m r n l rest cnt) : ∀ p ∈ rest, p ∈ l := by obtain ⟨D, left, h1, h2, h3, h4, _⟩ := h; exact h4
theorem RangeL.keys (h : RangeL C w m r n l rest cnt) : (rest.map (·.1)).Nodup := by obtain ⟨D, left, h1, h2, h3, h4, _⟩ := h; exact h3
theorem RangeL.kept {row : Option Nat} (h : RangeL C w m r n l rest cnt) (hg : w.grownBy w' row) (hm : some m ≠ row) (hr : some r ≠ row) : RangeL C w' m r n l rest cnt := by
  obtain ⟨D, left, h1, h2⟩ := h
  exact ⟨D, left, h1.kept hg hm hr, h2⟩
theorem RangeL.step (h : RangeL C w m r n l rest cnt) (hb : Below w.heap.size w w') : RangeL C w' m r n l rest cnt :=
  h.kept (row := none) ⟨hb.os, hb.tape, hb.output, hb.size, fun i hi _ => hb.block i hi⟩ (by simp) (by simp)
theorem RangeL.left_eq (h : RangeL C w m r n l rest cnt) : w.rangeLeft m r = cnt := by
  obtain ⟨D, left, h1, _⟩ := h
  exact h1.left_eq
theorem RangeL.ne (h : RangeL C w m r n l rest cnt) : r ≠ m := by
  obtain ⟨D, left, h1, _⟩ := h
  exact h1.ne
theorem RangeL.lt (h : RangeL C w m r n l rest cnt) : r < w.heap.size := by
  obtain ⟨D, left, h1, _⟩ := h
  exact h1.lt
theorem HasL.range (h : HasL C D l) : ∀ x, C.good x → Maps.has D (C.kl x) = decide (x ∈ l.map (·.1)) := by
  intro x hx
  rw [(h.view x hx).has, Option.isSome_map]
  rcases e : lk l x with _ | a
  · rw [lk_none] at e
    simp [e]
  · rw [lk_mem h.nodup] at e
    have := List.mem_map_of_mem (f := (·.1)) e
    simp only [Option.isSome_some]
    exact (decide_eq_true this).symm
theorem RangeL.left_step {left : Lit → Bool} (hl : ∀ x, C.good x → left (C.kl x) = decide (x ∈ rest.map (·.1))) {x0 : κ} (h0 : C.good x0) : ∀ x, C.good x → (left (C.kl x) && !(C.kl x).sameKey (C.kl x0)) = decide (x ∈ (strike rest x0).map (·.1)) := by
  intro x hx
  rw [hl x hx, strike_keys]
  by_cases hxx : x = x0
  · subst hxx
    rw [WideAt.sameKey_self (C.lit hx)]
    simp
  · rw [Maps.sameKey_ne (fun e => hxx (C.inj x x0 hx h0 e))]
    simp [hxx]
/-- what comes next -/
theorem RangeL.came {left : Lit → Bool} (h2 : HasL C D l) (hs : ∀ p ∈ rest, p ∈ l) (hl : ∀ x, C.good x → left (C.kl x) = decide (x ∈ rest.map (·.1))) {x : κ} {a : α} {kl : Lit} {y : DataW Unit × List MemPlace}
    (hk : keyOf P k (C.kv x) = some kl) (hgd : C.good x) (hleft : left kl = true) (hv : C.R (C.vv a) = some y) (hat : ∀ zd, D.atKey kl zd = y.1) : kl = C.kl x ∧ (∃ p ∈ rest, p.1 = x ∧ C.vv p.2 = C.vv a) := by
  rw [C.key x hgd] at hk
  cases hk
  rw [hl x hgd, decide_eq_true_eq] at hleft
  obtain ⟨p, hp, rfl⟩ := List.mem_map.1 hleft
  refine ⟨rfl, p, hp, rfl, ?_⟩
  have h3 := h2.view p.1 hgd
  rw [(lk_mem h2.nodup).2 (hs p hp)] at h3
  have h4 := (h3.2 (.map [])).symm.trans (hat _)
  exact (C.dec (C.vv a) p.2 y.2 (by rw [hv, h4])).symm
end
end

section
variable {P : Program} (w : World) {ops : Array Oper} {rest : List Oper} {o : Oper} {a : Act} {Q : Exit → Act → World → Prop} {k e : TypeId} {κ α : Type} [DecidableEq κ]
theorem wpList_storeL (hg : o.guard = none) (m x v : Operand) (t : TypeId) (hop : o.op = Op.mapUpdate t m x v) (C : Coding P k e κ α) (ht : P.underlying t = some (.map k e)) (b n : Nat) (l : List (κ × α))
    (hm : a.eval m = .map (some b)) (h : MapL C w b n l) (hn : n < maxLen) (key : κ) (hx : a.eval x = C.kv key) (hgd : C.good key) (y : α) (hv : a.eval v = C.vv y)
    (hK : ∀ w', MapL C w' b (n + 1) (layL l key y) → w.grownBy w' (some b) → wpList P ops Q rest (a.put o.dst undef) w') : wpList P ops Q (o :: rest) a w := by
  refine wpList_plain hg fun K' hK' => ?_
  obtain ⟨w', hrun, r1, r2⟩ := h.run_store ht hn hgd y
  unfold Oper.wp
  simp [execOp, hop, hm, hx, hv, hrun, Result.andThen]
  exact hK' _ _ (hK w' r1 r2)
theorem wpList_dropL (hg : o.guard = none) (m x : Operand) (t : TypeId) (hop : o.op = Op.call { callee := Callee.builtin Builtin.delete, args := #[m, x], argTypes := #[t, k] }) (C : Coding P k e κ α) (ht : P.underlying t = some (.map k e)) (b n : Nat) (l : List (κ × α))
    (hm : a.eval m = .map (some b)) (h : MapL C w b n l) (key : κ) (hx : a.eval x = C.kv key) (hgd : C.good key)
    (hK : ∀ w', MapL C w' b n (strike l key) → w.grownBy w' (some b) → wpList P ops Q rest (a.put o.dst (.tuple #[])) w') : wpList P ops Q (o :: rest) a w := by
  refine wpList_plain hg fun K' hK' => ?_
  obtain ⟨w', hrun, r1, r2⟩ := h.run_drop ht hgd o.type
  unfold Oper.wp
  simp [execOp, hop, resolve, invoke, builtin, hm, hx, hrun, Result.andThen]
  exact hK' _ _ (hK w' r1 r2)
theorem wpList_lenL (hg : o.guard = none) (m : Operand) (t : TypeId) (hop : o.op = Op.call { callee := Callee.builtin Builtin.len, args := #[m], argTypes := #[t] }) (C : Coding P k e κ α) (ht : P.underlying t = some (.map k e)) (b n : Nat) (l : List (κ × α))
    (hm : a.eval m = .map (some b)) (h : MapL C w b n l) (hK : wpList P ops Q rest (a.put o.dst (.int .i64 (l.length : Nat))) w) : wpList P ops Q (o :: rest) a w := by
  obtain ⟨D, h1, h2⟩ := h
  exact wpList_len_own w hg m t hop k e ht C.R b n D hm h1 (by rw [h2.size]; exact hK)
theorem wpList_rangeL (hg : o.guard = none) (m : Operand) (t : TypeId) (hop : o.op = Op.range t m) (C : Coding P k e κ α) (ht : P.underlying t = some (.map k e)) (b n : Nat) (l : List (κ × α))
    (hm : a.eval m = .map (some b)) (h : MapL C w b n l)
    (hK : ∀ w' cnt, RangeL C w' b w.heap.size n l l cnt → w.grownBy w' none → w'.heap.size = w.heap.size + 1 → wpList P ops Q rest (a.put o.dst (.pointer (some ⟨w.heap.size, 0, none⟩))) w') :
    wpList P ops Q (o :: rest) a w := by
  obtain ⟨D, h1, h2⟩ := h
  exact wpList_range_own w hg m t hop k e C.keyed ht C.R b n D hm h1 fun w' hr hg' hs => hK w' _ ⟨D, _, hr, h2, h2.nodup, fun _ hp => hp, h2.range⟩ hg' hs
theorem wpList_nextL (hg : o.guard = none) (it : Operand) (hop : o.op = Op.next it false) (C : Coding P k e κ α) (F : C.Full) (b r n : Nat) (l left : List (κ × α)) (cnt : Nat)
    (hit : a.eval it = .pointer (some ⟨r, 0, none⟩)) (h : RangeL C w b r n l left cnt)
    (hDone : left = [] → wpList P ops Q rest (a.put o.dst (.tuple #[.bool false])) w)
    (hMore : ∀ (p : κ × α) (w' : World) (cnt' : Nat), p ∈ left → C.good p.1 → RangeL C w' b r n l (strike left p.1) cnt' → cnt' < cnt →
      w.grownBy w' (some r) → w'.heap.size = w.heap.size → (Instr.entry (.pointer (some ⟨r, 0, none⟩))).run P w' = .ok (.tuple #[C.kv p.1, C.vv p.2]) w' → wpList P ops Q rest (a.put o.dst (.tuple #[.bool true, C.kv p.1, C.vv p.2])) w') :
    wpList P ops Q (o :: rest) a w := by
  obtain ⟨D, lf, h1, h2, h3, h4, h5⟩ := h
  refine wpList_next_ranges w hg it hop k C.keyed C.R (fun x : {x // C.good x} => C.kv x.1) C.vv (fun key kl hkey => ?_) F.invV b r n D lf cnt hit h1 (fun _ hl => hDone ?_) (fun x c kl y w' cnt' hkey hlk hv hat hrg hlt hgr hsz hen => ?_)
  · obtain ⟨x, hx, hgd⟩ := F.invK key kl hkey
    exact ⟨⟨x, hgd⟩, hx⟩
  · rcases left with _ | ⟨p, r⟩
    · rfl
    · have := h5 p.1 (h2.good p (h4 p (by simp)))
      rw [hl] at this
      simp at this
  · obtain ⟨rfl, p, hp, hpx, hpv⟩ := RangeL.came h2 h4 h5 hkey x.2 hlk hv hat
    rw [← hpv, ← hpx]
    rw [← hpv, ← hpx] at hen
    refine hMore p w' cnt' hp (hpx ▸ x.2) ⟨D, _, hrg, h2, nodup_strike h3 _, fun q hq => h4 q ((List.mem_filter.1 hq).1), ?_⟩ hlt hgr hsz hen
    rw [← hpx]
    exact RangeL.left_step h5 (hpx ▸ x.2)
/-- 'delete(m, k)' in the round, k the key that came -/
theorem wpList_deleteL (hg : o.guard = none) (m x : Operand) (t : TypeId) (hop : o.op = Op.call { callee := Callee.builtin Builtin.delete, args := #[m, x], argTypes := #[t, k] }) (C : Coding P k e κ α) (ht : P.underlying t = some (.map k e)) (b r n : Nat) (l left : List (κ × α)) (cnt : Nat)
    (hm : a.eval m = .map (some b)) (h : RangeL C w b r n l left cnt) (key : κ) (hx : a.eval x = C.kv key) (hgd : C.good key) (hno : key ∉ left.map (·.1))
    (hK : ∀ w' cnt', RangeL C w' b r n (strike l key) left cnt' → cnt' ≤ cnt → w.grownBy w' (some b) → wpList P ops Q rest (a.put o.dst (.tuple #[])) w') :
    wpList P ops Q (o :: rest) a w := by
  obtain ⟨D, lf, h1, h2, h3, h4, h5⟩ := h
  refine wpList_delete_ranges w hg m x t k hop e C.keyed ht C.R b r n D lf cnt hm h1 (C.kv key) (C.kl key) hx (C.key key hgd) fun w' cnt' hr hle ht' => hK w' cnt' ⟨_, _, hr, h2.del (h1.owns.tidy C.keyed) hgd, h3, fun q hq => ?_, ?_⟩ hle ht'.grown
  · refine List.mem_filter.2 ⟨h4 q hq, ?_⟩
    have : q.1 ≠ key := fun e => hno (e ▸ List.mem_map_of_mem hq)
    simp [this]
  · have := RangeL.left_step (C := C) h5 hgd
    rwa [strike_self hno] at this
end
end Go.Proofs.YtjcelelgebohkaaDoor
