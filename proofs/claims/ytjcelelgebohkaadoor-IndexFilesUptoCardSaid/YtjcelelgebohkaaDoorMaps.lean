/-
  A map in memory as a function from keys to what is there: look-ups, stores, deletions, for keys and values of any coding. Plain laws; conditions: the coding's own.
-/
import Derived.Test.YtjcelelgebohkaaDoorFrame
import Derived.Maps.OwnSet
import Derived.Maps.OwnOps
namespace Go.Proofs.YtjcelelgebohkaaDoor
open Go.RowKit

/-- how keys and values stand in a map of key type k and element type e -/
structure Coding (P : Program) (k e : TypeId) (κ α : Type) where
  kv : κ → Value
  kl : κ → Lit
  vv : α → Value
  vd : α → DataW Unit
  R : Value → Option (DataW Unit × List MemPlace)
  good : κ → Prop
  keyed : Maps.Keyed P k
  key : ∀ x, good x → keyOf P k (kv x) = some (kl x)
  inj : ∀ x y, good x → good y → kl x = kl y → x = y
  enc : ∀ a, R (vv a) = some (vd a, [])
  dec : ∀ v a ps, R v = some (vd a, ps) → v = vv a

def View (D : DataW Unit) (l : Lit) : Option (DataW Unit) → Prop
  | none => Maps.has D l = false
  | some d => Maps.has D l = true ∧ ∀ z, D.atKey l z = d

/-- block m is a map of at most n entries that holds just what f says -/
def MapIs {P : Program} {k e : TypeId} {κ α : Type} (C : Coding P k e κ α) (w : World) (m n : Nat) (f : κ → Option α) : Prop :=
  ∃ D, w.ownsMap P k C.R m n D ∧ ∀ x, C.good x → View D (C.kl x) ((f x).map C.vd)

def upd {κ α : Type} [DecidableEq κ] (f : κ → Option α) (x : κ) (o : Option α) : κ → Option α := fun y => if y = x then o else f y

section
variable {P : Program} {k e : TypeId} {κ α : Type} {C : Coding P k e κ α} {w w' : World} {m n : Nat} {f : κ → Option α}

theorem MapIs.made (C : Coding P k e κ α) (w : World) : MapIs C (w.alloc (.map #[] 0)) w.heap.size 0 (fun _ => none) :=
  ⟨_, World.ownsMap_made w P k C.R, fun _ _ => rfl⟩
theorem MapIs.mono (h : MapIs C w m n f) {n' : Nat} (hn : n ≤ n') : MapIs C w m n' f := by
  obtain ⟨D, h1, h2⟩ := h
  exact ⟨D, h1.mono hn, h2⟩
theorem MapIs.lt (h : MapIs C w m n f) : m < w.heap.size := by
  obtain ⟨D, h1, _⟩ := h
  exact h1.lt
theorem MapIs.block (h : MapIs C w m n f) (hb : w'.heap[m]? = w.heap[m]?) : MapIs C w' m n f := by
  obtain ⟨D, ⟨es, clock, h1, h2⟩, h3⟩ := h
  exact ⟨D, ⟨es, clock, hb.trans h1, h2⟩, h3⟩
theorem MapIs.grown {row : Option Nat} (h : MapIs C w m n f) (hg : w.grownBy w' row) (hne : some m ≠ row) : MapIs C w' m n f := h.block (hg.block m h.lt hne)
theorem MapIs.step (h : MapIs C w m n f) (hb : Below w.heap.size w w') : MapIs C w' m n f := h.block (hb.block m h.lt)
theorem MapIs.fr {E : Nat → Prop} (h : MapIs C w m n f) (hf : Fr E w w') (hE : ¬ E m) : MapIs C w' m n f := h.block (hf.block m h.lt hE)
theorem MapIs.alloc (h : MapIs C w m n f) (o : Obj) : MapIs C (w.alloc o) m n f := h.step (balloc (Below.refl _ _) o)
theorem MapIs.drew (h : MapIs C w m n f) : MapIs C w.drew m n f := h
theorem MapIs.drewN (h : MapIs C w m n f) (j : Nat) : MapIs C (w.drewN j) m n f := h
theorem MapIs.far (h : MapIs C w m n f) {p : Addr} (hp : m ≠ p.block) (u : Value) : MapIs C (w.setCell p u) m n f := h.block (Below.heap_setCell w p u m hp)
/-- a map is no row of cells -/
theorem MapIs.ne_blk (h : MapIs C w m n f) {g : Nat} {t : TypeId} {cs : Array Value} (hg : Blk w g t cs) : m ≠ g := by
  rintro rfl
  obtain ⟨D, ⟨es, clock, h1, _⟩, _⟩ := h
  unfold Blk at hg
  rw [h1] at hg
  cases hg
theorem MapIs.no_cells (h : MapIs C w m n f) {t : TypeId} (cs : Array Value) (fr : Nat × Nat) : w.heap[m]? ≠ some (.cells cs t fr) := by
  obtain ⟨D, ⟨es, clock, h1, _⟩, _⟩ := h
  rw [h1]
  intro e'
  cases e'
theorem MapIs.ne_own (h : MapIs C w m n f) {base sz j : Nat} {t : TypeId} {v : Value} {xs : List Value} (hg : w.ownsRow base t sz v j xs) : some m ≠ v.ownBlock := by
  rcases hg.2 with ⟨hv, _⟩ | ⟨g', cap, cur, hv, _, hh, _⟩
  · rw [hv]; simp [Value.ownBlock]
  · rw [hv]
    intro he
    have : m = g' := by simpa [Value.ownBlock] using he
    subst this
    obtain ⟨D, ⟨es, clock, h1, _⟩, _⟩ := h
    rw [h1] at hh
    cases hh

theorem MapIs.run_look (h : MapIs C w m n f) {t : TypeId} (ht : P.underlying t = some (.map k e)) {a0 : α} (hz : (zeroValue e).run P w = .ok (C.vv a0) w) {x : κ} (hx : C.good x) :
    (Instr.lookup t (.map (some m)) (C.kv x) false).run P w = .ok (C.vv ((f x).getD a0)) w := by
  obtain ⟨D, h1, h2⟩ := h
  have h3 := h2 x hx
  obtain ⟨v, ps, hrun, hv⟩ := h1.lookup C.keyed ht hz (C.enc a0) (C.key x hx)
  rw [hrun]
  rcases hf : f x with _ | a
  · rw [hf] at h3
    rw [Maps.atKey_of_not_has h3] at hv
    rw [C.dec v a0 ps hv]
    rfl
  · rw [hf] at h3
    rw [h3.2] at hv
    rw [C.dec v a ps hv]
    rfl
theorem MapIs.run_look_ok (h : MapIs C w m n f) {t : TypeId} (ht : P.underlying t = some (.map k e)) {a0 : α} (hz : (zeroValue e).run P w = .ok (C.vv a0) w) {x : κ} (hx : C.good x) :
    (Instr.lookup t (.map (some m)) (C.kv x) true).run P w = .ok (.tuple #[C.vv ((f x).getD a0), .bool (f x).isSome]) w := by
  obtain ⟨D, h1, h2⟩ := h
  have h3 := h2 x hx
  obtain ⟨v, ps, hrun, hv⟩ := h1.look_ok C.keyed ht hz (C.enc a0) (C.key x hx)
  rw [hrun]
  rcases hf : f x with _ | a
  · rw [hf] at h3
    rw [Maps.atKey_of_not_has h3] at hv
    rw [C.dec v a0 ps hv, show Maps.has D (C.kl x) = false from h3]
    rfl
  · rw [hf] at h3
    rw [h3.2] at hv
    rw [C.dec v a ps hv, h3.1]
    rfl
theorem Coding.lit (C : Coding P k e κ α) {x : κ} (hx : C.good x) : WideAt.IsKeyLit (C.kl x) := C.keyed.one.key ⟨C.kv x, C.key x hx⟩
variable [DecidableEq κ]
theorem view_put {D : DataW Unit} (hD : Maps.IsMap D) {x y : κ} {a : α} (hx : C.good x) (hy : C.good y) (hlit : WideAt.IsKeyLit (C.kl x)) (h : View D (C.kl y) ((f y).map C.vd)) : View (D.put (C.kl x) (C.vd a)) (C.kl y) ((upd f x (some a) y).map C.vd) := by
  unfold upd
  by_cases hxy : y = x
  · subst hxy
    rw [if_pos rfl]
    exact ⟨Maps.has_put_same hD hlit _, fun z => Maps.atKey_put_same hD hlit _ z⟩
  · rw [if_neg hxy]
    have hne : C.kl y ≠ C.kl x := fun e => hxy (C.inj y x hy hx e)
    rcases hf : f y with _ | b
    · rw [hf] at h
      exact (Maps.has_put_other hne _).trans h
    · rw [hf] at h
      exact ⟨(Maps.has_put_other hne _).trans h.1, fun z => (Maps.atKey_put_other hne _ z).trans (h.2 z)⟩
theorem view_del {D : DataW Unit} {x y : κ} (hx : C.good x) (hy : C.good y) (h : View D (C.kl y) ((f y).map C.vd)) : View (D.del (C.kl x)) (C.kl y) ((upd f x none y).map C.vd) := by
  unfold upd
  by_cases hxy : y = x
  · subst hxy
    rw [if_pos rfl]
    exact Maps.has_del_same
  · rw [if_neg hxy]
    have hne : C.kl y ≠ C.kl x := fun e => hxy (C.inj y x hy hx e)
    rcases hf : f y with _ | b
    · rw [hf] at h
      exact (Maps.has_del_other hne).trans h
    · rw [hf] at h
      exact ⟨(Maps.has_del_other hne).trans h.1, fun z => (Maps.atKey_del_other hne z).trans (h.2 z)⟩

theorem MapIs.run_store (h : MapIs C w m n f) {t : TypeId} (ht : P.underlying t = some (.map k e)) (hn : n < maxLen) {x : κ} (hx : C.good x) (a : α) :
    ∃ w', (Instr.mapUpdate t (.map (some m)) (C.kv x) (C.vv a)).run P w = .ok () w' ∧ MapIs C w' m (n + 1) (upd f x (some a)) ∧ w.grownBy w' (some m) := by
  obtain ⟨D, h1, h2⟩ := h
  obtain ⟨w', hrun, r1, r2⟩ := h1.update C.keyed ht hn (C.key x hx) (C.enc a)
  exact ⟨w', hrun, ⟨_, r1, fun y hy => view_put h1.isMap hx hy (C.lit hx) (h2 y hy)⟩, r2⟩
theorem MapIs.run_drop (h : MapIs C w m n f) {t : TypeId} (ht : P.underlying t = some (.map k e)) {x : κ} (hx : C.good x) (ty : TypeId) :
    ∃ w', (Builtin.delete_ #[t, k] ty #[.map (some m), C.kv x]).run P w = .ok (.tuple #[]) w' ∧ MapIs C w' m n (upd f x none) ∧ w.grownBy w' (some m) := by
  obtain ⟨D, h1, h2⟩ := h
  obtain ⟨w', hrun, r1, r2⟩ := h1.drop C.keyed ht (C.key x hx) ty
  exact ⟨w', hrun, ⟨_, r1, fun y hy => view_del hx hy (h2 y hy)⟩, r2.grown⟩
end

section
variable {P : Program} (w : World) {ops : Array Oper} {rest : List Oper} {o : Oper} {a : Act} {Q : Exit → Act → World → Prop} {k e : TypeId} {κ α : Type}
theorem wpList_look (hg : o.guard = none) (m x : Operand) (t : TypeId) (hop : o.op = Op.lookup t m x false) (C : Coding P k e κ α) (ht : P.underlying t = some (.map k e)) (a0 : α) (hz : (zeroValue e).run P w = .ok (C.vv a0) w) (b n : Nat) (f : κ → Option α)
    (hm : a.eval m = .map (some b)) (h : MapIs C w b n f) (key : κ) (hx : a.eval x = C.kv key) (hgd : C.good key) (hK : wpList P ops Q rest (a.put o.dst (C.vv ((f key).getD a0))) w) : wpList P ops Q (o :: rest) a w := by
  refine wpList_plain hg fun K' hK' => ?_
  have hrun := h.run_look ht hz hgd
  unfold Oper.wp
  simp [execOp, hop, hm, hx, hrun, Result.andThen]
  exact hK' _ _ hK
theorem wpList_look_ok (hg : o.guard = none) (m x : Operand) (t : TypeId) (hop : o.op = Op.lookup t m x true) (C : Coding P k e κ α) (ht : P.underlying t = some (.map k e)) (a0 : α) (hz : (zeroValue e).run P w = .ok (C.vv a0) w) (b n : Nat) (f : κ → Option α)
    (hm : a.eval m = .map (some b)) (h : MapIs C w b n f) (key : κ) (hx : a.eval x = C.kv key) (hgd : C.good key) (hK : wpList P ops Q rest (a.put o.dst (.tuple #[C.vv ((f key).getD a0), .bool (f key).isSome])) w) : wpList P ops Q (o :: rest) a w := by
  refine wpList_plain hg fun K' hK' => ?_
  have hrun := h.run_look_ok ht hz hgd
  unfold Oper.wp
  simp [execOp, hop, hm, hx, hrun, Result.andThen]
  exact hK' _ _ hK
variable [DecidableEq κ]
theorem wpList_store (hg : o.guard = none) (m x v : Operand) (t : TypeId) (hop : o.op = Op.mapUpdate t m x v) (C : Coding P k e κ α) (ht : P.underlying t = some (.map k e)) (b n : Nat) (f : κ → Option α)
    (hm : a.eval m = .map (some b)) (h : MapIs C w b n f) (hn : n < maxLen) (key : κ) (hx : a.eval x = C.kv key) (hgd : C.good key) (y : α) (hv : a.eval v = C.vv y)
    (hK : ∀ w', MapIs C w' b (n + 1) (upd f key (some y)) → w.grownBy w' (some b) → wpList P ops Q rest (a.put o.dst undef) w') : wpList P ops Q (o :: rest) a w := by
  refine wpList_plain hg fun K' hK' => ?_
  obtain ⟨w', hrun, r1, r2⟩ := h.run_store ht hn hgd y
  unfold Oper.wp
  simp [execOp, hop, hm, hx, hv, hrun, Result.andThen]
  exact hK' _ _ (hK w' r1 r2)
theorem wpList_drop (hg : o.guard = none) (m x : Operand) (t : TypeId) (hop : o.op = Op.call { callee := Callee.builtin Builtin.delete, args := #[m, x], argTypes := #[t, k] }) (C : Coding P k e κ α) (ht : P.underlying t = some (.map k e)) (b n : Nat) (f : κ → Option α)
    (hm : a.eval m = .map (some b)) (h : MapIs C w b n f) (key : κ) (hx : a.eval x = C.kv key) (hgd : C.good key)
    (hK : ∀ w', MapIs C w' b n (upd f key none) → w.grownBy w' (some b) → wpList P ops Q rest (a.put o.dst (.tuple #[])) w') : wpList P ops Q (o :: rest) a w := by
  refine wpList_plain hg fun K' hK' => ?_
  obtain ⟨w', hrun, r1, r2⟩ := h.run_drop ht hgd o.type
  unfold Oper.wp
  simp [execOp, hop, resolve, invoke, builtin, hm, hx, hrun, Result.andThen]
  exact hK' _ _ (hK w' r1 r2)
end
end Go.Proofs.YtjcelelgebohkaaDoor
