/-
  Rows of the call's own: where they lie, what a store into them or elsewhere leaves. Plain lemmas.
-/
import Derived.Test.YtjcelelgebohkaaDoorCut
namespace Go.Proofs.YtjcelelgebohkaaDoor
open Go.RowKit

theorem row_ne {w0 w : World} {e t : TypeId} {sz n c g : Nat} {A : Option Addr} {xs : List Value} {cs : Array Value} (h : Ow w0 w e sz A n c xs) (hg : Blk w g t cs) (hne : e ≠ t) : some g ≠ (Value.slice A n c).ownBlock := by
  rcases h.1.2 with ⟨hv, _⟩ | ⟨g', cap, cur, hv, _, hh, _⟩
  · rw [hv]; simp [Value.ownBlock]
  · rw [hv]
    intro he
    have : g = g' := by simpa [Value.ownBlock] using he
    subst this
    unfold Blk at hg
    rw [hh] at hg
    injection hg with hg
    injection hg with _ ht
    exact hne ht
/-- a store elsewhere -/
theorem Ow.far {w0 w : World} {sz n c : Nat} {e : TypeId} {A : Option Addr} {xs : List Value} (h : Ow w0 w e sz A n c xs) {p : Addr} (hp : some p.block ≠ (Value.slice A n c).ownBlock) (h0 : w0.heap.size ≤ p.block) (u : Value) : Ow w0 (w.setCell p u) e sz A n c xs := by
  refine ⟨⟨h.1.1, ?_⟩, h.2.setCell h0 u⟩
  rcases h.1.2 with h2 | ⟨g, cap, cur, hv, hg, hh, r⟩
  · exact .inl h2
  · have hne : g ≠ p.block := fun e => hp (by rw [hv]; simp [Value.ownBlock, e])
    exact .inr ⟨g, cap, cur, hv, hg, (Below.heap_setCell w p u g hne).trans hh, r⟩
/-- where a row that is not empty lies -/
theorem Ow.form {w0 w : World} {sz n c : Nat} {e : TypeId} {A : Option Addr} {xs : List Value} (h : Ow w0 w e sz A n c xs) (hn : 0 < n) : ∃ g, A = some ⟨g, 0, none⟩ ∧ w0.heap.size ≤ g ∧ g < w.heap.size := by
  rcases h.1.2 with ⟨hv, h0⟩ | ⟨g, cap, cur, hv, hg, hh, r⟩
  · omega
  · injection hv with h1
    exact ⟨g, h1, hg, (Array.getElem?_eq_some_iff.1 hh).1⟩
/-- a store into it -/
theorem Ow.set_ {w0 w : World} {sz n c g : Nat} {e : TypeId} {xs : List Value} (h : Ow w0 w e sz (some ⟨g, 0, none⟩) n c xs) (j : Nat) (u : Value) : Ow w0 (w.setCell ⟨g, j, none⟩ u) e sz (some ⟨g, 0, none⟩) n c (xs.set j u) :=
  ⟨(h.1.stored j u).1, h.2.setCell (h.1.lt g rfl).1 u⟩
theorem Ow.grown {w0 w w' : World} {sz n c : Nat} {e : TypeId} {A : Option Addr} {xs : List Value} {row : Option Nat} (h : Ow w0 w e sz A n c xs) (hg : w.grownBy w' row) (hne : (Value.slice A n c).ownBlock = none ∨ (Value.slice A n c).ownBlock ≠ row) (h0 : ∀ k, row = some k → w0.heap.size ≤ k) : Ow w0 w' e sz A n c xs :=
  ⟨h.1.kept hg hne, h.2.grown hg h.2.size h0⟩
theorem one_map {α : Type} {f : α → Value} (hf : ∀ x, (f x).oneCell' = true) (l : List α) : ∀ u ∈ l.map f, u.oneCell' = true := by
  intro u hu; obtain ⟨s, _, rfl⟩ := List.mem_map.1 hu; exact hf s
/-- the first append, onto nil -/
theorem wpList_append_first {P : Program} (w : World) {ops : Array Oper} {rest : List Oper} {o : Oper} {a : Act} {Q : Exit → Act → World → Prop} (hgd : o.guard = none) (s x : Operand) (t : TypeId)
    (ho : o.op = .call { callee := .builtin .append, args := #[s, x], argTypes := #[t, t] })
    (w0 : World) (e : TypeId) (i : TypeInfo) (z : Value) (size bytes : Nat) (ht : P.underlying t = some (.slice e)) (hi : P.info? e = some i) (hz : i.zero = some z)
    (hsize : i.size = size) (hby : i.bytes = bytes) (hzs : z.cells.size = size) (hsz : 0 < size)
    (hs : a.eval s = .slice none 0 0) (hb : Below w0.heap.size w0 w)
    (A : Option Addr) (m c : Nat) (news : List Value) (hx : a.eval x = .slice A m c) (hr : Sl w size A m news) (h1 : ∀ u ∈ news, u.oneCell' = true)
    (h63 : m ≤ maxLen) (hbytes : m * bytes ≤ 140737488355328)
    (h : ∀ A' c' w', Ow w0 w' e size A' m c' news → w.grownBy w' none → wpList P ops Q rest (a.put o.dst (.slice A' m c')) w') : wpList P ops Q (o :: rest) a w := by
  refine wpList_append_sl w hgd s x t ho w0 e i z size bytes ht hi hz hsize hby hzs hsz none 0 0 [] hs (Ow.nil_ hb) A m c news hx hr h1 (by omega) (by simpa using hbytes) ?_
  intro A' c' w' hO hg _
  rw [Nat.zero_add, List.nil_append] at hO
  rw [Nat.zero_add]
  exact h A' c' w' hO hg
end Go.Proofs.YtjcelelgebohkaaDoor
