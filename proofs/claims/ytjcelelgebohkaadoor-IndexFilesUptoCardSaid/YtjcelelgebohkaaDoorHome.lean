/-
  Slices that lie in blocks of a home and of one element type; what keeps all blocks of a type. Plain lemmas.
-/
import Derived.Test.YtjcelelgebohkaaDoorFrame
namespace Go.Proofs.YtjcelelgebohkaaDoor
open Go.RowKit

/-- all blocks of element type e are as they were -/
def KeepT (e : TypeId) (w w' : World) : Prop := ∀ (b : Nat) (cs : Array Value) (fr : Nat × Nat), w.heap[b]? = some (.cells cs e fr) → w'.heap[b]? = some (.cells cs e fr)
section
variable {e : TypeId} {a w w' : World}
theorem KeepT.refl (e : TypeId) (w : World) : KeepT e w w := fun _ _ _ h => h
theorem KeepT.trans (h : KeepT e a w) (k : KeepT e w w') : KeepT e a w' := fun b cs fr hb => k b cs fr (h b cs fr hb)
theorem heap_lt {w : World} {b : Nat} {o : Obj} (h : w.heap[b]? = some o) : b < w.heap.size := (Array.getElem?_eq_some_iff.1 h).1
theorem KeepT.of_below (h : Below w.heap.size w w') : KeepT e w w' := fun b _ _ hb => (h.block b (heap_lt hb)).trans hb
theorem KeepT.step (h : KeepT e a w) (hb : Below w.heap.size w w') : KeepT e a w' := h.trans (.of_below hb)
theorem KeepT.drewN (h : KeepT e a w) (n : Nat) : KeepT e a (w.drewN n) := h
theorem KeepT.setCell (h : KeepT e a w) {g : Nat} {t : TypeId} {cs : Array Value} (hg : Blk w g t cs) (ht : t ≠ e) {p : Addr} (hp : p.block = g) (u : Value) : KeepT e a (w.setCell p u) :=
  h.trans fun b cs' fr hb => (Below.heap_setCell w p u b (fun e' => by
    unfold Blk at hg
    rw [e', hp, hg] at hb
    cases hb
    exact ht rfl)).trans hb
theorem KeepT.grown {row : Option Nat} (h : KeepT e a w) (hg : w.grownBy w' row) (hr : ∀ k, row = some k → ∀ (cs : Array Value) (fr : Nat × Nat), w.heap[k]? ≠ some (.cells cs e fr)) : KeepT e a w' :=
  h.trans fun b cs fr hb => (hg.block b (heap_lt hb) (fun e' => hr b e'.symm cs fr hb)).trans hb
end
theorem own_type {w : World} {base sz n : Nat} {e t : TypeId} {v : Value} {xs : List Value} (h : w.ownsRow base e sz v n xs) (ht : e ≠ t) : ∀ k, v.ownBlock = some k → ∀ (cs : Array Value) (fr : Nat × Nat), w.heap[k]? ≠ some (.cells cs t fr) := by
  intro k hk cs fr hb
  rcases h.2 with ⟨hv, _⟩ | ⟨g, cap, cur, hv, _, hh, _⟩
  · rw [hv] at hk; simp [Value.ownBlock] at hk
  · rw [hv] at hk
    have : g = k := by simpa [Value.ownBlock] using hk
    subst this
    rw [hh] at hb
    cases hb
    exact ht rfl

/-- reads as xs, in a block of H whose elements are of type e -/
def SlT (H : Nat → Prop) (e : TypeId) (w : World) (sz : Nat) (A : Option Addr) (n : Nat) (xs : List Value) : Prop :=
  Sl w sz A n xs ∧ (0 < n → ∃ (b off : Nat) (cs : Array Value) (fr : Nat × Nat), A = some ⟨b, off, none⟩ ∧ H b ∧ w.heap[b]? = some (.cells cs e fr))
section
variable {H : Nat → Prop} {e : TypeId} {w w' : World} {sz n : Nat} {A : Option Addr} {xs : List Value}
theorem SlT.sl (h : SlT H e w sz A n xs) : Sl w sz A n xs := h.1
theorem SlT.keep (h : SlT H e w sz A n xs) (hk : KeepT e w w') : SlT H e w' sz A n xs := by
  refine ⟨⟨h.1.1, fun hn => ?_⟩, fun hn => ?_⟩
  · obtain ⟨b, off, cs, fr, rfl, _, hb⟩ := h.2 hn
    obtain ⟨b', off', e', _, hc⟩ := h.1.2 hn
    cases e'
    have hb' := hk b cs fr hb
    exact ⟨b, off, rfl, heap_lt hb', fun k hk' => (World.cell?_of_block (hb'.trans hb.symm)).trans (hc k hk')⟩
  · obtain ⟨b, off, cs, fr, rfl, hH, hb⟩ := h.2 hn
    exact ⟨b, off, cs, fr, rfl, hH, hk b cs fr hb⟩
theorem SlT.step (h : SlT H e w sz A n xs) (hb : Below w.heap.size w w') : SlT H e w' sz A n xs := h.keep (.of_below hb)
theorem SlT.weak {G : Nat → Prop} (h : SlT H e w sz A n xs) (hw : ∀ k, k < w.heap.size → H k → G k) : SlT G e w sz A n xs :=
  ⟨h.1, fun hn => by
    obtain ⟨b, off, cs, fr, rfl, hH, hb⟩ := h.2 hn
    exact ⟨b, off, cs, fr, rfl, hw b (heap_lt hb) hH, hb⟩⟩
theorem SlT.nil_ : SlT H e w sz A 0 [] := ⟨⟨by simp, fun h => absurd h (by omega)⟩, fun h => absurd h (by omega)⟩
/-- what lies apart from all that turns -/
theorem SlT.fr {E : Nat → Prop} (h : SlT H e w sz A n xs) (hf : Fr E w w') (hE : ∀ k, H k → ¬ E k) : SlT H e w' sz A n xs := by
  refine ⟨⟨h.1.1, fun hn => ?_⟩, fun hn => ?_⟩
  · obtain ⟨b, off, cs, fr, rfl, hH, hb⟩ := h.2 hn
    obtain ⟨b', off', e', _, hc⟩ := h.1.2 hn
    cases e'
    have hb' := (hf.block b (heap_lt hb) (hE b hH)).trans hb
    exact ⟨b, off, rfl, heap_lt hb', fun k hk' => (World.cell?_of_block (hb'.trans hb.symm)).trans (hc k hk')⟩
  · obtain ⟨b, off, cs, fr, rfl, hH, hb⟩ := h.2 hn
    exact ⟨b, off, cs, fr, rfl, hH, (hf.block b (heap_lt hb) (hE b hH)).trans hb⟩
/-- a row of one's own -/
theorem Ow.slT {w0 : World} {c : Nat} (h : Ow w0 w e sz A n c xs) : SlT (fun k => w0.heap.size ≤ k ∧ k < w.heap.size) e w sz A n xs := by
  refine ⟨h.sl, fun hn => ?_⟩
  rcases h.1.2 with ⟨_, h0⟩ | ⟨g, cap, cur, hv, hg, hh, _⟩
  · omega
  · injection hv with h1
    exact ⟨g, 0, _, _, h1, ⟨hg, heap_lt hh⟩, hh⟩
end
theorem KeepT.of_fr {e : TypeId} {w w' : World} {E : Nat → Prop} (hf : Fr E w w') (hE : ∀ (k : Nat) (cs : Array Value) (fr : Nat × Nat), E k → w.heap[k]? ≠ some (.cells cs e fr)) : KeepT e w w' :=
  fun b cs fr hb => (hf.block b (heap_lt hb) (fun h => hE b cs fr h hb)).trans hb
theorem Blk.type {w : World} {g : Nat} {t e : TypeId} {cs : Array Value} (h : Blk w g t cs) (ht : t ≠ e) (cs' : Array Value) (fr : Nat × Nat) : w.heap[g]? ≠ some (.cells cs' e fr) := by
  unfold Blk at h
  rw [h]
  intro e'
  cases e'
  exact ht rfl
/-- a home with all that is new -/
def ext (H : Nat → Prop) (w w' : World) : Nat → Prop := fun k => H k ∨ (w.heap.size ≤ k ∧ k < w'.heap.size)
end Go.Proofs.YtjcelelgebohkaaDoor
