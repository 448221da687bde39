/-
  A part of a slice: s[l:], s[:h], s[l:h], as the walk takes it. Conditions: the bounds fit.
-/
import Derived.Test.YtjcelelgebohkaaDoorAppend
namespace Go.Proofs.YtjcelelgebohkaaDoor
open Go.RowKit

/-- where a part of a slice begins -/
def cutA (A : Option Addr) (c l sz : Nat) : Option Addr := if c = l then A else A.map (·.add (l * sz))

theorem cutA_blk {A : Option Addr} {c l sz : Nat} {a : Addr} (h : cutA A c l sz = some a) : ∃ a0, A = some a0 ∧ a.block = a0.block := by
  unfold cutA at h
  split at h
  · exact ⟨a, h, rfl⟩
  · cases A with
    | none => simp at h
    | some a0 =>
      simp only [Option.map_some, Option.some.injEq] at h
      refine ⟨a0, rfl, ?_⟩
      rw [← h]; unfold Addr.add; split <;> rfl
theorem Ow.blk {w0 w : World} {e : TypeId} {sz n c : Nat} {A : Option Addr} {xs : List Value} (h : Ow w0 w e sz A n c xs) {a : Addr} (ha : A = some a) : w0.heap.size ≤ a.block := by
  rcases h.1.2 with ⟨hv, _⟩ | ⟨g, cap, cur, hv, hg, _⟩
  · injection hv with h1; rw [h1] at ha; cases ha
  · injection hv with h1; rw [h1] at ha; cases ha; exact hg

/-- block g holds elements of type t -/
def BlkT (w : World) (g : Nat) (t : TypeId) : Prop := ∃ cur fr, w.heap[g]? = some (.cells cur t fr)
theorem BlkT.lt {w : World} {g : Nat} {t : TypeId} (h : BlkT w g t) : g < w.heap.size := by
  obtain ⟨cur, fr, h⟩ := h
  exact (Array.getElem?_eq_some_iff.1 h).1
theorem BlkT.step {w w' : World} {g : Nat} {t : TypeId} (h : BlkT w g t) (hb : Below w.heap.size w w') : BlkT w' g t := by
  have hlt := h.lt
  obtain ⟨cur, fr, h⟩ := h
  exact ⟨cur, fr, (hb.block g hlt).trans h⟩
theorem BlkT.set_ {w : World} {g : Nat} {t : TypeId} (h : BlkT w g t) (p : Addr) (u : Value) : BlkT (w.setCell p u) g t := by
  obtain ⟨cur, fr, h⟩ := h
  by_cases hp : g = p.block
  · subst hp
    unfold BlkT
    simp only [World.setCell, Array.getElem?_modify, h]
    simp
  · exact ⟨cur, fr, (Below.heap_setCell w p u g hp).trans h⟩
theorem BlkT.grown {w w' : World} {g : Nat} {t : TypeId} {row : Option Nat} (h : BlkT w g t) (hg : w.grownBy w' row) (hne : some g ≠ row) : BlkT w' g t := by
  have hlt := h.lt
  obtain ⟨cur, fr, h⟩ := h
  exact ⟨cur, fr, (hg.block g hlt hne).trans h⟩
theorem BlkT.ne_ {w : World} {g g' : Nat} {t t' : TypeId} {cs : Array Value} (h : BlkT w g t) (h' : Blk w g' t' cs) (hne : t ≠ t') : g ≠ g' := by
  rintro rfl
  obtain ⟨cur, fr, h⟩ := h
  unfold Blk at h'
  rw [h] at h'
  injection h' with h'
  injection h' with _ ht
  exact hne ht
theorem BlkT.ne_own {w0 w : World} {g : Nat} {t e : TypeId} {sz n c : Nat} {A : Option Addr} {xs : List Value} (h : BlkT w g t) (ho : Ow w0 w e sz A n c xs) (hne : t ≠ e) : some g ≠ (Value.slice A n c).ownBlock := by
  rcases ho.1.2 with ⟨hv, _⟩ | ⟨g', cap, cur, hv, _, hh, _⟩
  · rw [hv]; simp [Value.ownBlock]
  · rw [hv]
    intro he
    have : g = g' := by simpa [Value.ownBlock] using he
    subst this
    obtain ⟨cur', fr, h⟩ := h
    rw [hh] at h
    injection h with h
    injection h with _ ht
    exact hne ht.symm
theorem Ow.blkT {w0 w : World} {e : TypeId} {sz n c : Nat} {A : Option Addr} {xs : List Value} (h : Ow w0 w e sz A n c xs) {a : Addr} (ha : A = some a) : BlkT w a.block e := by
  rcases h.1.2 with ⟨hv, _⟩ | ⟨g, cap, cur, hv, hg, hh, _⟩
  · injection hv with h1; rw [h1] at ha; cases ha
  · injection hv with h1; rw [h1] at ha; cases ha; exact ⟨cur, _, hh⟩

theorem Sl.cut {w : World} {sz : Nat} {A : Option Addr} {n : Nat} {xs : List Value} (h : Sl w sz A n xs) {l r c : Nat} (hl : l ≤ r) (hr : r ≤ n) (hc : n ≤ c) :
    Sl w sz (cutA A c l sz) (r - l) ((xs.drop (l * sz)).take ((r - l) * sz)) := by
  refine ⟨?_, fun hn => ?_⟩
  · rw [List.length_take, List.length_drop, h.1, ← Nat.sub_mul, Nat.min_eq_left]
    exact Nat.mul_le_mul_right _ (by omega)
  · obtain ⟨b, off, rfl, hb, hcell⟩ := h.2 (by omega)
    refine ⟨b, off + l * sz, ?_, hb, fun k hk => ?_⟩
    · unfold cutA
      rw [if_neg (by omega)]
      simp only [Option.map_some, Addr.add]
      split <;> simp_all
    · have e : l * sz + k < n * sz := by
        have h1 : l * sz + (r - l) * sz = r * sz := by rw [← Nat.add_mul]; congr 1; omega
        have h2 : r * sz ≤ n * sz := Nat.mul_le_mul_right _ hr
        omega
      rw [Nat.add_assoc, hcell _ e, List.getElem?_take_of_lt hk, List.getElem?_drop]

theorem Sl.tail_ {α : Type} {f : α → Value} {w : World} {A : Option Addr} {n : Nat} {l : List α} (h : Sl w 1 A n (l.map f)) {k c : Nat} (hk : k ≤ n) (hc : n ≤ c) : Sl w 1 (cutA A c k 1) (n - k) ((l.drop k).map f) := by
  have hl : l.length = n := by simpa using h.len
  have := h.cut (l := k) (r := n) (c := c) hk (Nat.le_refl _) hc
  rwa [Nat.mul_one, Nat.mul_one, List.take_of_length_le (by simp [hl]), ← List.map_drop] at this
theorem Sl.head_ {α : Type} {f : α → Value} {w : World} {A : Option Addr} {n : Nat} {l : List α} (h : Sl w 1 A n (l.map f)) {k c : Nat} (hk : k ≤ n) (hc : n ≤ c) : Sl w 1 (cutA A c 0 1) k ((l.take k).map f) := by
  have := h.cut (l := 0) (r := k) (c := c) (Nat.zero_le _) hk hc
  simpa using this
theorem Sl.mid_ {α : Type} {f : α → Value} {w : World} {A : Option Addr} {n : Nat} {l : List α} (h : Sl w 1 A n (l.map f)) {j k c : Nat} (hj : j ≤ k) (hk : k ≤ n) (hc : n ≤ c) : Sl w 1 (cutA A c j 1) (k - j) (((l.drop j).take (k - j)).map f) := by
  have := h.cut (l := j) (r := k) (c := c) hj hk hc
  rwa [Nat.mul_one, Nat.mul_one, ← List.map_drop, ← List.map_take] at this

section
variable {P : Program} (w : World) {t e : TypeId} {sz : Nat}
theorem run_cut_lh (ht : P.underlying t = some (.slice e)) (hz : ∀ w, (sizeOf e).run P w = .ok sz w) (A : Option Addr) (n c : Nat) (kl kh : IntKind) (l h : Nat) (h1 : l ≤ h) (h2 : h ≤ c) :
    (Instr.slice t (.slice A n c) (some (.int kl (l : Int))) (some (.int kh (h : Int))) none).run P w = .ok (.slice (cutA A c l sz) (h - l) (c - l)) w := by
  have ht' : P.underlying t = some (.slice (P.elem t)) := by simp [Program.elem, ht]
  have he : P.elem t = e := by simp [Program.elem, ht]
  rw [run_slice_lh w t A n c ht' kl kh (l : Int) (h : Int) (by omega) (by omega) (by omega), he, hz]
  simp [Result.andThen, sliced, cutA]
theorem run_cut_l (ht : P.underlying t = some (.slice e)) (hz : ∀ w, (sizeOf e).run P w = .ok sz w) (A : Option Addr) (n c : Nat) (kl : IntKind) (l : Nat) (h1 : l ≤ n) :
    (Instr.slice t (.slice A n c) (some (.int kl (l : Int))) none none).run P w = .ok (.slice (cutA A c l sz) (n - l) (c - l)) w := by
  have ht' : P.underlying t = some (.slice (P.elem t)) := by simp [Program.elem, ht]
  have he : P.elem t = e := by simp [Program.elem, ht]
  rw [run_slice_l w t A n c ht' kl (l : Int) (by omega) (by omega), he, hz]
  simp [Result.andThen, sliced, cutA]
theorem run_cut_h (ht : P.underlying t = some (.slice e)) (hz : ∀ w, (sizeOf e).run P w = .ok sz w) (A : Option Addr) (n c : Nat) (kh : IntKind) (h : Nat) (h2 : h ≤ c) :
    (Instr.slice t (.slice A n c) none (some (.int kh (h : Int))) none).run P w = .ok (.slice (cutA A c 0 sz) h c) w := by
  have ht' : P.underlying t = some (.slice (P.elem t)) := by simp [Program.elem, ht]
  have he : P.elem t = e := by simp [Program.elem, ht]
  rw [run_slice_h w t A n c ht' kh (h : Int) (by omega) (by omega), he, hz]
  simp [Result.andThen, sliced, cutA]
end
theorem Tryd.sizeU8 (w : World) : (sizeOf 5).run Tryd.prog w = .ok 1 w := by kernel_rfl
theorem Tryd.sizeStr (w : World) : (sizeOf 9).run Tryd.prog w = .ok 1 w := by kernel_rfl
end Go.Proofs.YtjcelelgebohkaaDoor
