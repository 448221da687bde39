/-
  A slice of structs of the call's own, sorted by the library: between the sort's words and a row's. Plain lemmas.
-/
import Derived.Test.YtkginbfpokbhcaaGreatDoorKitW
import Derived.Shelf.SlSortCmp.NoneTotal
import Derived.Sort.OwnSorted
namespace Go.Proofs.YtkginbfpokbhcaaGreatDoor
open Go.RowKit Go.Sort Go.Shelf

theorem flatK_eq {α : Type} [Inhabited α] {enc : α → List Value} {k : Nat} (hk : ∀ x, (enc x).length = k) (d : Array α) : flatK enc k d = (d.toList.flatMap enc).toArray := by
  have hlen : (d.toList.flatMap enc).length = d.size * k := by rw [flat_len (sz := k) (fun x _ => hk x)]; simp
  refine ext_get! (by simp [hlen]) fun t ht => ?_
  have ht' : t < d.size * k := by simpa using ht
  have hk0 : 0 < k := by
    rcases Nat.eq_zero_or_pos k with h | h
    · subst h; simp at ht'
    · exact h
  have hd : t / k < d.size := Nat.div_lt_of_lt_mul (by rw [Nat.mul_comm]; exact ht')
  rw [get_flatK _ _ _ t ht']
  have h1 := flat_at (f := enc) (sz := k) (xs := d.toList) (i := t / k) (j := t % k) (x := d[t / k]) (fun x _ => hk x) (by rw [Array.getElem?_toList]; exact Array.getElem?_eq_getElem hd) (Nat.mod_lt _ hk0)
  rw [Nat.mul_comm, Nat.div_add_mod] at h1
  have hj : t % k < (enc d[t / k]).length := by rw [hk]; exact Nat.mod_lt _ hk0
  rw [getElem!_pos d (t / k) hd, getElem!_pos _ (t % k) hj, getElem!_pos _ t (by rw [List.size_toArray, hlen]; exact ht')]
  rw [List.getElem?_eq_getElem (by rw [hlen]; exact ht'), List.getElem?_eq_getElem hj] at h1
  simpa using (Option.some.inj h1).symm

theorem holds_own {w : World} {g : Nat} {cur : Array Value} {e : TypeId} {vs : List Value} (hb : w.heap[g]? = some (.cells cur e (0, 0))) (ht : cur.toList.take vs.length = vs) : Holds id w g 0 vs.toArray := by
  intro j hj
  have hj' : j < vs.length := by simpa using hj
  refine ⟨?_, by simp [World.frozen?, hb]⟩
  have h1 : (cur.toList.take vs.length)[j]? = vs[j]? := by rw [ht]
  rw [List.getElem?_take_of_lt hj'] at h1
  simp only [World.cell?, hb, Nat.zero_add]
  simp only [Option.isSome_none, Bool.false_eq_true, if_false]
  rw [← Array.getElem?_toList, h1]
  simp [hj']
theorem heap_put {w : World} {g n : Nat} {os : Array Obj} {cur : Array Value} {e : TypeId} {fr : Nat × Nat} (d : Array Value) (hb : w.heap[g]? = some (.cells cur e fr)) :
    (grow (putRow id (Sort.ahead w n) g 0 d) os).heap[g]? = some (.cells (putCells id 0 d cur) e fr) := by
  have hg : g < w.heap.size := (Array.getElem?_eq_some_iff.1 hb).1
  rw [heap_grow_old _ _ (by simpa using hg)]
  simp [putRow, mapBlock, Sort.ahead, Array.getElem?_modify, hb, onCells]
theorem grown_put {w : World} {g n : Nat} {os : Array Obj} (d : Array Value) : w.grownBy (grow (putRow id (Sort.ahead w n) g 0 d) os) (some g) := by
  refine ⟨rfl, rfl, rfl, by simp, fun k hk hne => ?_⟩
  rw [heap_grow_old _ _ (by simpa using hk)]
  have : g ≠ k := fun e => hne (by rw [e])
  simp [putRow, mapBlock, Sort.ahead, Array.getElem?_modify, this]
theorem take_put (cur : Array Value) (ts : List Value) (h : ts.length ≤ cur.size) : (putCells id 0 ts.toArray cur).toList.take ts.length = ts := by
  apply List.ext_getElem?
  intro j
  by_cases hj : j < ts.length
  · rw [List.getElem?_take_of_lt hj, Array.getElem?_toList]
    simp [putCells, hj, show j < cur.size by omega]
  · rw [List.getElem?_take_eq_none (by omega), List.getElem?_eq_none (by omega)]
/-- behind the sort the same slice owns the sorted list -/
theorem own_put {w : World} {base g cap n sz m : Nat} {e : TypeId} {os : Array Obj} {vs ts : List Value} (h : w.ownsRow base e sz (.slice (some ⟨g, 0, none⟩) n cap) n vs) (hl : ts.length = vs.length) :
    (grow (putRow id (Sort.ahead w m) g 0 ts.toArray) os).ownsRow base e sz (.slice (some ⟨g, 0, none⟩) n cap) n ts := by
  rcases h.2 with ⟨hv, _⟩ | ⟨g', cap', cur, hv, hbase, hb, h1, h2, h3, h4⟩
  · cases hv
  · cases hv
    refine ⟨hl.trans h.1, .inr ⟨g, cap, _, rfl, hbase, heap_put _ hb, h1, h2, by simp [putCells, h3], ?_⟩⟩
    have hts : ts.length = n * sz := hl.trans h.1
    rw [← hts]
    refine take_put cur ts ?_
    rw [h3, hts]
    exact Nat.mul_le_mul_right _ h1
end Go.Proofs.YtkginbfpokbhcaaGreatDoor
