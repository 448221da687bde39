/-
  An argument of a bounded bulk: a slice of structs opened as a list, one field of a struct. Plain lemmas.
-/
import Derived.Test.YtkginbfpokbhcaaGreatDoorKitW
import Derived.Test.YtkginbfpokbhcaaGreatDoorRows
namespace Go.Proofs.YtkginbfpokbhcaaGreatDoor
open Go.ChangeShapes Go.WideShapes Go.RowKit Go.Deep

section
variable {H : Type} {enc : TypeId × Value → H} {P : Program} {w : World} {base : Nat} {spare : Nat → Bool} {held : Bool}
theorem bulk_mem {d : DataW H} : ∀ {l : List (DataW H)}, d ∈ l → Rows.uptoBulk d ≤ Rows.uptoBulkAll l
  | [], h => by cases h
  | a :: l, h => by
    rw [Rows.uptoBulkAll]
    rcases List.mem_cons.1 h with rfl | h
    · omega
    · have := bulk_mem h; omega
theorem bulk_pos (d : DataW H) : 1 ≤ Rows.uptoBulk d := by
  cases d with
  | lit l => cases l <;> simp [Rows.uptoBulk]
  | _ => simp [Rows.uptoBulk]
theorem bulk_len : ∀ l : List (DataW H), l.length ≤ Rows.uptoBulkAll l
  | [] => by simp
  | a :: l => by
    have h1 := bulk_len l
    have h2 := bulk_pos a
    rw [Rows.uptoBulkAll, List.length_cons]
    omega
/-- a slice of structs of a bounded bulk, as a list -/
theorem open_rowsB {α : Type} (f : α → List Value) (Good : α → Prop) {fuel sz N : Nat} {t e : TypeId} {v : Value} {x : DataW H × List MemPlace} (ht : P.underlying t = some (.slice e)) (hc : P.cellsOf e = sz) (h0 : 0 < sz)
    (he : ∀ n cs y, DataW.trod enc P w base (fun _ => true) held n e cs = some y → Rows.uptoBulk y.1 ≤ N → ∃ x : α, cs = f x ∧ Good x)
    (h : DataW.trod enc P w base (fun _ => true) held fuel t [v] = some x) (hw : Rows.uptoBulk x.1 ≤ N) :
    ∃ (A : Option Addr) (n c : Nat) (xs : List α), v = .slice A n c ∧ xs.length = n ∧ n ≤ N ∧ (∀ x ∈ xs, Good x ∧ (f x).length = sz) ∧ Sl w sz A n (xs.flatMap f) := by
  rcases open_slice ht h with ⟨hcs, hx⟩ | ⟨a, len, cap, m, n, D, Pl, hcs, hb, hl, hm, hmm, hx, hel⟩
  · obtain rfl : v = .slice none 0 0 := by simpa using hcs
    exact ⟨none, 0, 0, [], rfl, rfl, by omega, by simp, Sl.nil_⟩
  · obtain rfl : v = .slice (some a) len cap := by simpa using hcs
    rw [if_pos rfl] at hmm
    subst hmm
    have hall : ∀ i, i < len → ∃ x : α, w.cells? base (a.add (i * sz)) sz = some (f x) ∧ Good x := by
      intro i hi
      obtain ⟨cs', h1, h2⟩ := hel i (by omega)
      rw [hc] at h1
      obtain ⟨y, rfl, hg⟩ := he n cs' _ h2 (by
        rw [hx, Rows.uptoBulk] at hw
        have h3 := bulk_mem (List.mem_map.2 ⟨i, List.mem_range.2 hi, rfl⟩ : D i ∈ (List.range len).map D)
        show Rows.uptoBulk (D i) ≤ N
        omega)
      exact ⟨y, h1, hg⟩
    obtain ⟨xs, hxl, hxs⟩ := choose_list len hall
    have hsz : ∀ y ∈ xs, Good y ∧ (f y).length = sz := by
      intro y hy
      obtain ⟨i, hi⟩ := List.getElem?_of_mem hy
      obtain ⟨h1, h2⟩ := hxs i y hi
      exact ⟨h2, (World.cells?_some h1).2.1⟩
    have hlN : len ≤ N := by
      rw [hx, Rows.uptoBulk] at hw
      have h3 := bulk_len ((List.range len).map D)
      rw [List.length_map, List.length_range] at h3
      omega
    refine ⟨some a, len, m, xs, rfl, hxl, hlN, hsz, ?_, fun hn => ?_⟩
    · rw [flat_len (fun y hy => (hsz y hy).2), hxl]
    · obtain ⟨y0, hy0⟩ : ∃ y, xs[0]? = some y := ⟨xs[0]'(by omega), List.getElem?_eq_getElem _⟩
      have h00 := (World.cells?_some (hxs 0 y0 hy0).1).2.2 0 h0
      have hfl := (hsz y0 (List.mem_of_getElem? hy0)).2
      rw [Nat.zero_mul, show (a.add 0).add 0 = a by simp [Addr.add], List.getElem?_eq_getElem (by omega)] at h00
      have hsp := addr_plain h00
      obtain ⟨b, off, sp⟩ := a
      subst hsp
      refine ⟨b, off, rfl, World.block_lt_of_cell? _ _ h00, fun k hk => ?_⟩
      have hi : k / sz < len := Nat.div_lt_of_lt_mul (by rw [Nat.mul_comm]; exact hk)
      obtain ⟨y, hy⟩ : ∃ y, xs[k / sz]? = some y := ⟨xs[k / sz]'(by omega), List.getElem?_eq_getElem _⟩
      have h1 := (World.cells?_some (hxs _ y hy).1).2.2 (k % sz) (Nat.mod_lt _ h0)
      have h2 := flat_at (fun y hy => (hsz y hy).2) hy (Nat.mod_lt k h0)
      have e1 : k / sz * sz + k % sz = k := by rw [Nat.mul_comm]; exact Nat.div_add_mod k sz
      rw [e1] at h2
      rw [h2, ← h1, Deep.add_add, e1]
      unfold Addr.add
      split <;> simp_all
/-- one field of a struct -/
theorem fldB {fs : Array Field} {t : TypeId} {fuel k : Nat} {cs : List Value} {x : DataW H × List MemPlace} (ht : P.underlying t = some (.struct fs)) (h : DataW.trod enc P w base spare held fuel t cs = some x) (i : Nat) {f : Field} (hf : fs[i]? = some f) (hk : P.cellsOf f.type = k) :
    ∃ n y, DataW.trod enc P w base spare held n f.type ((cs.drop f.offset).take k) = some y ∧ cs.length = P.cellsOf t ∧ Rows.uptoBulk y.1 ≤ Rows.uptoBulk x.1 := by
  obtain ⟨xs, n, _, rfl, hl, hlen, hg⟩ := DataW.trod_struct ht h
  have hi : i < xs.length := by rw [hlen]; exact (Array.getElem?_eq_some_iff.1 hf).1
  have h1 := hg i f hf
  rw [hk, List.getElem?_eq_getElem hi] at h1
  refine ⟨n, xs[i], h1, hl, ?_⟩
  have h3 := bulk_mem (List.mem_map.2 ⟨xs[i], List.getElem_mem hi, rfl⟩ : (xs[i]).1 ∈ xs.map (·.1))
  simp only [Rows.uptoBulk]
  omega
end
end Go.Proofs.YtkginbfpokbhcaaGreatDoor
