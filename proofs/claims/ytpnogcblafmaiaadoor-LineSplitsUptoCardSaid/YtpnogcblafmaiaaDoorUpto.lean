/-
  From a walk to a tied card of the second form: what the bound on the bulk gives; slices of strings opened with their datum. Plain lemmas.
-/
import Derived.Test.YtpnogcblafmaiaaDoorCard
import Derived.Deep.DeepHandedRow
namespace Go.Proofs.YtpnogcblafmaiaaDoor
open Go.ChangeShapes Go.WideShapes Go.ChangeAt Go.RowKit

section
variable {H : Type}
theorem bulk_one (d : DataW H) : 1 ≤ Rows.uptoBulk d := by
  cases d with
  | lit l => cases l <;> simp [Rows.uptoBulk]
  | nil => simp [Rows.uptoBulk]
  | ptr d => simp [Rows.uptoBulk]
  | slice elems spare => simp [Rows.uptoBulk]
  | agg parts => simp [Rows.uptoBulk]
  | iface t d => simp [Rows.uptoBulk]
  | map entries => simp [Rows.uptoBulk]
  | held h => simp [Rows.uptoBulk]
theorem bulk_length (l : List (DataW H)) : l.length ≤ Rows.uptoBulkAll l := by
  induction l with
  | nil => simp [Rows.uptoBulkAll]
  | cons x r ih => have := bulk_one x; simp only [Rows.uptoBulkAll, List.length_cons]; omega
theorem bulk_slice (elems spare : List (DataW H)) : elems.length + spare.length ≤ Rows.uptoBulk (.slice elems spare) ∧ Rows.uptoBulkAll elems ≤ Rows.uptoBulk (.slice elems spare) := by
  have h1 := bulk_length elems
  have h2 := bulk_length spare
  simp only [Rows.uptoBulk]
  omega
theorem bulk_texts (l : List ByteArray) : (l.map (fun s => s.data.toList)).flatten.length ≤ Rows.uptoBulkAll (Go.ChangeShapes.strs (H := H) l) := by
  induction l with
  | nil => simp
  | cons x r ih =>
    simp only [Go.ChangeShapes.strs, List.map_cons, Rows.uptoBulkAll, Rows.uptoBulk, List.flatten_cons, List.length_append] at ih ⊢
    omega
theorem bulk_two {a b : DataW H} (h : Rows.uptoSmall H ([a, b] ++ []) = true) : Rows.uptoBulk a + Rows.uptoBulk b ≤ 1048576 := by
  have h1 := of_decide_eq_true h
  simp only [List.append_nil, Rows.uptoBulkAll] at h1
  omega
end

section
variable {H : Type} {enc : TypeId × Value → H} {P : Program} {w : World} {base : Nat} {held : Bool}
/-- a slice of strings that came in reads as a list, of so many bytes at the most -/
theorem strings_bulk {fuel : Nat} {t e : TypeId} {v : Value} {x : DataW H × List MemPlace} (ht : P.underlying t = some (.slice e)) (he : P.underlying e = some .string) (hc : P.cellsOf e = 1)
    (h : DataW.trod enc P w base (fun _ => true) held fuel t [v] = some x) : ∃ (A : Option Addr) (n c : Nat) (ss : List (List UInt8)), v = .slice A n c ∧ n ≤ c ∧ Sl w 1 A n (strs ss) ∧ c ≤ Rows.uptoBulk x.1 ∧ ss.flatten.length ≤ Rows.uptoBulk x.1 := by
  rcases open_strings ht he hc h with ⟨hcs, hx⟩ | ⟨a, len, cap, bs, hcs, _, hl, hm, hlen, hx, hcell, _⟩
  · obtain rfl : v = .slice none 0 0 := by simpa using hcs
    exact ⟨none, 0, 0, [], rfl, Nat.le_refl _, Sl.nil_, Nat.zero_le _, Nat.zero_le _⟩
  · obtain rfl : v = .slice (some a) len cap := by simpa using hcs
    rw [if_pos rfl] at hlen
    have hb := bulk_slice (H := H) (Go.ChangeShapes.strs (bs.take len)) (Go.ChangeShapes.strs (bs.drop len))
    refine ⟨some a, len, cap, (bs.take len).map (fun s => s.data.toList), rfl, hl, ⟨?_, fun hn => ?_⟩, ?_, ?_⟩
    · simp; omega
    · have h0 := hcell 0 (by omega)
      rw [show a.add 0 = a from by simp [Addr.add]] at h0
      have hsp := addr_plain h0
      obtain ⟨b, off, sp⟩ := a
      subst hsp
      refine ⟨b, off, rfl, ?_, fun k hk => ?_⟩
      · rcases Nat.lt_or_ge b w.heap.size with hlt | hge
        · exact hlt
        · simp [World.cell?, Array.getElem?_eq_none hge] at h0
      · have hk' : k < len := by omega
        have h1 := hcell k (by omega)
        have e1 : (⟨b, off, none⟩ : Addr).add k = ⟨b, off + k, none⟩ := by unfold Addr.add; split <;> simp_all
        rw [e1] at h1
        rw [h1]
        have hkb : k < bs.length := by omega
        simp [hk', hkb]
    · rw [hx]
      have h1 := hb.1
      simp only [Go.ChangeShapes.strs, List.length_map, List.length_take, List.length_drop] at h1 ⊢
      omega
    · rw [hx]
      exact Nat.le_trans (bulk_texts _) hb.2
end
end Go.Proofs.YtpnogcblafmaiaaDoor
