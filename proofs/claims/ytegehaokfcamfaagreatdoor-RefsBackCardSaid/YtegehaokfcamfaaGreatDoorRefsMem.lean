/-
  refs: changes and transactions as cells; the maps' codings. Plain lemmas.
-/
import Derived.Test.YtegehaokfcamfaaGreatDoorRefsVal
import Derived.Test.YtegehaokfcamfaaGreatDoorKitZ
namespace Go.Proofs.YtegehaokfcamfaaGreatDoor
open Go.RowKit
open RefsLaw (named okc Val Chg Txn there rightV zv)

abbrev chV (c : Chg) : Value := .agg #[S c.ref, S c.old.id, S c.old.name, S c.new.id, S c.new.name]
def chC (c : Chg) : List Value := [S c.ref, S c.old.id, S c.old.name, S c.new.id, S c.new.name]
def chs (l : List Chg) : List Value := l.flatMap chC
abbrev txV (who text : List UInt8) (stamp : Int) (A : Option Addr) (n c : Nat) : Value := .agg #[S who, S text, I stamp, .slice A n c]
theorem chC_len (l : List Chg) : ∀ x ∈ l, (chC x).length = 5 := fun _ _ => rfl
theorem chs_len (l : List Chg) : (chs l).length = l.length * 5 := flat_len (chC_len l)
theorem chs_append (l k : List Chg) : chs (l ++ k) = chs l ++ chs k := by simp [chs]
theorem one_chs (l : List Chg) : ∀ u ∈ chs l, u.oneCell' = true := by
  intro u hu
  obtain ⟨c, _, hu⟩ := List.mem_flatMap.1 hu
  simp [chC] at hu
  rcases hu with rfl | rfl | rfl | rfl | rfl <;> rfl
theorem chs_at {l : List Chg} {k j : Nat} {c : Chg} (h : l[k]? = some c) (hj : j < 5) : (chs l)[k * 5 + j]? = (chC c)[j]? := flat_at (chC_len l) h hj
theorem chs_count {w : World} {A : Option Addr} {m : Nat} {l : List Chg} (h : Sl w 5 A m (chs l)) : l.length = m := by have := h.1; rw [chs_len] at this; omega
theorem Sl.chg {w : World} {A : Option Addr} {m k : Nat} {l : List Chg} (h : Sl w 5 A m (chs l)) (hk : k < m) : ∃ b off c, A = some ⟨b, off, none⟩ ∧ b < w.heap.size ∧ l[k]? = some c ∧
    w.cell? ⟨b, off + k * 5, none⟩ = some (S c.ref) ∧ w.cell? ⟨b, off + k * 5 + 1, none⟩ = some (S c.old.id) ∧ w.cell? ⟨b, off + k * 5 + 2, none⟩ = some (S c.old.name) ∧ w.cell? ⟨b, off + k * 5 + 3, none⟩ = some (S c.new.id) ∧ w.cell? ⟨b, off + k * 5 + 4, none⟩ = some (S c.new.name) := by
  obtain ⟨b, off, rfl, hb, hc⟩ := h.2 (by omega)
  have hl := chs_count h
  obtain ⟨x, hx⟩ : ∃ x, l[k]? = some x := ⟨l[k]'(by omega), List.getElem?_eq_getElem _⟩
  refine ⟨b, off, x, rfl, hb, hx, ?_, ?_, ?_, ?_, ?_⟩
  · have := (hc (k * 5 + 0) (by omega)).trans (chs_at hx (by omega : 0 < 5)); simpa [chC] using this
  · have := (hc (k * 5 + 1) (by omega)).trans (chs_at hx (by omega : 1 < 5)); simpa [chC, Nat.add_assoc] using this
  · have := (hc (k * 5 + 2) (by omega)).trans (chs_at hx (by omega : 2 < 5)); simpa [chC, Nat.add_assoc] using this
  · have := (hc (k * 5 + 3) (by omega)).trans (chs_at hx (by omega : 3 < 5)); simpa [chC, Nat.add_assoc] using this
  · have := (hc (k * 5 + 4) (by omega)).trans (chs_at hx (by omega : 4 < 5)); simpa [chC, Nat.add_assoc] using this

/-- how an int reads -/
def rdI : Value → Option (DataW Unit × List MemPlace)
  | .int .i64 n => some (.lit (.int .i64 n), [])
  | _ => none
theorem lit_inj {a b : List UInt8} (h : Lit.string a = Lit.string b) : a = b := by injection h
/-- map[string]int -/
def seenC : Coding Tryz.prog 9 3 (List UInt8) Int where
  kv := S
  kl := Lit.string
  vv := I
  vd n := .lit (.int .i64 n)
  R := rdI
  good s := s.length ≤ maxLen
  keyed := Maps.string_keyed Tryz.underlying9
  key s h := by
    have := WideMaps.keyOf_string_mk (P := Tryz.prog) Tryz.underlying9 (s := ⟨s.toArray⟩) (by rw [size_mk]; exact h)
    simpa using this
  inj _ _ _ _ h := lit_inj h
  enc _ := rfl
  dec v a ps h := by
    unfold rdI at h
    split at h
    · simp only [Option.some.injEq, Prod.mk.injEq, DataW.lit.injEq, Lit.int.injEq, true_and] at h
      rw [h.1]
    · cases h
/-- how a value of two strings reads -/
def rdV : Value → Option (DataW Unit × List MemPlace)
  | .agg cs => match cs.toList with
    | [.string a, .string b] => some (.agg [.lit (.string a.data.toList), .lit (.string b.data.toList)], [])
    | _ => none
  | _ => none
/-- map[string]refs.Value -/
def refsC : Coding Tryz.prog 9 43 (List UInt8) Val where
  kv := S
  kl := Lit.string
  vv := vV
  vd v := .agg [.lit (.string v.id), .lit (.string v.name)]
  R := rdV
  good s := s.length ≤ maxLen
  keyed := Maps.string_keyed Tryz.underlying9
  key s h := by
    have := WideMaps.keyOf_string_mk (P := Tryz.prog) Tryz.underlying9 (s := ⟨s.toArray⟩) (by rw [size_mk]; exact h)
    simpa using this
  inj _ _ _ _ h := lit_inj h
  enc _ := rfl
  dec v a ps h := by
    unfold rdV at h
    split at h
    · split at h
      · rename_i cs _ x y hcs
        obtain ⟨id, name⟩ := a
        simp only [Option.some.injEq, Prod.mk.injEq, DataW.agg.injEq, List.cons.injEq, DataW.lit.injEq, Lit.string.injEq, and_true] at h
        obtain ⟨⟨h1, h2⟩, _⟩ := h
        obtain rfl : cs = #[.string x, .string y] := by rw [← Array.toArray_toList (xs := cs), hcs]
        simp only [vV, ← h1, ← h2]
      · cases h
    · cases h
end Go.Proofs.YtegehaokfcamfaaGreatDoor
