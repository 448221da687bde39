/-
  map[string]string as a function; the first id of each path, as a map. Plain lemmas.
-/
import Derived.Test.YtkginbfpokbhcaaGreatDoorKitW
import Derived.Test.YtkginbfpokbhcaaGreatDoorDiffLaw
namespace Go.Proofs.YtkginbfpokbhcaaGreatDoor
open Go.RowKit

def rdS : Value → Option (DataW Unit × List MemPlace)
  | .string s => some (.lit (.string s.data.toList), [])
  | _ => none
/-- map[string]string -/
def mssC : Coding Tryz.prog 9 9 (List UInt8) (List UInt8) where
  kv := S
  kl := Lit.string
  vv := S
  vd s := .lit (.string s)
  R := rdS
  good s := s.length ≤ maxLen
  keyed := Maps.string_keyed Tryz.underlying9
  key s h := by
    have := WideMaps.keyOf_string_mk (P := Tryz.prog) Tryz.underlying9 (s := ⟨s.toArray⟩) (by rw [size_mk]; exact h)
    simpa using this
  inj _ _ _ _ h := by injection h
  enc s := by simp [rdS]
  dec v a ps h := by
    unfold rdS at h
    split at h
    · rename_i s
      simp only [Option.some.injEq, Prod.mk.injEq, DataW.lit.injEq, Lit.string.injEq] at h
      rw [← h.1]
    · cases h
theorem Tryz.zeroS (w : World) : (zeroValue 9).run Tryz.prog w = .ok (mssC.vv []) w := by kernel_rfl
theorem lk_snoc {κ α : Type} [DecidableEq κ] (l : List (κ × α)) (p : κ × α) (x : κ) : lk (l ++ [p]) x = match lk l x with
    | some v => some v
    | none => if p.1 = x then some p.2 else none := by
  induction l with
  | nil => simp [lk]
  | cons q r ih =>
    rw [List.cons_append, lk_cons, lk_cons, ih]
    by_cases h : q.1 = x
    · rw [if_pos h, if_pos h]
    · rw [if_neg h, if_neg h]
theorem lk_met {κ α : Type} [DecidableEq κ] {l : List (κ × α)} {k : Nat} {p : κ × α} (h : l[k]? = some p) (hm : (lk (l.take k) p.1).isSome = true) : lk (l.take (k + 1)) = lk (l.take k) := by
  funext x
  rw [List.take_add_one, h]
  show lk (l.take k ++ [p]) x = _
  rw [lk_snoc]
  by_cases e : p.1 = x
  · subst e
    obtain ⟨v, hv⟩ := Option.isSome_iff_exists.1 hm
    rw [hv]
  · rw [if_neg e]
    cases lk (l.take k) x <;> rfl
theorem lk_new {κ α : Type} [DecidableEq κ] {l : List (κ × α)} {k : Nat} {p : κ × α} (h : l[k]? = some p) (hm : (lk (l.take k) p.1).isSome = false) : lk (l.take (k + 1)) = upd (lk (l.take k)) p.1 (some p.2) := by
  funext x
  rw [List.take_add_one, h]
  show lk (l.take k ++ [p]) x = _
  rw [lk_snoc]
  unfold upd
  by_cases e : x = p.1
  · subst e
    have hn : lk (l.take k) p.1 = none := by simpa using hm
    rw [hn, if_pos rfl]
  · rw [if_neg e, if_neg (fun h => e h.symm)]
    cases lk (l.take k) x <;> rfl
theorem fid_lk (l : List (List UInt8 × List UInt8)) (p : List UInt8) : (lk l p).getD [] = DiffLaw.fid l p := by
  induction l with
  | nil => rfl
  | cons f r ih =>
    rw [lk_cons, DiffLaw.fid]
    by_cases h : f.1 = p
    · rw [if_pos h, if_pos h]; rfl
    · rw [if_neg h, if_neg h, ih]
end Go.Proofs.YtkginbfpokbhcaaGreatDoor
