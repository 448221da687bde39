/-
  Words for renames (from, to, a score), in memory; map[int]Rename as a function. Plain lemmas.
-/
import Derived.Test.YtkginbfpokbhcaaGreatDoorKitW
namespace Go.Proofs.YtkginbfpokbhcaaGreatDoor
open Go.RowKit

abbrev Ren := List UInt8 × List UInt8 × Int
def rnC (x : Ren) : List Value := [S x.1, S x.2.1, I x.2.2]
def rns (l : List Ren) : List Value := l.flatMap rnC
theorem rnC_len (l : List Ren) : ∀ x ∈ l, (rnC x).length = 3 := fun _ _ => rfl
theorem rns_len (l : List Ren) : (rns l).length = l.length * 3 := flat_len (rnC_len l)
theorem rns_append (l k : List Ren) : rns (l ++ k) = rns l ++ rns k := by simp [rns]
theorem one_rns (l : List Ren) : ∀ u ∈ rns l, u.oneCell' = true := by
  intro u hu
  obtain ⟨c, _, hu⟩ := List.mem_flatMap.1 hu
  simp [rnC] at hu
  rcases hu with rfl | rfl | rfl <;> rfl
theorem rns_at {l : List Ren} {k j : Nat} {c : Ren} (h : l[k]? = some c) (hj : j < 3) : (rns l)[k * 3 + j]? = (rnC c)[j]? := flat_at (rnC_len l) h hj
theorem rns_count {w : World} {A : Option Addr} {m : Nat} {l : List Ren} (h : Sl w 3 A m (rns l)) : l.length = m := by have := h.1; rw [rns_len] at this; omega
theorem Sl.rn {w : World} {A : Option Addr} {m k : Nat} {l : List Ren} (h : Sl w 3 A m (rns l)) (hk : k < m) : ∃ b off x, A = some ⟨b, off, none⟩ ∧ b < w.heap.size ∧ l[k]? = some x ∧
    w.cell? ⟨b, off + k * 3, none⟩ = some (S x.1) ∧
    w.cell? ⟨b, off + k * 3 + 1, none⟩ = some (S x.2.1) ∧
    w.cell? ⟨b, off + k * 3 + 2, none⟩ = some (I x.2.2) := by
  obtain ⟨b, off, rfl, hb, hc⟩ := h.2 (by omega)
  have hl := rns_count h
  obtain ⟨x, hx⟩ : ∃ x, l[k]? = some x := ⟨l[k]'(by omega), List.getElem?_eq_getElem _⟩
  refine ⟨b, off, x, rfl, hb, hx, ?_, ?_, ?_⟩
  · have := (hc (k * 3 + 0) (by omega)).trans (rns_at hx (by omega : 0 < 3)); simpa [rnC] using this
  · have := (hc (k * 3 + 1) (by omega)).trans (rns_at hx (by omega : 1 < 3)); simpa [rnC, Nat.add_assoc] using this
  · have := (hc (k * 3 + 2) (by omega)).trans (rns_at hx (by omega : 2 < 3)); simpa [rnC, Nat.add_assoc] using this
theorem sl_rn (w : World) (t : TypeId) (x : Ren) : Sl (w.alloc (.cells #[S x.1, S x.2.1, I x.2.2] t)) 3 (some ⟨w.heap.size, 0, none⟩) 1 (rns [x]) := by
  refine ⟨by simp [rns, rnC], fun _ => ⟨_, _, rfl, by simp, fun k hk => ?_⟩⟩
  rw [Nat.zero_add]
  simp [rns, rnC]
theorem Tryz.infoRen : (Tryz.prog.info? 70).map (fun i => (i.zero, i.size, i.bytes)) = some (some (.agg #[.string ⟨#[]⟩, .string ⟨#[]⟩, .int .i64 0]), 3, 40) := by kernel_rfl
def rnV (x : Ren) : Value := .agg #[S x.1, S x.2.1, I x.2.2]
def rdR : Value → Option (DataW Unit × List MemPlace)
  | .agg cs => match cs.toList with
    | [.string a, .string b, .int .i64 n] => some (.agg [.lit (.string a.data.toList), .lit (.string b.data.toList), .lit (.int .i64 n)], [])
    | _ => none
  | _ => none
/-- map[int]Rename -/
def pairC : Coding Tryz.prog 3 70 Int Ren where
  kv := I
  kl := Lit.int .i64
  vv := rnV
  vd x := .agg [.lit (.string x.1), .lit (.string x.2.1), .lit (.int .i64 x.2.2)]
  R := rdR
  good z := (Lit.int .i64 z).wf = true
  keyed := Maps.int_keyed Tryz.underlying3
  key z h := Maps.keyOf_int_mk Tryz.underlying3 h
  inj _ _ _ _ h := by injection h
  enc x := by simp [rdR, rnV]
  dec v x ps h := by
    unfold rdR at h
    split at h
    · split at h
      · rename_i cs _ a b n hcs
        simp only [Option.some.injEq, Prod.mk.injEq, DataW.agg.injEq, List.cons.injEq, DataW.lit.injEq, Lit.string.injEq, Lit.int.injEq, true_and, and_true] at h
        obtain ⟨⟨h1, h2, h3⟩, _⟩ := h
        obtain ⟨x1, x2, x3⟩ := x
        simp only at h1 h2 h3
        subst h1 h2 h3
        show _ = rnV _
        unfold rnV
        rw [← Array.toArray_toList (xs := cs), hcs]
      · cases h
    · cases h
theorem Tryz.zeroRen (w : World) : (zeroValue 70).run Tryz.prog w = .ok (pairC.vv ([], [], 0)) w := by kernel_rfl
theorem small_good (k : Nat) (h : k ≤ 1000000000) : pairC.good (k : Int) := by
  show (Lit.int .i64 (k : Int)).wf = true
  simp only [Lit.wf, Bool.and_eq_true, decide_eq_true_eq]
  exact ⟨Int.le_trans (show IntKind.i64.min ≤ 0 by decide) (by omega), Int.le_trans (b := 1000000000) (by omega) (by decide)⟩
end Go.Proofs.YtkginbfpokbhcaaGreatDoor
