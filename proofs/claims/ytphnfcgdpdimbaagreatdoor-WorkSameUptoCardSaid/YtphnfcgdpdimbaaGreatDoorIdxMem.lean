/-
  index: entries as cells and values; the map's coding. Plain lemmas.
-/
import Derived.Test.YtphnfcgdpdimbaaGreatDoorKitW
import Derived.DeepKeys4
namespace Go.Proofs.YtphnfcgdpdimbaaGreatDoor
open Go.RowKit
open IdxLaw (Ent Key zE)

abbrev entV (e : Ent) : Value := .agg #[S e.path, I e.stage, S e.id, I e.size, I e.stamp]
def entC (e : Ent) : List Value := [S e.path, I e.stage, S e.id, I e.size, I e.stamp]
def ents (l : List Ent) : List Value := l.flatMap entC
abbrev keyV (k : Key) : Value := .agg #[S k.1, I k.2]
theorem entC_len (l : List Ent) : ∀ x ∈ l, (entC x).length = 5 := fun _ _ => rfl
theorem ents_len (l : List Ent) : (ents l).length = l.length * 5 := flat_len (entC_len l)
theorem ents_append (l k : List Ent) : ents (l ++ k) = ents l ++ ents k := by simp [ents]
theorem one_ents (l : List Ent) : ∀ u ∈ ents l, u.oneCell' = true := by
  intro u hu
  obtain ⟨c, _, hu⟩ := List.mem_flatMap.1 hu
  simp [entC] at hu
  rcases hu with rfl | rfl | rfl | rfl | rfl <;> rfl
theorem ents_at {l : List Ent} {k j : Nat} {c : Ent} (h : l[k]? = some c) (hj : j < 5) : (ents l)[k * 5 + j]? = (entC c)[j]? := flat_at (entC_len l) h hj
theorem ents_count {w : World} {A : Option Addr} {m : Nat} {l : List Ent} (h : Sl w 5 A m (ents l)) : l.length = m := by have := h.1; rw [ents_len] at this; omega
theorem Sl.ent {w : World} {A : Option Addr} {m k : Nat} {l : List Ent} (h : Sl w 5 A m (ents l)) (hk : k < m) : ∃ b off c, A = some ⟨b, off, none⟩ ∧ b < w.heap.size ∧ l[k]? = some c ∧
    w.cell? ⟨b, off + k * 5, none⟩ = some (S c.path) ∧ w.cell? ⟨b, off + k * 5 + 1, none⟩ = some (I c.stage) ∧ w.cell? ⟨b, off + k * 5 + 2, none⟩ = some (S c.id) ∧ w.cell? ⟨b, off + k * 5 + 3, none⟩ = some (I c.size) ∧ w.cell? ⟨b, off + k * 5 + 4, none⟩ = some (I c.stamp) := by
  obtain ⟨b, off, rfl, hb, hc⟩ := h.2 (by omega)
  have hl := ents_count h
  obtain ⟨x, hx⟩ : ∃ x, l[k]? = some x := ⟨l[k]'(by omega), List.getElem?_eq_getElem _⟩
  refine ⟨b, off, x, rfl, hb, hx, ?_, ?_, ?_, ?_, ?_⟩
  · have := (hc (k * 5 + 0) (by omega)).trans (ents_at hx (by omega : 0 < 5)); simpa [entC] using this
  · have := (hc (k * 5 + 1) (by omega)).trans (ents_at hx (by omega : 1 < 5)); simpa [entC, Nat.add_assoc] using this
  · have := (hc (k * 5 + 2) (by omega)).trans (ents_at hx (by omega : 2 < 5)); simpa [entC, Nat.add_assoc] using this
  · have := (hc (k * 5 + 3) (by omega)).trans (ents_at hx (by omega : 3 < 5)); simpa [entC, Nat.add_assoc] using this
  · have := (hc (k * 5 + 4) (by omega)).trans (ents_at hx (by omega : 4 < 5)); simpa [entC, Nat.add_assoc] using this
theorem sl_ent (w : World) (t : TypeId) (x : Ent) : Sl (w.alloc (.cells #[S x.path, I x.stage, S x.id, I x.size, I x.stamp] t)) 5 (some ⟨w.heap.size, 0, none⟩) 1 (ents [x]) := by
  refine ⟨by simp [ents, entC], fun _ => ⟨_, _, rfl, by simp, fun k hk => ?_⟩⟩
  rw [Nat.zero_add]
  simp [ents, entC]

def goodK (k : Key) : Prop := k.1.length ≤ maxLen ∧ (Lit.int .i64 k.2).wf = true
def litK (k : Key) : Lit := .string (keyBytes [.string k.1, .int .i64 k.2])
theorem Tryz.keyTyped : Tryz.prog.keyType 190 = true := by kernel_rfl
theorem Tryz.keyCells : Tryz.prog.cellsOf 190 = 2 := by kernel_rfl
theorem Tryz.strCells : Tryz.prog.cellsOf 9 = 1 := by kernel_rfl
theorem Tryz.intCells : Tryz.prog.cellsOf 3 = 1 := by kernel_rfl
theorem Tryz.typesSome : Tryz.prog.types.size = (Tryz.prog.types.size - 1) + 1 := by kernel_rfl
theorem keyLits_idx (m : Nat) (a b : Value) : Tryz.prog.keyLits (m + 2) 190 [a, b] = match a, b with
    | .string s, .int .i64 n => if s.size ≤ maxLen ∧ (Lit.int .i64 n).wf = true then some [.string s.data.toList, .int .i64 n] else none
    | _, _ => none := by
  have h9 : ∀ a, Tryz.prog.keyLits (m + 1) 9 [a] = match a with | .string s => if s.size ≤ maxLen then some [.string s.data.toList] else none | _ => none := by
    intro a
    unfold Program.keyLits
    rw [Tryz.underlying9]
    cases a <;> rfl
  have h3 : ∀ a, Tryz.prog.keyLits (m + 1) 3 [a] = match a with | .int .i64 n => if (Lit.int .i64 n).wf = true then some [.int .i64 n] else none | _ => none := by
    intro a
    unfold Program.keyLits
    rw [Tryz.underlying3]
    cases a with
    | int q n => cases q <;> simp
    | _ => rfl
  unfold Program.keyLits
  rw [Tryz.underlying190]
  simp [Tryz.keyCells, Tryz.strCells, Tryz.intCells, h9, h3]
  cases a with
  | string s =>
    cases b with
    | int q n =>
      cases q
      case i64 => by_cases h1 : s.size ≤ maxLen <;> by_cases h2 : (Lit.int .i64 n).wf = true <;> simp [h1, h2]
      all_goals (by_cases h1 : s.size ≤ maxLen <;> simp [h1])
    | _ => by_cases h1 : s.size ≤ maxLen <;> simp [h1]
  | _ => simp
theorem keyOf_agg (cs : Array Value) : keyOf Tryz.prog 190 (.agg cs) = match cs.toList with
    | [.string s, .int .i64 n] => if s.size ≤ maxLen ∧ (Lit.int .i64 n).wf = true then some (litK (s.data.toList, n)) else none
    | _ => none := by
  unfold keyOf
  rw [Tryz.underlying190]
  simp only [Tryz.keyTyped, Bool.true_and, Value.formed, Tryz.underlying190, Tryz.keyCells, Value.cells]
  rw [Tryz.typesSome]
  obtain ⟨l⟩ := cs
  match l with
  | [] => rfl
  | [a] => cases a <;> rfl
  | [a, b] =>
    simp only [List.size_toArray, List.length_cons, List.length_nil, keyLits_idx]
    cases a with
    | string s =>
      cases b with
      | int q n =>
        cases q
        case i64 => by_cases h1 : s.size ≤ maxLen <;> by_cases h2 : (Lit.int .i64 n).wf = true <;> simp [h1, h2, litK]
        all_goals simp
      | _ => simp
    | _ => simp
  | a :: b :: c :: r => 
    simp
theorem keyOf_not {v : Value} (h : ∀ cs, v ≠ .agg cs) : keyOf Tryz.prog 190 v = none := by
  unfold keyOf
  rw [Tryz.underlying190]
  cases v with
  | agg cs => exact absurd rfl (h cs)
  | _ => simp [Value.formed, Tryz.underlying190]
theorem keyOf_mk {k : Key} (h : goodK k) : keyOf Tryz.prog 190 (keyV k) = some (litK k) := by
  rw [keyOf_agg]
  show (if (⟨k.1.toArray⟩ : ByteArray).size ≤ maxLen ∧ (Lit.int .i64 k.2).wf = true then some (litK ((⟨k.1.toArray⟩ : ByteArray).data.toList, k.2)) else none) = _
  rw [if_pos ⟨by rw [size_mk]; exact h.1, h.2⟩]
theorem keyOf_inv {v : Value} {l : Lit} (h : keyOf Tryz.prog 190 v = some l) : ∃ k, v = keyV k ∧ goodK k := by
  by_cases hv : ∃ cs, v = .agg cs
  · obtain ⟨cs, rfl⟩ := hv
    rw [keyOf_agg] at h
    split at h
    · rename_i s n hcs
      split at h
      · rename_i hg
        obtain ⟨p, rfl⟩ := str_of s
        refine ⟨(p, n), ?_, by rw [size_mk] at hg; exact hg⟩
        rw [keyV, ← Array.toArray_toList (xs := cs), hcs]
      · cases h
    · cases h
  · rw [keyOf_not (fun cs e => hv ⟨cs, e⟩)] at h
    cases h
theorem Tryz.keyedIdx : Maps.Keyed Tryz.prog 190 :=
  Maps.Keyed.of_law (deep_law_laid Tryz.laidOut (m := 3) (by decide) (of_decide_eq_true (by kernel_rfl)) (by kernel_rfl) (by kernel_rfl))
/-- how an entry reads -/
def rdE : Value → Option (DataW Unit × List MemPlace)
  | .agg cs => match cs.toList with
    | [.string a, .int .i64 b, .string c, .int .i64 d, .int .i64 e] => some (.agg [.lit (.string a.data.toList), .lit (.int .i64 b), .lit (.string c.data.toList), .lit (.int .i64 d), .lit (.int .i64 e)], [])
    | _ => none
  | _ => none
/-- map[key]Entry -/
def idxC : Coding Tryz.prog 190 40 Key Ent where
  kv := keyV
  kl := litK
  vv := entV
  vd e := .agg [.lit (.string e.path), .lit (.int .i64 e.stage), .lit (.string e.id), .lit (.int .i64 e.size), .lit (.int .i64 e.stamp)]
  R := rdE
  good := goodK
  keyed := Tryz.keyedIdx
  key _ h := keyOf_mk h
  inj x y hx hy h := by
    have h1 := keyOf_mk hx
    have h2 := keyOf_mk hy
    rw [h] at h1
    have h3 := Tryz.keyedIdx.inj h1 h2
    simp [keyV] at h3
    exact Prod.ext h3.1 h3.2
  enc _ := rfl
  dec v a ps h := by
    unfold rdE at h
    split at h
    · split at h
      · rename_i cs _ x y z u q hcs
        obtain ⟨p, st, id, sz, sp⟩ := a
        simp only [Option.some.injEq, Prod.mk.injEq, DataW.agg.injEq, List.cons.injEq, DataW.lit.injEq, Lit.string.injEq, Lit.int.injEq, and_true, true_and] at h
        obtain ⟨h1, h2, h3, h4, h5⟩ := h.1
        rw [← Array.toArray_toList (xs := cs), hcs]
        simp only [entV, ← h1, ← h3, h2, h4, h5]
      · cases h
    · cases h
theorem idxC_full : idxC.Full where
  invK v l h := keyOf_inv h
  invV v y h := by
    change rdE v = some y at h
    unfold rdE at h
    split at h
    · split at h
      · rename_i cs _ x y z u q hcs
        obtain ⟨x, rfl⟩ := str_of x
        obtain ⟨z, rfl⟩ := str_of z
        exact ⟨⟨x, y, z, u, q⟩, by show _ = entV _; rw [← Array.toArray_toList (xs := cs), hcs]⟩
      · cases h
    · cases h
/-- entries by their keys -/
def kd (l : List Ent) : List (Key × Ent) := l.map (fun e => (e.key, e))
theorem kd_keys (l : List Ent) : (kd l).map (·.1) = l.map Ent.key := by simp [kd]
theorem kd_filter (l : List Ent) (f : Key → Bool) : (kd l).filter (fun p => f p.1) = kd (l.filter (fun e => f e.key)) := by
  unfold kd
  rw [List.filter_map]
  rfl
theorem kd_strike (l : List Ent) (k : Key) : strike (kd l) k = kd (l.filter (fun e => !decide (e.key = k))) := kd_filter l (fun x => !decide (x = k))
theorem lk_kd (l : List Ent) (k : Key) : lk (kd l) k = IdxLaw.find l k := by
  unfold lk kd IdxLaw.find
  rw [List.find?_map, Option.map_map]
  show Option.map id _ = _
  rw [Option.map_id]
  rfl
theorem kd_snd (l : List Ent) : (kd l).map (·.2) = l := by
  unfold kd
  rw [List.map_map]
  exact List.map_id l
end Go.Proofs.YtphnfcgdpdimbaaGreatDoor
