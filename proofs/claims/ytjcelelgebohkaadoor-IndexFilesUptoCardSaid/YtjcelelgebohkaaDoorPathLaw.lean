/-
  Plain law of paths: their parts between slashes, which may be a path, what is under what. No program in sight, no condition.
-/
import Derived.Lib.Split
import Derived.Lib.IndexMore
import Derived.Lib.SplitLaws
namespace Go.Proofs.YtjcelelgebohkaaDoor
namespace PathLaw
abbrev Bs := List UInt8
/-- the parts of a text between slashes -/
def pc : Bs → List Bs
  | [] => [[]]
  | x :: b => if x = 47 then [] :: pc b else match pc b with
    | [] => [[x]]
    | y :: r => (x :: y) :: r
theorem pc_ne (s : Bs) : pc s ≠ [] := by
  cases s with
  | nil => simp [pc]
  | cons x b =>
    unfold pc
    split
    · simp
    · split <;> simp
theorem pc_len : ∀ s : Bs, (pc s).length ≤ s.length + 1
  | [] => by simp [pc]
  | x :: b => by
    have ih := pc_len b
    unfold pc
    split
    · simp; omega
    · split
      · simp
      · rename_i y r h; rw [h] at ih; simp at ih ⊢; omega
theorem pc_index : ∀ (s : Bs), (Lib.indexByte s 47 = -1 → pc s = [s]) ∧ ∀ i : Nat, Lib.indexByte s 47 = i → pc s = s.take i :: pc (s.drop (i + 1))
  | [] => ⟨fun _ => by simp [pc], fun i h => by simp [Lib.indexByte] at h⟩
  | x :: b => by
    obtain ⟨h1, h2⟩ := pc_index b
    have hge := Lib.indexByte_ge b 47
    by_cases hx : x = 47
    · have e : Lib.indexByte (x :: b) 47 = 0 := by simp [Lib.indexByte, hx]
      refine ⟨fun h => by omega, fun i h => ?_⟩
      obtain rfl : i = 0 := by omega
      conv => lhs; unfold pc
      simp [hx]
    · have e : Lib.indexByte (x :: b) 47 = if Lib.indexByte b 47 == -1 then -1 else Lib.indexByte b 47 + 1 := by
        conv => lhs; unfold Lib.indexByte
        simp [hx]
      by_cases hb : Lib.indexByte b 47 = -1
      · rw [hb] at e
        simp at e
        refine ⟨fun _ => ?_, fun i h => by omega⟩
        conv => lhs; unfold pc
        rw [if_neg hx, h1 hb]
      · rw [if_neg (by simpa using hb)] at e
        refine ⟨fun h => by omega, fun i h => ?_⟩
        obtain ⟨k, rfl⟩ : ∃ k, i = k + 1 := ⟨i - 1, by omega⟩
        conv => lhs; unfold pc
        rw [if_neg hx, h2 k (by omega)]
        simp
theorem split_pc : ∀ (k : Nat) (s : Bs), Lib.count s [47] = k → Lib.splitK [47] 0 k s = pc s
  | 0, s, h => by
    rw [Lib.splitK]
    have hi := Lib.index_one s 47
    by_cases hm : Lib.index s [47] = -1
    · exact ((pc_index s).1 (hi ▸ hm)).symm
    · have hge := Lib.index_ge s [47]
      have := Lib.count_hit (s := s) (sub := [47]) (i := (Lib.index s [47]).toNat) (by simp) (by omega)
      omega
  | k + 1, s, h => by
    have hi := Lib.index_one s 47
    have hm : Lib.index s [47] ≠ -1 := fun hm => by have := Lib.count_miss hm; omega
    have hge := Lib.index_ge s [47]
    obtain ⟨i, hii⟩ : ∃ i : Nat, Lib.index s [47] = i := ⟨(Lib.index s [47]).toNat, by omega⟩
    have hc := Lib.count_hit (s := s) (sub := [47]) (i := i) (by simp) hii
    rw [Lib.splitK, if_neg (by simpa using hm), hii, (pc_index s).2 i (hi ▸ hii)]
    simp only [Int.toNat_natCast, List.length_singleton, Nat.add_zero]
    rw [split_pc k _ (by simp only [List.length_singleton] at hc; omega)]

/-- may a name within a tree be? -/
def part (s : Bs) : Bool := decide (1 ≤ s.length) && (decide (s.length ≤ 100) && (decide (Lib.indexByte s 47 < 0) && (decide (Lib.indexByte s 0 < 0) && (!decide (s = [46]) && !decide (s = [46, 46])))))
/-- may a path be? -/
def named (s : Bs) : Bool := (pc s).all part && (decide ((pc s).length ≤ 16) && decide (s.length ≤ 150))
/-- is a path under a directory? -/
def under (p d : Bs) : Bool := (d ++ [47]).isPrefixOf p
theorem under_iff {p d : Bs} : under p d = true ↔ ∃ r, p = d ++ 47 :: r := by
  unfold under
  rw [List.isPrefixOf_iff_prefix]
  constructor
  · rintro ⟨r, h⟩
    exact ⟨r, by rw [← h]; simp⟩
  · rintro ⟨r, rfl⟩
    exact ⟨r, by simp⟩
theorem under_irrefl (p : Bs) : under p p = false := by
  rw [← Bool.not_eq_true, under_iff]
  rintro ⟨r, h⟩
  have := congrArg List.length h
  simp at this
theorem under_trans {a b c : Bs} (h : under a b = true) (k : under b c = true) : under a c = true := by
  rw [under_iff] at *
  obtain ⟨r, rfl⟩ := h
  obtain ⟨q, rfl⟩ := k
  exact ⟨q ++ 47 :: r, by simp⟩
theorem under_len {a b : Bs} (h : under a b = true) : b.length < a.length := by
  rw [under_iff] at h
  obtain ⟨r, rfl⟩ := h
  simp
end PathLaw
end Go.Proofs.YtjcelelgebohkaaDoor
