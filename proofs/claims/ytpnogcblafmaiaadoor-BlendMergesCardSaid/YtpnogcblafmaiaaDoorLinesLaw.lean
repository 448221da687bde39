/-
  Plain law: the lines of bytes, and what strings.SplitAfter at a line feed gives. No program in sight.
-/
import Derived.Lib.Split
import Derived.Lib.SplitLaws
import Derived.Lib.Join
namespace Go.Proofs.YtpnogcblafmaiaaDoor
namespace LinesLaw
abbrev Bs := List UInt8

/-- bytes' lines -/
def lns : Bs → List Bs
  | [] => []
  | x :: b => if x = 10 then [x] :: lns b else match lns b with
    | [] => [[x]]
    | l :: ls => (x :: l) :: ls
/-- what SplitAfter gives -/
def sa : Bs → List Bs
  | [] => [[]]
  | x :: b => if x = 10 then [x] :: sa b else match sa b with
    | [] => [[x]]
    | l :: ls => (x :: l) :: ls
theorem sa_ne (s : Bs) : sa s ≠ [] := by
  cases s with
  | nil => simp [sa]
  | cons x b =>
    unfold sa
    split
    · simp
    · split <;> simp
theorem lns_nil {s : Bs} (h : lns s = []) : s = [] := by
  cases s with
  | nil => rfl
  | cons x b =>
    unfold lns at h
    split at h
    · cases h
    · split at h <;> cases h
/-- does nothing follow the last line feed? -/
def closedB (s : Bs) : Bool := s.isEmpty || s.getLast? == some 10
theorem sa_lns : ∀ s : Bs, sa s = lns s ++ (if closedB s = true then [[]] else [])
  | [] => by simp [sa, lns, closedB]
  | x :: b => by
    have ih := sa_lns b
    unfold sa lns
    by_cases hx : x = 10
    · rw [if_pos hx, if_pos hx, ih, List.cons_append]
      subst hx
      congr 2
      cases b with
      | nil => simp [closedB]
      | cons y b => simp [closedB]
    · rw [if_neg hx, if_neg hx]
      cases hb : b with
      | nil => simp [sa, lns, closedB, hx]
      | cons y b' =>
        rw [← hb]
        have hne : lns b ≠ [] := fun h => by have := lns_nil h; rw [hb] at this; cases this
        have hc : closedB (x :: b) = closedB b := by rw [hb]; simp [closedB]
        cases hl : lns b with
        | nil => exact absurd hl hne
        | cons l ls =>
          rw [hl] at ih
          rw [ih, hc]
          rfl
theorem lns_mem : ∀ (s l : Bs), l ∈ lns s → l ≠ []
  | [], _, h => by simp [lns] at h
  | x :: b, l, h => by
    unfold lns at h
    split at h
    · rcases List.mem_cons.1 h with rfl | h
      · simp
      · exact lns_mem b l h
    · split at h
      · simp at h; subst h; simp
      · rename_i l' ls hl
        rcases List.mem_cons.1 h with rfl | h
        · simp
        · exact lns_mem b l (by rw [hl]; simp [h])
/-- THERE AND BACK -/
theorem lns_flat : ∀ s : Bs, (lns s).flatten = s
  | [] => by simp [lns]
  | x :: b => by
    have ih := lns_flat b
    unfold lns
    split
    · simp [ih]
    · split
      · rename_i h; have := lns_nil h; subst this; simp
      · rename_i l ls h; rw [h] at ih; simp at ih; simp [← ih]
theorem lns_line : ∀ (p r : Bs), (10 : UInt8) ∉ p → lns (p ++ 10 :: r) = (p ++ [10]) :: lns r
  | [], r, _ => by simp [lns]
  | x :: p, r, h => by
    have hx : x ≠ 10 := fun e => h (by simp [e])
    rw [List.cons_append]
    conv => lhs; unfold lns
    rw [if_neg hx, lns_line p r (fun h' => h (by simp [h']))]
    rfl
theorem lns_last : ∀ (p : Bs) (x : UInt8), (10 : UInt8) ∉ p → lns (p ++ [x]) = [p ++ [x]]
  | [], x, _ => by by_cases h : x = 10 <;> simp [lns, h]
  | y :: p, x, h => by
    have hy : y ≠ 10 := fun e => h (by simp [e])
    rw [List.cons_append]
    unfold lns
    rw [if_neg hy, lns_last p x (fun h' => h (by simp [h']))]
theorem lns_len : ∀ s : Bs, (lns s).length ≤ s.length
  | [] => by simp [lns]
  | x :: b => by
    have ih := lns_len b
    unfold lns
    split
    · simp; omega
    · split
      · simp
      · rename_i l ls h; rw [h] at ih; simp at ih ⊢; omega
theorem sa_len (s : Bs) : (sa s).length ≤ s.length + 1 := by
  rw [sa_lns, List.length_append]
  have := lns_len s
  split <;> simp <;> omega

theorem sa_index : ∀ (s : Bs), (Lib.indexByte s 10 = -1 → sa s = [s]) ∧ ∀ i : Nat, Lib.indexByte s 10 = i → sa s = s.take (i + 1) :: sa (s.drop (i + 1))
  | [] => ⟨fun _ => by simp [sa], fun i h => by simp [Lib.indexByte] at h⟩
  | x :: b => by
    obtain ⟨h1, h2⟩ := sa_index b
    have hge := Lib.indexByte_ge b 10
    by_cases hx : x = 10
    · have e : Lib.indexByte (x :: b) 10 = 0 := by simp [Lib.indexByte, hx]
      refine ⟨fun h => by omega, fun i h => ?_⟩
      obtain rfl : i = 0 := by omega
      conv => lhs; unfold sa
      simp [hx]
    · have e : Lib.indexByte (x :: b) 10 = if Lib.indexByte b 10 == -1 then -1 else Lib.indexByte b 10 + 1 := by
        conv => lhs; unfold Lib.indexByte
        simp [hx]
      by_cases hb : Lib.indexByte b 10 = -1
      · rw [hb] at e
        simp at e
        refine ⟨fun _ => ?_, fun i h => by omega⟩
        conv => lhs; unfold sa
        rw [if_neg hx, h1 hb]
      · rw [if_neg (by simpa using hb)] at e
        refine ⟨fun h => by omega, fun i h => ?_⟩
        obtain ⟨k, rfl⟩ : ∃ k, i = k + 1 := ⟨i - 1, by omega⟩
        conv => lhs; unfold sa
        rw [if_neg hx, h2 k (by omega)]
        simp
theorem split_sa : ∀ (k : Nat) (s : Bs), Lib.count s [10] = k → Lib.splitK [10] 1 k s = sa s
  | 0, s, h => by
    rw [Lib.splitK]
    have hi := Lib.index_one s 10
    by_cases hm : Lib.index s [10] = -1
    · exact ((sa_index s).1 (hi ▸ hm)).symm
    · have hge := Lib.index_ge s [10]
      have := Lib.count_hit (s := s) (sub := [10]) (i := (Lib.index s [10]).toNat) (by simp) (by omega)
      omega
  | k + 1, s, h => by
    have hi := Lib.index_one s 10
    have hm : Lib.index s [10] ≠ -1 := fun hm => by have := Lib.count_miss hm; omega
    have hge := Lib.index_ge s [10]
    obtain ⟨i, hii⟩ : ∃ i : Nat, Lib.index s [10] = i := ⟨(Lib.index s [10]).toNat, by omega⟩
    have hc := Lib.count_hit (s := s) (sub := [10]) (i := i) (by simp) hii
    rw [Lib.splitK, if_neg (by simpa using hm), hii, (sa_index s).2 i (hi ▸ hii)]
    simp only [Int.toNat_natCast, List.length_singleton]
    rw [split_sa k _ (by simp only [List.length_singleton] at hc; omega)]
end LinesLaw
end Go.Proofs.YtpnogcblafmaiaaDoor
