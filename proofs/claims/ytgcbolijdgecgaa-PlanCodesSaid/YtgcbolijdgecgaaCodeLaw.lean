/-
  Numbers as bytes, in plain Lean: putNum, takeNum, and that what was put is taken. No condition, no program.
-/
import Derived.Test.YtgcbolijdgecgaaBase
namespace Go.Proofs.Ytgcbolijdgecgaa

/-- 2^62 -/
def top62 : Nat := 4611686018427387904

/-- a number's bytes -/
def putNum (n : Nat) : List UInt8 :=
  if _h : n < 128 then [UInt8.ofNat n] else UInt8.ofNat (128 + n % 128) :: putNum (n / 128)
termination_by n
decreasing_by omega

theorem putNum_lt {n : Nat} (h : n < 128) : putNum n = [UInt8.ofNat n] := by rw [putNum, dif_pos h]
theorem putNum_ge {n : Nat} (h : 128 ≤ n) : putNum n = UInt8.ofNat (128 + n % 128) :: putNum (n / 128) := by rw [putNum, dif_neg (by omega)]

/-- what is clamped first -/
def clamp62 (n : Int) : Nat := if n < 0 then 0 else if 4611686018427387903 < n then 4611686018427387903 else n.toNat

/-- a number out of bytes, from its k-th group on, acc being what the groups before it made -/
def takeGo (k acc : Nat) : List UInt8 → Option (Nat × List UInt8)
  | [] => none
  | c :: r => if k = 9 then none else if c = 0 ∧ 0 < k then none else
      if c < 128 then (if acc + (c.toNat % 128) * 128 ^ k < top62 then some (acc + (c.toNat % 128) * 128 ^ k, r) else none)
      else takeGo (k + 1) (acc + (c.toNat % 128) * 128 ^ k) r

def takeNum (b : List UInt8) : Option (Nat × List UInt8) := takeGo 0 0 b

theorem toNat_ofNat_lt {n : Nat} (h : n < 256) : (UInt8.ofNat n).toNat = n := by simp; omega

theorem putNum_len_pos (n : Nat) : 0 < (putNum n).length := by
  unfold putNum; split <;> simp

theorem putNum_low : ∀ (m : Nat), 128 ≤ m → 128 ^ ((putNum m).length - 1) ≤ m := by
  intro m
  induction m using Nat.strongRecOn with
  | ind m ih =>
    intro h
    rw [putNum_ge h]
    by_cases h2 : 128 ≤ m / 128
    · have := ih (m / 128) (by omega) h2
      have hp := putNum_len_pos (m / 128)
      simp only [List.length_cons, Nat.add_sub_cancel]
      have e : (putNum (m / 128)).length = ((putNum (m / 128)).length - 1) + 1 := by omega
      rw [e, Nat.pow_succ]
      calc 128 ^ ((putNum (m / 128)).length - 1) * 128 ≤ m / 128 * 128 := Nat.mul_le_mul_right _ this
        _ ≤ m := Nat.div_mul_le_self _ _
    · rw [putNum_lt (by omega)]
      simpa using h

theorem takeGo_put : ∀ (m k acc : Nat) (r : List UInt8), (k = 0 ∨ 0 < m) → acc + m * 128 ^ k < top62 → k + (putNum m).length ≤ 9 → takeGo k acc (putNum m ++ r) = some (acc + m * 128 ^ k, r) := by
  intro m
  induction m using Nat.strongRecOn with
  | ind m ih =>
    intro k acc r hk hlt hlen
    by_cases h : m < 128
    · rw [putNum_lt h] at hlen ⊢
      simp at hlen
      have e : (UInt8.ofNat m).toNat = m := toNat_ofNat_lt (by omega)
      have e2 : m % 128 = m := Nat.mod_eq_of_lt h
      have c1 : ¬ (UInt8.ofNat m = 0 ∧ 0 < k) := by
        rintro ⟨h0, h1⟩
        have := congrArg UInt8.toNat h0
        rw [e] at this
        simp at this
        omega
      have c2 : UInt8.ofNat m < 128 := by rw [UInt8.lt_iff_toNat_lt, e]; exact h
      simp only [List.singleton_append, takeGo, e, e2]
      rw [if_neg (by omega), if_neg c1, if_pos c2, if_pos hlt]
    · have h' : 128 ≤ m := by omega
      rw [putNum_ge h'] at hlen ⊢
      have e : (UInt8.ofNat (128 + m % 128)).toNat = 128 + m % 128 := toNat_ofNat_lt (by omega)
      have e2 : (128 + m % 128) % 128 = m % 128 := by omega
      have c1 : ¬ (UInt8.ofNat (128 + m % 128) = 0 ∧ 0 < k) := by
        rintro ⟨h0, _⟩
        have := congrArg UInt8.toNat h0
        rw [e] at this
        simp at this
      have c2 : ¬ UInt8.ofNat (128 + m % 128) < 128 := by rw [UInt8.lt_iff_toNat_lt, e]; simp
      simp only [List.length_cons] at hlen
      have hp := putNum_len_pos (m / 128)
      have hs : acc + m % 128 * 128 ^ k + m / 128 * 128 ^ (k + 1) = acc + m * 128 ^ k := by
        rw [Nat.pow_succ, Nat.add_assoc]
        congr 1
        have hm := Nat.mod_add_div m 128
        calc m % 128 * 128 ^ k + m / 128 * (128 ^ k * 128) = (m % 128 + 128 * (m / 128)) * 128 ^ k := by rw [Nat.add_mul, Nat.mul_comm (128 ^ k) 128, ← Nat.mul_assoc, Nat.mul_comm (m / 128) 128]
          _ = m * 128 ^ k := by rw [hm]
      simp only [List.cons_append, takeGo, e, e2]
      rw [if_neg (by omega), if_neg c1, if_neg c2, ih (m / 128) (by omega) (k + 1) _ r (.inr (by omega)) (by rw [hs]; exact hlt) (by omega), hs]

theorem putNum_len_le {n : Nat} (h : n < top62) : (putNum n).length ≤ 9 := by
  by_cases h1 : 128 ≤ n
  · have := putNum_low n h1
    rcases Nat.lt_or_ge 9 (putNum n).length with hl | hl
    · have h2 : 128 ^ 9 ≤ 128 ^ ((putNum n).length - 1) := Nat.pow_le_pow_right (by omega) (by omega)
      unfold top62 at h
      omega
    · exact hl
  · rw [putNum_lt (by omega)]; simp

/-- WHAT WAS PUT IS TAKEN -/
theorem take_put {n : Nat} (h : n < top62) (r : List UInt8) : takeNum (putNum n ++ r) = some (n, r) := by
  have := takeGo_put n 0 0 r (.inl rfl) (by simpa using h) (by have := putNum_len_le h; omega)
  simpa [takeNum] using this

theorem takeGo_nine (acc : Nat) (b : List UInt8) : takeGo 9 acc b = none := by cases b <;> simp [takeGo]

/-- how many bytes a number has: one for a top group d, k groups being beneath -/
theorem putNum_len_of : ∀ (k acc d : Nat), acc < 128 ^ k → d < 128 → (0 < d ∨ k = 0) → (putNum (acc + d * 128 ^ k)).length = k + 1
  | 0, acc, d, h1, h2, _ => by
    have : acc = 0 := by simpa using h1
    subst this
    rw [putNum_lt (by simpa using h2)]; simp
  | k + 1, acc, d, h1, h2, h3 => by
    have hd : 0 < d := by omega
    have hp : 0 < 128 ^ k := Nat.pow_pos (by omega)
    have hge : 128 ≤ acc + d * 128 ^ (k + 1) := by
      have : 128 ≤ d * 128 ^ (k + 1) := by
        rw [Nat.pow_succ]
        calc 128 = 1 * (1 * 128) := by omega
          _ ≤ d * (128 ^ k * 128) := Nat.mul_le_mul hd (Nat.mul_le_mul_right _ hp)
      omega
    have hdiv : (acc + d * 128 ^ (k + 1)) / 128 = acc / 128 + d * 128 ^ k := by
      rw [Nat.pow_succ, ← Nat.mul_assoc, Nat.add_mul_div_right _ _ (by omega)]
    rw [putNum_ge hge, List.length_cons, hdiv, putNum_len_of k (acc / 128) d (by rw [Nat.pow_succ] at h1; exact Nat.div_lt_of_lt_mul (by rw [Nat.mul_comm]; exact h1)) h2 (.inl hd)]

theorem putNum_len_below : ∀ (k n : Nat), 0 < k → n < 128 ^ k → (putNum n).length ≤ k
  | 0, _, h, _ => by omega
  | k + 1, n, _, h => by
    by_cases h1 : n < 128
    · rw [putNum_lt h1]; simp
    · rw [putNum_ge (by omega)]
      rcases Nat.eq_zero_or_pos k with h0 | h0
      · subst h0; simp at h; omega
      · have := putNum_len_below k (n / 128) h0 (by rw [Nat.pow_succ] at h; exact Nat.div_lt_of_lt_mul (by rw [Nat.mul_comm]; exact h))
        simp; omega

theorem takeGo_len : ∀ (b : List UInt8) (k acc v : Nat) (r : List UInt8), takeGo k acc b = some (v, r) → r.length < b.length
  | [], _, _, _, _, h => by simp [takeGo] at h
  | c :: b, k, acc, v, r, h => by
    rw [takeGo] at h
    split at h
    · cases h
    · split at h
      · cases h
      · split at h
        · split at h
          · cases h; simp
          · cases h
        · have := takeGo_len b _ _ _ _ h; simp; omega
theorem takeNum_len {b r : List UInt8} {v : Nat} (h : takeNum b = some (v, r)) : r.length < b.length := takeGo_len b 0 0 v r h
end Go.Proofs.Ytgcbolijdgecgaa
