/-
  What the references' reading of a plan's bytes comes to, in plain Lean. No condition, no program.
-/
import Derived.Test.YtgcbolijdgecgaaPlanDecLaw
namespace Go.Proofs.Ytgcbolijdgecgaa

theorem num_bad {r : Rd} (h : r.bad = true) : r.num.2.bad = true := by unfold Rd.num; split <;> simp [h]
theorem id_bad {r : Rd} (h : r.bad = true) : r.id_.2.bad = true := by unfold Rd.id_; split <;> simp [h]
theorem text_bad {r : Rd} (h : r.bad = true) : r.text.2.bad = true := by unfold Rd.text; split <;> simp [h]
theorem ids_bad {r : Rd} (h : r.bad = true) (n : Nat) (acc : List (List UInt8)) : (Rd.ids n acc r).2.bad = true := by
  cases n with
  | zero => simpa [Rd.ids] using h
  | succ n => rw [Rd.ids, if_pos h]; exact h
theorem num_none {l : List UInt8} {b : Bool} (h : takeNum l = none) : Rd.num ⟨l, b⟩ = (0, ⟨[], true⟩) := by simp only [Rd.num, h]
theorem num_some {l rest : List UInt8} {v : Nat} {b : Bool} (h : takeNum l = some (v, rest)) : Rd.num ⟨l, b⟩ = (v, ⟨rest, b⟩) := by simp only [Rd.num, h]
theorem text_none {l : List UInt8} {b : Bool} (h : takeText l 1000 = none) : Rd.text ⟨l, b⟩ = ([], ⟨[], true⟩) := by simp only [Rd.text, h]
theorem text_some {l s rest : List UInt8} {b : Bool} (h : takeText l 1000 = some (s, rest)) : Rd.text ⟨l, b⟩ = (s, ⟨rest, b⟩) := by simp only [Rd.text, h]

/-- so many ids of bytes -/
def chunks (l : List UInt8) (n : Nat) : List (List UInt8) := (List.range n).map fun i => (l.drop (32 * i)).take 32
theorem chunks_succ (l : List UInt8) (n : Nat) : chunks l (n + 1) = chunks l n ++ [(l.drop (32 * n)).take 32] := by simp [chunks, List.range_succ]
theorem chunks_len (l : List UInt8) (n : Nat) : (chunks l n).length = n := by simp [chunks]

theorem ids_chunks (l : List UInt8) : ∀ (n k : Nat), 32 * (k + n) ≤ l.length → Rd.ids n (chunks l k) ⟨l.drop (32 * k), false⟩ = (chunks l (k + n), ⟨l.drop (32 * (k + n)), false⟩)
  | 0, k, _ => by simp [Rd.ids]
  | n + 1, k, h => by
    have h1 : ¬ (l.drop (32 * k)).length < 32 := by simp; omega
    rw [Rd.ids]
    simp only [Bool.false_eq_true, if_false, Rd.id_, if_neg h1, List.drop_drop, ← chunks_succ]
    rw [show 32 * k + 32 = 32 * (k + 1) by omega]
    rw [ids_chunks l n (k + 1) (by omega), show k + 1 + n = k + (n + 1) by omega]

theorem ids_short : ∀ (n : Nat) (acc : List (List UInt8)) (l : List UInt8), l.length < 32 * n → (Rd.ids n acc ⟨l, false⟩).2.bad = true
  | 0, _, _, h => by omega
  | n + 1, acc, l, h => by
    rw [Rd.ids]
    simp only [Bool.false_eq_true, if_false]
    by_cases h1 : l.length < 32
    · have : (Rd.id_ ⟨l, false⟩).2.bad = true := by simp only [Rd.id_]; rw [if_pos h1]
      exact ids_bad this _ _
    · have e : Rd.id_ ⟨l, false⟩ = (l.take 32, ⟨l.drop 32, false⟩) := by simp only [Rd.id_]; rw [if_neg h1]
      rw [e]
      exact ids_short n _ _ (by simp; omega)

theorem bad_from4 {r : Rd} (h : r.bad = true) : r.num.2.id_.2.text.2.num.2.bad = true := num_bad (text_bad (id_bad (num_bad h)))

theorem got_bad1 {b : List UInt8} (h : takeNum b = none) : (gotOf b).bad = true := by
  simp only [gotOf, num_none h]
  exact bad_from4 (ids_bad (num_bad rfl) _ _)
theorem got_bad2 {b l1 : List UInt8} {kind : Nat} (h1 : takeNum b = some (kind, l1)) (h : takeNum l1 = none) : (gotOf b).bad = true := by
  simp only [gotOf, num_some h1, num_none h]
  exact bad_from4 (ids_bad rfl _ _)
theorem got_bad3 {b l1 l2 : List UInt8} {kind n : Nat} (h1 : takeNum b = some (kind, l1)) (h2 : takeNum l1 = some (n, l2)) (h : l2.length < 32 * n) : (gotOf b).bad = true := by
  simp only [gotOf, num_some h1, num_some h2]
  exact bad_from4 (ids_short _ _ _ h)
theorem ids_all {l2 : List UInt8} {n : Nat} (h : 32 * n ≤ l2.length) : Rd.ids n [] ⟨l2, false⟩ = (chunks l2 n, ⟨l2.drop (32 * n), false⟩) := by
  have := ids_chunks l2 n 0 (by omega)
  simpa [chunks] using this
theorem got_bad4 {b l1 l2 : List UInt8} {kind n : Nat} (h1 : takeNum b = some (kind, l1)) (h2 : takeNum l1 = some (n, l2)) (h3 : 32 * n ≤ l2.length) (h : takeNum (l2.drop (32 * n)) = none) : (gotOf b).bad = true := by
  simp only [gotOf, num_some h1, num_some h2, ids_all h3, num_none h]
  exact num_bad (text_bad (id_bad rfl))
theorem got_bad5 {b l1 l2 l4 : List UInt8} {kind n at_ : Nat} (h1 : takeNum b = some (kind, l1)) (h2 : takeNum l1 = some (n, l2)) (h3 : 32 * n ≤ l2.length) (h4 : takeNum (l2.drop (32 * n)) = some (at_, l4)) (h : l4.length < 32) : (gotOf b).bad = true := by
  simp only [gotOf, num_some h1, num_some h2, ids_all h3, num_some h4]
  have : (Rd.id_ ⟨l4, false⟩).2.bad = true := by simp only [Rd.id_]; rw [if_pos h]
  exact num_bad (text_bad this)
theorem id_good {l4 : List UInt8} (h : ¬ l4.length < 32) : Rd.id_ ⟨l4, false⟩ = (l4.take 32, ⟨l4.drop 32, false⟩) := by simp only [Rd.id_]; rw [if_neg h]
theorem got_bad6 {b l1 l2 l4 : List UInt8} {kind n at_ : Nat} (h1 : takeNum b = some (kind, l1)) (h2 : takeNum l1 = some (n, l2)) (h3 : 32 * n ≤ l2.length) (h4 : takeNum (l2.drop (32 * n)) = some (at_, l4)) (h5 : ¬ l4.length < 32) (h : takeText (l4.drop 32) 1000 = none) : (gotOf b).bad = true := by
  simp only [gotOf, num_some h1, num_some h2, ids_all h3, num_some h4, id_good h5, text_none h]
  exact num_bad rfl
theorem got_good {b l1 l2 l4 who l5 : List UInt8} {kind n at_ : Nat} (h1 : takeNum b = some (kind, l1)) (h2 : takeNum l1 = some (n, l2)) (h3 : 32 * n ≤ l2.length) (h4 : takeNum (l2.drop (32 * n)) = some (at_, l4)) (h5 : ¬ l4.length < 32) (h6 : takeText (l4.drop 32) 1000 = some (who, l5))
    {stamp : Nat} {q7 : Rd} (h7 : Rd.num ⟨l5, false⟩ = (stamp, q7)) : gotOf b = ⟨kind, chunks l2 n, at_, l4.take 32, who, stamp, q7.bad⟩ := by
  simp only [gotOf, num_some h1, num_some h2, ids_all h3, num_some h4, id_good h5, text_some h6, h7]
end Go.Proofs.Ytgcbolijdgecgaa
