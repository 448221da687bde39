/-
  A file that grows under its shadow's name. Plain lemmas.
-/
import Derived.Test.YtphnfcgdpdimbaaGreatDoorQDiskRem
import Derived.Test.YtphnfcgdpdimbaaGreatDoorQKitD
namespace Go.Proofs.YtphnfcgdpdimbaaGreatDoor
open Go.RowKit
def curF (L : List DF) (sh bs : List UInt8) (j : Nat) (hd : Hd) : List DF := if j = 0 then L else putF L sh hd (bs.take (64 * j))
theorem getF_put (L : List DF) (s t : List UInt8) (hd : Hd) (b : List UInt8) : getF (putF L s hd b) t = if t = s then some (s, hd, b) else getF L t := by
 unfold putF
 rw [getF_cons]
 by_cases h : t = s
 ·rw [if_pos h, if_pos h.symm]
 ·rw [if_neg h, if_neg (fun e => h e.symm), getF_drop h]
theorem drop_put (L : List DF) (s : List UInt8) (hd : Hd) (b : List UInt8) : dropF (putF L s hd b) s = dropF L s := by
 unfold putF
 rw [dropF_cons, if_pos rfl]
 exact dropF_none (fun h => by
  obtain ⟨x, hx, e⟩ := List.mem_map.1 h
  have := (List.mem_filter.1 hx).2
  simp [e] at this)
theorem put_put (L : List DF) (s : List UInt8) (hd hd' : Hd) (b b' : List UInt8) : putF (putF L s hd b) s hd' b' = putF L s hd' b' := by
 show (s, hd', b') :: dropF (putF L s hd b) s = (s, hd', b') :: dropF L s
 rw [drop_put]
section
variable {L : List DF} {sh bs : List UInt8} {j : Nat} {hd : Hd}
theorem cur_put (hd' : Hd) (b : List UInt8) : putF (curF L sh bs j hd) sh hd' b = putF L sh hd' b := by
 unfold curF
 split
 ·rfl
 ·exact put_put _ _ _ _ _ _
theorem cur_old (h : getF L sh = none) : oldB (curF L sh bs j hd) sh = bs.take (64 * j) := by
 unfold curF oldB
 by_cases hj : j = 0
 ·rw [if_pos hj, h, hj]
  simp
 ·rw [if_neg hj, getF_put, if_pos rfl]
  rfl
theorem cur_more (h : getF L sh = none) (x : Nat) : moreA (curF L sh bs j hd) sh x = if j = 0 then x + (16 + sh.length) else x := by
 unfold curF moreA
 by_cases hj : j = 0
 ·rw [if_pos hj, if_pos hj, h]
  rfl
 ·rw [if_neg hj, if_neg hj, getF_put, if_pos rfl]
  rfl
theorem put_costs (h : getF L sh = none) (b : List UInt8) : costs (putF L sh hd b) = costs L + (16 + sh.length + b.length) := by
 unfold putF
 rw [dropF_none (getF_none.1 h)]
 show cost1 (sh, hd, b) + costs L = _
 unfold cost1
 simp only
 omega
theorem cur_costs (h : getF L sh = none) : costs (curF L sh bs j hd) = costs L + (if j = 0 then 0 else 16 + sh.length + min (64 * j) bs.length) := by
 unfold curF
 by_cases hj : j = 0
 ·rw [if_pos hj, if_pos hj]
  rfl
 ·rw [if_neg hj, if_neg hj, put_costs h, List.length_take]
theorem cur_step (k : Nat) (hk : bs.length = k) : bs.take (64 * j) ++ (bs.drop (64 * j)).take (min (k - 64 * j) 64) = bs.take (64 * (j + 1)) := by
 rw [← List.take_add]
 by_cases h : k - 64 * j ≤ 64
 ·rw [Nat.min_eq_left h, List.take_of_length_le (by omega), List.take_of_length_le (by omega)]
 ·rw [Nat.min_eq_right (by omega), show 64 * j + 64 = 64 * (j + 1) by omega]
end
theorem getF_drop_self (L : List DF) (s : List UInt8) : getF (dropF L s) s = none := by
 rw [getF_none]
 intro h
 obtain ⟨x, hx, e⟩ := List.mem_map.1 h
 have := (List.mem_filter.1 hx).2
 simp [e] at this
theorem costs_drop_le (L : List DF) (s : List UInt8) (h : (L.map (·.1)).Nodup) : costs (dropF L s) ≤ costs L := by
 have := costs_drop L s h
 omega
theorem TK_last {n : Nat} {pre : List Nat} {x : Nat} (h : TK n (pre ++ [x])) : x = pre.length ∧ 64 * pre.length < n := by
 obtain ⟨h1, h2⟩ := h
 rw [List.length_append, List.length_singleton] at h1 h2
 rw [List.range_succ] at h1
 have h3 := List.append_inj' h1 rfl
 exact ⟨by simpa using h3.2, by omega⟩
theorem SlT.mid {H : Nat → Prop} {e : TypeId} {w : World} {g off n : Nat} {bs : List UInt8} (h : SlT H e w 1 (some ⟨g, off, none⟩) n (u8s bs)) {i k : Nat} (hi : i + k ≤ n) : SlT H e w 1 (some ⟨g, off + i, none⟩) k (u8s ((bs.drop i).take k)) := by
 by_cases hk : k = 0
 ·subst hk
  simp only [List.take_zero]
  exact SlT.nil_
 ·refine ⟨?_, fun _ => ?_⟩
  ·have h1 : Sl w 1 (some ⟨g, off, none⟩) n (bs.map U8) := h.1
   have h2 := h1.mid_ (j := i) (k := i + k) (c := n + 1) (by omega) hi (by omega)
   rw [cutA_at _ _ _ _ (by omega), Nat.add_sub_cancel_left] at h2
   exact h2
  ·obtain ⟨b, o, cs, fr, e1, hH, hb⟩ := h.2 (by omega)
   injection e1 with e1
   injection e1 with e1 e2
   subst e1 e2
   exact ⟨_, _, cs, fr, rfl, hH, hb⟩
end Go.Proofs.YtphnfcgdpdimbaaGreatDoor
