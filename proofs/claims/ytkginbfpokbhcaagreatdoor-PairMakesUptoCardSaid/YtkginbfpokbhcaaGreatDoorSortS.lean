/-
  slices.Sort, slices.Compact at texts of the call's own. Condition: no more than 1000000000 (1000000).
-/
import Derived.Test.YtkginbfpokbhcaaGreatDoorSortK
import Derived.Test.YtkginbfpokbhcaaGreatDoorShelf
import Derived.Lib.SlicesCompact
import Derived.Lib.RowBridge
namespace Go.Proofs.YtkginbfpokbhcaaGreatDoor
open Go.RowKit Go.Sort Go.Shelf

def sortS (ss : List (List UInt8)) : List (List UInt8) := ss.mergeSort fun x y => decide (x ≤ y)
theorem sortS_perm (ss : List (List UInt8)) : (sortS ss).Perm ss := List.mergeSort_perm _ _
theorem sortS_le (ss : List (List UInt8)) : (sortS ss).Pairwise (fun x y => x ≤ y) := by
  have := List.pairwise_mergeSort (le := fun (x y : List UInt8) => decide (x ≤ y)) (fun a b c h1 h2 => by simp only [decide_eq_true_eq] at *; exact List.le_trans h1 h2) (fun a b => by simp only [Bool.or_eq_true, decide_eq_true_eq]; exact List.le_total a b) ss
  exact this.imp (fun h => by simpa using h)
theorem strs_len1 (ss : List (List UInt8)) : (strs ss).length = ss.length := by simp [strs]
theorem put_strs (w : World) (g : Nat) (ss : List (List UInt8)) : putRow encStr w g 0 ss.toArray = putRow id w g 0 (strs ss).toArray := by
  unfold putRow
  congr 1
  funext c
  unfold putCells
  congr 1
  funext k x
  by_cases hk : k < ss.length <;> simp [hk, strs, encStr]
set_option maxRecDepth 100000 in
theorem sortS_any (w0 w : World) (A : Option Addr) (n c : Nat) (ss : List (List UInt8)) (hO : Ow w0 w 9 1 A n c (strs ss)) (hb : n ≤ 1000000000) :
    Calls Tryz.prog 63 #[.slice A n c] w fun e w' => e = .returned (.tuple #[]) ∧ Ow w0 w' 9 1 A n c (strs (sortS ss)) := by
  have hn : ss.length = n := by simpa using hO.sl.len
  rcases Nat.eq_zero_or_pos n with h0 | h0
  · subst h0
    obtain rfl : ss = [] := List.eq_nil_of_length_eq_zero hn
    refine (Tryz.slices_Sort_string_none A c w).mono ?_
    rintro e w' ⟨rfl, rfl⟩
    have e : sortS [] = [] := List.perm_nil.1 (sortS_perm [])
    exact ⟨rfl, by rw [e]; exact hO⟩
  · obtain ⟨g, rfl, hg0, hg⟩ := hO.form h0
    subst hn
    have hH : Holds encStr w g 0 ss.toArray := by
      rcases hO.1.2 with ⟨hv, _⟩ | ⟨g', cap', cur, hv, hbase, hb, h1, h2, h3, h4⟩
      · cases hv
      · cases hv
        have h5 := holds_own (vs := strs ss) hb (by rw [strs_len1]; simpa using h4)
        intro j hj
        have hj' : j < ss.length := by simpa using hj
        have h6 := h5 j (by simpa using hj')
        refine ⟨h6.1.trans ?_, h6.2⟩
        simp [strs, hj', encStr]
    refine (Tryz.slices_Sort_string g 0 c ss w hH hg (by omega)).mono ?_
    rintro e w' ⟨rfl, m, os, rfl⟩
    rw [put_strs]
    have hl2 : (strs (sortS ss)).length = (strs ss).length := by rw [strs_len1, strs_len1, (sortS_perm ss).length_eq]
    refine ⟨rfl, ?_, hO.2.grown (grown_put _) hO.2.size (fun k e => by cases e; exact hg0)⟩
    exact own_put hO.1 hl2
/-- slices.Compact at texts of the call's own -/
theorem compact_any (w0 w : World) (A : Option Addr) (n c : Nat) (ss : List (List UInt8)) (hO : Ow w0 w 9 1 A n c (strs ss)) (hn : n ≤ 1000000) :
    Calls Tryz.prog 64 #[.slice A n c] w fun e w' => ∃ t, e = .returned (.slice A t c) ∧ t = (Lib.compact ss).length ∧ Sl w' 1 A t (strs (Lib.compact ss)) ∧ Below w0.heap.size w0 w' := by
  have hl : ss.length = n := by simpa using hO.sl.len
  have hcap := hO.cap
  rcases Nat.eq_zero_or_pos n with h0 | h0
  · subst h0
    obtain rfl : ss = [] := List.eq_nil_of_length_eq_zero hl
    refine (Tryz.slices_Compact_string_empty A c w).mono ?_
    rintro e w' ⟨rfl, rfl⟩
    exact ⟨0, rfl, rfl, hO.sl, hO.2⟩
  · obtain ⟨g, rfl, hg0, hg⟩ := hO.form h0
    subst hl
    have hH : Go.Sort.Holds encStr w g 0 ss.toArray := by
      rcases hO.1.2 with ⟨hv, _⟩ | ⟨g', cap', cur, hv, hbase, hb, h1, h2, h3, h4⟩
      · cases hv
      · cases hv
        refine holds_of_block hb ?_
        rw [Nat.mul_one] at h4
        exact h4
    refine (Tryz.slices_Compact_string g 0 c ss w hH (by omega) hcap.1).mono ?_
    rintro e w' ⟨rfl, q, rfl⟩
    have hle : (Lib.compact ss).length ≤ ss.length := by
      unfold Lib.compact Lib.compactUpTo
      rw [List.length_map]
      exact Nat.le_trans (List.length_filter_le _ _) (by simp)
    have hw : Go.Sort.putRow encStr (Go.Sort.ahead w q) g 0 (Lib.compact ss ++ List.replicate (ss.length - (Lib.compact ss).length) []).toArray = Go.Sort.grow (Go.Sort.putRow encStr (Go.Sort.ahead w q) g 0 (Lib.compact ss ++ List.replicate (ss.length - (Lib.compact ss).length) []).toArray) #[] := by
      unfold Go.Sort.grow
      rw [Array.append_empty]
    rw [hw]
    refine ⟨_, rfl, rfl, ?_, hO.2.grown (grownBy_sorted _) hO.2.size (fun k e => by cases e; exact hg0)⟩
    have hown : (Go.Sort.grow (Go.Sort.putRow encStr (Go.Sort.ahead w q) g 0 (Lib.compact ss ++ List.replicate (ss.length - (Lib.compact ss).length) []).toArray) #[]).ownsRow w0.heap.size 9 1 (.slice (some ⟨g, 0, none⟩) ss.length c) ss.length ((Lib.compact ss ++ List.replicate (ss.length - (Lib.compact ss).length) []).map encStr) := by
      rcases hO.1.2 with ⟨hv, _⟩ | ⟨g', cap', cur, hv, hbase, hb, h1, h2, h3, h4⟩
      · cases hv
      · cases hv
        exact ownsRow_sorted (by simp; omega) hbase hb h1 h2 h3
    have hS := Sl.of_own hown
    refine ⟨by simp, fun hp => ?_⟩
    obtain ⟨b, off, e1, hb, hc⟩ := hS.2 h0
    refine ⟨b, off, e1, hb, fun k hk => ?_⟩
    rw [hc k (by omega)]
    have hk' : k < (Lib.compact ss).length := by omega
    simp only [List.map_append, strs]
    rw [List.getElem?_append_left (by simpa using hk')]

end Go.Proofs.YtkginbfpokbhcaaGreatDoor
