/-
  slices.Sort at texts of the call's own; slices.Sorted; refs.Book.Names. Condition: the book lies in its home.
-/
import Derived.Test.YtegehaokfcamfaaGreatDoorRefsNames
import Derived.Test.YtegehaokfcamfaaGreatDoorSortK
namespace Go.Proofs.YtegehaokfcamfaaGreatDoor
open Go.RowKit Go.Sort Go.Shelf
open RefsLaw (named okc Val Chg Txn there rightV zv rightT okChs goodC Refs Book Inv)

def sortS (ss : List (List UInt8)) : List (List UInt8) := ss.mergeSort fun x y => decide (x ≤ y)
theorem sortS_perm (ss : List (List UInt8)) : (sortS ss).Perm ss := List.mergeSort_perm _ _
theorem sortS_le (ss : List (List UInt8)) : (sortS ss).Pairwise (fun x y => x ≤ y) := by
  have := List.pairwise_mergeSort (le := fun (x y : List UInt8) => decide (x ≤ y)) (fun a b c h1 h2 => by simp only [decide_eq_true_eq] at *; exact List.le_trans h1 h2) (fun a b => by simp only [Bool.or_eq_true, decide_eq_true_eq]; exact List.le_total a b) ss
  exact this.imp (fun h => by simpa using h)
theorem strs_len1 (ss : List (List UInt8)) : (strs ss).length = ss.length := by simp [strs]
theorem put_strs (w : World) (g : Nat) (ss : List (List UInt8)) : putRow encStr w g 0 ss.toArray = putRow id w g 0 (strs ss).toArray := by
  unfold putRow
  congr 1
  funext c
  unfold putCells
  congr 1
  funext k x
  by_cases hk : k < ss.length <;> simp [hk, strs, encStr]
set_option maxRecDepth 100000 in
theorem sortS_any (w0 w : World) (A : Option Addr) (n c : Nat) (ss : List (List UInt8)) (hO : Ow w0 w 9 1 A n c (strs ss)) (hb : n ≤ 1000000000) :
    Calls Tryz.prog 60 #[.slice A n c] w fun e w' => e = .returned (.tuple #[]) ∧ Ow w0 w' 9 1 A n c (strs (sortS ss)) := by
  have hn : ss.length = n := by simpa using hO.sl.len
  rcases Nat.eq_zero_or_pos n with h0 | h0
  · subst h0
    obtain rfl : ss = [] := List.eq_nil_of_length_eq_zero hn
    refine (Tryz.slices_Sort_string_none A c w).mono ?_
    rintro e w' ⟨rfl, rfl⟩
    have e : sortS [] = [] := List.perm_nil.1 (sortS_perm [])
    exact ⟨rfl, by rw [e]; exact hO⟩
  · obtain ⟨g, rfl, hg0, hg⟩ := hO.form h0
    subst hn
    have hH : Holds encStr w g 0 ss.toArray := by
      rcases hO.1.2 with ⟨hv, _⟩ | ⟨g', cap', cur, hv, hbase, hb, h1, h2, h3, h4⟩
      · cases hv
      · cases hv
        have h5 := holds_own (vs := strs ss) hb (by rw [strs_len1]; simpa using h4)
        intro j hj
        have hj' : j < ss.length := by simpa using hj
        have h6 := h5 j (by simpa using hj')
        refine ⟨h6.1.trans ?_, h6.2⟩
        simp [strs, hj', encStr]
    refine (Tryz.slices_Sort_string g 0 c ss w hH hg (by omega)).mono ?_
    rintro e w' ⟨rfl, m, os, rfl⟩
    rw [put_strs]
    have hl2 : (strs (sortS ss)).length = (strs ss).length := by rw [strs_len1, strs_len1, (sortS_perm ss).length_eq]
    refine ⟨rfl, ?_, hO.2.grown (grown_put _) hO.2.size (fun k e => by cases e; exact hg0)⟩
    exact own_put hO.1 hl2
theorem sortedS_any (w : World) (Bm m n : Nat) (l : List (List UInt8 × Val)) (hl : l.length ≤ 1000000) (hm : w.cell? ⟨Bm, 0, none⟩ = some (.map (some m))) (hown : MapL refsC w m n l) :
    Calls Tryz.prog 31 #[.func (.func 61) #[] #[.pointer (some ⟨Bm, 0, none⟩)]] w fun e w' => ∃ (A : Option Addr) (c : Nat), e = .returned (.slice A l.length c) ∧ Ow w w' 9 1 A l.length c (strs (sortS (l.map (·.1)))) := by
  have C := Lib.hid (collect_any w Bm m n l hl hm hown)
  clear hm hown
  go_enter Tryz.func31, Tryz.ntmps31
  go_wp2_with (first
    | (go_at_call 59; refine C.out.mono ?_; rintro e w2 ⟨A, c, xs, rfl, hp, hO⟩; have C2 := Lib.hid (sortS_any w w2 A l.length c xs hO (by omega)); have Hp := Lib.hid hp; clear hO hp)
    | (go_at_call 60; refine C2.out.mono ?_; rintro e w3 ⟨rfl, hO3⟩; have HO3 := Lib.hid hO3; clear hO3))
  go_ret
  have e1 : sortS (l.map (·.1)) = sortS xs := by
    refine List.Perm.eq_of_pairwise (le := fun x y => x ≤ y) (fun a b _ _ h1 h2 => List.le_antisymm h1 h2) (sortS_le _) (sortS_le _) ((sortS_perm _).trans (Hp.out.symm.trans (sortS_perm _).symm))
  exact ⟨A, c, rfl, by rw [e1]; exact HO3.out⟩
/-- the names of a book, in order -/
def IsNames (f : Refs) (ns : List (List UInt8)) : Prop := ns.Pairwise (fun x y => x < y) ∧ ∀ s, s ∈ ns ↔ s.length ≤ maxLen ∧ f s ≠ zv
set_option maxRecDepth 100000 in
theorem names_any (w : World) (p : Nat) (H : Nat → Prop) (bk : Book) (z : Nat) (hB : BookAt w p H bk z) (hz : z * 4096 ≤ 1000000) :
    Calls Tryz.prog 14 #[.pointer (some ⟨p, 0, none⟩)] w fun e w' => ∃ (A : Option Addr) (n c : Nat) (ns : List (List UInt8)), e = .returned (.slice A n c) ∧ n ≤ z * 4096 ∧ IsNames bk.f ns ∧ Ow w w' 9 1 A n c (strs ns) := by
  obtain ⟨m, A, n, c, xs, cnt, hB⟩ := hB
  obtain ⟨l, hl, hlk⟩ := hB.map.list refsC_full (fun a b h => by
    have : vV a = vV b := h
    obtain ⟨a1, a2⟩ := a
    obtain ⟨b1, b2⟩ := b
    simpa [vV] using this)
  have hle := hl.le
  have hcap := hB.cap.1
  have r := hB.blk.cell
  have hmz := hl.lt
  have C1 := Lib.hid (fun W => keys_any m W)
  have hb1 := balloc (Below.refl _ w) (.cells #[.map (some m)] 71)
  have C2 := Lib.hid (sortedS_any (w.alloc (.cells #[.map (some m)] 71)) w.heap.size m cnt l (by omega) ((Blk.new w 71 #[.map (some m)]).cell 0) (hl.alloc _))
  have HN : Hid (IsNames bk.f (sortS (l.map (·.1)))) := Lib.hid (by
    constructor
    · have h1 := (sortS_le (l.map (·.1))).and ((sortS_perm _).nodup_iff.2 hl.nodup)
      refine h1.imp ?_
      rintro a b ⟨h2, h3⟩
      rcases Classical.em (a < b) with h | h
      · exact h
      · exact absurd (List.le_antisymm h2 (List.not_lt.1 h)) h3
    · intro s
      rw [(sortS_perm _).mem_iff]
      constructor
      · intro hs
        obtain ⟨q, hq, rfl⟩ := List.mem_map.1 hs
        have hg : q.1.length ≤ maxLen := hl.good q hq
        refine ⟨hg, fun h0 => ?_⟩
        have h1 := hlk q.1 hg
        unfold optF at h1
        rw [if_pos h0, lk_none] at h1
        exact h1 hs
      · rintro ⟨hg, h0⟩
        have h1 := hlk s hg
        unfold optF at h1
        rw [if_neg h0] at h1
        have h2 := (lk_mem hl.nodup).1 h1
        exact List.mem_map.2 ⟨_, h2, rfl⟩)
  have Hb1 := Lib.hid hb1
  clear hB hl hlk hb1
  go_enter Tryz.func14, Tryz.ntmps14
  go_wp2_with (first
    | (go_at_call 32; refine (C1.out _).mono ?_; rintro e w2 ⟨rfl, rfl⟩)
    | (go_at_call 31; refine C2.out.mono ?_; rintro e w3 ⟨A3, c3, rfl, hO3⟩; have HO3 := Lib.hid hO3; clear hO3))
  go_ret
  exact ⟨A3, l.length, c3, _, rfl, by omega, HN.out, HO3.out.since Hb1.out⟩
end Go.Proofs.YtegehaokfcamfaaGreatDoor
