/-
  slices.Grow onto nil, slices.Concat at files. Conditions: slices read as lists, of few elements.
-/
import Derived.Test.YtkginbfpokbhcaaGreatDoorFiles
import Derived.Test.YtkginbfpokbhcaaGreatDoorKitW
import Derived.Lib.AppendZerosOnto
import Derived.Lib.SliceRun
import Derived.Outline
namespace Go.Proofs.YtkginbfpokbhcaaGreatDoor
open Go.RowKit

set_option maxHeartbeats 2000000 in
set_option maxRecDepth 100000 in
theorem growF_any (n : Nat) (w : World) (hn : n ≤ 1000000000) :
    Calls Tryz.prog 118 #[.slice none 0 0, I n] w fun e w' => ∃ A c, e = .returned (.slice A 0 c) ∧ Ow w w' 80 2 A 0 c [] := by
  obtain ⟨i0, hi0, hz0, hz1, hz2⟩ := info_parts Tryz.infoFil
  rcases Nat.eq_zero_or_pos n with h0 | h0
  · subst h0
    go_enter Tryz.func118, Tryz.ntmps118
    go_wp2
    go_ret
    exact ⟨none, 0, rfl, Ow.nil_ (Below.refl _ _)⟩
  · have hold : (Builtin.firstCells i0.size 0 (.slice none 0 0)).run Tryz.prog w.drew = .ok ([] : List Value).toArray w.drew := run_firstCells_none w.drew i0.size 0 0 0
    have hrz := fun ty => Lib.run_append_grow_zeros (P := Tryz.prog) w 26 3 ty 80 i0 _ .i64 .i64 Tryz.underlying26 Tryz.underlying3 hi0 hz0 none 0 0 [] hold n h0 (by omega) (by omega) (by omega) (by rw [hz2]; omega) (growslice_fits (by omega) (by rw [hz2]; omega))
    have hge := grownCap_ge w (0 + n) 0 80
    have hle := grownCap_le_maxLen w (0 + n) 0 80 (by simp only [maxLen]; omega)
    generalize hG : grownCap w (0 + n) 0 80 = G at *
    rw [Nat.zero_add] at hrz hge
    have hown := World.ownsRow_made (base := w.heap.size) (e := 80) (size := 2) w.drew (([] : List Value).toArray ++ Builtin.zeroCells (Value.agg #[.string ⟨#[]⟩, .string ⟨#[]⟩]).cells n ++ Builtin.zeroCells (Value.agg #[.string ⟨#[]⟩, .string ⟨#[]⟩]).cells (G - n)) G (Nat.le_refl _) hle (by simp [Builtin.zeroCells, Value.cells]; omega)
    have HO := Lib.hid (show Ow w (w.drew.alloc (.cells (([] : List Value).toArray ++ Builtin.zeroCells (Value.agg #[.string ⟨#[]⟩, .string ⟨#[]⟩]).cells n ++ Builtin.zeroCells (Value.agg #[.string ⟨#[]⟩, .string ⟨#[]⟩]).cells (G - n)) 80)) 80 2 (some ⟨w.heap.size, 0, none⟩) 0 G [] from ⟨hown, (Below.refl _ _).drew.alloc (Nat.le_refl _) _⟩)
    clear hown hold hG
    generalize w.drew.alloc (.cells (([] : List Value).toArray ++ Builtin.zeroCells (Value.agg #[.string ⟨#[]⟩, .string ⟨#[]⟩]).cells n ++ Builtin.zeroCells (Value.agg #[.string ⟨#[]⟩, .string ⟨#[]⟩]).cells (G - n)) 80) = w1 at *
    have hG63 : G ≤ 9223372036854775807 := by simp only [maxLen] at hle; omega
    have Hrz := Lib.hid hrz
    clear hrz hle
    go_enter Tryz.func118, Tryz.ntmps118
    go_wp2_with (at_builtin; refine Lib.wpList_append_run _ rfl (.tmp 20) (.tmp 21) _ _ rfl _ _ rfl rfl _ _ (Hrz.out _) ?_)
    go_ret
    exact ⟨some ⟨w.heap.size, 0, none⟩, G, rfl, HO.out⟩

/-- a slice of texts, as a value and as a list -/
structure RwF where
  A : Option Addr
  n : Nat
  c : Nat
  l : List Fil
abbrev RwF.v (r : RwF) : Value := .slice r.A r.n r.c
def rowsLenF : List RwF → Nat
  | [] => 0
  | r :: t => r.n + rowsLenF t
def rowsAllF (rs : List RwF) : List Fil := rs.flatMap (·.l)
theorem rowsLenF_snoc (rs : List RwF) (r : RwF) : rowsLenF (rs ++ [r]) = rowsLenF rs + r.n := by
  induction rs with
  | nil => simp [rowsLenF]
  | cons a t ih => simp [rowsLenF, ih]; omega
theorem rowsAllF_snoc (rs : List RwF) (r : RwF) : rowsAllF (rs ++ [r]) = rowsAllF rs ++ r.l := by simp [rowsAllF]
theorem rowsLenF_take (rs : List RwF) (k : Nat) : rowsLenF (rs.take k) ≤ rowsLenF rs := by
  induction rs generalizing k with
  | nil => simp
  | cons a t ih => cases k with
    | zero => simp [rowsLenF]
    | succ k => have := ih k; simp [rowsLenF]; omega
theorem take_snocF {α : Type} {l : List α} {k : Nat} {x : α} (h : l[k]? = some x) : l.take (k + 1) = l.take k ++ [x] := by rw [List.take_add_one, h]; rfl

set_option maxHeartbeats 4000000 in
set_option maxRecDepth 100000 in
theorem concatF_any (A : Option Addr) (n c : Nat) (rs : List RwF) (w : World) (hA : Sl w 1 A n (rs.map RwF.v)) (hr : ∀ r ∈ rs, Sl w 2 r.A r.n (fls r.l)) (hn : n ≤ 1000000000) (hl : rowsLenF rs ≤ 1000000000) :
    Calls Tryz.prog 62 #[.slice A n c] w fun e w' => ∃ A' c', e = .returned (.slice A' (rowsLenF rs) c') ∧ Ow w w' 80 2 A' (rowsLenF rs) c' (fls (rowsAllF rs)) := by
  obtain ⟨i0, hi0, hz0, hz1, hz2⟩ := info_parts Tryz.infoFil
  have hlen : rs.length = n := by simpa using hA.len
  have Hlen := Lib.hid hlen
  have HA := Lib.hid hA
  have HR := Lib.hid hr
  clear hlen hA hr
  have hat : ∀ (W : World) (k : Nat), Sl W 1 A n (rs.map RwF.v) → k < n → ∃ b off r, A = some ⟨b, off, none⟩ ∧ rs[k]? = some r ∧ W.cell? ⟨b, off + k, none⟩ = some r.v := by
    intro W k h hk
    obtain ⟨b, off, u, e, hx, hc⟩ := h.at_ hk
    simp only [List.getElem?_map, Option.map_eq_some_iff] at hx
    obtain ⟨r, hr, rfl⟩ := hx
    exact ⟨b, off, r, e, hr, hc⟩
  have Hat := Lib.hid hat
  clear hat
  go_enter Tryz.func62, Tryz.ntmps62
  go_wp2
  go_loop [3, 11] (fun s i => ∃ k m : Nat, k ≤ n ∧ i = .int .i64 k ∧ s = .int .i64 m ∧ Hid (m = rowsLenF (rs.take k)) ∧ m ≤ 1000000000) (fun _ i => n - (intOf i).toNat)
  case atStart => exact ⟨0, 0, Nat.zero_le _, rfl, rfl, Lib.hid (by simp [rowsLenF]), by omega⟩
  case round =>
    obtain ⟨k, m, hk, rfl, rfl, Hm, hm⟩ := hrel
    by_cases hlt : k < n
    · obtain ⟨b, off, r, rfl, hr, hc⟩ := Hat.out _ _ HA.out hlt
      have hs : m + r.n = rowsLenF (rs.take (k + 1)) := by rw [take_snocF hr, rowsLenF_snoc, Hm.out]
      have hs2 : m + r.n ≤ 1000000000 := by rw [hs]; exact Nat.le_trans (rowsLenF_take _ _) hl
      have Hs := Lib.hid hs
      clear hs hr
      go_wp2
      go_round
      case rel => exact ⟨k + 1, m + r.n, by omega, by go_num, by go_num, Hs, hs2⟩
      case measure => simp [intOf]; omega
    · obtain rfl : k = n := by omega
      rw [List.take_of_length_le (by rw [Hlen.out]; exact Nat.le_refl _)] at Hm
      go_wp2_with fail
      refine (growF_any m _ hm).mono ?_
      rintro e w1 ⟨A1, c1, rfl, hO1⟩
      go_wp2
      go_loopw [6, 27] (fun v i wr => ∃ (q m : Nat) (c : Nat) (A : Option Addr), q ≤ k ∧ i = .int .i64 q ∧ v = .slice A m c ∧ Hid (m = rowsLenF (rs.take q)) ∧ Hid (Ow w wr 80 2 A m c (fls (rowsAllF (rs.take q))))) (fun _ i _ => k - (intOf i).toNat)
      case atStart => exact ⟨0, 0, c1, A1, Nat.zero_le _, rfl, rfl, Lib.hid (by simp [rowsLenF]), Lib.hid (by have e : rowsAllF (List.take 0 rs) = [] := (by simp [rowsAllF]); rw [e]; exact hO1)⟩
      case round =>
        clear hO1
        obtain ⟨q, m2, c2, A2, hq, rfl, rfl, Hm2, HO⟩ := hrel
        by_cases hlt2 : q < k
        · obtain ⟨b, off, r, rfl, hr, hc⟩ := Hat.out _ _ (HA.out.below HO.out.2) hlt2
          have hs : m2 + r.n = rowsLenF (rs.take (q + 1)) := by rw [take_snocF hr, rowsLenF_snoc, Hm2.out]
          have hs2 : m2 + r.n ≤ 1000000000 := by rw [hs]; exact Nat.le_trans (rowsLenF_take _ _) hl
          have hrow := Lib.hid ((HR.out r (List.mem_of_getElem? hr)).below HO.out.2)
          have hall : rowsAllF (rs.take (q + 1)) = rowsAllF (rs.take q) ++ r.l := by rw [take_snocF hr, rowsAllF_snoc]
          have Hs := Lib.hid hs
          have Hall := Lib.hid hall
          clear hs hr hall
          have hx1 := Lib.hid (show m2 + r.n ≤ maxLen by simp only [maxLen]; omega)
          have hx2 := Lib.hid (show (m2 + r.n) * 32 ≤ 140737488355328 by omega)
          go_wp2_with (at_builtin; refine wpList_append_sl _ rfl (.tmp 31) (.tmp 32) _ rfl w 80 i0 _ 2 32 Tryz.underlying26 hi0 hz0 hz1 hz2 rfl (by decide) A2 m2 c2 _ rfl HO.out r.A r.n r.c (fls r.l) rfl hrow.out (one_fls _) hx1.out hx2.out ?_; intro A3 c3 w3 hO3 hg3 ha3)
          go_roundw
          case rel => exact ⟨q + 1, m2 + r.n, c3, A3, by omega, by go_num, rfl, Hs, Lib.hid (by rw [Hall.out, fls_append]; exact hO3)⟩
          case measure => simp [intOf]; omega
        · obtain rfl : q = k := by omega
          rw [List.take_of_length_le (by rw [Hlen.out]; exact Nat.le_refl _)] at Hm2 HO
          have hm2 := Hm2.out
          subst hm2
          clear Hm
          go_wp2
          go_ret
          exact ⟨A2, c2, rfl, HO.out⟩

end Go.Proofs.YtkginbfpokbhcaaGreatDoor
