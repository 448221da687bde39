/-
  slices.Grow onto nil, slices.Concat at texts; blend.closed. Conditions: slices read as lists, of few elements.
-/
import Derived.Test.YtpnogcblafmaiaaDoorFrame
import Derived.Test.YtpnogcblafmaiaaDoorBlendLaw
import Derived.Test.YtpnogcblafmaiaaDoorTexts
import Derived.Test.YtpnogcblafmaiaaDoorShelf
import Derived.Lib.AppendZerosOnto
import Derived.Lib.SliceRun
import Derived.Outline
namespace Go.Proofs.YtpnogcblafmaiaaDoor
open Go.RowKit

set_option maxHeartbeats 2000000 in
set_option maxRecDepth 100000 in
theorem growS_any (n : Nat) (w : World) (hn : n ≤ 1000000000) :
    Calls Tryd.prog 69 #[.slice none 0 0, I n] w fun e w' => ∃ A c, e = .returned (.slice A 0 c) ∧ Ow w w' 9 1 A 0 c [] := by
  obtain ⟨i0, hi0, hz0, hz1, hz2⟩ := info_parts Tryd.infoStr
  rcases Nat.eq_zero_or_pos n with h0 | h0
  · subst h0
    go_enter Tryd.func69, Tryd.ntmps69
    go_wp2
    go_ret
    exact ⟨none, 0, rfl, Ow.nil_ (Below.refl _ _)⟩
  · have hold : (Builtin.firstCells i0.size 0 (.slice none 0 0)).run Tryd.prog w.drew = .ok ([] : List Value).toArray w.drew := run_firstCells_none w.drew i0.size 0 0 0
    have hrz := fun ty => Lib.run_append_grow_zeros (P := Tryd.prog) w 22 3 ty 9 i0 _ .i64 .i64 Tryd.underlying22 Tryd.underlying3 hi0 hz0 none 0 0 [] hold n h0 (by omega) (by omega) (by omega) (by rw [hz2]; omega) (growslice_fits (by omega) (by rw [hz2]; omega))
    have hge := grownCap_ge w (0 + n) 0 9
    have hle := grownCap_le_maxLen w (0 + n) 0 9 (by simp only [maxLen]; omega)
    generalize hG : grownCap w (0 + n) 0 9 = G at *
    rw [Nat.zero_add] at hrz hge
    have hown := World.ownsRow_made (base := w.heap.size) (e := 9) (size := 1) w.drew (([] : List Value).toArray ++ Builtin.zeroCells (Value.string ⟨#[]⟩).cells n ++ Builtin.zeroCells (Value.string ⟨#[]⟩).cells (G - n)) G (Nat.le_refl _) hle (by simp [Builtin.zeroCells, Value.cells]; omega)
    have HO := Lib.hid (show Ow w (w.drew.alloc (.cells (([] : List Value).toArray ++ Builtin.zeroCells (Value.string ⟨#[]⟩).cells n ++ Builtin.zeroCells (Value.string ⟨#[]⟩).cells (G - n)) 9)) 9 1 (some ⟨w.heap.size, 0, none⟩) 0 G [] from ⟨hown, (Below.refl _ _).drew.alloc (Nat.le_refl _) _⟩)
    clear hown hold hG
    generalize w.drew.alloc (.cells (([] : List Value).toArray ++ Builtin.zeroCells (Value.string ⟨#[]⟩).cells n ++ Builtin.zeroCells (Value.string ⟨#[]⟩).cells (G - n)) 9) = w1 at *
    have hG63 : G ≤ 9223372036854775807 := by simp only [maxLen] at hle; omega
    have Hrz := Lib.hid hrz
    clear hrz hle
    go_enter Tryd.func69, Tryd.ntmps69
    go_wp2_with (at_builtin; refine Lib.wpList_append_run _ rfl (.tmp 20) (.tmp 21) _ _ rfl _ _ rfl rfl _ _ (Hrz.out _) ?_)
    go_ret
    exact ⟨some ⟨w.heap.size, 0, none⟩, G, rfl, HO.out⟩

/-- a slice of texts, as a value and as a list -/
structure Rw where
  A : Option Addr
  n : Nat
  c : Nat
  l : List (List UInt8)
abbrev Rw.v (r : Rw) : Value := .slice r.A r.n r.c
def rowsLen : List Rw → Nat
  | [] => 0
  | r :: t => r.n + rowsLen t
def rowsAll (rs : List Rw) : List (List UInt8) := rs.flatMap (·.l)
theorem rowsLen_snoc (rs : List Rw) (r : Rw) : rowsLen (rs ++ [r]) = rowsLen rs + r.n := by
  induction rs with
  | nil => simp [rowsLen]
  | cons a t ih => simp [rowsLen, ih]; omega
theorem rowsAll_snoc (rs : List Rw) (r : Rw) : rowsAll (rs ++ [r]) = rowsAll rs ++ r.l := by simp [rowsAll]
theorem rowsLen_take (rs : List Rw) (k : Nat) : rowsLen (rs.take k) ≤ rowsLen rs := by
  induction rs generalizing k with
  | nil => simp
  | cons a t ih => cases k with
    | zero => simp [rowsLen]
    | succ k => have := ih k; simp [rowsLen]; omega
theorem take_snoc_ {α : Type} {l : List α} {k : Nat} {x : α} (h : l[k]? = some x) : l.take (k + 1) = l.take k ++ [x] := by rw [List.take_add_one, h]; rfl

set_option maxHeartbeats 4000000 in
set_option maxRecDepth 100000 in
theorem concat_any (A : Option Addr) (n c : Nat) (rs : List Rw) (w : World) (hA : Sl w 1 A n (rs.map Rw.v)) (hr : ∀ r ∈ rs, Sl w 1 r.A r.n (strs r.l)) (hn : n ≤ 1000000000) (hl : rowsLen rs ≤ 1000000000) :
    Calls Tryd.prog 57 #[.slice A n c] w fun e w' => ∃ A' c', e = .returned (.slice A' (rowsLen rs) c') ∧ Ow w w' 9 1 A' (rowsLen rs) c' (strs (rowsAll rs)) := by
  obtain ⟨i0, hi0, hz0, hz1, hz2⟩ := info_parts Tryd.infoStr
  have hlen : rs.length = n := by simpa using hA.len
  have Hlen := Lib.hid hlen
  have HA := Lib.hid hA
  have HR := Lib.hid hr
  clear hlen hA hr
  have hat : ∀ (W : World) (k : Nat), Sl W 1 A n (rs.map Rw.v) → k < n → ∃ b off r, A = some ⟨b, off, none⟩ ∧ rs[k]? = some r ∧ W.cell? ⟨b, off + k, none⟩ = some r.v := by
    intro W k h hk
    obtain ⟨b, off, u, e, hx, hc⟩ := h.at_ hk
    simp only [List.getElem?_map, Option.map_eq_some_iff] at hx
    obtain ⟨r, hr, rfl⟩ := hx
    exact ⟨b, off, r, e, hr, hc⟩
  have Hat := Lib.hid hat
  clear hat
  go_enter Tryd.func57, Tryd.ntmps57
  go_wp2
  go_loop [3, 11] (fun s i => ∃ k m : Nat, k ≤ n ∧ i = .int .i64 k ∧ s = .int .i64 m ∧ Hid (m = rowsLen (rs.take k)) ∧ m ≤ 1000000000) (fun _ i => n - (intOf i).toNat)
  case atStart => exact ⟨0, 0, Nat.zero_le _, rfl, rfl, Lib.hid (by simp [rowsLen]), by omega⟩
  case round =>
    obtain ⟨k, m, hk, rfl, rfl, Hm, hm⟩ := hrel
    by_cases hlt : k < n
    · obtain ⟨b, off, r, rfl, hr, hc⟩ := Hat.out _ _ HA.out hlt
      have hs : m + r.n = rowsLen (rs.take (k + 1)) := by rw [take_snoc_ hr, rowsLen_snoc, Hm.out]
      have hs2 : m + r.n ≤ 1000000000 := by rw [hs]; exact Nat.le_trans (rowsLen_take _ _) hl
      have Hs := Lib.hid hs
      clear hs hr
      go_wp2
      go_round
      case rel => exact ⟨k + 1, m + r.n, by omega, by go_num, by go_num, Hs, hs2⟩
      case measure => simp [intOf]; omega
    · obtain rfl : k = n := by omega
      rw [List.take_of_length_le (by rw [Hlen.out]; exact Nat.le_refl _)] at Hm
      go_wp2_with fail
      refine (growS_any m _ hm).mono ?_
      rintro e w1 ⟨A1, c1, rfl, hO1⟩
      go_wp2
      go_loopw [6, 27] (fun v i wr => ∃ (q m : Nat) (c : Nat) (A : Option Addr), q ≤ k ∧ i = .int .i64 q ∧ v = .slice A m c ∧ Hid (m = rowsLen (rs.take q)) ∧ Hid (Ow w wr 9 1 A m c (strs (rowsAll (rs.take q))))) (fun _ i _ => k - (intOf i).toNat)
      case atStart => exact ⟨0, 0, c1, A1, Nat.zero_le _, rfl, rfl, Lib.hid (by simp [rowsLen]), Lib.hid (by simpa [rowsAll] using hO1)⟩
      case round =>
        clear hO1
        obtain ⟨q, m2, c2, A2, hq, rfl, rfl, Hm2, HO⟩ := hrel
        by_cases hlt2 : q < k
        · obtain ⟨b, off, r, rfl, hr, hc⟩ := Hat.out _ _ (HA.out.below HO.out.2) hlt2
          have hs : m2 + r.n = rowsLen (rs.take (q + 1)) := by rw [take_snoc_ hr, rowsLen_snoc, Hm2.out]
          have hs2 : m2 + r.n ≤ 1000000000 := by rw [hs]; exact Nat.le_trans (rowsLen_take _ _) hl
          have hrow := Lib.hid ((HR.out r (List.mem_of_getElem? hr)).below HO.out.2)
          have hall : rowsAll (rs.take (q + 1)) = rowsAll (rs.take q) ++ r.l := by rw [take_snoc_ hr, rowsAll_snoc]
          have Hs := Lib.hid hs
          have Hall := Lib.hid hall
          clear hs hr hall
          have hx1 := Lib.hid (show m2 + r.n ≤ maxLen by simp only [maxLen]; omega)
          have hx2 := Lib.hid (show (m2 + r.n) * 16 ≤ 140737488355328 by omega)
          go_wp2_with (at_builtin; refine wpList_append_sl _ rfl (.tmp 31) (.tmp 32) _ rfl w 9 i0 _ 1 16 Tryd.underlying22 hi0 hz0 hz1 hz2 rfl Nat.one_pos A2 m2 c2 _ rfl HO.out r.A r.n r.c (strs r.l) rfl hrow.out (one_strs _) hx1.out hx2.out ?_; intro A3 c3 w3 hO3 hg3 ha3)
          go_roundw
          case rel => exact ⟨q + 1, m2 + r.n, c3, A3, by omega, by go_num, rfl, Hs, Lib.hid (by rw [Hall.out, strs, List.map_append]; exact hO3)⟩
          case measure => simp [intOf]; omega
        · obtain rfl : q = k := by omega
          rw [List.take_of_length_le (by rw [Hlen.out]; exact Nat.le_refl _)] at Hm2 HO
          have hm2 := Hm2.out
          subst hm2
          clear Hm
          go_wp2
          go_ret
          exact ⟨A2, c2, rfl, HO.out⟩

theorem feed_suffix (s : List UInt8) : Lib.hasSuffix s [10] = BlendLaw.feedEnd s := by
  unfold Lib.hasSuffix BlendLaw.feedEnd
  rw [Bool.eq_iff_iff, List.isSuffixOf_iff_suffix]
  constructor
  · rintro ⟨p, rfl⟩
    simp
  · intro h
    have h1 : s.getLast? = some 10 := by simpa using h
    obtain ⟨p, hp⟩ := List.getLast?_eq_some_iff.1 h1
    exact ⟨p, hp.symm⟩
theorem closed_at {l : List (List UInt8)} {m : Nat} {s : List UInt8} (hl : l.length = m + 1) (hs : l[m]? = some s) : BlendLaw.closed l = if BlendLaw.feedEnd s = true then l else l.set m (s ++ [10]) := by
  have h1 : l.getLast? = some s := by rw [List.getLast?_eq_getElem?, hl]; simpa using hs
  unfold BlendLaw.closed
  rw [h1]
  dsimp only
  split
  · rfl
  · obtain ⟨p, hp⟩ := List.getLast?_eq_some_iff.1 h1
    have hpl : p.length = m := by rw [hp] at hl; simp at hl; exact hl
    rw [hp, ← hpl]
    simp

set_option maxHeartbeats 2000000 in
set_option maxRecDepth 100000 in
theorem closed_any (A : Option Addr) (n c : Nat) (l : List (List UInt8)) (w : World) (hA : Sl w 1 A n (strs l)) (hn : n ≤ 1000000000) (hsz : ∀ s ∈ l, s.length ≤ 1000000000) :
    Calls Tryd.prog 58 #[.slice A n c] w fun e w' => ∃ A' c', e = .returned (.slice A' n c') ∧ Ow w w' 9 1 A' n c' (strs (BlendLaw.closed l)) := by
  have hlen := strs_len hA
  have HC := Lib.hid (cloneS_any A n c l w hA (by omega))
  clear hA
  rcases Nat.eq_zero_or_pos n with h0 | h0
  · subst h0
    obtain rfl : l = [] := List.eq_nil_of_length_eq_zero hlen
    go_enter Tryd.func58, Tryd.ntmps58
    go_wp2_with fail
    refine HC.out.mono ?_
    rintro e w1 ⟨A1, c1, rfl, hO⟩
    go_wp2
    go_ret
    exact ⟨A1, c1, rfl, hO⟩
  · obtain ⟨m, rfl⟩ : ∃ m, n = m + 1 := ⟨n - 1, by omega⟩
    obtain ⟨s, hs⟩ : ∃ s, l[m]? = some s := ⟨l[m]'(by omega), List.getElem?_eq_getElem _⟩
    have hcl := closed_at hlen hs
    have hsl := hsz s (List.mem_of_getElem? hs)
    have hfs := feed_suffix s
    have HS := Lib.hid (fun W : World => Tryd.strings_HasSuffix ⟨s.toArray⟩ ⟨#[10]⟩ W (by rw [size_mk]; omega))
    have hdat : ((⟨s.toArray⟩ : ByteArray).data.toList) = s := by simp
    have hdat2 : ((⟨#[10]⟩ : ByteArray).data.toList) = [10] := rfl
    rw [hdat, hdat2, hfs] at HS
    have Hs := Lib.hid hs
    have Hcl := Lib.hid hcl
    have Hlen := Lib.hid hlen
    clear hs hcl hfs hdat hdat2 hlen hsz
    by_cases hf : BlendLaw.feedEnd s = true
    · rw [hf] at HS
      rw [if_pos hf] at Hcl
      clear hf
      go_enter Tryd.func58, Tryd.ntmps58
      go_wp2_with fail
      refine HC.out.mono ?_
      rintro e w1 ⟨A1, c1, rfl, hO⟩
      obtain ⟨b, off, s', rfl, hs', hc⟩ := hO.sl.str (k := m) (by omega)
      obtain rfl : s' = s := Option.some.inj (hs'.symm.trans Hs.out)
      have HO := Lib.hid hO
      clear hs' hO
      go_wp2_with fail
      refine (HS.out _).mono ?_
      rintro e w2 ⟨rfl, hw2⟩
      rw [hw2]
      clear hw2
      go_wp2
      go_ret
      exact ⟨_, c1, rfl, by rw [Hcl.out]; exact HO.out⟩
    · have hf' : BlendLaw.feedEnd s = false := by simpa using hf
      rw [hf'] at HS
      rw [if_neg hf] at Hcl
      clear hf hf'
      go_enter Tryd.func58, Tryd.ntmps58
      go_wp2_with fail
      refine HC.out.mono ?_
      rintro e w1 ⟨A1, c1, rfl, hO⟩
      obtain ⟨g, rfl, _, _⟩ := hO.form (by omega)
      have hc : w1.cell? ⟨g, m, none⟩ = some (S s) := by
        rw [hO.1.cellAt m (by omega)]
        simp only [strs, List.getElem?_map, Hs.out, Option.map_some]
      have hfr := hO.1.frozenAt m
      have HO := Lib.hid hO
      clear hO
      go_wp2_with fail
      refine (HS.out _).mono ?_
      rintro e w2 ⟨rfl, hw2⟩
      rw [hw2]
      clear hw2
      go_wp2
      go_ret
      refine ⟨_, c1, rfl, ?_⟩
      rw [Hcl.out]
      have h := HO.out.set_ m (S (s ++ [10]))
      have e : (strs l).set m (S (s ++ [10])) = strs (l.set m (s ++ [10])) := by simp [strs, List.map_set]
      rw [e] at h
      exact h
end Go.Proofs.YtpnogcblafmaiaaDoor
