/-
  dolmenlaw17: whole, held. Conditions: slices read as lists, of few bytes.
-/
import Derived.Test.YtpnogcblafmaiaaDoorConcat
import Derived.Test.YtpnogcblafmaiaaDoorLineJoin
import Derived.Test.YtpnogcblafmaiaaDoorBlendLaw4
namespace Go.Proofs.YtpnogcblafmaiaaDoor
open Go.RowKit

set_option maxHeartbeats 1000000 in
theorem whole_any (A : Option Addr) (n c : Nat) (b : List UInt8) (w : World) (hA : Sl w 1 A n (u8s b)) (hc : n ≤ c) (hn : n ≤ 600) :
    Calls Tryd.prog 31 #[.slice A n c] w fun e w' => ∃ A' m c', e = .returned (.slice A' m c') ∧ m ≤ n ∧ Ow w w' 9 1 A' m c' (strs (BlendLaw.closed (LinesLaw.lns b))) := by
  have hC := refSplit_any A n c b w hA hc (by omega)
  have hlb : b.length = n := by simpa using hA.len
  obtain ⟨l, hl⟩ : ∃ l, LinesLaw.lns b = l := ⟨_, rfl⟩
  have hne : ∀ s ∈ l, s ≠ [] := fun s hs => LinesLaw.lns_mem b s (by rw [hl]; exact hs)
  have hshort : ∀ s ∈ l, s.length ≤ 600 := fun s hs => by
    have h1 := BlendLaw.line_len (b := b) (s := s) (by rw [hl]; exact hs)
    omega
  rw [hl] at hC ⊢
  have HC := Lib.hid hC
  have Hne := Lib.hid hne
  have Hshort := Lib.hid hshort
  clear hA hC hlb hl hne hshort
  go_enter Tryd.func31, Tryd.ntmps31
  go_wp2_with fail
  refine HC.out.mono ?_
  rintro e w1 ⟨A1, m, c1, rfl, hm, hO⟩
  have hlen : l.length = m := strs_len hO.sl
  clear HC
  rcases Nat.eq_zero_or_pos m with h0 | h0
  · subst h0
    obtain rfl : l = [] := List.eq_nil_of_length_eq_zero hlen
    have HO := Lib.hid hO
    have d0 : decide (0 < 0) = false := rfl
    clear hO hlen
    go_wp2
    go_quiet (fail)
    go_wp2
    go_ret
    exact ⟨A1, 0, c1, rfl, hm, HO.out.drewN _⟩
  · obtain ⟨k, hk⟩ : ∃ k, m = k + 1 := ⟨m - 1, by omega⟩
    have hkm : k < m := by omega
    obtain ⟨s, hs⟩ : ∃ s, l[k]? = some s := ⟨l[k]'(by omega), List.getElem?_eq_getElem _⟩
    have hcl := closed_at (hk ▸ hlen) hs
    have hsm := Hne.out s (List.mem_of_getElem? hs)
    have hss := Hshort.out s (List.mem_of_getElem? hs)
    obtain ⟨q, hq⟩ : ∃ q, s.length = q + 1 := ⟨s.length - 1, by have := List.length_pos_iff.2 hsm; omega⟩
    have hqs : q < s.length := by omega
    obtain ⟨x, hx⟩ : ∃ x, s[q]'hqs = x := ⟨_, rfl⟩
    have hfe : BlendLaw.feedEnd s = (x == 10) := by
      unfold BlendLaw.feedEnd
      rw [List.getLast?_eq_getElem?, hq, Nat.add_sub_cancel, List.getElem?_eq_getElem hqs, hx]
      rfl
    rw [hfe] at hcl
    obtain ⟨g, rfl, _, _⟩ := hO.form (by omega)
    have hcell : w1.cell? ⟨g, k, none⟩ = some (S s) := by
      rw [hO.1.cellAt k (by omega)]
      simp only [strs, List.getElem?_map, hs, Option.map_some]
    have hfr := hO.1.frozenAt k
    have HO := Lib.hid hO
    have Hs := Lib.hid hs
    have Hcl := Lib.hid hcl
    have Hlen := Lib.hid hlen
    have dk : decide (0 < m) = true := by simp; omega
    have W1 : IntKind.i64.wrap ((m : Int) - 1) = (k : Int) := by rw [show (m : Int) - 1 = k by omega]; exact IntWalk.i64_in _ (by omega)
    have W2 : IntKind.i64.wrap ((s.length : Int) - 1) = (q : Int) := by rw [show (s.length : Int) - 1 = q by omega]; exact IntWalk.i64_in _ (by omega)
    have Hk := Lib.hid hk
    clear hO hs hcl hlen hsm hk hq hfe
    have hqb : q < (⟨s.toArray⟩ : ByteArray).size := by rw [size_mk]; exact hqs
    have hxb : (⟨s.toArray⟩ : ByteArray)[q]'hqb = x := by rw [← hx]; rfl
    by_cases hx10 : x = 10
    · rw [if_pos (by rw [hx10]; rfl)] at Hcl
      have hx11 : ((((⟨s.toArray⟩ : ByteArray)[q]'hqb).toNat : Int) != 10) = false := by rw [hxb, hx10]; rfl
      clear hxb hx hx10
      go_wp2
      go_quiet (fail)
      clear W1 W2
      go_wp2
      go_ret
      exact ⟨_, m, c1, rfl, hm, by rw [Hcl.out]; exact HO.out.drewN _⟩
    · rw [if_neg (by simpa using hx10)] at Hcl
      have hx11 : ((((⟨s.toArray⟩ : ByteArray)[q]'hqb).toNat : Int) != 10) = true := by
        rw [hxb]
        simp only [bne_iff_ne, ne_eq]
        intro e
        exact hx10 (UInt8.toNat_inj.1 (by show x.toNat = 10; omega))
      clear hxb hx hx10
      go_wp2
      go_quiet (fail)
      have hk1 : m - 1 = k := by have := Hk.out; omega
      clear W1 W2
      go_wp2
      go_ret
      refine ⟨_, m, c1, rfl, hm, ?_⟩
      rw [Hcl.out]
      have e : strs (l.set k (s ++ [10])) = (strs l).set k (S (s ++ [10])) := by simp [strs, List.map_set]
      rw [e]
      exact (HO.out.drewN _).set_ k (S (s ++ [10]))
/-- is a line among bytes' lines, each ended by a line feed? -/
theorem held_any (A : Option Addr) (n c : Nat) (b s : List UInt8) (w : World) (hA : Sl w 1 A n (u8s b)) (hc : n ≤ c) (hn : n ≤ 600) :
    Calls Tryd.prog 32 #[.slice A n c, S s] w fun e w' => e = .returned (.bool (decide (s ∈ BlendLaw.closed (LinesLaw.lns b)))) ∧ Below w.heap.size w w' := by
  have HC := Lib.hid (whole_any A n c b w hA hc hn)
  clear hA
  obtain ⟨l, hl⟩ : ∃ l, BlendLaw.closed (LinesLaw.lns b) = l := ⟨_, rfl⟩
  rw [hl] at HC ⊢
  clear hl
  go_enter Tryd.func32, Tryd.ntmps32
  go_wp2_with fail
  refine HC.out.mono ?_
  rintro e w1 ⟨A1, m, c1, rfl, hm, hO⟩
  have Hlen := Lib.hid (strs_len hO.sl)
  have HO := Lib.hid hO
  clear hO HC
  go_wp2
  go_loop [4, 6] (fun r i => ∃ k : Nat, k ≤ m ∧ i = .int .i64 k ∧ s ∉ l.take k ∧ r = .bool false) (fun _ i => m - (intOf i).toNat)
  case atStart => exact ⟨0, Nat.zero_le _, rfl, by simp, rfl⟩
  case round =>
    obtain ⟨k, hk, rfl, hnot, rfl⟩ := hrel
    have Hnot := Lib.hid hnot
    clear hnot
    by_cases hlt : k < m
    · obtain ⟨b1, off, u, rfl, hu, hcell⟩ := HO.out.sl.str hlt
      have Hu := Lib.hid hu
      clear hu
      by_cases hus : u = s
      · have hb : (u == s) = true := by simpa using hus
        have Hus := Lib.hid hus
        clear hus
        go_wp2
        go_ret
        exact ⟨ret_dec (List.mem_of_getElem? (Hus.out ▸ Hu.out)), HO.out.2⟩
      · have hb : (u == s) = false := by simpa using hus
        have Hus := Lib.hid hus
        clear hus
        go_wp2
        go_round
        case rel =>
          refine ⟨k + 1, by omega, by go_num, ?_, rfl⟩
          rw [List.take_add_one, Hu.out]
          simp only [Option.toList_some, List.mem_append, List.mem_singleton]
          rintro (h | h)
          · exact Hnot.out h
          · exact Hus.out h.symm
        case measure => simp [intOf]; omega
    · obtain rfl : k = m := by omega
      go_wp2
      go_ret
      have h := Hnot.out
      rw [List.take_of_length_le (by rw [Hlen.out]; exact Nat.le_refl _)] at h
      exact ⟨ret_ndec h, HO.out.2⟩
end Go.Proofs.YtpnogcblafmaiaaDoor
