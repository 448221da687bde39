/-
  line.Similar: how alike lines are. Conditions: as line.Diff's.
-/
import Derived.Test.YtpnogcblafmaiaaDoorLineDiff
namespace Go.Proofs.YtpnogcblafmaiaaDoor
open Go.RowKit
open LineLaw (Hk)

theorem hks_at {l : List Hk} {k : Nat} {h : Hk} (hk : l[k]? = some h) (i : Nat) (hi : i < 4) : (hks l)[k * 4 + i]? = (hkc h)[i]? := by
  induction l generalizing k with
  | nil => simp at hk
  | cons a l ih =>
    rw [hks, List.flatMap_cons, ← hks]
    have e4 : (hkc a).length = 4 := rfl
    cases k with
    | zero =>
      simp at hk; subst hk
      rw [List.getElem?_append_left (by omega)]; simp
    | succ k =>
      rw [List.getElem?_append_right (by omega), e4, show (k + 1) * 4 + i - 4 = k * 4 + i by omega]
      exact ih (by simpa using hk)
/-- a hunk in a slice of hunks -/
theorem Sl.hunk {w : World} {A : Option Addr} {m k : Nat} {l : List Hk} (h : Sl w 4 A m (hks l)) (hk : k < m) : ∃ b off x, A = some ⟨b, off, none⟩ ∧ b < w.heap.size ∧ l[k]? = some x ∧
    w.cell? ⟨b, off + k * 4, none⟩ = some (I x.a0) ∧ w.cell? ⟨b, off + k * 4 + 1, none⟩ = some (I x.a1) ∧ w.cell? ⟨b, off + k * 4 + 2, none⟩ = some (I x.b0) ∧ w.cell? ⟨b, off + k * 4 + 3, none⟩ = some (I x.b1) := by
  obtain ⟨b, off, rfl, hb, hc⟩ := h.2 (by omega)
  have hl : l.length = m := by have := h.1; rw [hks_len] at this; omega
  obtain ⟨x, hx⟩ : ∃ x, l[k]? = some x := ⟨l[k]'(by omega), List.getElem?_eq_getElem _⟩
  refine ⟨b, off, x, rfl, hb, hx, ?_, ?_, ?_, ?_⟩
  · have := (hc (k * 4 + 0) (by omega)).trans (hks_at hx 0 (by omega)); simpa [hkc] using this
  · have := (hc (k * 4 + 1) (by omega)).trans (hks_at hx 1 (by omega)); simpa [hkc, Nat.add_assoc] using this
  · have := (hc (k * 4 + 2) (by omega)).trans (hks_at hx 2 (by omega)); simpa [hkc, Nat.add_assoc] using this
  · have := (hc (k * 4 + 3) (by omega)).trans (hks_at hx 3 (by omega)); simpa [hkc, Nat.add_assoc] using this
theorem hks_count {w : World} {A : Option Addr} {m : Nat} {l : List Hk} (h : Sl w 4 A m (hks l)) : l.length = m := by have := h.1; rw [hks_len] at this; omega

namespace LineLaw
theorem ok_mem {α : Type} {a b : List α} : ∀ {l : List Hk} {i j : Nat} {f : Bool}, Ok a b i j f l → ∀ h ∈ l, h.a0 ≤ h.a1 ∧ h.a1 ≤ a.length ∧ h.b0 ≤ h.b1 ∧ h.b1 ≤ b.length
  | [], _, _, _, _, _, hm => by cases hm
  | x :: l, i, j, f, ho, h, hm => by
    obtain ⟨_, _, h3, h4, h5, h6, _, _, _, _, h7⟩ := ho
    rcases List.mem_cons.1 hm with rfl | hm
    · exact ⟨h3, h5, h4, h6⟩
    · exact ok_mem h7 h hm
theorem gone_take {l : List Hk} (h : ∀ x ∈ l, x.a0 ≤ x.a1) (k : Nat) : 0 ≤ gone (l.take k) ∧ gone (l.take k) ≤ gone l := by
  induction l generalizing k with
  | nil => simp [gone]
  | cons x l ih =>
    have hx := h x (by simp)
    have hl := fun k => ih (fun y hy => h y (by simp [hy])) k
    cases k with
    | zero =>
      have := hl l.length
      rw [List.take_length] at this
      simp [gone]; omega
    | succ k => have := hl k; simp [gone]; omega
theorem gone_step {l : List Hk} {k : Nat} {x : Hk} (hx : l[k]? = some x) : gone (l.take (k + 1)) = gone (l.take k) + ((x.a1 : Int) - x.a0) := by
  rw [List.take_add_one, hx, gone_append]; simp [gone]
end LineLaw

set_option maxHeartbeats 2000000 in
set_option maxRecDepth 100000 in
theorem similar_any (A A' : Option Addr) (n n' c c' : Nat) (ss ss' : List (List UInt8)) (w : World) (hA : Sl w 1 A n (strs ss)) (hA' : Sl w 1 A' n' (strs ss')) (hc : n ≤ c) (hc' : n' ≤ c') (hmul : n * n' ≤ 1048576) (hn : n ≤ 274877906944) (hn' : n' ≤ 274877906944) :
    Calls Tryd.prog 19 #[.slice A n c, .slice A' n' c'] w fun e w' => e = .returned (I (LineLaw.similar ss ss')) ∧ Below w.heap.size w w' := by
  have hl := Lib.hid (strs_len hA)
  have hl' := Lib.hid (strs_len hA')
  by_cases h0 : n + n' = 0
  · have hz : ((n : Int) + n' == 0) = true := by simp; omega
    have HR := Lib.hid (show LineLaw.similar ss ss' = 100 by unfold LineLaw.similar; rw [if_pos (by rw [hl.out, hl'.out]; exact h0)])
    go_enter Tryd.func19, Tryd.ntmps19
    go_wp2
    go_ret
    exact ⟨ret_int HR.out.symm, Below.refl _ _⟩
  · have hz : ((n : Int) + n' == 0) = false := by simp; omega
    have hd := LineLaw.diff_gone ss ss'
    have hm := LineLaw.ok_mem (LineLaw.diff_ok ss ss')
    have hL := LineLaw.L_le_left ss ss'
    rw [hl.out] at hd hL
    rw [hl.out, hl'.out] at hm
    have HR := Lib.hid (show LineLaw.similar ss ss' = 200 * (LineLaw.L ss ss' : Int) / ((n : Int) + n') by unfold LineLaw.similar; rw [if_neg (by rw [hl.out, hl'.out]; exact h0), hl.out, hl'.out])
    obtain ⟨LL, hLL⟩ : ∃ LL, LineLaw.L ss ss' = LL := ⟨_, rfl⟩
    rw [hLL] at hd hL HR
    obtain ⟨l, hll⟩ : ∃ l, LineLaw.diff ss ss' = l := ⟨_, rfl⟩
    have hD := Lib.hid (diff_any A A' n n' c c' ss ss' w hA hA' hc hc' hmul hn hn')
    rw [hll] at hd hm hD
    have Hd := Lib.hid hd
    have Hm := Lib.hid hm
    have Hgt := Lib.hid (fun k => LineLaw.gone_take (l := l) (fun x hx => (hm x hx).1) k)
    clear hLL hll hd hm hA hA' hmul
    go_enter Tryd.func19, Tryd.ntmps19
    go_wp2_with fail
    refine hD.out.mono ?_
    rintro e1 w1 ⟨A1, m1, c1, rfl, hO⟩
    have hS := Lib.hid hO.sl
    have hB := Lib.hid hO.2
    have hlm := Lib.hid (hks_count hO.sl)
    have hcap := hO.cap
    simp only [maxLen] at hcap
    clear hO hD
    go_wp2_with fail
    go_loopw [5, 20] (fun s5 s20 wr => ∃ (k : Nat), k ≤ m1 ∧ s20 = .int .i64 k ∧ s5 = .int .i64 ((n : Int) - LineLaw.gone (l.take k)) ∧ Below w1.heap.size w1 wr) (fun _ s20 _ => m1 - (intOf s20).toNat)
    case atStart => exact ⟨0, Nat.zero_le _, rfl, by simp [LineLaw.gone], Below.refl _ _⟩
    case round =>
      obtain ⟨k, hk, rfl, rfl, hBr⟩ := hrel
      have HBr := Lib.hid hBr
      by_cases hlt : k < m1
      · obtain ⟨b, off, x, rfl, hb, hx, c0, c1', c2, c3⟩ := (hS.out.below hBr).hunk hlt
        have hxm := Hm.out x (List.mem_of_getElem? hx)
        have hst := LineLaw.gone_step hx
        have hg1 := Hgt.out k
        have hg2 := Hgt.out (k + 1)
        have hdd := Hd.out
        obtain ⟨G, hG⟩ : ∃ G, LineLaw.gone (l.take k) = G := ⟨_, rfl⟩
        rw [hG] at hst hg1 ⊢
        rw [hst] at hg2
        have Hst := Lib.hid hst
        have q1 : 0 ≤ (n : Int) - G := by omega
        have q2 : 0 ≤ (x.a1 : Int) - x.a0 := by omega
        have q3 : (x.a1 : Int) - x.a0 ≤ n := by omega
        have q4 : 0 ≤ (n : Int) - G - ((x.a1 : Int) - x.a0) := by omega
        have q5 : (n : Int) - G ≤ n := by omega
        clear hBr hx hst hG hdd hg1 hg2
        go_wp2
        go_roundw
        case rel => exact ⟨k + 1, by omega, by go_num, by rw [Hst.out]; congr 1; omega, balloc HBr.out _⟩
        case measure => simp [intOf]; omega
      · have hkm : k = m1 := by omega
        have hall : l.take k = l := List.take_of_length_le (by rw [hlm.out]; omega)
        have hdd := Hd.out
        rw [hall, hdd]
        have q1 : (n : Int) - ((n : Int) - LL) = LL := by omega
        rw [q1]
        have q2 : (0 : Int) ≤ 200 * LL := by omega
        have q3 : 200 * (LL : Int) ≤ 9223372036854775807 := by omega
        have q4 : (1 : Int) ≤ (n : Int) + n' := by omega
        clear hkm hall hdd q1 hBr
        go_wp2
        go_ret
        exact ⟨ret_int HR.out.symm, bstep hB.out HBr.out⟩
end Go.Proofs.YtpnogcblafmaiaaDoor
