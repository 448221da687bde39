/-
  work.Get. Conditions: the path is no longer than 2147483648 bytes; the disk lies in memory; MaxLen holds an int.
-/
import Derived.Test.YtphnfcgdpdimbaaGreatDoorWorkPut
import Derived.Test.YtphnfcgdpdimbaaGreatDoorTake
namespace Go.Proofs.YtphnfcgdpdimbaaGreatDoor
open Go.RowKit Go.Shelf

/-- what is got: an error, a stamp, a content -/
def getE (L : List DF) (s : List UInt8) : Int := if workedB s then (match getF L (wname s) with | none => 3 | some x => match takeNum x.2.2 with | none => 2 | some _ => 0) else 1
def getN (L : List DF) (s : List UInt8) : Nat := if workedB s then (match getF L (wname s) with | none => 0 | some x => match takeNum x.2.2 with | none => 0 | some y => y.1) else 0
def getB (L : List DF) (s : List UInt8) : List UInt8 := if workedB s then (match getF L (wname s) with | none => [] | some x => match takeNum x.2.2 with | none => [] | some y => y.2) else []
theorem no_zero2 {s : List UInt8} (h : workedB s = true) : okName (wname s) = true := by
  obtain ⟨h1, h2, h3, h4⟩ := worked_ok h
  unfold okName at h1 ⊢
  simp only [Bool.and_eq_true, decide_eq_true_eq] at h1 ⊢
  exact ⟨List.length_pos_iff.2 h2, by simp [wname]; omega, no_zero _ [126] h1.2.2⟩
set_option maxRecDepth 100000 in
set_option maxHeartbeats 2000000 in
theorem wget_any (w : World) (p m n : Nat) (cap : Int) (L : List DF) (s : List UInt8) (h : DiskAt w p m n cap L) (hs : s.length ≤ 2147483648) (hM : MaxL w) :
    Calls Tryz.prog 24 #[.pointer (some ⟨p, 0, none⟩), S s] w fun e w' => ∃ (A : Option Addr) (k c : Nat), e = .returned (.tuple #[.slice A k c, I (getN L s), I (getE L s)]) ∧ Ow w w' 5 1 A k c (u8s (getB L s)) := by
  have C1 := wright_any w p m n cap L s h hs hM
  have HD := Lib.hid h
  clear h hM
  rcases hw : workedB s with _ | _
  · rw [hw] at C1
    have C1' := Lib.hid C1
    have e1 : getN L s = 0 := by unfold getN; rw [hw]; rfl
    have e2 : getE L s = 1 := by unfold getE; rw [hw]; rfl
    have e3 : getB L s = [] := by unfold getB; rw [hw]; rfl
    rw [e1, e2, e3]
    clear C1 hw e1 e2 e3
    go_enter Tryz.func24, Tryz.ntmps24
    go_wp2_with (go_at_call 36; refine C1'.out.mono ?_; rintro e w1 ⟨rfl, b1⟩; have B1 := Lib.hid b1; clear b1)
    go_ret3
    exact ⟨none, 0, 0, rfl, Ow.nil_ B1.out⟩
  · rw [hw] at C1
    have C1' := Lib.hid C1
    have Hok := Lib.hid (no_zero2 hw)
    have Hw := Lib.hid hw
    clear C1 hw
    rcases hg : getF L (wname s) with _ | x
    · have e1 : getN L s = 0 := by unfold getN; rw [Hw.out, if_pos rfl, hg]
      have e2 : getE L s = 3 := by unfold getE; rw [Hw.out, if_pos rfl, hg]
      have e3 : getB L s = [] := by unfold getB; rw [Hw.out, if_pos rfl, hg]
      rw [e1, e2, e3]
      have Hg := Lib.hid hg
      clear hg e1 e2 e3
      go_enter Tryz.func24, Tryz.ntmps24
      go_wp2_with (first
        | (go_at_call 36; refine C1'.out.mono ?_; rintro e w1 ⟨rfl, b1⟩; have B1 := Lib.hid b1; have CN := Lib.hid (wname_any s w1 hs); have CR := Lib.hid (dread_none w1 p m n cap L (wname s) (HD.out.step b1) Hok.out Hg.out); clear b1)
        | (go_at_call 29; refine CN.out.mono ?_; rintro e w' ⟨rfl, h⟩; obtain rfl := h.symm; clear h)
        | (go_at_call 66; refine CR.out.mono ?_; rintro e w2 ⟨rfl, b2⟩; have B2 := Lib.hid (bstep B1.out b2); clear b2))
      go_ret3
      exact ⟨none, 0, 0, rfl, Ow.nil_ B2.out⟩
    · have Hg := Lib.hid hg
      have hsm := HD.out.small x (getF_mem hg).1
      have hln : x.2.2.length = x.2.1.n := u8s_len (HD.out.row x (getF_mem hg).1).sl
      have Hln := Lib.hid (show x.2.2.length ≤ 1000000000000 by omega)
      clear hg hsm hln
      go_enter Tryz.func24, Tryz.ntmps24
      go_wp2_with (first
        | (go_at_call 36; refine C1'.out.mono ?_; rintro e w1 ⟨rfl, b1⟩; have B1 := Lib.hid b1; have CN := Lib.hid (wname_any s w1 hs); have CR := Lib.hid (dread_some w1 p m n cap L (wname s) x (HD.out.step b1) Hg.out); clear b1)
        | (go_at_call 29; refine CN.out.mono ?_; rintro e w' ⟨rfl, h⟩; obtain rfl := h.symm; clear h)
        | (go_at_call 66; refine CR.out.mono ?_; rintro e w2 ⟨A2, k2, c2, rfl, hO2⟩; have HO2 := Lib.hid hO2; have B2 := Lib.hid (bstep B1.out hO2.2); clear hO2))
      have CT := takeNum_any A2 k2 c2 x.2.2 w2 HO2.out.sl HO2.out.cap.1 (by have := ow_len HO2.out; have := Hln.out; omega)
      rcases ht : takeNum x.2.2 with _ | ⟨v, r⟩
      · have e1 : getN L s = 0 := by unfold getN; rw [Hw.out, if_pos rfl, Hg.out]; simp only; rw [ht]
        have e2 : getE L s = 2 := by unfold getE; rw [Hw.out, if_pos rfl, Hg.out]; simp only; rw [ht]
        have e3 : getB L s = [] := by unfold getB; rw [Hw.out, if_pos rfl, Hg.out]; simp only; rw [ht]
        have E := Lib.hid (And.intro e1 (And.intro e2 e3))
        have Ht := Lib.hid ht
        have CT' := Lib.hid CT
        clear e1 e2 e3 ht CT
        refine CT'.out.mono ?_
        rintro e w3 (⟨v, r, A', k', c', h1, _⟩ | ⟨_, rfl, b3⟩)
        · rw [Ht.out] at h1
          cases h1
        · have B3 := Lib.hid (bstep B2.out b3)
          clear b3 CT'
          go_wp2
          go_ret3
          exact ⟨none, 0, 0, by rw [E.out.1, E.out.2.1]; rfl, by rw [E.out.2.2]; exact Ow.nil_ B3.out⟩
      · have e1 : getN L s = v := by unfold getN; rw [Hw.out, if_pos rfl, Hg.out]; simp only; rw [ht]
        have e2 : getE L s = 0 := by unfold getE; rw [Hw.out, if_pos rfl, Hg.out]; simp only; rw [ht]
        have e3 : getB L s = r := by unfold getB; rw [Hw.out, if_pos rfl, Hg.out]; simp only; rw [ht]
        have E := Lib.hid (And.intro e1 (And.intro e2 e3))
        have Ht := Lib.hid ht
        have CT' := Lib.hid CT
        clear e1 e2 e3 ht CT
        refine CT'.out.mono ?_
        rintro e w3 (⟨v', r', A', k', c', h1, rfl, hO⟩ | ⟨h1, _⟩)
        · rw [Ht.out] at h1
          obtain ⟨rfl, rfl⟩ : v = v' ∧ r = r' := by cases h1; exact ⟨rfl, rfl⟩
          have HO3 := Lib.hid (hO.since B2.out)
          clear h1 hO CT'
          go_wp2
          go_ret3
          exact ⟨A', k', c', by rw [E.out.1, E.out.2.1]; rfl, by rw [E.out.2.2]; exact HO3.out⟩
        · rw [Ht.out] at h1
          cases h1
end Go.Proofs.YtphnfcgdpdimbaaGreatDoor
