/-
  dolmenlaw17.BlendSides, BlendTurns, BlendNone return true. Conditions: slices read as lists; internal/bytealg.MaxLen holds an int.
-/
import Derived.Test.YtpnogcblafmaiaaDoorBlendAwake
namespace Go.Proofs.YtpnogcblafmaiaaDoor
open Go.RowKit

theorem merge_to (Ab : Option Addr) (nb cb : Nat) (b : List UInt8) (Ao : Option Addr) (no co : Nat) (o : List UInt8) (At : Option Addr) (nt ct : Nat) (t : List UInt8) (r : List UInt8) (f : Bool) (n : Nat) (w : World) (hAb : Sl w 1 Ab nb (u8s b)) (hAo : Sl w 1 Ao no (u8s o)) (hAt : Sl w 1 At nt (u8s t))
    (hnb : nb ≤ 1000) (hno : no ≤ 1000) (hnt : nt ≤ 1000) (hM : MaxL w) (hm : BlendLaw.merge b o t = (r, f)) (hr : r.length = n) :
    Calls Tryd.prog 29 #[.slice Ab nb cb, .slice Ao no co, .slice At nt ct] w fun e w' => ∃ A c, e = .returned (.tuple #[.slice A n c, .bool f]) ∧ Sl w' 1 A n (u8s r) ∧ Below w.heap.size w w' := by
  subst hr
  refine (merge_few Ab nb cb b Ao no co o At nt ct t w hAb hAo hAt hnb hno hnt hM).mono ?_
  rintro e w' ⟨A, c, he, _, hS, hb⟩
  rw [hm] at he hS
  exact ⟨A, c, he, hS, hb⟩

theorem merge_cap (Ab : Option Addr) (nb cb : Nat) (b : List UInt8) (Ao : Option Addr) (no co : Nat) (o : List UInt8) (At : Option Addr) (nt ct : Nat) (t : List UInt8) (r : List UInt8) (f : Bool) (n : Nat) (w : World) (hAb : Sl w 1 Ab nb (u8s b)) (hAo : Sl w 1 Ao no (u8s o)) (hAt : Sl w 1 At nt (u8s t))
    (hnb : nb ≤ 1000) (hno : no ≤ 1000) (hnt : nt ≤ 1000) (hM : MaxL w) (hm : BlendLaw.merge b o t = (r, f)) (hr : r.length = n) :
    Calls Tryd.prog 29 #[.slice Ab nb cb, .slice Ao no co, .slice At nt ct] w fun e w' => ∃ A c, e = .returned (.tuple #[.slice A n c, .bool f]) ∧ Sl w' 1 A n (u8s r) ∧ n ≤ c ∧ Below w.heap.size w w' := by
  subst hr
  refine (merge_few Ab nb cb b Ao no co o At nt ct t w hAb hAo hAt hnb hno hnt hM).mono ?_
  rintro e w' ⟨A, c, he, hc, hS, hb⟩
  rw [hm] at he hS hc
  exact ⟨A, c, he, hS, hc, hb⟩

/-! ## BlendSides -/
theorem blendSides_far (A0 A1 : Option Addr) (n0 n1 c0 c1 : Nat) (w : World) (hM : MaxL w) (h : 600 < n0 ∨ 600 < n1) :
    Calls Tryd.prog 9 #[.slice A0 n0 c0, .slice A1 n1 c1] w fun e w' => e = .returned (.bool true) ∧ Below w.heap.size w w' := by
  go_enter Tryd.func9, Tryd.ntmps9
  go_wp2_with fail
  refine (awake17_any _ hM).mono ?_
  rintro e w1 ⟨rfl, b1⟩
  go_wp2_with fail
  refine (few_no A0 A1 none n0 n1 0 c0 c1 0 _ (by omega)).mono ?_
  rintro e w2 ⟨rfl, b2⟩
  go_wp2
  go_ret
  exact ⟨rfl, bstep b1 b2⟩
set_option maxHeartbeats 2000000 in
set_option maxRecDepth 100000 in
theorem blendSides_near (A0 A1 : Option Addr) (n0 n1 c0 c1 : Nat) (b o : List UInt8) (w : World) (hA0 : Sl w 1 A0 n0 (u8s b)) (hA1 : Sl w 1 A1 n1 (u8s o)) (h0 : n0 ≤ 600) (h1 : n1 ≤ 600) (hM : MaxL w) :
    Calls Tryd.prog 9 #[.slice A0 n0 c0, .slice A1 n1 c1] w fun e w' => e = .returned (.bool true) ∧ Below w.heap.size w w' := by
  have HL := Lib.hid (show o.length = n1 by simpa using hA1.len)
  have HA0 := Lib.hid hA0
  have HA1 := Lib.hid hA1
  clear hA0 hA1
  go_enter Tryd.func9, Tryd.ntmps9
  go_wp2_with fail
  refine (awake17_any _ hM).mono ?_
  rintro e w1 ⟨rfl, b1⟩
  have B1 := Lib.hid b1
  clear b1
  go_wp2_with fail
  refine (few_yes A0 A1 none n0 n1 0 c0 c1 0 _ h0 h1 (by omega)).mono ?_
  rintro e w2 ⟨rfl, b2⟩
  have B2 := Lib.hid (bstep B1.out b2)
  clear b2 B1
  go_wp2_with fail
  refine (merge_to A0 n0 c0 b A0 n0 c0 b A1 n1 c1 o o false n1 _ (HA0.out.below B2.out) (HA0.out.below B2.out) (HA1.out.below B2.out) (by omega) (by omega) (by omega) (hM.step B2.out) (BlendLaw.merge_base b o) HL.out).mono ?_
  rintro e w3 ⟨A3, c3, rfl, hS3, b3⟩
  have B3 := Lib.hid (bstep B2.out b3)
  have HS3 := Lib.hid hS3
  clear b3 hS3 B2
  go_wp2_with fail
  refine (merge_to A0 n0 c0 b A1 n1 c1 o A0 n0 c0 b o false n1 _ (HA0.out.below B3.out) (HA1.out.below B3.out) (HA0.out.below B3.out) (by omega) (by omega) (by omega) (hM.step B3.out) (BlendLaw.merge_base' b o) HL.out).mono ?_
  rintro e w4 ⟨A4, c4, rfl, hS4, b4⟩
  have B4 := Lib.hid (bstep B3.out b4)
  have HS34 := Lib.hid (HS3.out.below b4)
  have HS4 := Lib.hid hS4
  clear b4 hS4 B3 HS3
  go_wp2_with fail
  refine (merge_to A0 n0 c0 b A1 n1 c1 o A1 n1 c1 o o false n1 _ (HA0.out.below B4.out) (HA1.out.below B4.out) (HA1.out.below B4.out) (by omega) (by omega) (by omega) (hM.step B4.out) (BlendLaw.merge_same b o) HL.out).mono ?_
  rintro e w5 ⟨A5, c5, rfl, hS5, b5⟩
  have B5 := Lib.hid (bstep B4.out b5)
  have k1 := conv_any (c := c1) (HA1.out.below B5.out) w5 (Below.refl _ _)
  have k3 := conv_any (c := c3) (HS34.out.below b5) w5 (Below.refl _ _)
  have k4 := conv_any (c := c4) (HS4.out.below b5) w5 (Below.refl _ _)
  have k5 := conv_any (c := c5) hS5 w5 (Below.refl _ _)
  clear b5 hS5 B4
  go_wp2
  go_ret
  exact ⟨rfl, B5.out⟩
theorem blendSides_law (A0 : Option Addr) (n0 c0 : Nat) (b : List UInt8) (A1 : Option Addr) (n1 c1 : Nat) (o : List UInt8) (w : World) (hA0 : Sl w 1 A0 n0 (u8s b)) (_hc0 : n0 ≤ c0) (_hr0 : c0 ≤ 140737488351232) (hA1 : Sl w 1 A1 n1 (u8s o)) (_hc1 : n1 ≤ c1) (_hr1 : c1 ≤ 140737488351232) (hM : MaxL w) :
    Calls Tryd.prog 9 #[.slice A0 n0 c0, .slice A1 n1 c1] w fun e w' => e = .returned (.bool true) ∧ Below w.heap.size w w' := by
  by_cases h : 600 < n0 ∨ 600 < n1
  · exact blendSides_far A0 A1 n0 n1 c0 c1 w hM h
  · exact blendSides_near A0 A1 n0 n1 c0 c1 b o w hA0 hA1 (by omega) (by omega) hM

/-! ## BlendTurns -/
theorem blendTurns_far (A0 A1 A2 : Option Addr) (n0 n1 n2 c0 c1 c2 : Nat) (w : World) (hM : MaxL w) (h : 600 < n0 ∨ 600 < n1 ∨ 600 < n2) :
    Calls Tryd.prog 10 #[.slice A0 n0 c0, .slice A1 n1 c1, .slice A2 n2 c2] w fun e w' => e = .returned (.bool true) ∧ Below w.heap.size w w' := by
  go_enter Tryd.func10, Tryd.ntmps10
  go_wp2_with fail
  refine (awake17_any _ hM).mono ?_
  rintro e w1 ⟨rfl, b1⟩
  go_wp2_with fail
  refine (few_no A0 A1 A2 n0 n1 n2 c0 c1 c2 _ h).mono ?_
  rintro e w2 ⟨rfl, b2⟩
  go_wp2
  go_ret
  exact ⟨rfl, bstep b1 b2⟩
set_option maxHeartbeats 2000000 in
set_option maxRecDepth 100000 in
theorem blendTurns_near (A0 A1 A2 : Option Addr) (n0 n1 n2 c0 c1 c2 : Nat) (b o t : List UInt8) (w : World) (hA0 : Sl w 1 A0 n0 (u8s b)) (hA1 : Sl w 1 A1 n1 (u8s o)) (hA2 : Sl w 1 A2 n2 (u8s t)) (h0 : n0 ≤ 600) (h1 : n1 ≤ 600) (h2 : n2 ≤ 600) (hM : MaxL w) :
    Calls Tryd.prog 10 #[.slice A0 n0 c0, .slice A1 n1 c1, .slice A2 n2 c2] w fun e w' => e = .returned (.bool true) ∧ Below w.heap.size w w' := by
  obtain ⟨r, f, hm⟩ : ∃ r f, BlendLaw.merge b o t = (r, f) := ⟨_, _, rfl⟩
  obtain ⟨r', f', hm'⟩ : ∃ r' f', BlendLaw.merge b t o = (r', f') := ⟨_, _, rfl⟩
  have hsw := BlendLaw.merge_swap b o t
  rw [hm, hm'] at hsw
  obtain ⟨hf, hr⟩ := hsw
  simp only at hf hr
  subst hf
  obtain ⟨n, hn⟩ : ∃ n, r.length = n := ⟨_, rfl⟩
  obtain ⟨n', hn'⟩ : ∃ n', r'.length = n' := ⟨_, rfl⟩
  have HA0 := Lib.hid hA0
  have HA1 := Lib.hid hA1
  have HA2 := Lib.hid hA2
  have Hm := Lib.hid hm
  have Hm' := Lib.hid hm'
  have Hn := Lib.hid hn
  have Hn' := Lib.hid hn'
  have Hr := Lib.hid hr
  clear hA0 hA1 hA2 hm hm' hn hn' hr
  go_enter Tryd.func10, Tryd.ntmps10
  go_wp2_with fail
  refine (awake17_any _ hM).mono ?_
  rintro e w1 ⟨rfl, b1⟩
  have B1 := Lib.hid b1
  clear b1
  go_wp2_with fail
  refine (few_yes A0 A1 A2 n0 n1 n2 c0 c1 c2 _ h0 h1 h2).mono ?_
  rintro e w2 ⟨rfl, b2⟩
  have B2 := Lib.hid (bstep B1.out b2)
  clear b2 B1
  go_wp2_with fail
  refine (merge_to A0 n0 c0 b A1 n1 c1 o A2 n2 c2 t r f n _ (HA0.out.below B2.out) (HA1.out.below B2.out) (HA2.out.below B2.out) (by omega) (by omega) (by omega) (hM.step B2.out) Hm.out Hn.out).mono ?_
  rintro e w3 ⟨A3, c3, rfl, hS3, b3⟩
  have B3 := Lib.hid (bstep B2.out b3)
  have HS3 := Lib.hid hS3
  clear b3 hS3 B2
  go_wp2_with fail
  refine (merge_to A0 n0 c0 b A2 n2 c2 t A1 n1 c1 o r' f n' _ (HA0.out.below B3.out) (HA2.out.below B3.out) (HA1.out.below B3.out) (by omega) (by omega) (by omega) (hM.step B3.out) Hm'.out Hn'.out).mono ?_
  rintro e w4 ⟨A4, c4, rfl, hS4, b4⟩
  have B4 := Lib.hid (bstep B3.out b4)
  have k3 := conv_any (c := c3) (HS3.out.below b4) w4 (Below.refl _ _)
  have k4 := conv_any (c := c4) hS4 w4 (Below.refl _ _)
  clear b4 hS4 B3 HS3
  cases f with
  | true =>
    go_wp2
    go_ret
    exact ⟨rfl, B4.out⟩
  | false =>
    have e := Hr.out rfl
    rw [← e] at k4
    clear e
    go_wp2
    go_ret
    exact ⟨rfl, B4.out⟩
theorem blendTurns_law (A0 : Option Addr) (n0 c0 : Nat) (b : List UInt8) (A1 : Option Addr) (n1 c1 : Nat) (o : List UInt8) (A2 : Option Addr) (n2 c2 : Nat) (t : List UInt8) (w : World) (hA0 : Sl w 1 A0 n0 (u8s b)) (_hc0 : n0 ≤ c0) (_hr0 : c0 ≤ 140737488351232) (hA1 : Sl w 1 A1 n1 (u8s o)) (_hc1 : n1 ≤ c1) (_hr1 : c1 ≤ 140737488351232)
    (hA2 : Sl w 1 A2 n2 (u8s t)) (_hc2 : n2 ≤ c2) (_hr2 : c2 ≤ 140737488351232) (hM : MaxL w) :
    Calls Tryd.prog 10 #[.slice A0 n0 c0, .slice A1 n1 c1, .slice A2 n2 c2] w fun e w' => e = .returned (.bool true) ∧ Below w.heap.size w w' := by
  by_cases h : 600 < n0 ∨ 600 < n1 ∨ 600 < n2
  · exact blendTurns_far A0 A1 A2 n0 n1 n2 c0 c1 c2 w hM h
  · exact blendTurns_near A0 A1 A2 n0 n1 n2 c0 c1 c2 b o t w hA0 hA1 hA2 (by omega) (by omega) (by omega) hM

/-! ## BlendNone -/
theorem blendNone_far (A0 A1 : Option Addr) (n0 n1 c0 c1 : Nat) (w : World) (hM : MaxL w) (h : 600 < n0 ∨ 600 < n1) :
    Calls Tryd.prog 13 #[.slice A0 n0 c0, .slice A1 n1 c1] w fun e w' => e = .returned (.bool true) ∧ Below w.heap.size w w' := by
  go_enter Tryd.func13, Tryd.ntmps13
  go_wp2_with fail
  refine (awake17_any _ hM).mono ?_
  rintro e w1 ⟨rfl, b1⟩
  go_wp2_with fail
  refine (few_no A0 A1 none n0 n1 0 c0 c1 0 _ (by omega)).mono ?_
  rintro e w2 ⟨rfl, b2⟩
  go_wp2
  go_ret
  exact ⟨rfl, bstep b1 b2⟩
set_option maxHeartbeats 2000000 in
set_option maxRecDepth 100000 in
theorem blendNone_near (A0 A1 : Option Addr) (n0 n1 c0 c1 : Nat) (b o : List UInt8) (w : World) (hA0 : Sl w 1 A0 n0 (u8s b)) (hA1 : Sl w 1 A1 n1 (u8s o)) (h0 : n0 ≤ 600) (h1 : n1 ≤ 600) (hM : MaxL w) :
    Calls Tryd.prog 13 #[.slice A0 n0 c0, .slice A1 n1 c1] w fun e w' => e = .returned (.bool true) ∧ Below w.heap.size w w' := by
  obtain ⟨r, f, hm⟩ : ∃ r f, BlendLaw.merge [] b o = (r, f) := ⟨_, _, rfl⟩
  have hnil := BlendLaw.merge_nil b o
  rw [hm] at hnil
  simp only at hnil
  have e0 : b.length = n0 := by simpa using hA0.len
  have e1 : o.length = n1 := by simpa using hA1.len
  rw [e0, e1] at hnil
  have hways : (n0 ≤ 0 ∧ f = false) ∨ (0 < n0 ∧ n1 ≤ 0 ∧ f = false) ∨ (0 < n0 ∧ 0 < n1 ∧ b = o ∧ f = false) ∨ (0 < n0 ∧ 0 < n1 ∧ b ≠ o ∧ f = true) := by
    rcases Nat.eq_zero_or_pos n0 with z | z
    · exact .inl ⟨by omega, by rw [hnil, z]; simp⟩
    · rcases Nat.eq_zero_or_pos n1 with y | y
      · exact .inr (.inl ⟨z, by omega, by rw [hnil, y]; simp⟩)
      · by_cases e : b = o
        · exact .inr (.inr (.inl ⟨z, y, e, by rw [hnil, e]; simp⟩))
        · exact .inr (.inr (.inr ⟨z, y, e, by rw [hnil]; simp [z, y, e]⟩))
  obtain ⟨n, hn⟩ : ∃ n, r.length = n := ⟨_, rfl⟩
  have HA0 := Lib.hid hA0
  have HA1 := Lib.hid hA1
  have Hm := Lib.hid hm
  have Hn := Lib.hid hn
  have Hways := Lib.hid hways
  clear hA0 hA1 hm hn hnil hways e0 e1
  go_enter Tryd.func13, Tryd.ntmps13
  go_wp2_with fail
  refine (awake17_any _ hM).mono ?_
  rintro e w1 ⟨rfl, b1⟩
  have B1 := Lib.hid b1
  clear b1
  go_wp2_with fail
  refine (few_yes A0 A1 none n0 n1 0 c0 c1 0 _ h0 h1 (by omega)).mono ?_
  rintro e w2 ⟨rfl, b2⟩
  have B2 := Lib.hid (bstep B1.out b2)
  clear b2 B1
  go_wp2_with fail
  refine (merge_to none 0 0 [] A0 n0 c0 b A1 n1 c1 o r f n _ Sl.nil_ (HA0.out.below B2.out) (HA1.out.below B2.out) (by omega) (by omega) (by omega) (hM.step B2.out) Hm.out Hn.out).mono ?_
  rintro e w3 ⟨A3, c3, rfl, hS3, b3⟩
  have B3 := Lib.hid (bstep B2.out b3)
  clear b3 hS3 B2
  go_wp2_with fail
  refine (merge_to A0 n0 c0 b none 0 0 [] A0 n0 c0 b [] false 0 _ (HA0.out.below B3.out) Sl.nil_ (HA0.out.below B3.out) (by omega) (by omega) (by omega) (hM.step B3.out) (BlendLaw.merge_base' b []) rfl).mono ?_
  rintro e w4 ⟨A4, c4, rfl, hS4, b4⟩
  have B4 := Lib.hid (bstep B3.out b4)
  have k0 := conv_any (c := c0) (HA0.out.below B4.out) w4 (Below.refl _ _)
  have k1 := conv_any (c := c1) (HA1.out.below B4.out) w4 (Below.refl _ _)
  clear b4 hS4 B3 Hm Hn
  rcases Hways.out with ⟨z, rfl⟩ | ⟨z, y, rfl⟩ | ⟨z, y, rfl, rfl⟩ | ⟨z, y, hne, rfl⟩
  · have d0 : decide (0 < n0) = false := by simp; omega
    clear Hways
    go_wp2
    go_ret
    exact ⟨rfl, B4.out⟩
  · have d1 : decide (0 < n1) = false := by simp; omega
    clear Hways
    go_wp2
    go_ret
    exact ⟨rfl, B4.out⟩
  · have d0 : decide (0 < n0) = true := by simp; omega
    have d1 : decide (0 < n1) = true := by simp; omega
    clear Hways
    go_wp2
    go_ret
    exact ⟨rfl, B4.out⟩
  · have d0 : decide (0 < n0) = true := by simp; omega
    have d1 : decide (0 < n1) = true := by simp; omega
    have hne2 : (b == o) = false := by simpa using hne
    clear Hways hne
    go_wp2
    go_ret
    exact ⟨rfl, B4.out⟩
theorem blendNone_law (A0 : Option Addr) (n0 c0 : Nat) (b : List UInt8) (A1 : Option Addr) (n1 c1 : Nat) (o : List UInt8) (w : World) (hA0 : Sl w 1 A0 n0 (u8s b)) (_hc0 : n0 ≤ c0) (_hr0 : c0 ≤ 140737488351232) (hA1 : Sl w 1 A1 n1 (u8s o)) (_hc1 : n1 ≤ c1) (_hr1 : c1 ≤ 140737488351232) (hM : MaxL w) :
    Calls Tryd.prog 13 #[.slice A0 n0 c0, .slice A1 n1 c1] w fun e w' => e = .returned (.bool true) ∧ Below w.heap.size w w' := by
  by_cases h : 600 < n0 ∨ 600 < n1
  · exact blendNone_far A0 A1 n0 n1 c0 c1 w hM h
  · exact blendNone_near A0 A1 n0 n1 c0 c1 b o w hA0 hA1 (by omega) (by omega) hM
end Go.Proofs.YtpnogcblafmaiaaDoor
