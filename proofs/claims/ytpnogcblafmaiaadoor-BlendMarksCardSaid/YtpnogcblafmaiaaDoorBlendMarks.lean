/-
  dolmenlaw17.BlendMarks returns true. Conditions: slices read as lists; internal/bytealg.MaxLen holds an int.
-/
import Derived.Test.YtpnogcblafmaiaaDoorBlendLaws
import Derived.Test.YtpnogcblafmaiaaDoorBlendWhole
import Derived.Test.YtpnogcblafmaiaaDoorBlendLen
namespace Go.Proofs.YtpnogcblafmaiaaDoor
open Go.RowKit

theorem blendMarks_far (A0 A1 A2 : Option Addr) (n0 n1 n2 c0 c1 c2 : Nat) (w : World) (hM : MaxL w) (h : 600 < n0 ∨ 600 < n1 ∨ 600 < n2) :
    Calls Tryd.prog 12 #[.slice A0 n0 c0, .slice A1 n1 c1, .slice A2 n2 c2] w fun e w' => e = .returned (.bool true) ∧ Below w.heap.size w w' := by
  go_enter Tryd.func12, Tryd.ntmps12
  go_wp2_with fail
  refine (awake17_any _ hM).mono ?_
  rintro e w1 ⟨rfl, b1⟩
  go_wp2_with fail
  refine (few_no A0 A1 A2 n0 n1 n2 c0 c1 c2 _ h).mono ?_
  rintro e w2 ⟨rfl, b2⟩
  go_wp2
  go_ret
  exact ⟨rfl, bstep b1 b2⟩

theorem held_is (A : Option Addr) (n c : Nat) (b s : List UInt8) (v : Bool) (w : World) (hA : Sl w 1 A n (u8s b)) (hc : n ≤ c) (hn : n ≤ 600) (hv : decide (s ∈ BlendLaw.closed (LinesLaw.lns b)) = v) :
    Calls Tryd.prog 32 #[.slice A n c, S s] w fun e w' => e = .returned (.bool v) ∧ Below w.heap.size w w' := by
  have h := held_any A n c b s w hA hc hn
  rwa [hv] at h

/-- how often a sign stands among the first i lines -/
def cnt (L : List (List UInt8)) (j i : Nat) : Nat := (L.take i).count (BlendLaw.signs.getD j [])
/-- the counters: up to sign k line i is counted -/
def counted (L : List (List UInt8)) (k i : Nat) : Array Value := #[I (cnt L 0 (if 0 < k then i + 1 else i)), I (cnt L 1 (if 1 < k then i + 1 else i)), I (cnt L 2 (if 2 < k then i + 1 else i))]
theorem cnt_more {L : List (List UInt8)} {j i : Nat} {s : List UInt8} (hs : L[i]? = some s) : cnt L j (i + 1) = cnt L j i + if s == BlendLaw.signs.getD j [] then 1 else 0 := by
  unfold cnt
  rw [List.take_add_one, hs, List.count_append]
  simp [List.count_cons]
theorem cnt_le {L : List (List UInt8)} {j i : Nat} : cnt L j i ≤ i := by
  unfold cnt
  have h1 := List.count_le_length (a := BlendLaw.signs.getD j []) (l := L.take i)
  have h2 := List.length_take_le i L
  omega

theorem counted_at {L : List (List UInt8)} {k i : Nat} (hk : k < 3) : (counted L k i)[k]? = some (I (cnt L k i)) := by
  obtain rfl | rfl | rfl : k = 0 ∨ k = 1 ∨ k = 2 := by omega
  all_goals simp [counted]
theorem counted_same {L : List (List UInt8)} {k i : Nat} {s g : List UInt8} (hk : k < 3) (hs : L[i]? = some s) (hg : BlendLaw.signs[k]? = some g) (h : s ≠ g) : counted L (k + 1) i = counted L k i := by
  have e : BlendLaw.signs.getD k [] = g := by rw [List.getD_eq_getElem?_getD, hg]; rfl
  have h1 := cnt_more (j := k) hs
  rw [e, if_neg (by simpa using h)] at h1
  obtain rfl | rfl | rfl : k = 0 ∨ k = 1 ∨ k = 2 := by omega
  all_goals simp [counted, h1]
theorem counted_more {L : List (List UInt8)} {k i : Nat} {s g : List UInt8} (hk : k < 3) (hs : L[i]? = some s) (hg : BlendLaw.signs[k]? = some g) (h : s = g) : counted L (k + 1) i = (counted L k i).setIfInBounds k (I ((cnt L k i : Nat) + 1)) := by
  have e : BlendLaw.signs.getD k [] = g := by rw [List.getD_eq_getElem?_getD, hg]; rfl
  have h1 := cnt_more (j := k) hs
  rw [e, if_pos (by simpa using h)] at h1
  obtain rfl | rfl | rfl : k = 0 ∨ k = 1 ∨ k = 2 := by omega
  all_goals simp [counted, h1]
theorem counted_all {L : List (List UInt8)} {i : Nat} : counted L 3 i = counted L 0 (i + 1) := by simp [counted]

set_option maxHeartbeats 4000000 in
set_option maxRecDepth 100000 in
theorem blendMarks_near (A0 A1 A2 : Option Addr) (n0 n1 n2 c0 c1 c2 : Nat) (b o t : List UInt8) (w : World) (hA0 : Sl w 1 A0 n0 (u8s b)) (hA1 : Sl w 1 A1 n1 (u8s o)) (hA2 : Sl w 1 A2 n2 (u8s t)) (hc0 : n0 ≤ c0) (hc1 : n1 ≤ c1) (hc2 : n2 ≤ c2) (h0 : n0 ≤ 600) (h1 : n1 ≤ 600) (h2 : n2 ≤ 600) (hM : MaxL w) :
    Calls Tryd.prog 12 #[.slice A0 n0 c0, .slice A1 n1 c1, .slice A2 n2 c2] w fun e w' => e = .returned (.bool true) ∧ Below w.heap.size w w' := by
  have l0 : b.length = n0 := by simpa using hA0.len
  have l1 : o.length = n1 := by simpa using hA1.len
  have l2 : t.length = n2 := by simpa using hA2.len
  have hbig := BlendLaw.merge_len (b := b) (o := o) (t := t) (by omega) (by omega) (by omega)
  have hmk := (BlendLaw.merge_marks b o t).2
  obtain ⟨r, f, hm⟩ : ∃ r f, BlendLaw.merge b o t = (r, f) := ⟨_, _, rfl⟩
  rw [hm] at hbig hmk
  obtain ⟨n, hn⟩ : ∃ n, r.length = n := ⟨_, rfl⟩
  have hnb : n ≤ 4294967296 := by rw [← hn]; exact hbig
  have HA0 := Lib.hid hA0
  have HA1 := Lib.hid hA1
  have HA2 := Lib.hid hA2
  have Hm := Lib.hid hm
  have Hn := Lib.hid hn
  have Hmk := Lib.hid hmk
  clear hA0 hA1 hA2 hm hn hbig hmk l0 l1 l2
  go_enter Tryd.func12, Tryd.ntmps12
  go_wp2_with fail
  refine (awake17_any _ hM).mono ?_
  rintro e w1 ⟨rfl, b1⟩
  have B1 := Lib.hid b1
  clear b1
  go_wp2_with fail
  refine (few_yes A0 A1 A2 n0 n1 n2 c0 c1 c2 _ h0 h1 h2).mono ?_
  rintro e w2 ⟨rfl, b2⟩
  have B2 := Lib.hid (bstep B1.out b2)
  clear b2 B1
  go_wp2_with fail
  refine (merge_cap A0 n0 c0 b A1 n1 c1 o A2 n2 c2 t r f n _ (HA0.out.below B2.out) (HA1.out.below B2.out) (HA2.out.below B2.out) (by omega) (by omega) (by omega) (hM.step B2.out) Hm.out Hn.out).mono ?_
  rintro e w3 ⟨A3, c3, rfl, hS3, hc3, b3⟩
  have B3 := Lib.hid (bstep B2.out b3)
  have HS3 := Lib.hid hS3
  clear b3 hS3 B2 Hm
  go_wp2_with fail
  refine (refSplit_any A3 n c3 r _ HS3.out hc3 hnb).mono ?_
  rintro e w4 ⟨A4, m, c4, rfl, hm4, hO4⟩
  have B4 := Lib.hid (bstep B3.out hO4.2)
  obtain ⟨L, hL⟩ : ∃ L, LinesLaw.lns r = L := ⟨_, rfl⟩
  simp only [hL] at Hmk
  rw [hL] at hO4
  have HS4 := Lib.hid hO4.sl
  have Hlen := Lib.hid (strs_len hO4.sl)
  clear hL hO4 HS3 B3
  go_wp2
  have aN := (Blk.new w4 3 #[I 0, I 0, I 0]).alloc (.cells (strs BlendLaw.signs).toArray 9)
  have aS := Blk.new (w4.alloc (.cells #[I 0, I 0, I 0] 3)) 9 (strs BlendLaw.signs).toArray
  rw [World.size_alloc] at aS
  have b5 := balloc (balloc (Below.refl _ w4) (.cells #[I 0, I 0, I 0] 3)) (.cells (strs BlendLaw.signs).toArray 9)
  obtain ⟨w5, hw5⟩ : ∃ w5, (w4.alloc (.cells #[I 0, I 0, I 0] 3)).alloc (.cells (strs BlendLaw.signs).toArray 9) = w5 := ⟨_, rfl⟩
  rw [hw5] at aN aS b5
  have HN5 := Lib.hid aN
  have HS5 := Lib.hid aS
  have B5 := Lib.hid (bstep B4.out b5)
  have HS45 := Lib.hid (HS4.out.below b5)
  have hgn : w.heap.size ≤ w4.heap.size := B4.out.size
  have hLlt := HS4.out.lt_
  have HLlt := Lib.hid hLlt
  clear aN aS b5 B4 HS4 hLlt
  have hw5' : (w4.alloc (.cells #[I 0, I 0, I 0] 3)).alloc (.cells #[.string ⟨#[60, 60, 60, 60, 60, 60, 60, 10]⟩, .string ⟨#[61, 61, 61, 61, 61, 61, 61, 10]⟩, .string ⟨#[62, 62, 62, 62, 62, 62, 62, 10]⟩] 9) = w5 := hw5
  rw [hw5']
  clear hw5 hw5'
  generalize w4.heap.size = gn at *
  go_loopw [13] (fun i wr => ∃ k : Nat, k ≤ 3 ∧ i = .int .i64 k ∧ Hid (Below w5.heap.size w5 wr) ∧ Hid (∀ j, j < k → ∀ g, BlendLaw.signs[j]? = some g → g ∉ BlendLaw.closed (LinesLaw.lns b) ∧ g ∉ BlendLaw.closed (LinesLaw.lns o) ∧ g ∉ BlendLaw.closed (LinesLaw.lns t))) (fun i _ => 3 - (intOf i).toNat)
  case atStart => exact ⟨0, Nat.zero_le _, rfl, Lib.hid (Below.refl _ _), Lib.hid (fun j hj => by omega)⟩
  case round =>
    obtain ⟨k, hk, rfl, HB, HG⟩ := hrel
    by_cases hlt : k < 3
    · obtain ⟨g, hg⟩ : ∃ g, BlendLaw.signs[k]? = some g := ⟨BlendLaw.signs[k]'hlt, List.getElem?_eq_getElem _⟩
      have hcell : ∀ w', Below w5.heap.size w5 w' → w'.cell? ⟨gn + 1, k, none⟩ = some (S g) := fun w' hb => by
        rw [(HS5.out.step hb).cell]
        simp [strs, hg]
      have hzS := HS5.out.lt
      obtain ⟨v0, hv0⟩ : ∃ v, decide (g ∈ BlendLaw.closed (LinesLaw.lns b)) = v := ⟨_, rfl⟩
      obtain ⟨v1, hv1⟩ : ∃ v, decide (g ∈ BlendLaw.closed (LinesLaw.lns o)) = v := ⟨_, rfl⟩
      obtain ⟨v2, hv2⟩ : ∃ v, decide (g ∈ BlendLaw.closed (LinesLaw.lns t)) = v := ⟨_, rfl⟩
      have Hcell := Lib.hid hcell
      have Hv0 := Lib.hid hv0
      have Hv1 := Lib.hid hv1
      have Hv2 := Lib.hid hv2
      have Hg := Lib.hid hg
      have c0' := hcell wr HB.out
      have z0' : gn + 1 < wr.heap.size := Nat.lt_of_lt_of_le hzS HB.out.size
      clear hcell hv0 hv1 hv2 hg hzS
      go_wp2_with fail
      refine (held_is A0 n0 c0 b g v0 _ (HA0.out.below (bstep B5.out HB.out)) hc0 h0 Hv0.out).mono ?_
      rintro e w6 ⟨rfl, b6⟩
      have HB6 := Lib.hid (bstep HB.out b6)
      have c1' := Hcell.out w6 HB6.out
      have z1' : gn + 1 < w6.heap.size := Nat.lt_of_lt_of_le z0' b6.size
      clear b6 c0' z0'
      cases v0 with
      | true =>
        go_wp2
        go_ret
        exact ⟨rfl, bstep B5.out HB6.out⟩
      | false =>
        go_wp2_with fail
        refine (held_is A1 n1 c1 o g v1 _ (HA1.out.below (bstep B5.out HB6.out)) hc1 h1 Hv1.out).mono ?_
        rintro e w7 ⟨rfl, b7⟩
        have HB7 := Lib.hid (bstep HB6.out b7)
        have c2' := Hcell.out w7 HB7.out
        have z2' : gn + 1 < w7.heap.size := Nat.lt_of_lt_of_le z1' b7.size
        clear b7 c1' z1'
        cases v1 with
        | true =>
          go_wp2
          go_ret
          exact ⟨rfl, bstep B5.out HB7.out⟩
        | false =>
          go_wp2_with fail
          refine (held_is A2 n2 c2 t g v2 _ (HA2.out.below (bstep B5.out HB7.out)) hc2 h2 Hv2.out).mono ?_
          rintro e w8 ⟨rfl, b8⟩
          have HB8 := Lib.hid (bstep HB7.out b8)
          clear b8 c2' z2'
          cases v2 with
          | true =>
            go_wp2
            go_ret
            exact ⟨rfl, bstep B5.out HB8.out⟩
          | false =>
            go_wp2
            go_roundw
            case rel =>
              refine ⟨k + 1, by omega, by go_num, HB8, Lib.hid (fun j hj g' hg' => ?_)⟩
              by_cases e : j = k
              · subst e
                rw [Hg.out] at hg'
                cases hg'
                exact ⟨of_decide_eq_false Hv0.out, of_decide_eq_false Hv1.out, of_decide_eq_false Hv2.out⟩
              · exact HG.out j (by omega) g' hg'
            case measure => simp [intOf]; omega
    · obtain rfl : k = 3 := by omega
      have hno : ∀ g ∈ BlendLaw.signs, g ∉ BlendLaw.closed (LinesLaw.lns b) ∧ g ∉ BlendLaw.closed (LinesLaw.lns o) ∧ g ∉ BlendLaw.closed (LinesLaw.lns t) := by
        intro g hg
        obtain ⟨j, hj⟩ := List.getElem?_of_mem hg
        exact HG.out j (by have := (List.getElem?_eq_some_iff.1 hj).1; simpa [BlendLaw.signs] using this) g hj
      obtain ⟨kk, hkk, hcnt⟩ := Hmk.out hno
      have Hkk := Lib.hid hkk
      have Hcnt := Lib.hid hcnt
      have HNw := Lib.hid (HN5.out.step HB.out)
      have HSw := Lib.hid (HS5.out.step HB.out)
      have hSLw := HS45.out.below HB.out
      have HLw := Lib.hid (show SlF (fun q => q = gn) wr 1 A4 m (strs L) from ⟨hSLw, fun b off hn e hb => by have := HLlt.out b off hn e; omega⟩)
      have HBw := Lib.hid (bstep B5.out HB.out)
      have hm9 : m ≤ 4294967296 := by omega
      rename World => wz
      clear hno hkk hcnt HG Hmk HA0 HA1 HA2 HN5 HS5 HS45 hSLw HLlt B5 HB hM
      go_wp2
      go_loopw [14] (fun s14 wr' => ∃ i : Nat, i ≤ m ∧ s14 = .int .i64 i ∧ Hid (Fr (fun q => q = gn) wz wr') ∧ Hid (Blk wr' gn 3 (counted L 0 i))) (fun s14 _ => m - (intOf s14).toNat)
      case atStart => exact ⟨0, Nat.zero_le _, rfl, Lib.hid (Fr.refl _ _), Lib.hid (by simpa [counted, cnt] using HNw.out)⟩
      case round =>
        obtain ⟨i, hi, rfl, HF, HC⟩ := hrel
        by_cases hlt : i < m
        · go_wp2
          go_loopw [15] (fun s15 wr' => ∃ k : Nat, k ≤ 3 ∧ s15 = .int .i64 k ∧ Hid (Fr (fun q => q = gn) wz wr') ∧ Hid (Blk wr' gn 3 (counted L k i))) (fun s15 _ => 3 - (intOf s15).toNat)
          case atStart => exact ⟨0, Nat.zero_le _, rfl, HF, HC⟩
          case round =>
            clear HF HC
            obtain ⟨k, hk, rfl, HF, HC⟩ := hrel
            by_cases hlt2 : k < 3
            · obtain ⟨g, hg⟩ : ∃ g, BlendLaw.signs[k]? = some g := ⟨BlendLaw.signs[k]'hlt2, List.getElem?_eq_getElem _⟩
              obtain ⟨b1, off, s, rfl, hs, hc⟩ := (HLw.out.fr HF.out).1.str hlt
              have hcS : wr.cell? ⟨gn + 1, k, none⟩ = some (S g) := by
                rw [(HF.out.blk HSw.out (by omega)).cell]
                simp [strs, hg]
              have hzS := (HF.out.blk HSw.out (by omega)).lt
              have hcN := (HC.out.cell k).trans (counted_at hlt2)
              have hfN := HC.out.frozen k
              have hzN := HC.out.lt
              have hcl := cnt_le (L := L) (j := k) (i := i)
              obtain ⟨cc, hcc⟩ : ∃ cc, cnt L k i = cc := ⟨_, rfl⟩
              rw [hcc] at hcN hcl
              by_cases hsg : s = g
              · have hb : (s == g) = true := by simpa using hsg
                have HM := Lib.hid (counted_more hlt2 hs hg hsg)
                rw [hcc] at HM
                clear hs hg hsg hcc
                go_wp2
                go_quiet (fail)
                go_wp2
                go_roundw
                case rel => exact ⟨k + 1, by omega, by go_num, Lib.hid ((HF.out.drewN _).setCell (p := ⟨gn, k, none⟩) rfl _), Lib.hid (by rw [HM.out]; exact (HC.out.drewN _).set_ k _)⟩
                case measure => simp [intOf]; omega
              · have hb : (s == g) = false := by simpa using hsg
                have HM := Lib.hid (counted_same hlt2 hs hg hsg)
                clear hs hg hsg hcc
                go_wp2
                go_quiet (fail)
                go_wp2
                go_roundw
                case rel => exact ⟨k + 1, by omega, by go_num, Lib.hid (HF.out.drewN _), Lib.hid (by rw [HM.out]; exact HC.out.drewN _)⟩
                case measure => simp [intOf]; omega
            · obtain rfl : k = 3 := by omega
              rw [counted_all] at HC
              go_wp2
              go_roundw
              case rel => exact ⟨i + 1, by omega, by go_num, HF, HC⟩
              case measure => simp [intOf]; omega
        · obtain rfl : i = m := by omega
          have hall : L.take i = L := List.take_of_length_le (by rw [Hlen.out]; exact Nat.le_refl _)
          have hC : Blk wr gn 3 #[I kk, I kk, I kk] := by
            have h := HC.out
            have c0 := Hcnt.out _ (show BlendLaw.sBegin ∈ BlendLaw.signs by simp [BlendLaw.signs])
            have c1 := Hcnt.out _ (show BlendLaw.sMiddle ∈ BlendLaw.signs by simp [BlendLaw.signs])
            have c2 := Hcnt.out _ (show BlendLaw.sEnd ∈ BlendLaw.signs by simp [BlendLaw.signs])
            simp only [counted, cnt, hall, Nat.lt_irrefl, if_false, Nat.not_lt_zero, BlendLaw.signs, List.getD_cons_zero, List.getD_cons_succ] at h
            rw [c0, c1, c2] at h
            exact h
          have r0 := hC.cell 0
          have r1 := hC.cell 1
          have r2 := hC.cell 2
          have zN := hC.lt
          simp at r0 r1 r2
          have hd : decide (0 < kk) = f := by
            cases f with
            | true => exact decide_eq_true (Hkk.out.2 rfl)
            | false => exact decide_eq_false (fun h => by have := Hkk.out.1 h; cases this)
          have HBe := Lib.hid (HF.out.below (B := w.heap.size) (by have := HBw.out.size; omega) (fun q hq => by omega))
          clear hall hC
          go_wp2
          go_quiet (fail)
          go_wp2
          go_ret
          exact ⟨rfl, below_drewN (HBw.out.trans HBe.out) _⟩
theorem blendMarks_law (A0 : Option Addr) (n0 c0 : Nat) (b : List UInt8) (A1 : Option Addr) (n1 c1 : Nat) (o : List UInt8) (A2 : Option Addr) (n2 c2 : Nat) (t : List UInt8) (w : World) (hA0 : Sl w 1 A0 n0 (u8s b)) (hc0 : n0 ≤ c0) (_hr0 : c0 ≤ 140737488351232) (hA1 : Sl w 1 A1 n1 (u8s o)) (hc1 : n1 ≤ c1) (_hr1 : c1 ≤ 140737488351232)
    (hA2 : Sl w 1 A2 n2 (u8s t)) (hc2 : n2 ≤ c2) (_hr2 : c2 ≤ 140737488351232) (hM : MaxL w) :
    Calls Tryd.prog 12 #[.slice A0 n0 c0, .slice A1 n1 c1, .slice A2 n2 c2] w fun e w' => e = .returned (.bool true) ∧ Below w.heap.size w w' := by
  by_cases h : 600 < n0 ∨ 600 < n1 ∨ 600 < n2
  · exact blendMarks_far A0 A1 A2 n0 n1 n2 c0 c1 c2 w hM h
  · exact blendMarks_near A0 A1 A2 n0 n1 n2 c0 c1 c2 b o t w hA0 hA1 hA2 hc0 hc1 hc2 (by omega) (by omega) (by omega) hM
end Go.Proofs.YtpnogcblafmaiaaDoor
