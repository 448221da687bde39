/-
  object.Encode and Id at a blob; work.Id. Conditions: the content can be read, no more than 1000000000.
-/
import Derived.Test.YtphnfcgdpdimbaaGreatDoorObjCheck
import Derived.Test.YtphnfcgdpdimbaaGreatDoorKitE
import Derived.Test.YtphnfcgdpdimbaaGreatDoorKitF
namespace Go.Proofs.YtphnfcgdpdimbaaGreatDoor
open Go.RowKit

set_option maxRecDepth 100000 in
set_option maxHeartbeats 1000000 in
theorem objLay_blob (A : Option Addr) (n c : Nat) (l : List UInt8) (w0 w : World) (g m : Nat) (bs : List UInt8) (hB : Ow w0 w 5 1 (some ⟨g, 0, none⟩) m m (u8s bs)) (hA : Sl w 1 A n (u8s l)) (hm : m ≤ 1000) (hn : n ≤ 1000000000) :
    Calls Tryz.prog 371 #[.agg #[.slice A n c], .slice (some ⟨g, 0, none⟩) m m] w fun e w' => ∃ A' c', e = .returned (.slice A' (m + n) c') ∧ Ow w0 w' 5 1 A' (m + n) c' (u8s (bs ++ l)) ∧ Below w.heap.size w w' := by
  obtain ⟨i0, hi0, hz0, hz1, hz2⟩ := info_parts Tryz.infoU8
  have HB := Lib.hid (hB.alloc (.cells #[.slice A n c] 321))
  have HA := Lib.hid (hA.alloc (.cells #[.slice A n c] 321))
  have q1 := Lib.hid (show m + n ≤ 1000000000000 by omega)
  clear hB hA hm hn
  go_enter Tryz.func371, Tryz.ntmps371
  go_wp2_with (at_builtin; refine wpList_append_full _ rfl (.tmp 5) (.tmp 7) _ rfl w0 5 i0 _ Tryz.underlying27 hi0 hz0 hz1 hz2 rfl g m _ rfl HB.out A n c (u8s l) rfl HA.out q1.out ?_; intro A5 c5 w5 hO5 hb5; have HO5 := Lib.hid hO5; have HB5 := Lib.hid (bstep (balloc (Below.refl _ w) (.cells #[.slice A n c] 321)) hb5); clear hO5 hb5)
  go_ret
  exact ⟨A5, c5, rfl, by have := HO5.out; simpa [u8s] using this, HB5.out⟩
def oePhi (W : World) (A : Option Addr) (n c g : Nat) (l : List UInt8) : Nat → Value → World → Prop
  | 0, v, _ => v = .agg (blobA A n c)
  | 1, v, _ => v = .iface 321 (.agg #[.slice A n c])
  | 2, v, _ => v = .pointer (some ⟨g, 0, none⟩)
  | 3, v, _ => v = I 1
  | 4, v, _ => v = U8 1
  | 5, v, w => ∃ (g' : Nat), v = .slice (some ⟨g', 0, none⟩) 1 1 ∧ Ow W w 5 1 (some ⟨g', 0, none⟩) 1 1 (u8s [1])
  | 6, v, w => ∃ (A' : Option Addr) (c' : Nat), v = .slice A' (1 + n) c' ∧ Ow W w 5 1 A' (1 + n) c' (u8s ([1] ++ l))
  | 7, v, w => ∃ (A' : Option Addr) (c' : Nat), v = .slice A' (1 + n) c' ∧ Ow W w 5 1 A' (1 + n) c' (u8s ([1] ++ l))
  | _, _, _ => True
theorem oePhi_mono {W : World} {A : Option Addr} {n c g : Nat} {l : List UInt8} : ∀ (j : Nat) (v : Value) (w w' : World), oePhi W A n c g l j v w → Below w.heap.size w w' → oePhi W A n c g l j v w' := by
  intro j v w w' h hb9
  match j, h with
  | 0, h => exact h
  | 1, h => exact h
  | 2, h => exact h
  | 3, h => exact h
  | 4, h => exact h
  | 5, h => obtain ⟨g', h1, h2⟩ := h; exact ⟨g', h1, h2.keep hb9⟩
  | 6, h => obtain ⟨A', c', h1, h2⟩ := h; exact ⟨A', c', h1, h2.keep hb9⟩
  | 7, h => obtain ⟨A', c', h1, h2⟩ := h; exact ⟨A', c', h1, h2.keep hb9⟩
  | (n + 8), _ => trivial
set_option maxHeartbeats 4000000 in
set_option maxRecDepth 100000 in
theorem objEnc_ok (A : Option Addr) (n c : Nat) (l : List UInt8) (w : World) (hA : Sl w 1 A n (u8s l)) (hok : n ≤ 1048576) :
    Calls Tryz.prog 109 #[.agg (blobA A n c)] w fun e w' => ∃ A' c', e = .returned (.tuple #[.slice A' (1 + n) c', I 0]) ∧ Ow w w' 5 1 A' (1 + n) c' (u8s ([1] ++ l)) := by
  obtain ⟨g, hg⟩ : ∃ g, g = w.heap.size := ⟨_, rfl⟩
  obtain ⟨w1, hw1⟩ : ∃ w1, w1 = w.alloc (.cells (blobA A n c) 110) := ⟨_, rfl⟩
  have b1 : Below w.heap.size w w1 := by rw [hw1]; exact balloc (Below.refl _ w) _
  have e1 : Blk w1 g 110 (blobA A n c) := by rw [hw1, hg]; exact Blk.new w _ _
  have C1 := Lib.hid (objCheck_ok A n c l w1 (hA.below b1) (decide_eq_true hok))
  have B1 := Lib.hid b1
  have E1 := Lib.hid e1
  have HA0 := Lib.hid hA
  have Hn : Hid (n ≤ 1000000000) := Lib.hid (by omega)
  have r1 := e1.cell
  clear hA hok b1 e1
  go_enter Tryz.func109, Tryz.ntmps109
  go_wp2_with fail
  simp only [← hg, ← hw1]
  refine C1.out.mono ?_
  rintro e W ⟨rfl, b2⟩
  have B2 := Lib.hid (bstep B1.out b2)
  have HBo := Lib.hid (E1.out.step b2)
  have HA := Lib.hid (HA0.out.below B2.out)
  clear b2 r1 hw1 hg C1
  go_wp2
  refine wp_region_guards (by kernel_rfl) 8 (by kernel_rfl) ?_ (oePhi W A n c g l) oePhi_mono (fun i o hi ho a w hb hs hm => ?_) (fun o ho a w hb hs hm => ?_)
  · exact dst_lt9 (n := 17) (by kernel_rfl)
  · exact match i, hi, ho with
      | 0, _, ho => by
          cases ho
          rw [if_pos (wanted_none _ rfl)]
          refine wp_load_row 110 (.tmp 1) rfl g ((hs.keeps (by kernel_rfl)).trans rfl) 110 (blobA A n c) (0, 0) _ (HBo.out.step hb) Tryz.underlying110 rfl (by kernel_rfl) ⟨_, rfl, rfl, Below.refl _ _⟩
      | 1, _, ho => by
          cases ho
          rw [if_pos (wanted_none _ rfl)]
          have h1 := eval_getD (hm.get 0 10 (by kernel_rfl)); unfold Oper.wp; simp only [execOp]; go_simp; refine (objOf_blob A n c w).mono ?_; rintro e w' ⟨rfl, hb'⟩; exact ⟨_, rfl, rfl, hb'⟩
      | 2, _, ho => by
          cases ho
          rw [if_pos (wanted_none _ rfl)]
          refine wp_value (st_field rfl ((hs.keeps (by kernel_rfl)).trans rfl) (by kernel_rfl)) ⟨_, rfl, rfl, Below.refl _ _⟩
      | 3, _, ho => by
          cases ho
          rw [if_pos (wanted_none _ rfl)]
          have hx : w.cell? ⟨g, 0, none⟩ = some (I 1) := (HBo.out.step hb).cell 0; refine wp_value (st_load rfl (hm.get 2 12 (by kernel_rfl)) (by go_simp)) ⟨_, rfl, rfl, Below.refl _ _⟩
      | 4, _, ho => by
          cases ho
          rw [if_pos (wanted_none _ rfl)]
          have h1 := eval_getD (hm.get 3 13 (by kernel_rfl)); unfold Oper.wp; simp only [execOp]; go_simp; exact ⟨_, rfl, rfl, Below.refl _ _⟩
      | 5, _, ho => by
          cases ho
          rw [if_pos (wanted_none _ rfl)]
          have h1 := eval_getD (hm.get 4 14 (by kernel_rfl)); unfold Oper.wp; simp only [execOp]; go_simp; exact ⟨_, rfl, ⟨w.heap.size, rfl, (own_one w 5 (U8 1)).since hb⟩, balloc (Below.refl _ w) _⟩
      | 6, _, ho => by
          cases ho
          rw [if_pos (wanted_none _ rfl)]
          refine Exists.elim (show ∃ (g' : Nat), a.eval (.tmp 15) = .slice (some ⟨g', 0, none⟩) 1 1 ∧ Ow W w 5 1 (some ⟨g', 0, none⟩) 1 1 (u8s [1]) from (hm.get 5 15 (by kernel_rfl))) fun g' h9 => ?_; have h1 := eval_getD (hm.get 1 11 (by kernel_rfl)); have h2 := eval_getD h9.1; unfold Oper.wp; simp only [execOp]; go_simp; refine (objLay_blob A n c l W w g' 1 [1] h9.2 (HA.out.below hb) (by omega) Hn.out).mono ?_; rintro e w' ⟨A', c', rfl, hO', hb'⟩; exact ⟨_, rfl, ⟨A', c', rfl, hO'⟩, hb'⟩
      | 7, _, ho => by
          cases ho
          rw [if_pos (wanted_none _ rfl)]
          refine Exists.elim (show ∃ (A' : Option Addr) (c' : Nat), a.eval (.tmp 16) = .slice A' (1 + n) c' ∧ Ow W w 5 1 A' (1 + n) c' (u8s ([1] ++ l)) from (hm.get 6 16 (by kernel_rfl))) fun A' h8 => ?_; refine Exists.elim h8 fun c' h9 => ?_; have h1 := eval_getD h9.1; unfold Oper.wp; simp only [execOp]; go_simp; exact ⟨_, rfl, ⟨A', c', rfl, h9.2⟩, Below.refl _ _⟩
      | (n + 8), hi, _ => absurd hi (by omega)
  · refine Exists.elim (show ∃ (A' : Option Addr) (c' : Nat), a.eval (.tmp 2) = .slice A' (1 + n) c' ∧ Ow W w 5 1 A' (1 + n) c' (u8s ([1] ++ l)) by cases ho; exact hm.get 7 2 (by kernel_rfl)) fun A' h8 => ?_
    refine Exists.elim h8 fun c' h9 => ?_
    have e1 := h9.1
    have HO := Lib.hid h9.2
    have hfr := hs.frame [10, 11, 12, 13, 14, 15, 16, 2, 3] (by kernel_rfl)
    cases ho
    rw [hfr]
    simp only [List.foldl_cons, List.foldl_nil, e1]
    clear hfr hs hm e1 h8 h9
    generalize a.eval (.tmp 10) = u10
    generalize a.eval (.tmp 11) = u11
    generalize a.eval (.tmp 12) = u12
    generalize a.eval (.tmp 13) = u13
    generalize a.eval (.tmp 14) = u14
    generalize a.eval (.tmp 15) = u15
    generalize a.eval (.tmp 16) = u16
    generalize a.eval (.tmp 3) = u3
    unfold Oper.wp
    simp only [execOp]
    go_simp
    clear a hb
    go_wp2
    go_ret2
    exact ⟨A', c', rfl, HO.out.since B2.out⟩
set_option maxRecDepth 100000 in
set_option maxHeartbeats 1000000 in
theorem objEnc_no (A : Option Addr) (n c : Nat) (l : List UInt8) (w : World) (hA : Sl w 1 A n (u8s l)) (hok : ¬ n ≤ 1048576) :
    Calls Tryz.prog 109 #[.agg (blobA A n c)] w fun e w' => e = .returned (.tuple #[.slice none 0 0, I 1]) ∧ Below w.heap.size w w' := by
  have C1 := Lib.hid (objCheck_no A n c l (w.alloc (.cells (blobA A n c) 110)) (hA.alloc _) (decide_eq_false hok))
  clear hA hok
  go_enter Tryz.func109, Tryz.ntmps109
  go_wp2_with fail
  refine C1.out.mono ?_
  rintro e w2 ⟨rfl, b2⟩
  have B2 := Lib.hid (bstep (balloc (Below.refl _ w) (.cells (blobA A n c) 110)) b2)
  clear b2 C1
  go_wp2
  go_ret2
  exact ⟨rfl, B2.out⟩
end Go.Proofs.YtphnfcgdpdimbaaGreatDoor
