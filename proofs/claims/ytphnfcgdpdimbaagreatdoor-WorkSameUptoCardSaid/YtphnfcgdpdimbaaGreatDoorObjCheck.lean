/-
  object.Check at a blob. Conditions: the content can be read.
-/
import Derived.Test.YtphnfcgdpdimbaaGreatDoorObjBlob
import Derived.Test.YtphnfcgdpdimbaaGreatDoorKitW
import Derived.Test.YtphnfcgdpdimbaaGreatDoorCheckG
namespace Go.Proofs.YtphnfcgdpdimbaaGreatDoor
open Go.RowKit

def oc1Phi (A : Option Addr) (n c : Nat) : Nat → Value → World → Prop
  | 0, v, _ => v = .iface 321 (.agg #[.slice A n c])
  | 1, v, _ => v = .bool false
  | 2, v, _ => v = .bool false
  | 3, v, _ => v = .iface 321 (.agg #[.slice A n c])
  | 4, v, _ => v = .bool true
  | 5, v, _ => v = .bool false
  | 6, v, _ => v = .bool false
  | 7, v, _ => v = .bool false
  | 8, v, _ => v = .iface 321 (.agg #[.slice A n c])
  | 9, v, _ => v = .agg (blobA A n c)
  | 10, v, _ => v = .agg (blobA A n c)
  | 11, v, _ => v = .bool true
  | 12, v, _ => v = .bool false
  | _, _, _ => True
theorem oc1Phi_mono {A : Option Addr} {n c : Nat} : ∀ (j : Nat) (v : Value) (w w' : World), oc1Phi A n c j v w → Below w.heap.size w w' → oc1Phi A n c j v w' := by
  intro j v w w' h _
  match j, h with
  | 0, h => exact h
  | 1, h => exact h
  | 2, h => exact h
  | 3, h => exact h
  | 4, h => exact h
  | 5, h => exact h
  | 6, h => exact h
  | 7, h => exact h
  | 8, h => exact h
  | 9, h => exact h
  | 10, h => exact h
  | 11, h => exact h
  | 12, h => exact h
  | (n + 13), _ => trivial
set_option maxHeartbeats 4000000 in
set_option maxRecDepth 100000 in
theorem objCheck_ok (A : Option Addr) (n c : Nat) (l : List UInt8) (w : World) (hA : Sl w 1 A n (u8s l)) (hok : decide (n ≤ 1048576) = true) :
    Calls Tryz.prog 174 #[.agg (blobA A n c)] w fun e w' => e = .returned (I 0) ∧ Below w.heap.size w w' := by
  have Hok := Lib.hid hok
  obtain ⟨g, hg⟩ : ∃ g, g = w.heap.size := ⟨_, rfl⟩
  obtain ⟨w1, hw1⟩ : ∃ w1, w1 = w.alloc (.cells (blobA A n c) 110) := ⟨_, rfl⟩
  have b1 : Below w.heap.size w w1 := by rw [hw1]; exact balloc (Below.refl _ w) _
  have e1 : Blk w1 g 110 (blobA A n c) := by rw [hw1, hg]; exact Blk.new w _ _
  have C1 := Lib.hid (objOf_blob A n c w1)
  have B1 := Lib.hid b1
  have E1 := Lib.hid e1
  have HA0 := Lib.hid hA
  have kE : ∀ W : World, (binOp .eql 246 (.iface 321 (.agg #[.slice A n c])) .nilIface).run Tryz.prog W = .ok (.bool false) W := fun W => by kernel_rfl
  have r1 := e1.cell
  clear hA hok b1 e1
  go_enter Tryz.func174, Tryz.ntmps174
  go_wp2_with fail
  simp only [← hg, ← hw1]
  refine C1.out.mono ?_
  rintro e w2 ⟨rfl, b2⟩
  have B2 := Lib.hid (bstep B1.out b2)
  have HBo := Lib.hid (E1.out.step b2)
  have HA := Lib.hid (HA0.out.below B2.out)
  clear b2 r1 hw1 hg C1
  go_wp2
  refine wp_region_guards (by kernel_rfl) 13 (by kernel_rfl) ?_ (oc1Phi A n c) oc1Phi_mono (fun i o hi ho a w hb hs hm => ?_) (fun o ho a w hb hs hm => ?_)
  · exact dst_lt9 (n := 20) (by kernel_rfl)
  · exact match i, hi, ho with
          | 0, _, ho => by
              cases ho
              rw [if_pos (wanted_none _ rfl)]
              refine wp_value (st_move rfl ((hs.keeps (by kernel_rfl)).trans rfl)) ⟨_, rfl, rfl, Below.refl _ _⟩
          | 1, _, ho => by
              cases ho
              rw [if_pos (wanted_none _ rfl)]
              have h1 := eval_getD (hm.get 0 6 (by kernel_rfl)); unfold Oper.wp; simp only [execOp]; go_simp; exact ⟨_, rfl, rfl, Below.refl _ _⟩
          | 2, _, ho => by
              cases ho
              rw [if_pos (wanted_none _ rfl)]
              refine wp_value (st_move rfl (hm.get 1 7 (by kernel_rfl))) ⟨_, rfl, rfl, Below.refl _ _⟩
          | 3, _, ho => by
              cases ho
              generalize hW : Region.wanted _ _ = W
              obtain rfl : W = (false == false) := hW.symm.trans (wanted_of rfl rfl rfl (show a.eval (.tmp 8) = .bool false from (hm.get 2 8 (by kernel_rfl))))
              clear hW
              rw [if_pos (show (false == false) = true by decide)]
              refine wp_value (st_move rfl ((hs.keeps (by kernel_rfl)).trans rfl)) ⟨_, rfl, rfl, Below.refl _ _⟩
          | 4, _, ho => by
              cases ho
              generalize hW : Region.wanted _ _ = W
              obtain rfl : W = (false == false) := hW.symm.trans (wanted_of rfl rfl rfl (show a.eval (.tmp 8) = .bool false from (hm.get 2 8 (by kernel_rfl))))
              clear hW
              rw [if_pos (show (false == false) = true by decide)]
              have h1 := eval_getD (hm.get 3 9 (by kernel_rfl)); unfold Oper.wp; simp only [execOp]; go_simp; refine (objRight_blob A n c w).mono ?_; rintro e w' ⟨rfl, hb'⟩; exact ⟨_, rfl, (show Value.bool _ = Value.bool _ by rw [Hok.out]), hb'⟩
          | 5, _, ho => by
              cases ho
              generalize hW : Region.wanted _ _ = W
              obtain rfl : W = (false == false) := hW.symm.trans (wanted_of rfl rfl rfl (show a.eval (.tmp 8) = .bool false from (hm.get 2 8 (by kernel_rfl))))
              clear hW
              rw [if_pos (show (false == false) = true by decide)]
              have h1 := eval_getD (hm.get 4 10 (by kernel_rfl)); unfold Oper.wp; simp only [execOp]; go_simp; exact ⟨_, rfl, rfl, Below.refl _ _⟩
          | 6, _, ho => by
              cases ho
              rw [if_pos (wanted_none _ rfl)]
              have h1 := eval_getD (hm.get 2 8 (by kernel_rfl)); have h3 := eval_getD (hm.get 5 11 (by kernel_rfl)); unfold Oper.wp; simp only [execOp]; go_simp; exact ⟨_, rfl, rfl, Below.refl _ _⟩
          | 7, _, ho => by
              cases ho
              rw [if_pos (wanted_none _ rfl)]
              refine wp_value (st_move rfl (hm.get 6 12 (by kernel_rfl))) ⟨_, rfl, rfl, Below.refl _ _⟩
          | 8, _, ho => by
              cases ho
              generalize hW : Region.wanted _ _ = W
              obtain rfl : W = (false == false) := hW.symm.trans (wanted_of rfl rfl rfl (show a.eval (.tmp 13) = .bool false from (hm.get 7 13 (by kernel_rfl))))
              clear hW
              rw [if_pos (show (false == false) = true by decide)]
              refine wp_value (st_move rfl ((hs.keeps (by kernel_rfl)).trans rfl)) ⟨_, rfl, rfl, Below.refl _ _⟩
          | 9, _, ho => by
              cases ho
              generalize hW : Region.wanted _ _ = W
              obtain rfl : W = (false == false) := hW.symm.trans (wanted_of rfl rfl rfl (show a.eval (.tmp 13) = .bool false from (hm.get 7 13 (by kernel_rfl))))
              clear hW
              rw [if_pos (show (false == false) = true by decide)]
              have h1 := eval_getD (hm.get 8 14 (by kernel_rfl)); unfold Oper.wp; simp only [execOp]; go_simp; refine (objMade_blob A n c w).mono ?_; rintro e w' ⟨rfl, hb'⟩; exact ⟨_, rfl, rfl, hb'⟩
          | 10, _, ho => by
              cases ho
              generalize hW : Region.wanted _ _ = W
              obtain rfl : W = (false == false) := hW.symm.trans (wanted_of rfl rfl rfl (show a.eval (.tmp 13) = .bool false from (hm.get 7 13 (by kernel_rfl))))
              clear hW
              rw [if_pos (show (false == false) = true by decide)]
              refine wp_load_row 110 (.tmp 1) rfl g ((hs.keeps (by kernel_rfl)).trans rfl) 110 (blobA A n c) (0, 0) _ (HBo.out.step hb) Tryz.underlying110 rfl (by kernel_rfl) ⟨_, rfl, rfl, Below.refl _ _⟩
          | 11, _, ho => by
              cases ho
              generalize hW : Region.wanted _ _ = W
              obtain rfl : W = (false == false) := hW.symm.trans (wanted_of rfl rfl rfl (show a.eval (.tmp 13) = .bool false from (hm.get 7 13 (by kernel_rfl))))
              clear hW
              rw [if_pos (show (false == false) = true by decide)]
              have h1 := eval_getD (hm.get 9 15 (by kernel_rfl)); have h2 := eval_getD (hm.get 10 16 (by kernel_rfl)); unfold Oper.wp; simp only [execOp]; go_simp; refine (objSame_blob A n c l w (HA.out.below hb)).mono ?_; rintro e w' ⟨rfl, hb'⟩; exact ⟨_, rfl, rfl, hb'⟩
          | 12, _, ho => by
              cases ho
              generalize hW : Region.wanted _ _ = W
              obtain rfl : W = (false == false) := hW.symm.trans (wanted_of rfl rfl rfl (show a.eval (.tmp 13) = .bool false from (hm.get 7 13 (by kernel_rfl))))
              clear hW
              rw [if_pos (show (false == false) = true by decide)]
              have h1 := eval_getD (hm.get 11 17 (by kernel_rfl)); unfold Oper.wp; simp only [execOp]; go_simp; exact ⟨_, rfl, rfl, Below.refl _ _⟩
          | (n + 13), hi, _ => absurd hi (by omega)
  · have e1 : a.eval (.tmp 13) = .bool false := by cases ho; exact hm.get 7 13 (by kernel_rfl)
    have e2 : a.eval (.tmp 18) = .bool false := by cases ho; exact hm.get 12 18 (by kernel_rfl)
    have hfr := hs.frame [6, 7, 8, 9, 10, 11, 12, 13, 14, 15, 16, 17, 18, 19] (by kernel_rfl)
    cases ho
    rw [hfr]
    simp only [List.foldl_cons, List.foldl_nil, e1, e2]
    clear hfr hs hm e1 e2
    generalize a.eval (.tmp 6) = u6
    generalize a.eval (.tmp 7) = u7
    generalize a.eval (.tmp 8) = u8
    generalize a.eval (.tmp 9) = u9
    generalize a.eval (.tmp 10) = u10
    generalize a.eval (.tmp 11) = u11
    generalize a.eval (.tmp 12) = u12
    generalize a.eval (.tmp 14) = u14
    generalize a.eval (.tmp 15) = u15
    generalize a.eval (.tmp 16) = u16
    generalize a.eval (.tmp 17) = u17
    generalize a.eval (.tmp 19) = u19
    unfold Oper.wp
    simp only [execOp]
    go_simp
    clear a
    have BX := Lib.hid (bstep B2.out hb)
    clear hb
    go_wp2
    go_ret
    exact ⟨rfl, BX.out⟩
def oc2Phi (A : Option Addr) (n c : Nat) : Nat → Value → World → Prop
  | 0, v, _ => v = .iface 321 (.agg #[.slice A n c])
  | 1, v, _ => v = .bool false
  | 2, v, _ => v = .bool false
  | 3, v, _ => v = .iface 321 (.agg #[.slice A n c])
  | 4, v, _ => v = .bool false
  | 5, v, _ => v = .bool true
  | 6, v, _ => v = .bool true
  | 7, v, _ => v = .bool true
  | 8, v, _ => v = undef
  | 9, v, _ => v = undef
  | 10, v, _ => v = undef
  | 11, v, _ => v = undef
  | 12, v, _ => v = undef
  | _, _, _ => True
theorem oc2Phi_mono {A : Option Addr} {n c : Nat} : ∀ (j : Nat) (v : Value) (w w' : World), oc2Phi A n c j v w → Below w.heap.size w w' → oc2Phi A n c j v w' := by
  intro j v w w' h _
  match j, h with
  | 0, h => exact h
  | 1, h => exact h
  | 2, h => exact h
  | 3, h => exact h
  | 4, h => exact h
  | 5, h => exact h
  | 6, h => exact h
  | 7, h => exact h
  | 8, h => exact h
  | 9, h => exact h
  | 10, h => exact h
  | 11, h => exact h
  | 12, h => exact h
  | (n + 13), _ => trivial
set_option maxHeartbeats 4000000 in
set_option maxRecDepth 100000 in
theorem objCheck_no (A : Option Addr) (n c : Nat) (l : List UInt8) (w : World) (hA : Sl w 1 A n (u8s l)) (hok : decide (n ≤ 1048576) = false) :
    Calls Tryz.prog 174 #[.agg (blobA A n c)] w fun e w' => e = .returned (I 1) ∧ Below w.heap.size w w' := by
  have Hok := Lib.hid hok
  obtain ⟨g, hg⟩ : ∃ g, g = w.heap.size := ⟨_, rfl⟩
  obtain ⟨w1, hw1⟩ : ∃ w1, w1 = w.alloc (.cells (blobA A n c) 110) := ⟨_, rfl⟩
  have b1 : Below w.heap.size w w1 := by rw [hw1]; exact balloc (Below.refl _ w) _
  have e1 : Blk w1 g 110 (blobA A n c) := by rw [hw1, hg]; exact Blk.new w _ _
  have C1 := Lib.hid (objOf_blob A n c w1)
  have B1 := Lib.hid b1
  have E1 := Lib.hid e1
  have HA0 := Lib.hid hA
  have kE : ∀ W : World, (binOp .eql 246 (.iface 321 (.agg #[.slice A n c])) .nilIface).run Tryz.prog W = .ok (.bool false) W := fun W => by kernel_rfl
  have r1 := e1.cell
  clear hA hok b1 e1
  go_enter Tryz.func174, Tryz.ntmps174
  go_wp2_with fail
  simp only [← hg, ← hw1]
  refine C1.out.mono ?_
  rintro e w2 ⟨rfl, b2⟩
  have B2 := Lib.hid (bstep B1.out b2)
  have HBo := Lib.hid (E1.out.step b2)
  have HA := Lib.hid (HA0.out.below B2.out)
  clear b2 r1 hw1 hg C1
  go_wp2
  refine wp_region_guards (by kernel_rfl) 13 (by kernel_rfl) ?_ (oc2Phi A n c) oc2Phi_mono (fun i o hi ho a w hb hs hm => ?_) (fun o ho a w hb hs hm => ?_)
  · exact dst_lt9 (n := 20) (by kernel_rfl)
  · exact match i, hi, ho with
          | 0, _, ho => by
              cases ho
              rw [if_pos (wanted_none _ rfl)]
              refine wp_value (st_move rfl ((hs.keeps (by kernel_rfl)).trans rfl)) ⟨_, rfl, rfl, Below.refl _ _⟩
          | 1, _, ho => by
              cases ho
              rw [if_pos (wanted_none _ rfl)]
              have h1 := eval_getD (hm.get 0 6 (by kernel_rfl)); unfold Oper.wp; simp only [execOp]; go_simp; exact ⟨_, rfl, rfl, Below.refl _ _⟩
          | 2, _, ho => by
              cases ho
              rw [if_pos (wanted_none _ rfl)]
              refine wp_value (st_move rfl (hm.get 1 7 (by kernel_rfl))) ⟨_, rfl, rfl, Below.refl _ _⟩
          | 3, _, ho => by
              cases ho
              generalize hW : Region.wanted _ _ = W
              obtain rfl : W = (false == false) := hW.symm.trans (wanted_of rfl rfl rfl (show a.eval (.tmp 8) = .bool false from (hm.get 2 8 (by kernel_rfl))))
              clear hW
              rw [if_pos (show (false == false) = true by decide)]
              refine wp_value (st_move rfl ((hs.keeps (by kernel_rfl)).trans rfl)) ⟨_, rfl, rfl, Below.refl _ _⟩
          | 4, _, ho => by
              cases ho
              generalize hW : Region.wanted _ _ = W
              obtain rfl : W = (false == false) := hW.symm.trans (wanted_of rfl rfl rfl (show a.eval (.tmp 8) = .bool false from (hm.get 2 8 (by kernel_rfl))))
              clear hW
              rw [if_pos (show (false == false) = true by decide)]
              have h1 := eval_getD (hm.get 3 9 (by kernel_rfl)); unfold Oper.wp; simp only [execOp]; go_simp; refine (objRight_blob A n c w).mono ?_; rintro e w' ⟨rfl, hb'⟩; exact ⟨_, rfl, (show Value.bool _ = Value.bool _ by rw [Hok.out]), hb'⟩
          | 5, _, ho => by
              cases ho
              generalize hW : Region.wanted _ _ = W
              obtain rfl : W = (false == false) := hW.symm.trans (wanted_of rfl rfl rfl (show a.eval (.tmp 8) = .bool false from (hm.get 2 8 (by kernel_rfl))))
              clear hW
              rw [if_pos (show (false == false) = true by decide)]
              have h1 := eval_getD (hm.get 4 10 (by kernel_rfl)); unfold Oper.wp; simp only [execOp]; go_simp; exact ⟨_, rfl, rfl, Below.refl _ _⟩
          | 6, _, ho => by
              cases ho
              rw [if_pos (wanted_none _ rfl)]
              have h1 := eval_getD (hm.get 2 8 (by kernel_rfl)); have h3 := eval_getD (hm.get 5 11 (by kernel_rfl)); unfold Oper.wp; simp only [execOp]; go_simp; exact ⟨_, rfl, rfl, Below.refl _ _⟩
          | 7, _, ho => by
              cases ho
              rw [if_pos (wanted_none _ rfl)]
              refine wp_value (st_move rfl (hm.get 6 12 (by kernel_rfl))) ⟨_, rfl, rfl, Below.refl _ _⟩
          | 8, _, ho => by
              cases ho
              generalize hW : Region.wanted _ _ = W
              obtain rfl : W = (true == false) := hW.symm.trans (wanted_of rfl rfl rfl (show a.eval (.tmp 13) = .bool true from (hm.get 7 13 (by kernel_rfl))))
              clear hW
              rw [if_neg (show ¬ (true == false) = true by decide)]
              exact rfl
          | 9, _, ho => by
              cases ho
              generalize hW : Region.wanted _ _ = W
              obtain rfl : W = (true == false) := hW.symm.trans (wanted_of rfl rfl rfl (show a.eval (.tmp 13) = .bool true from (hm.get 7 13 (by kernel_rfl))))
              clear hW
              rw [if_neg (show ¬ (true == false) = true by decide)]
              exact rfl
          | 10, _, ho => by
              cases ho
              generalize hW : Region.wanted _ _ = W
              obtain rfl : W = (true == false) := hW.symm.trans (wanted_of rfl rfl rfl (show a.eval (.tmp 13) = .bool true from (hm.get 7 13 (by kernel_rfl))))
              clear hW
              rw [if_neg (show ¬ (true == false) = true by decide)]
              exact rfl
          | 11, _, ho => by
              cases ho
              generalize hW : Region.wanted _ _ = W
              obtain rfl : W = (true == false) := hW.symm.trans (wanted_of rfl rfl rfl (show a.eval (.tmp 13) = .bool true from (hm.get 7 13 (by kernel_rfl))))
              clear hW
              rw [if_neg (show ¬ (true == false) = true by decide)]
              exact rfl
          | 12, _, ho => by
              cases ho
              generalize hW : Region.wanted _ _ = W
              obtain rfl : W = (true == false) := hW.symm.trans (wanted_of rfl rfl rfl (show a.eval (.tmp 13) = .bool true from (hm.get 7 13 (by kernel_rfl))))
              clear hW
              rw [if_neg (show ¬ (true == false) = true by decide)]
              exact rfl
          | (n + 13), hi, _ => absurd hi (by omega)
  · have e1 : a.eval (.tmp 13) = .bool true := by cases ho; exact hm.get 7 13 (by kernel_rfl)
    have hfr := hs.frame [6, 7, 8, 9, 10, 11, 12, 13, 14, 15, 16, 17, 18, 19] (by kernel_rfl)
    cases ho
    rw [hfr]
    simp only [List.foldl_cons, List.foldl_nil, e1]
    clear hfr hs hm e1
    generalize a.eval (.tmp 6) = u6
    generalize a.eval (.tmp 7) = u7
    generalize a.eval (.tmp 8) = u8
    generalize a.eval (.tmp 9) = u9
    generalize a.eval (.tmp 10) = u10
    generalize a.eval (.tmp 11) = u11
    generalize a.eval (.tmp 12) = u12
    generalize a.eval (.tmp 14) = u14
    generalize a.eval (.tmp 15) = u15
    generalize a.eval (.tmp 16) = u16
    generalize a.eval (.tmp 17) = u17
    generalize a.eval (.tmp 18) = u18
    generalize a.eval (.tmp 19) = u19
    unfold Oper.wp
    simp only [execOp]
    go_simp
    clear a
    have BX := Lib.hid (bstep B2.out hb)
    clear hb
    go_wp2
    go_ret
    exact ⟨rfl, BX.out⟩
end Go.Proofs.YtphnfcgdpdimbaaGreatDoor
