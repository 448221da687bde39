/-
  Texts merged: ObjBlob, ObjCheck, ObjEnc. What each law says and asks stands at its head.
-/
import Derived.Test.YtphnfcgdpdimbaaGreatDoorRKitSu
import Derived.Test.YtphnfcgdpdimbaaGreatDoorRKitTk
import Derived.Test.YtphnfcgdpdimbaaGreatDoorRKitW
import Derived.Test.YtphnfcgdpdimbaaGreatDoorRCheckG
import Derived.Test.YtphnfcgdpdimbaaGreatDoorRKitE
import Derived.Test.YtphnfcgdpdimbaaGreatDoorRKitF
namespace Go.Proofs.YtphnfcgdpdimbaaGreatDoor
open Go.RowKit
abbrev blobA (A : Option Addr) (n c : Nat) : Array Value := #[I 1, .slice A n c, .slice none 0 0, S [], .slice none 0 0, S [], S [], S [], I 0, S []]
set_option maxRecDepth 100000 in
set_option maxHeartbeats 1000000 in
theorem objOf_blob (A : Option Addr) (n c : Nat) (w : World) :
  Calls Tryz.prog 175 #[.agg (blobA A n c)] w fun e w' => e = .returned (.iface 321 (.agg #[.slice A n c])) ∧ Below w.heap.size w w' := by
 go_enter Tryz.func175, Tryz.ntmps175
 go_wp2
 go_ret
 exact ⟨rfl, balloc (balloc (Below.refl _ w) _) _⟩
set_option maxRecDepth 100000 in
set_option maxHeartbeats 1000000 in
theorem objRight_blob (A : Option Addr) (n c : Nat) (w : World) :
  Calls Tryz.prog 373 #[.agg #[.slice A n c]] w fun e w' => e = .returned (.bool (decide (n ≤ 1048576))) ∧ Below w.heap.size w w' := by
 go_enter Tryz.func373, Tryz.ntmps373
 go_wp2
 go_ret
 exact ⟨ret_bool (by rw [Bool.eq_iff_iff]; simp; omega), balloc (Below.refl _ w) _⟩
set_option maxRecDepth 100000 in
set_option maxHeartbeats 1000000 in
theorem objMade_blob (A : Option Addr) (n c : Nat) (w : World) :
  Calls Tryz.prog 236 #[.iface 321 (.agg #[.slice A n c])] w fun e w' => e = .returned (.agg (blobA A n c)) ∧ Below w.heap.size w w' := by
 have kT : ∀ V : World, (Instr.typeAssert (.iface 321 (.agg #[.slice A n c])) 246 321 true).run Tryz.prog V = .ok (.tuple #[.agg #[.slice A n c], .bool true]) V := fun V => by kernel_rfl
 go_enter Tryz.func236, Tryz.ntmps236
 go_wp2
 refine bodyPost_ret (results_cell_row rfl _ _ w.heap.size 110 (blobA A n c) (0, 0) _ rfl ((Blk.new w _ _).alloc _) Tryz.underlying110 rfl (by kernel_rfl)) rfl ⟨rfl, balloc (balloc (Below.refl _ w) _) _⟩
set_option maxRecDepth 100000 in
theorem equalEnt_nil (w : World) : Calls Tryz.prog 289 #[.slice none 0 0, .slice none 0 0] w fun e w' => e = .returned (.bool true) ∧ w' = w := by
 go_enter Tryz.func289, Tryz.ntmps289
 go_wp2
 go_loop [13] (fun i => i = .int .i64 0) (fun _ => 0)
 case atStart => rfl
 case round =>
  subst hrel
  go_wp2
  go_ret
  exact ⟨rfl, rfl⟩
set_option maxRecDepth 100000 in
theorem equalStr_nil (w : World) : Calls Tryz.prog 290 #[.slice none 0 0, .slice none 0 0] w fun e w' => e = .returned (.bool true) ∧ w' = w := by
 go_enter Tryz.func290, Tryz.ntmps290
 go_wp2
 go_loop [13] (fun i => i = .int .i64 0) (fun _ => 0)
 case atStart => rfl
 case round =>
  subst hrel
  go_wp2
  go_ret
  exact ⟨rfl, rfl⟩
set_option maxRecDepth 100000 in
set_option maxHeartbeats 1000000 in
theorem objSame_blob (A : Option Addr) (n c : Nat) (l : List UInt8) (w : World) (hA : Sl w 1 A n (u8s l)) :
  Calls Tryz.prog 235 #[.agg (blobA A n c), .agg (blobA A n c)] w fun e w' => e = .returned (.bool true) ∧ Below w.heap.size w w' := by
 have CE := Lib.hid equalEnt_nil
 have CS := Lib.hid equalStr_nil
 have hcv := fun W => run_conv_str (P := Tryz.prog) W 27 9 5 A n c l Tryz.underlying27 Tryz.underlying5 Tryz.underlying9
 have hv := hcv _ ((hA.alloc (.cells (blobA A n c) 110)).alloc (.cells (blobA A n c) 110))
 clear hcv
 go_enter Tryz.func235, Tryz.ntmps235
 go_wp2_with (first
  | (go_at_call 289; refine (CE.out _).mono ?_; rintro e w' ⟨rfl, rfl⟩)
  | (go_at_call 290; refine (CS.out _).mono ?_; rintro e w' ⟨rfl, rfl⟩))
 go_ret
 exact ⟨rfl, balloc (balloc (Below.refl _ w) _) _⟩
def oc1Phi (A : Option Addr) (n c : Nat) : Nat → Value → World → Prop
 | 0, v, _ => v = .iface 321 (.agg #[.slice A n c])
 | 1, v, _ => v = .bool false
 | 2, v, _ => v = .bool false
 | 3, v, _ => v = .iface 321 (.agg #[.slice A n c])
 | 4, v, _ => v = .bool true
 | 5, v, _ => v = .bool false
 | 6, v, _ => v = .bool false
 | 7, v, _ => v = .bool false
 | 8, v, _ => v = .iface 321 (.agg #[.slice A n c])
 | 9, v, _ => v = .agg (blobA A n c)
 | 10, v, _ => v = .agg (blobA A n c)
 | 11, v, _ => v = .bool true
 | 12, v, _ => v = .bool false
 | _, _, _ => True
theorem oc1Phi_mono {A : Option Addr} {n c : Nat} : ∀ (j : Nat) (v : Value) (w w' : World), oc1Phi A n c j v w → Below w.heap.size w w' → oc1Phi A n c j v w' := by
 intro j v w w' h _
 match j, h with
 | 0, h => exact h
 | 1, h => exact h
 | 2, h => exact h
 | 3, h => exact h
 | 4, h => exact h
 | 5, h => exact h
 | 6, h => exact h
 | 7, h => exact h
 | 8, h => exact h
 | 9, h => exact h
 | 10, h => exact h
 | 11, h => exact h
 | 12, h => exact h
 | (n + 13), _ => trivial
set_option maxHeartbeats 4000000 in
set_option maxRecDepth 100000 in
theorem objCheck_ok (A : Option Addr) (n c : Nat) (l : List UInt8) (w : World) (hA : Sl w 1 A n (u8s l)) (hok : decide (n ≤ 1048576) = true) :
  Calls Tryz.prog 174 #[.agg (blobA A n c)] w fun e w' => e = .returned (I 0) ∧ Below w.heap.size w w' := by
 have Hok := Lib.hid hok
 obtain ⟨g, hg⟩ : ∃ g, g = w.heap.size := ⟨_, rfl⟩
 obtain ⟨w1, hw1⟩ : ∃ w1, w1 = w.alloc (.cells (blobA A n c) 110) := ⟨_, rfl⟩
 have b1 : Below w.heap.size w w1 := by rw [hw1]; exact balloc (Below.refl _ w) _
 have e1 : Blk w1 g 110 (blobA A n c) := by rw [hw1, hg]; exact Blk.new w _ _
 have C1 := Lib.hid (objOf_blob A n c w1)
 have B1 := Lib.hid b1
 have E1 := Lib.hid e1
 have HA0 := Lib.hid hA
 have kE : ∀ W : World, (binOp .eql 246 (.iface 321 (.agg #[.slice A n c])) .nilIface).run Tryz.prog W = .ok (.bool false) W := fun W => by kernel_rfl
 have r1 := e1.cell
 clear hA hok b1 e1
 go_enter Tryz.func174, Tryz.ntmps174
 go_wp2_with fail
 simp only [← hg, ← hw1]
 refine C1.out.mono ?_
 rintro e w2 ⟨rfl, b2⟩
 have B2 := Lib.hid (bstep B1.out b2)
 have HBo := Lib.hid (E1.out.step b2)
 have HA := Lib.hid (HA0.out.below B2.out)
 clear b2 r1 hw1 hg C1
 go_wp2
 refine wp_region_guards (by kernel_rfl) 13 (by kernel_rfl) ?_ (oc1Phi A n c) oc1Phi_mono (fun i o hi ho a w hb hs hm => ?_) (fun o ho a w hb hs hm => ?_)
 ·exact dst_lt9 (n := 20) (by kernel_rfl)
 ·exact match i, hi, ho with
     | 0, _, ho => by
       cases ho
       rw [if_pos (wanted_none _ rfl)]
       refine wp_value (st_move rfl ((hs.keeps (by kernel_rfl)).trans rfl)) ⟨_, rfl, rfl, Below.refl _ _⟩
     | 1, _, ho => by
       cases ho
       rw [if_pos (wanted_none _ rfl)]
       have h1 := eval_getD (hm.get 0 6 (by kernel_rfl)); unfold Oper.wp; simp only [execOp]; go_simp; exact ⟨_, rfl, rfl, Below.refl _ _⟩
     | 2, _, ho => by
       cases ho
       rw [if_pos (wanted_none _ rfl)]
       refine wp_value (st_move rfl (hm.get 1 7 (by kernel_rfl))) ⟨_, rfl, rfl, Below.refl _ _⟩
     | 3, _, ho => by
       cases ho
       generalize hW : Region.wanted _ _ = W
       obtain rfl : W = (false == false) := hW.symm.trans (wanted_of rfl rfl rfl (show a.eval (.tmp 8) = .bool false from (hm.get 2 8 (by kernel_rfl))))
       clear hW
       rw [if_pos (show (false == false) = true by decide)]
       refine wp_value (st_move rfl ((hs.keeps (by kernel_rfl)).trans rfl)) ⟨_, rfl, rfl, Below.refl _ _⟩
     | 4, _, ho => by
       cases ho
       generalize hW : Region.wanted _ _ = W
       obtain rfl : W = (false == false) := hW.symm.trans (wanted_of rfl rfl rfl (show a.eval (.tmp 8) = .bool false from (hm.get 2 8 (by kernel_rfl))))
       clear hW
       rw [if_pos (show (false == false) = true by decide)]
       have h1 := eval_getD (hm.get 3 9 (by kernel_rfl)); unfold Oper.wp; simp only [execOp]; go_simp; refine (objRight_blob A n c w).mono ?_; rintro e w' ⟨rfl, hb'⟩; exact ⟨_, rfl, (show Value.bool _ = Value.bool _ by rw [Hok.out]), hb'⟩
     | 5, _, ho => by
       cases ho
       generalize hW : Region.wanted _ _ = W
       obtain rfl : W = (false == false) := hW.symm.trans (wanted_of rfl rfl rfl (show a.eval (.tmp 8) = .bool false from (hm.get 2 8 (by kernel_rfl))))
       clear hW
       rw [if_pos (show (false == false) = true by decide)]
       have h1 := eval_getD (hm.get 4 10 (by kernel_rfl)); unfold Oper.wp; simp only [execOp]; go_simp; exact ⟨_, rfl, rfl, Below.refl _ _⟩
     | 6, _, ho => by
       cases ho
       rw [if_pos (wanted_none _ rfl)]
       have h1 := eval_getD (hm.get 2 8 (by kernel_rfl)); have h3 := eval_getD (hm.get 5 11 (by kernel_rfl)); unfold Oper.wp; simp only [execOp]; go_simp; exact ⟨_, rfl, rfl, Below.refl _ _⟩
     | 7, _, ho => by
       cases ho
       rw [if_pos (wanted_none _ rfl)]
       refine wp_value (st_move rfl (hm.get 6 12 (by kernel_rfl))) ⟨_, rfl, rfl, Below.refl _ _⟩
     | 8, _, ho => by
       cases ho
       generalize hW : Region.wanted _ _ = W
       obtain rfl : W = (false == false) := hW.symm.trans (wanted_of rfl rfl rfl (show a.eval (.tmp 13) = .bool false from (hm.get 7 13 (by kernel_rfl))))
       clear hW
       rw [if_pos (show (false == false) = true by decide)]
       refine wp_value (st_move rfl ((hs.keeps (by kernel_rfl)).trans rfl)) ⟨_, rfl, rfl, Below.refl _ _⟩
     | 9, _, ho => by
       cases ho
       generalize hW : Region.wanted _ _ = W
       obtain rfl : W = (false == false) := hW.symm.trans (wanted_of rfl rfl rfl (show a.eval (.tmp 13) = .bool false from (hm.get 7 13 (by kernel_rfl))))
       clear hW
       rw [if_pos (show (false == false) = true by decide)]
       have h1 := eval_getD (hm.get 8 14 (by kernel_rfl)); unfold Oper.wp; simp only [execOp]; go_simp; refine (objMade_blob A n c w).mono ?_; rintro e w' ⟨rfl, hb'⟩; exact ⟨_, rfl, rfl, hb'⟩
     | 10, _, ho => by
       cases ho
       generalize hW : Region.wanted _ _ = W
       obtain rfl : W = (false == false) := hW.symm.trans (wanted_of rfl rfl rfl (show a.eval (.tmp 13) = .bool false from (hm.get 7 13 (by kernel_rfl))))
       clear hW
       rw [if_pos (show (false == false) = true by decide)]
       refine wp_load_row 110 (.tmp 1) rfl g ((hs.keeps (by kernel_rfl)).trans rfl) 110 (blobA A n c) (0, 0) _ (HBo.out.step hb) Tryz.underlying110 rfl (by kernel_rfl) ⟨_, rfl, rfl, Below.refl _ _⟩
     | 11, _, ho => by
       cases ho
       generalize hW : Region.wanted _ _ = W
       obtain rfl : W = (false == false) := hW.symm.trans (wanted_of rfl rfl rfl (show a.eval (.tmp 13) = .bool false from (hm.get 7 13 (by kernel_rfl))))
       clear hW
       rw [if_pos (show (false == false) = true by decide)]
       have h1 := eval_getD (hm.get 9 15 (by kernel_rfl)); have h2 := eval_getD (hm.get 10 16 (by kernel_rfl)); unfold Oper.wp; simp only [execOp]; go_simp; refine (objSame_blob A n c l w (HA.out.below hb)).mono ?_; rintro e w' ⟨rfl, hb'⟩; exact ⟨_, rfl, rfl, hb'⟩
     | 12, _, ho => by
       cases ho
       generalize hW : Region.wanted _ _ = W
       obtain rfl : W = (false == false) := hW.symm.trans (wanted_of rfl rfl rfl (show a.eval (.tmp 13) = .bool false from (hm.get 7 13 (by kernel_rfl))))
       clear hW
       rw [if_pos (show (false == false) = true by decide)]
       have h1 := eval_getD (hm.get 11 17 (by kernel_rfl)); unfold Oper.wp; simp only [execOp]; go_simp; exact ⟨_, rfl, rfl, Below.refl _ _⟩
     | (n + 13), hi, _ => absurd hi (by omega)
 ·have e1 : a.eval (.tmp 13) = .bool false := by cases ho; exact hm.get 7 13 (by kernel_rfl)
  have e2 : a.eval (.tmp 18) = .bool false := by cases ho; exact hm.get 12 18 (by kernel_rfl)
  have hfr := hs.frame [6, 7, 8, 9, 10, 11, 12, 13, 14, 15, 16, 17, 18, 19] (by kernel_rfl)
  cases ho
  rw [hfr]
  simp only [List.foldl_cons, List.foldl_nil, e1, e2]
  clear hfr hs hm e1 e2
  generalize a.eval (.tmp 6) = u6, a.eval (.tmp 7) = u7, a.eval (.tmp 8) = u8, a.eval (.tmp 9) = u9, a.eval (.tmp 10) = u10, a.eval (.tmp 11) = u11, a.eval (.tmp 12) = u12, a.eval (.tmp 14) = u14, a.eval (.tmp 15) = u15, a.eval (.tmp 16) = u16, a.eval (.tmp 17) = u17, a.eval (.tmp 19) = u19
  unfold Oper.wp
  simp only [execOp]
  go_simp
  clear a
  have BX := Lib.hid (bstep B2.out hb)
  clear hb
  go_wp2
  go_ret
  exact ⟨rfl, BX.out⟩
def oc2Phi (A : Option Addr) (n c : Nat) : Nat → Value → World → Prop
 | 0, v, _ => v = .iface 321 (.agg #[.slice A n c])
 | 1, v, _ => v = .bool false
 | 2, v, _ => v = .bool false
 | 3, v, _ => v = .iface 321 (.agg #[.slice A n c])
 | 4, v, _ => v = .bool false
 | 5, v, _ => v = .bool true
 | 6, v, _ => v = .bool true
 | 7, v, _ => v = .bool true
 | 8, v, _ => v = undef
 | 9, v, _ => v = undef
 | 10, v, _ => v = undef
 | 11, v, _ => v = undef
 | 12, v, _ => v = undef
 | _, _, _ => True
theorem oc2Phi_mono {A : Option Addr} {n c : Nat} : ∀ (j : Nat) (v : Value) (w w' : World), oc2Phi A n c j v w → Below w.heap.size w w' → oc2Phi A n c j v w' := by
 intro j v w w' h _
 match j, h with
 | 0, h => exact h
 | 1, h => exact h
 | 2, h => exact h
 | 3, h => exact h
 | 4, h => exact h
 | 5, h => exact h
 | 6, h => exact h
 | 7, h => exact h
 | 8, h => exact h
 | 9, h => exact h
 | 10, h => exact h
 | 11, h => exact h
 | 12, h => exact h
 | (n + 13), _ => trivial
set_option maxHeartbeats 4000000 in
set_option maxRecDepth 100000 in
theorem objCheck_no (A : Option Addr) (n c : Nat) (l : List UInt8) (w : World) (hA : Sl w 1 A n (u8s l)) (hok : decide (n ≤ 1048576) = false) :
  Calls Tryz.prog 174 #[.agg (blobA A n c)] w fun e w' => e = .returned (I 1) ∧ Below w.heap.size w w' := by
 have Hok := Lib.hid hok
 obtain ⟨g, hg⟩ : ∃ g, g = w.heap.size := ⟨_, rfl⟩
 obtain ⟨w1, hw1⟩ : ∃ w1, w1 = w.alloc (.cells (blobA A n c) 110) := ⟨_, rfl⟩
 have b1 : Below w.heap.size w w1 := by rw [hw1]; exact balloc (Below.refl _ w) _
 have e1 : Blk w1 g 110 (blobA A n c) := by rw [hw1, hg]; exact Blk.new w _ _
 have C1 := Lib.hid (objOf_blob A n c w1)
 have B1 := Lib.hid b1
 have E1 := Lib.hid e1
 have HA0 := Lib.hid hA
 have kE : ∀ W : World, (binOp .eql 246 (.iface 321 (.agg #[.slice A n c])) .nilIface).run Tryz.prog W = .ok (.bool false) W := fun W => by kernel_rfl
 have r1 := e1.cell
 clear hA hok b1 e1
 go_enter Tryz.func174, Tryz.ntmps174
 go_wp2_with fail
 simp only [← hg, ← hw1]
 refine C1.out.mono ?_
 rintro e w2 ⟨rfl, b2⟩
 have B2 := Lib.hid (bstep B1.out b2)
 have HBo := Lib.hid (E1.out.step b2)
 have HA := Lib.hid (HA0.out.below B2.out)
 clear b2 r1 hw1 hg C1
 go_wp2
 refine wp_region_guards (by kernel_rfl) 13 (by kernel_rfl) ?_ (oc2Phi A n c) oc2Phi_mono (fun i o hi ho a w hb hs hm => ?_) (fun o ho a w hb hs hm => ?_)
 ·exact dst_lt9 (n := 20) (by kernel_rfl)
 ·exact match i, hi, ho with
     | 0, _, ho => by
       cases ho
       rw [if_pos (wanted_none _ rfl)]
       refine wp_value (st_move rfl ((hs.keeps (by kernel_rfl)).trans rfl)) ⟨_, rfl, rfl, Below.refl _ _⟩
     | 1, _, ho => by
       cases ho
       rw [if_pos (wanted_none _ rfl)]
       have h1 := eval_getD (hm.get 0 6 (by kernel_rfl)); unfold Oper.wp; simp only [execOp]; go_simp; exact ⟨_, rfl, rfl, Below.refl _ _⟩
     | 2, _, ho => by
       cases ho
       rw [if_pos (wanted_none _ rfl)]
       refine wp_value (st_move rfl (hm.get 1 7 (by kernel_rfl))) ⟨_, rfl, rfl, Below.refl _ _⟩
     | 3, _, ho => by
       cases ho
       generalize hW : Region.wanted _ _ = W
       obtain rfl : W = (false == false) := hW.symm.trans (wanted_of rfl rfl rfl (show a.eval (.tmp 8) = .bool false from (hm.get 2 8 (by kernel_rfl))))
       clear hW
       rw [if_pos (show (false == false) = true by decide)]
       refine wp_value (st_move rfl ((hs.keeps (by kernel_rfl)).trans rfl)) ⟨_, rfl, rfl, Below.refl _ _⟩
     | 4, _, ho => by
       cases ho
       generalize hW : Region.wanted _ _ = W
       obtain rfl : W = (false == false) := hW.symm.trans (wanted_of rfl rfl rfl (show a.eval (.tmp 8) = .bool false from (hm.get 2 8 (by kernel_rfl))))
       clear hW
       rw [if_pos (show (false == false) = true by decide)]
       have h1 := eval_getD (hm.get 3 9 (by kernel_rfl)); unfold Oper.wp; simp only [execOp]; go_simp; refine (objRight_blob A n c w).mono ?_; rintro e w' ⟨rfl, hb'⟩; exact ⟨_, rfl, (show Value.bool _ = Value.bool _ by rw [Hok.out]), hb'⟩
     | 5, _, ho => by
       cases ho
       generalize hW : Region.wanted _ _ = W
       obtain rfl : W = (false == false) := hW.symm.trans (wanted_of rfl rfl rfl (show a.eval (.tmp 8) = .bool false from (hm.get 2 8 (by kernel_rfl))))
       clear hW
       rw [if_pos (show (false == false) = true by decide)]
       have h1 := eval_getD (hm.get 4 10 (by kernel_rfl)); unfold Oper.wp; simp only [execOp]; go_simp; exact ⟨_, rfl, rfl, Below.refl _ _⟩
     | 6, _, ho => by
       cases ho
       rw [if_pos (wanted_none _ rfl)]
       have h1 := eval_getD (hm.get 2 8 (by kernel_rfl)); have h3 := eval_getD (hm.get 5 11 (by kernel_rfl)); unfold Oper.wp; simp only [execOp]; go_simp; exact ⟨_, rfl, rfl, Below.refl _ _⟩
     | 7, _, ho => by
       cases ho
       rw [if_pos (wanted_none _ rfl)]
       refine wp_value (st_move rfl (hm.get 6 12 (by kernel_rfl))) ⟨_, rfl, rfl, Below.refl _ _⟩
     | 8, _, ho => by
       cases ho
       generalize hW : Region.wanted _ _ = W
       obtain rfl : W = (true == false) := hW.symm.trans (wanted_of rfl rfl rfl (show a.eval (.tmp 13) = .bool true from (hm.get 7 13 (by kernel_rfl))))
       clear hW
       rw [if_neg (show ¬ (true == false) = true by decide)]
       exact rfl
     | 9, _, ho => by
       cases ho
       generalize hW : Region.wanted _ _ = W
       obtain rfl : W = (true == false) := hW.symm.trans (wanted_of rfl rfl rfl (show a.eval (.tmp 13) = .bool true from (hm.get 7 13 (by kernel_rfl))))
       clear hW
       rw [if_neg (show ¬ (true == false) = true by decide)]
       exact rfl
     | 10, _, ho => by
       cases ho
       generalize hW : Region.wanted _ _ = W
       obtain rfl : W = (true == false) := hW.symm.trans (wanted_of rfl rfl rfl (show a.eval (.tmp 13) = .bool true from (hm.get 7 13 (by kernel_rfl))))
       clear hW
       rw [if_neg (show ¬ (true == false) = true by decide)]
       exact rfl
     | 11, _, ho => by
       cases ho
       generalize hW : Region.wanted _ _ = W
       obtain rfl : W = (true == false) := hW.symm.trans (wanted_of rfl rfl rfl (show a.eval (.tmp 13) = .bool true from (hm.get 7 13 (by kernel_rfl))))
       clear hW
       rw [if_neg (show ¬ (true == false) = true by decide)]
       exact rfl
     | 12, _, ho => by
       cases ho
       generalize hW : Region.wanted _ _ = W
       obtain rfl : W = (true == false) := hW.symm.trans (wanted_of rfl rfl rfl (show a.eval (.tmp 13) = .bool true from (hm.get 7 13 (by kernel_rfl))))
       clear hW
       rw [if_neg (show ¬ (true == false) = true by decide)]
       exact rfl
     | (n + 13), hi, _ => absurd hi (by omega)
 ·have e1 : a.eval (.tmp 13) = .bool true := by cases ho; exact hm.get 7 13 (by kernel_rfl)
  have hfr := hs.frame [6, 7, 8, 9, 10, 11, 12, 13, 14, 15, 16, 17, 18, 19] (by kernel_rfl)
  cases ho
  rw [hfr]
  simp only [List.foldl_cons, List.foldl_nil, e1]
  clear hfr hs hm e1
  generalize a.eval (.tmp 6) = u6, a.eval (.tmp 7) = u7, a.eval (.tmp 8) = u8, a.eval (.tmp 9) = u9, a.eval (.tmp 10) = u10, a.eval (.tmp 11) = u11, a.eval (.tmp 12) = u12, a.eval (.tmp 14) = u14, a.eval (.tmp 15) = u15, a.eval (.tmp 16) = u16, a.eval (.tmp 17) = u17, a.eval (.tmp 18) = u18, a.eval (.tmp 19) = u19
  unfold Oper.wp
  simp only [execOp]
  go_simp
  clear a
  have BX := Lib.hid (bstep B2.out hb)
  clear hb
  go_wp2
  go_ret
  exact ⟨rfl, BX.out⟩
set_option maxRecDepth 100000 in
set_option maxHeartbeats 1000000 in
theorem objLay_blob (A : Option Addr) (n c : Nat) (l : List UInt8) (w0 w : World) (g m : Nat) (bs : List UInt8) (hB : Ow w0 w 5 1 (some ⟨g, 0, none⟩) m m (u8s bs)) (hA : Sl w 1 A n (u8s l)) (hm : m ≤ 1000) (hn : n ≤ 1000000000) :
  Calls Tryz.prog 371 #[.agg #[.slice A n c], .slice (some ⟨g, 0, none⟩) m m] w fun e w' => ∃ A' c', e = .returned (.slice A' (m + n) c') ∧ Ow w0 w' 5 1 A' (m + n) c' (u8s (bs ++ l)) ∧ Below w.heap.size w w' := by
 obtain ⟨i0, hi0, hz0, hz1, hz2⟩ := info_parts Tryz.infoU8
 have HB := Lib.hid (hB.alloc (.cells #[.slice A n c] 321))
 have HA := Lib.hid (hA.alloc (.cells #[.slice A n c] 321))
 have q1 := Lib.hid (show m + n ≤ 1000000000000 by omega)
 clear hB hA hm hn
 go_enter Tryz.func371, Tryz.ntmps371
 go_wp2_with (at_builtin; refine wpList_append_full _ rfl (.tmp 5) (.tmp 7) _ rfl w0 5 i0 _ Tryz.underlying27 hi0 hz0 hz1 hz2 rfl g m _ rfl HB.out A n c (u8s l) rfl HA.out q1.out ?_; intro A5 c5 w5 hO5 hb5; have HO5 := Lib.hid hO5; have HB5 := Lib.hid (bstep (balloc (Below.refl _ w) (.cells #[.slice A n c] 321)) hb5); clear hO5 hb5)
 go_ret
 exact ⟨A5, c5, rfl, by have := HO5.out; simpa [u8s] using this, HB5.out⟩
def oePhi (W : World) (A : Option Addr) (n c g : Nat) (l : List UInt8) : Nat → Value → World → Prop
 | 0, v, _ => v = .agg (blobA A n c)
 | 1, v, _ => v = .iface 321 (.agg #[.slice A n c])
 | 2, v, _ => v = .pointer (some ⟨g, 0, none⟩)
 | 3, v, _ => v = I 1
 | 4, v, _ => v = U8 1
 | 5, v, w => ∃ (g' : Nat), v = .slice (some ⟨g', 0, none⟩) 1 1 ∧ Ow W w 5 1 (some ⟨g', 0, none⟩) 1 1 (u8s [1])
 | 6, v, w => ∃ (A' : Option Addr) (c' : Nat), v = .slice A' (1 + n) c' ∧ Ow W w 5 1 A' (1 + n) c' (u8s ([1] ++ l))
 | 7, v, w => ∃ (A' : Option Addr) (c' : Nat), v = .slice A' (1 + n) c' ∧ Ow W w 5 1 A' (1 + n) c' (u8s ([1] ++ l))
 | _, _, _ => True
theorem oePhi_mono {W : World} {A : Option Addr} {n c g : Nat} {l : List UInt8} : ∀ (j : Nat) (v : Value) (w w' : World), oePhi W A n c g l j v w → Below w.heap.size w w' → oePhi W A n c g l j v w' := by
 intro j v w w' h hb9
 match j, h with
 | 0, h => exact h
 | 1, h => exact h
 | 2, h => exact h
 | 3, h => exact h
 | 4, h => exact h
 | 5, h => obtain ⟨g', h1, h2⟩ := h; exact ⟨g', h1, h2.keep hb9⟩
 | 6, h => obtain ⟨A', c', h1, h2⟩ := h; exact ⟨A', c', h1, h2.keep hb9⟩
 | 7, h => obtain ⟨A', c', h1, h2⟩ := h; exact ⟨A', c', h1, h2.keep hb9⟩
 | (n + 8), _ => trivial
set_option maxHeartbeats 4000000 in
set_option maxRecDepth 100000 in
theorem objEnc_ok (A : Option Addr) (n c : Nat) (l : List UInt8) (w : World) (hA : Sl w 1 A n (u8s l)) (hok : n ≤ 1048576) :
  Calls Tryz.prog 109 #[.agg (blobA A n c)] w fun e w' => ∃ A' c', e = .returned (.tuple #[.slice A' (1 + n) c', I 0]) ∧ Ow w w' 5 1 A' (1 + n) c' (u8s ([1] ++ l)) := by
 obtain ⟨g, hg⟩ : ∃ g, g = w.heap.size := ⟨_, rfl⟩
 obtain ⟨w1, hw1⟩ : ∃ w1, w1 = w.alloc (.cells (blobA A n c) 110) := ⟨_, rfl⟩
 have b1 : Below w.heap.size w w1 := by rw [hw1]; exact balloc (Below.refl _ w) _
 have e1 : Blk w1 g 110 (blobA A n c) := by rw [hw1, hg]; exact Blk.new w _ _
 have C1 := Lib.hid (objCheck_ok A n c l w1 (hA.below b1) (decide_eq_true hok))
 have B1 := Lib.hid b1
 have E1 := Lib.hid e1
 have HA0 := Lib.hid hA
 have Hn : Hid (n ≤ 1000000000) := Lib.hid (by omega)
 have r1 := e1.cell
 clear hA hok b1 e1
 go_enter Tryz.func109, Tryz.ntmps109
 go_wp2_with fail
 simp only [← hg, ← hw1]
 refine C1.out.mono ?_
 rintro e W ⟨rfl, b2⟩
 have B2 := Lib.hid (bstep B1.out b2)
 have HBo := Lib.hid (E1.out.step b2)
 have HA := Lib.hid (HA0.out.below B2.out)
 clear b2 r1 hw1 hg C1
 go_wp2
 refine wp_region_guards (by kernel_rfl) 8 (by kernel_rfl) ?_ (oePhi W A n c g l) oePhi_mono (fun i o hi ho a w hb hs hm => ?_) (fun o ho a w hb hs hm => ?_)
 ·exact dst_lt9 (n := 17) (by kernel_rfl)
 ·exact match i, hi, ho with
   | 0, _, ho => by
     cases ho
     rw [if_pos (wanted_none _ rfl)]
     refine wp_load_row 110 (.tmp 1) rfl g ((hs.keeps (by kernel_rfl)).trans rfl) 110 (blobA A n c) (0, 0) _ (HBo.out.step hb) Tryz.underlying110 rfl (by kernel_rfl) ⟨_, rfl, rfl, Below.refl _ _⟩
   | 1, _, ho => by
     cases ho
     rw [if_pos (wanted_none _ rfl)]
     have h1 := eval_getD (hm.get 0 10 (by kernel_rfl)); unfold Oper.wp; simp only [execOp]; go_simp; refine (objOf_blob A n c w).mono ?_; rintro e w' ⟨rfl, hb'⟩; exact ⟨_, rfl, rfl, hb'⟩
   | 2, _, ho => by
     cases ho
     rw [if_pos (wanted_none _ rfl)]
     refine wp_value (st_field rfl ((hs.keeps (by kernel_rfl)).trans rfl) (by kernel_rfl)) ⟨_, rfl, rfl, Below.refl _ _⟩
   | 3, _, ho => by
     cases ho
     rw [if_pos (wanted_none _ rfl)]
     have hx : w.cell? ⟨g, 0, none⟩ = some (I 1) := (HBo.out.step hb).cell 0; refine wp_value (st_load rfl (hm.get 2 12 (by kernel_rfl)) (by go_simp)) ⟨_, rfl, rfl, Below.refl _ _⟩
   | 4, _, ho => by
     cases ho
     rw [if_pos (wanted_none _ rfl)]
     have h1 := eval_getD (hm.get 3 13 (by kernel_rfl)); unfold Oper.wp; simp only [execOp]; go_simp; exact ⟨_, rfl, rfl, Below.refl _ _⟩
   | 5, _, ho => by
     cases ho
     rw [if_pos (wanted_none _ rfl)]
     have h1 := eval_getD (hm.get 4 14 (by kernel_rfl)); unfold Oper.wp; simp only [execOp]; go_simp; exact ⟨_, rfl, ⟨w.heap.size, rfl, (own_one w 5 (U8 1)).since hb⟩, balloc (Below.refl _ w) _⟩
   | 6, _, ho => by
     cases ho
     rw [if_pos (wanted_none _ rfl)]
     refine Exists.elim (show ∃ (g' : Nat), a.eval (.tmp 15) = .slice (some ⟨g', 0, none⟩) 1 1 ∧ Ow W w 5 1 (some ⟨g', 0, none⟩) 1 1 (u8s [1]) from (hm.get 5 15 (by kernel_rfl))) fun g' h9 => ?_; have h1 := eval_getD (hm.get 1 11 (by kernel_rfl)); have h2 := eval_getD h9.1; unfold Oper.wp; simp only [execOp]; go_simp; refine (objLay_blob A n c l W w g' 1 [1] h9.2 (HA.out.below hb) (by omega) Hn.out).mono ?_; rintro e w' ⟨A', c', rfl, hO', hb'⟩; exact ⟨_, rfl, ⟨A', c', rfl, hO'⟩, hb'⟩
   | 7, _, ho => by
     cases ho
     rw [if_pos (wanted_none _ rfl)]
     refine Exists.elim (show ∃ (A' : Option Addr) (c' : Nat), a.eval (.tmp 16) = .slice A' (1 + n) c' ∧ Ow W w 5 1 A' (1 + n) c' (u8s ([1] ++ l)) from (hm.get 6 16 (by kernel_rfl))) fun A' h8 => ?_; refine Exists.elim h8 fun c' h9 => ?_; have h1 := eval_getD h9.1; unfold Oper.wp; simp only [execOp]; go_simp; exact ⟨_, rfl, ⟨A', c', rfl, h9.2⟩, Below.refl _ _⟩
   | (n + 8), hi, _ => absurd hi (by omega)
 ·refine Exists.elim (show ∃ (A' : Option Addr) (c' : Nat), a.eval (.tmp 2) = .slice A' (1 + n) c' ∧ Ow W w 5 1 A' (1 + n) c' (u8s ([1] ++ l)) by cases ho; exact hm.get 7 2 (by kernel_rfl)) fun A' h8 => ?_
  refine Exists.elim h8 fun c' h9 => ?_
  have e1 := h9.1
  have HO := Lib.hid h9.2
  have hfr := hs.frame [10, 11, 12, 13, 14, 15, 16, 2, 3] (by kernel_rfl)
  cases ho
  rw [hfr]
  simp only [List.foldl_cons, List.foldl_nil, e1]
  clear hfr hs hm e1 h8 h9
  generalize a.eval (.tmp 10) = u10, a.eval (.tmp 11) = u11, a.eval (.tmp 12) = u12, a.eval (.tmp 13) = u13, a.eval (.tmp 14) = u14, a.eval (.tmp 15) = u15, a.eval (.tmp 16) = u16, a.eval (.tmp 3) = u3
  unfold Oper.wp
  simp only [execOp]
  go_simp
  clear a hb
  go_wp2
  go_ret2
  exact ⟨A', c', rfl, HO.out.since B2.out⟩
set_option maxRecDepth 100000 in
set_option maxHeartbeats 1000000 in
theorem objEnc_no (A : Option Addr) (n c : Nat) (l : List UInt8) (w : World) (hA : Sl w 1 A n (u8s l)) (hok : ¬ n ≤ 1048576) :
  Calls Tryz.prog 109 #[.agg (blobA A n c)] w fun e w' => e = .returned (.tuple #[.slice none 0 0, I 1]) ∧ Below w.heap.size w w' := by
 have C1 := Lib.hid (objCheck_no A n c l (w.alloc (.cells (blobA A n c) 110)) (hA.alloc _) (decide_eq_false hok))
 clear hA hok
 go_enter Tryz.func109, Tryz.ntmps109
 go_wp2_with fail
 refine C1.out.mono ?_
 rintro e w2 ⟨rfl, b2⟩
 have B2 := Lib.hid (bstep (balloc (Below.refl _ w) (.cells (blobA A n c) 110)) b2)
 clear b2 C1
 go_wp2
 go_ret2
 exact ⟨rfl, B2.out⟩
end Go.Proofs.YtphnfcgdpdimbaaGreatDoor
