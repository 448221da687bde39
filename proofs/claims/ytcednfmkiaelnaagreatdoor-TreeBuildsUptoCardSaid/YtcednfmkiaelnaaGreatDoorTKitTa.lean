/-
  Texts merged: TreeEnt, TreeRight, TreeObj, TreeCheck, TreeLay, TreeEnc. What each law says and asks stands at its head.
-/
import Derived.Test.YtcednfmkiaelnaaGreatDoorTKitW
import Derived.Test.YtcednfmkiaelnaaGreatDoorTKitX
import Derived.Deep.QuietTactic
import Derived.BigQuiet
import Derived.Test.YtcednfmkiaelnaaGreatDoorTKitOb
import Derived.Test.YtcednfmkiaelnaaGreatDoorTCheckG
import Derived.Test.YtcednfmkiaelnaaGreatDoorTKitG
import Derived.Test.YtcednfmkiaelnaaGreatDoorTKitE
import Derived.Test.YtcednfmkiaelnaaGreatDoorTKitF
namespace Go.Proofs.YtcednfmkiaelnaaGreatDoor
open Go.RowKit
abbrev Ent3 := List UInt8 × Bool × List UInt8
def enC (x : Ent3) : List Value := [S x.1, .bool x.2.1, S x.2.2]
def ens (l : List Ent3) : List Value := l.flatMap enC
theorem enC_len (l : List Ent3) : ∀ x ∈ l, (enC x).length = 3 := fun _ _ => rfl
theorem ens_len (l : List Ent3) : (ens l).length = l.length * 3 := flat_len (enC_len l)
theorem ens_append (l k : List Ent3) : ens (l ++ k) = ens l ++ ens k := by simp [ens]
theorem one_ens (l : List Ent3) : ∀ u ∈ ens l, u.oneCell' = true := by
 intro u hu
 obtain ⟨c, _, hu⟩ := List.mem_flatMap.1 hu
 simp [enC] at hu
 rcases hu with rfl | rfl | rfl <;> rfl
theorem ens_at {l : List Ent3} {k j : Nat} {c : Ent3} (h : l[k]? = some c) (hj : j < 3) : (ens l)[k * 3 + j]? = (enC c)[j]? := flat_at (enC_len l) h hj
theorem ens_count {w : World} {A : Option Addr} {m : Nat} {l : List Ent3} (h : Sl w 3 A m (ens l)) : l.length = m := by have := h.1; rw [ens_len] at this; omega
theorem Sl.en {w : World} {A : Option Addr} {m k : Nat} {l : List Ent3} (h : Sl w 3 A m (ens l)) (hk : k < m) : ∃ b off x, A = some ⟨b, off, none⟩ ∧ b < w.heap.size ∧ l[k]? = some x ∧
  w.cell? ⟨b, off + k * 3, none⟩ = some (S x.1) ∧
  w.cell? ⟨b, off + k * 3 + 1, none⟩ = some (.bool x.2.1) ∧
  w.cell? ⟨b, off + k * 3 + 2, none⟩ = some (S x.2.2) := by
 obtain ⟨b, off, rfl, hb, hc⟩ := h.2 (by omega)
 have hl := ens_count h
 obtain ⟨x, hx⟩ : ∃ x, l[k]? = some x := ⟨l[k]'(by omega), List.getElem?_eq_getElem _⟩
 refine ⟨b, off, x, rfl, hb, hx, ?_, ?_, ?_⟩
 ·have := (hc (k * 3 + 0) (by omega)).trans (ens_at hx (by omega : 0 < 3)); simpa [enC] using this
 ·have := (hc (k * 3 + 1) (by omega)).trans (ens_at hx (by omega : 1 < 3)); simpa [enC, Nat.add_assoc] using this
 ·have := (hc (k * 3 + 2) (by omega)).trans (ens_at hx (by omega : 2 < 3)); simpa [enC, Nat.add_assoc] using this
def layE (x : Ent3) : List UInt8 := putNum x.1.length ++ x.1 ++ (if x.2.1 then [1] else [0]) ++ x.2.2
def layTr (l : List Ent3) : List UInt8 := putNum l.length ++ l.flatMap layE
theorem layE_len (x : Ent3) : x.1.length + 1 + x.2.2.length ≤ (layE x).length := by
 unfold layE
 simp only [List.length_append]
 split <;> simp <;> omega
theorem lay_take (l : List Ent3) (k : Nat) : ((l.take k).flatMap layE).length ≤ (l.flatMap layE).length := by
 conv => rhs; rw [← List.take_append_drop k l, List.flatMap_append, List.length_append]
 omega
def okE (l : List Ent3) : Nat → Bool
 | 0 => true
 | k + 1 => okE l k && (match l[k]? with
  | some x => PathLaw.part x.1 && decide (x.2.2.length = 32) && (k == 0 || Op.bytesLess (((l[k - 1]?).map (·.1)).getD []) x.1)
  | none => false)
theorem okE_succ {l : List Ent3} {k : Nat} {x : Ent3} (hx : l[k]? = some x) : okE l (k + 1) = (okE l k && (PathLaw.part x.1 && decide (x.2.2.length = 32) && (k == 0 || Op.bytesLess (((l[k - 1]?).map (·.1)).getD []) x.1))) := by
 show (okE l k && (match l[k]? with | some x => _ | none => false)) = _
 rw [hx]
theorem okE_no {l : List Ent3} {k n : Nat} (h : okE l k = false) (hkn : k ≤ n) : okE l n = false := by
 induction n with
 | zero =>
  obtain rfl : k = 0 := by omega
  exact h
 | succ n ih =>
  by_cases e : k = n + 1
  ·rw [← e]; exact h
  ·show (okE l n && _) = false
   rw [ih (by omega), Bool.false_and]
theorem objIsId_any (s : List UInt8) (w : World) :
  Calls Tryz.prog 330 #[S s] w fun e w' => e = .returned (.bool (decide (s.length = 32))) ∧ w = w' := by
 go_enter Tryz.func330, Tryz.ntmps330
 go_wp2
 go_ret
 exact ⟨ret_bool (by rw [Bool.eq_iff_iff]; simp; omega), rfl⟩
set_option maxHeartbeats 8000000 in
set_option maxRecDepth 100000 in
theorem treeRight_any (B : Option Addr) (m d : Nat) (es : List Ent3) (w : World) (hB : Sl w 3 B m (ens es)) (hm9 : m ≤ 1000000000) :
  Calls Tryz.prog 329 #[.agg #[.slice B m d]] w fun e w' => e = .returned (.bool (okE es m && decide (m ≤ 4096))) ∧ Below w.heap.size w w' := by
 have hm := ens_count hB
 have HB := Lib.hid hB
 have Hm := Lib.hid hm
 have Hx := Lib.hid (Blk.new w 266 #[.slice B m d])
 have Bx := Lib.hid (balloc (Below.refl _ w) (.cells #[.slice B m d] 266))
 have r1 := Hx.out.cell
 obtain ⟨g, hg⟩ : ∃ g, g = w.heap.size := ⟨_, rfl⟩
 clear hB hm
 go_enter Tryz.func329, Tryz.ntmps329
 go_wp2
 clear r1
 simp only [← hg]
 rw [← hg] at Hx
 clear hg
 go_loopw [2, 8] (fun _ s8 wr => ∃ k : Nat, k ≤ m ∧ s8 = .int .i64 k ∧ Hid (okE es k = true) ∧ Hid (Below w.heap.size w wr) ∧ Hid (Blk wr g 266 #[.slice B m d])) (fun _ s8 _ => m - (intOf s8).toNat)
 case atStart => exact ⟨0, Nat.zero_le _, rfl, Lib.hid rfl, Bx, Hx⟩
 case round =>
  obtain ⟨k, hk, rfl, hok, hb, ht⟩ := hrel
  by_cases hlt : k < m
  ·obtain ⟨b, off, x, rfl, _, hx, x0, x1, x2⟩ := (HB.out.below hb.out).en hlt
   obtain ⟨nm, dr, id⟩ := x
   have Hs := Lib.hid (okE_succ hx)
   obtain ⟨W, hW⟩ : ∃ W, W = wr.alloc (.cells #[S nm, .bool dr, S id] 129) := ⟨_, rfl⟩
   obtain ⟨g4, hg4⟩ : ∃ g4, g4 = wr.heap.size := ⟨_, rfl⟩
   have HX4 : Hid (Blk W g4 129 #[S nm, .bool dr, S id]) := Lib.hid (by rw [hW, hg4]; exact Blk.new wr _ _)
   have b3 : Below wr.heap.size wr W := by rw [hW]; exact balloc (Below.refl _ wr) _
   have HT := Lib.hid (ht.out.step b3)
   have HW := Lib.hid (bstep hb.out b3)
   have CI := Lib.hid (fun n => objIsId_any id (W.drewN n))
   have CP := Lib.hid (fun n => part_any nm (W.drewN n))
   obtain ⟨prev, hprev⟩ : ∃ prev, prev = (((es[k - 1]?).map (·.1)).getD []) := ⟨_, rfl⟩
   have Hpv : Hid (0 < k → W.cell? ⟨b, off + (k - 1) * 3, none⟩ = some (S prev)) := Lib.hid (fun h0 => by
    obtain ⟨b', off', f', e1, _, hf', z0, _⟩ := (HB.out.below HW.out).en (k := k - 1) (by omega)
    cases e1
    rw [hprev, hf']
    exact z0)
   rw [← hprev] at Hs
   clear hprev b3 hb ht hx
   go_wp2
   rw [← hW]
   simp only [← hg4]
   clear x0 x1 x2 hW hg4
   have r4 := HX4.out.cell
   have rT := HT.out.cell
   have fin : ∀ W', Below w.heap.size w W' → okE es (k + 1) = false → (Ending.returned (.bool false) = Ending.returned (.bool (okE es m && decide (m ≤ 4096))) ∧ Below w.heap.size w W') := fun W' h1 h2 => ⟨by rw [okE_no h2 (by omega)]; rfl, h1⟩
   have Hfin := Lib.hid fin
   have HWq := Lib.hid (fun n => (below_drewN HW.out n : Below w.heap.size w (W.drewN n)))
   clear fin
   cases hp : PathLaw.part nm
   ·have hP : Hid (∀ n, Calls Tryz.prog 33 #[S nm] (W.drewN n) fun e w' => e = .returned (.bool false) ∧ w' = W.drewN n) := Lib.hid (fun n => by
     have h := CP.out n
     rw [hp] at h
     exact h.mono (fun _ _ h => ⟨h.1, h.2.symm⟩))
    have Hno : Hid (okE es (k + 1) = false) := Lib.hid (by rw [Hs.out, hp]; simp)
    clear CP hp CI
    go_quiet ((go_at_call 33; exact Calls.quiet_of_same (hP.out _)))
    go_wp2
    go_ret
    exact Hfin.out _ (HWq.out _) Hno.out
   ·have hP : Hid (∀ n, Calls Tryz.prog 33 #[S nm] (W.drewN n) fun e w' => e = .returned (.bool true) ∧ w' = W.drewN n) := Lib.hid (fun n => by
     have h := CP.out n
     rw [hp] at h
     exact h.mono (fun _ _ h => ⟨h.1, h.2.symm⟩))
    have HP := Lib.hid hp
    clear CP hp
    cases hi : decide (id.length = 32)
    ·have hI : Hid (∀ n, Calls Tryz.prog 330 #[S id] (W.drewN n) fun e w' => e = .returned (.bool false) ∧ w' = W.drewN n) := Lib.hid (fun n => by
      have h := CI.out n
      rw [hi] at h
      exact h.mono (fun _ _ h => ⟨h.1, h.2.symm⟩))
     have Hno : Hid (okE es (k + 1) = false) := Lib.hid (by rw [Hs.out, hi]; simp)
     clear CI hi
     go_quiet (first | (go_at_call 33; exact Calls.quiet_of_same (hP.out _)) | (go_at_call 330; exact Calls.quiet_of_same (hI.out _)))
     go_wp2
     go_ret
     exact Hfin.out _ (HWq.out _) Hno.out
    ·have hI : Hid (∀ n, Calls Tryz.prog 330 #[S id] (W.drewN n) fun e w' => e = .returned (.bool true) ∧ w' = W.drewN n) := Lib.hid (fun n => by
      have h := CI.out n
      rw [hi] at h
      exact h.mono (fun _ _ h => ⟨h.1, h.2.symm⟩))
     have HI := Lib.hid hi
     clear CI hi
     by_cases h0 : k = 0
     ·subst h0
      have Hyes : Hid (okE es 1 = true) := Lib.hid (by rw [Hs.out, HP.out, HI.out, hok.out]; rfl)
      go_quiet (first | (go_at_call 33; exact Calls.quiet_of_same (hP.out _)) | (go_at_call 330; exact Calls.quiet_of_same (hI.out _)))
      go_wp2
      go_roundw
      case rel => exact ⟨1, hlt, by go_num, Hyes, Lib.hid (HWq.out _), Lib.hid (HT.out.drewN _)⟩
      case measure => simp [intOf]; omega
     ·have hv : IntKind.i64.wrap ((k : Int) - 1) = ((k - 1 : Nat) : Int) := by rw [IntWalk.i64_in _ (by omega)]; omega
      have hk1 : k - 1 < m := by omega
      have xp := Hpv.out (by omega)
      have hgt : (0 : Int) < (k : Int) := by omega
      have hgn : 0 < k := by omega
      have hgd : decide (0 < k) = true := decide_eq_true hgn
      cases hl : Op.bytesLess prev nm
      ·have Hno : Hid (okE es (k + 1) = false) := Lib.hid (by rw [Hs.out, hl]; simp [h0])
       go_quiet (first | (go_at_call 33; exact Calls.quiet_of_same (hP.out _)) | (go_at_call 330; exact Calls.quiet_of_same (hI.out _)))
       go_wp2
       go_ret
       exact Hfin.out _ (HWq.out _) Hno.out
      ·have Hyes : Hid (okE es (k + 1) = true) := Lib.hid (by rw [Hs.out, HP.out, HI.out, hok.out, hl]; simp)
       go_quiet (first | (go_at_call 33; exact Calls.quiet_of_same (hP.out _)) | (go_at_call 330; exact Calls.quiet_of_same (hI.out _)))
       go_wp2
       go_roundw
       case rel => exact ⟨k + 1, hlt, by go_num, Hyes, Lib.hid (HWq.out _), Lib.hid (HT.out.drewN _)⟩
       case measure => simp [intOf]; omega
  ·obtain rfl : m = k := by omega
   have rt := ht.out.cell
   go_wp2
   go_ret
   exact ⟨ret_bool (by rw [hok.out, Bool.true_and, Bool.eq_iff_iff]; simp; omega), hb.out⟩
abbrev treeA (B : Option Addr) (m d : Nat) : Array Value := #[I 2, .slice none 0 0, .slice B m d, S [], .slice none 0 0, S [], S [], S [], I 0, S []]
set_option maxRecDepth 100000 in
set_option maxHeartbeats 1000000 in
theorem objOf_tree (A : Option Addr) (n c : Nat) (w : World) :
  Calls Tryz.prog 115 #[.agg (treeA A n c)] w fun e w' => e = .returned (.iface 266 (.agg #[.slice A n c])) ∧ Below w.heap.size w w' := by
 go_enter Tryz.func115, Tryz.ntmps115
 go_wp2
 go_ret
 exact ⟨rfl, balloc (balloc (Below.refl _ w) _) _⟩
set_option maxRecDepth 100000 in
set_option maxHeartbeats 1000000 in
theorem objMade_tree (A : Option Addr) (n c : Nat) (w : World) :
  Calls Tryz.prog 141 #[.iface 266 (.agg #[.slice A n c])] w fun e w' => e = .returned (.agg (treeA A n c)) ∧ Below w.heap.size w w' := by
 have kB : ∀ V : World, (Instr.typeAssert (.iface 266 (.agg #[.slice A n c])) 201 264 true).run Tryz.prog V = .ok (.tuple #[.agg #[.slice none 0 0], .bool false]) V := fun V => by kernel_rfl
 have kT : ∀ V : World, (Instr.typeAssert (.iface 266 (.agg #[.slice A n c])) 201 266 true).run Tryz.prog V = .ok (.tuple #[.agg #[.slice A n c], .bool true]) V := fun V => by kernel_rfl
 go_enter Tryz.func141, Tryz.ntmps141
 go_wp2
 refine bodyPost_ret (results_cell_row rfl _ _ w.heap.size 96 (treeA A n c) (0, 0) _ rfl ((Blk.new w _ _).alloc _) Tryz.underlying96 rfl (by kernel_rfl)) rfl ⟨rfl, balloc (balloc (Below.refl _ w) _) _⟩
theorem neq_same3 (w : World) (a c : List UInt8) (b : Bool) : (binOp .neq 129 (.agg #[S a, .bool b, S c]) (.agg #[S a, .bool b, S c])).run Tryz.prog w = .ok (.bool false) w := by
 rw [run_neq_struct, run_equalIn_struct w 9999 129 _ _ (by kernel_rfl) (by kernel_rfl)]
 simp only [Program.fieldsOf, Tryz.underlying129]
 simp [go_sem, Op.eqFields]
theorem guard_ent3 (w : World) (op : BinOp) (x y : Operand) (u v : Array Value) : (eqGuard op 129 x y (.agg u) (.agg v)).run Tryz.prog w = .ok () w := run_eqGuard_agg w op 129 x y _ _ (by kernel_rfl)
set_option maxRecDepth 100000 in
set_option maxHeartbeats 4000000 in
theorem equalEnt_same (B : Option Addr) (m d : Nat) (es : List Ent3) (w : World) (hB : Sl w 3 B m (ens es)) (hm9 : m ≤ 1000000000) :
  Calls Tryz.prog 245 #[.slice B m d, .slice B m d] w fun e w' => e = .returned (.bool true) ∧ ∃ q, w' = w.drewN q := by
 have HB := Lib.hid hB
 clear hB
 go_enter Tryz.func245, Tryz.ntmps245
 go_wp2
 go_loopw [13] (fun i wr => ∃ k : Nat, k ≤ m ∧ i = .int .i64 k ∧ ∃ q, wr = w.drewN q) (fun i _ => m - (intOf i).toNat)
 case atStart => exact ⟨0, Nat.zero_le _, rfl, 0, rfl⟩
 case round =>
  obtain ⟨k, hk, rfl, q, rfl⟩ := hrel
  by_cases hlt : k < m
  ·obtain ⟨b, off, x, rfl, _, hx, x0, x1, x2⟩ := HB.out.en hlt
   obtain ⟨nm, dr, id⟩ := x
   have kN := fun W => neq_same3 W nm id dr
   have kG := fun W => guard_ent3 W
   go_wp2
   go_quiet (fail)
   go_wp2
   go_roundw
   case rel => exact ⟨k + 1, hlt, by go_num, _, rfl⟩
   case measure => simp [intOf]; omega
  ·obtain rfl : m = k := by omega
   go_wp2
   go_ret
   exact ⟨rfl, _, rfl⟩
set_option maxRecDepth 100000 in
set_option maxHeartbeats 1000000 in
theorem objSame_tree (B : Option Addr) (m d : Nat) (es : List Ent3) (w : World) (hB : Sl w 3 B m (ens es)) (hm9 : m ≤ 1000000000) :
  Calls Tryz.prog 175 #[.agg (treeA B m d), .agg (treeA B m d)] w fun e w' => e = .returned (.bool true) ∧ Below w.heap.size w w' := by
 obtain ⟨W, hW⟩ : ∃ W, W = (w.alloc (.cells (treeA B m d) 96)).alloc (.cells (treeA B m d) 96) := ⟨_, rfl⟩
 have CE := Lib.hid (equalEnt_same B m d es W (by rw [hW]; exact (hB.alloc _).alloc _) hm9)
 have CS := Lib.hid equalStr_nil
 have BW : Hid (Below w.heap.size w W) := Lib.hid (by rw [hW]; exact balloc (balloc (Below.refl _ w) _) _)
 have hcv := fun W => run_conv_str (P := Tryz.prog) W 38 9 5 none 0 0 [] Tryz.underlying38 Tryz.underlying5 Tryz.underlying9
 have hv := hcv W ⟨rfl, fun h => absurd h (by decide)⟩
 clear hcv
 rw [hW] at hv CE BW
 clear hW
 go_enter Tryz.func175, Tryz.ntmps175
 go_wp2_with (first
  | (go_at_call 245; refine (CE.out).mono ?_; rintro e w' ⟨rfl, q, rfl⟩)
  | (go_at_call 79; refine (CS.out _).mono ?_; rintro e w' ⟨rfl, rfl⟩))
 go_ret
 exact ⟨rfl, below_drewN BW.out _⟩
def tc1Phi (A : Option Addr) (n c : Nat) : Nat → Value → World → Prop
 | 0, v, _ => v = .iface 266 (.agg #[.slice A n c])
 | 1, v, _ => v = .bool false
 | 2, v, _ => v = .bool false
 | 3, v, _ => v = .iface 266 (.agg #[.slice A n c])
 | 4, v, _ => v = .bool true
 | 5, v, _ => v = .bool false
 | 6, v, _ => v = .bool false
 | 7, v, _ => v = .bool false
 | 8, v, _ => v = .iface 266 (.agg #[.slice A n c])
 | 9, v, _ => v = .agg (treeA A n c)
 | 10, v, _ => v = .agg (treeA A n c)
 | 11, v, _ => v = .bool true
 | 12, v, _ => v = .bool false
 | _, _, _ => True
theorem tc1Phi_mono {A : Option Addr} {n c : Nat} : ∀ (j : Nat) (v : Value) (w w' : World), tc1Phi A n c j v w → Below w.heap.size w w' → tc1Phi A n c j v w' := by
 intro j v w w' h _
 match j, h with
 | 0, h => exact h
 | 1, h => exact h
 | 2, h => exact h
 | 3, h => exact h
 | 4, h => exact h
 | 5, h => exact h
 | 6, h => exact h
 | 7, h => exact h
 | 8, h => exact h
 | 9, h => exact h
 | 10, h => exact h
 | 11, h => exact h
 | 12, h => exact h
 | (n + 13), _ => trivial
set_option maxHeartbeats 4000000 in
set_option maxRecDepth 100000 in
theorem treeCheck_ok (A : Option Addr) (n c : Nat) (l : List Ent3) (w : World) (hA : Sl w 3 A n (ens l)) (hn9 : n ≤ 1000000000) (hok : (okE l n && decide (n ≤ 4096)) = true) :
  Calls Tryz.prog 114 #[.agg (treeA A n c)] w fun e w' => e = .returned (I 0) ∧ Below w.heap.size w w' := by
 have Hok := Lib.hid hok
 have Hn9 := Lib.hid hn9
 obtain ⟨g, hg⟩ : ∃ g, g = w.heap.size := ⟨_, rfl⟩
 obtain ⟨w1, hw1⟩ : ∃ w1, w1 = w.alloc (.cells (treeA A n c) 96) := ⟨_, rfl⟩
 have b1 : Below w.heap.size w w1 := by rw [hw1]; exact balloc (Below.refl _ w) _
 have e1 : Blk w1 g 96 (treeA A n c) := by rw [hw1, hg]; exact Blk.new w _ _
 have C1 := Lib.hid (objOf_tree A n c w1)
 have B1 := Lib.hid b1
 have E1 := Lib.hid e1
 have HA0 := Lib.hid hA
 have kE : ∀ W : World, (binOp .eql 201 (.iface 266 (.agg #[.slice A n c])) .nilIface).run Tryz.prog W = .ok (.bool false) W := fun W => by kernel_rfl
 have r1 := e1.cell
 clear hA hok b1 e1 hn9
 go_enter Tryz.func114, Tryz.ntmps114
 go_wp2_with fail
 simp only [← hg, ← hw1]
 refine C1.out.mono ?_
 rintro e w2 ⟨rfl, b2⟩
 have B2 := Lib.hid (bstep B1.out b2)
 have HBo := Lib.hid (E1.out.step b2)
 have HA := Lib.hid (HA0.out.below B2.out)
 clear b2 r1 hw1 hg C1
 go_wp2
 refine wp_region_guards (by kernel_rfl) 13 (by kernel_rfl) ?_ (tc1Phi A n c) tc1Phi_mono (fun i o hi ho a w hb hs hm => ?_) (fun o ho a w hb hs hm => ?_)
 ·exact dst_lt9 (n := 20) (by kernel_rfl)
 ·exact match i, hi, ho with
     | 0, _, ho => by
       cases ho
       rw [if_pos (wanted_none _ rfl)]
       refine wp_value (st_move rfl ((hs.keeps (by kernel_rfl)).trans rfl)) ⟨_, rfl, rfl, Below.refl _ _⟩
     | 1, _, ho => by
       cases ho
       rw [if_pos (wanted_none _ rfl)]
       have h1 := eval_getD (hm.get 0 6 (by kernel_rfl)); unfold Oper.wp; simp only [execOp]; go_simp; exact ⟨_, rfl, rfl, Below.refl _ _⟩
     | 2, _, ho => by
       cases ho
       rw [if_pos (wanted_none _ rfl)]
       refine wp_value (st_move rfl (hm.get 1 7 (by kernel_rfl))) ⟨_, rfl, rfl, Below.refl _ _⟩
     | 3, _, ho => by
       cases ho
       generalize hW : Region.wanted _ _ = W
       obtain rfl : W = (false == false) := hW.symm.trans (wanted_of rfl rfl rfl (show a.eval (.tmp 8) = .bool false from (hm.get 2 8 (by kernel_rfl))))
       clear hW
       rw [if_pos (show (false == false) = true by decide)]
       refine wp_value (st_move rfl ((hs.keeps (by kernel_rfl)).trans rfl)) ⟨_, rfl, rfl, Below.refl _ _⟩
     | 4, _, ho => by
       cases ho
       generalize hW : Region.wanted _ _ = W
       obtain rfl : W = (false == false) := hW.symm.trans (wanted_of rfl rfl rfl (show a.eval (.tmp 8) = .bool false from (hm.get 2 8 (by kernel_rfl))))
       clear hW
       rw [if_pos (show (false == false) = true by decide)]
       have h1 := eval_getD (hm.get 3 9 (by kernel_rfl)); unfold Oper.wp; simp only [execOp]; go_simp; refine (treeRight_any A n c l w (HA.out.below hb) Hn9.out).mono ?_; rintro e w' ⟨rfl, hb'⟩; exact ⟨_, rfl, (show Value.bool _ = Value.bool _ by rw [Hok.out]), hb'⟩
     | 5, _, ho => by
       cases ho
       generalize hW : Region.wanted _ _ = W
       obtain rfl : W = (false == false) := hW.symm.trans (wanted_of rfl rfl rfl (show a.eval (.tmp 8) = .bool false from (hm.get 2 8 (by kernel_rfl))))
       clear hW
       rw [if_pos (show (false == false) = true by decide)]
       have h1 := eval_getD (hm.get 4 10 (by kernel_rfl)); unfold Oper.wp; simp only [execOp]; go_simp; exact ⟨_, rfl, rfl, Below.refl _ _⟩
     | 6, _, ho => by
       cases ho
       rw [if_pos (wanted_none _ rfl)]
       have h1 := eval_getD (hm.get 2 8 (by kernel_rfl)); have h3 := eval_getD (hm.get 5 11 (by kernel_rfl)); unfold Oper.wp; simp only [execOp]; go_simp; exact ⟨_, rfl, rfl, Below.refl _ _⟩
     | 7, _, ho => by
       cases ho
       rw [if_pos (wanted_none _ rfl)]
       refine wp_value (st_move rfl (hm.get 6 12 (by kernel_rfl))) ⟨_, rfl, rfl, Below.refl _ _⟩
     | 8, _, ho => by
       cases ho
       generalize hW : Region.wanted _ _ = W
       obtain rfl : W = (false == false) := hW.symm.trans (wanted_of rfl rfl rfl (show a.eval (.tmp 13) = .bool false from (hm.get 7 13 (by kernel_rfl))))
       clear hW
       rw [if_pos (show (false == false) = true by decide)]
       refine wp_value (st_move rfl ((hs.keeps (by kernel_rfl)).trans rfl)) ⟨_, rfl, rfl, Below.refl _ _⟩
     | 9, _, ho => by
       cases ho
       generalize hW : Region.wanted _ _ = W
       obtain rfl : W = (false == false) := hW.symm.trans (wanted_of rfl rfl rfl (show a.eval (.tmp 13) = .bool false from (hm.get 7 13 (by kernel_rfl))))
       clear hW
       rw [if_pos (show (false == false) = true by decide)]
       have h1 := eval_getD (hm.get 8 14 (by kernel_rfl)); unfold Oper.wp; simp only [execOp]; go_simp; refine (objMade_tree A n c w).mono ?_; rintro e w' ⟨rfl, hb'⟩; exact ⟨_, rfl, rfl, hb'⟩
     | 10, _, ho => by
       cases ho
       generalize hW : Region.wanted _ _ = W
       obtain rfl : W = (false == false) := hW.symm.trans (wanted_of rfl rfl rfl (show a.eval (.tmp 13) = .bool false from (hm.get 7 13 (by kernel_rfl))))
       clear hW
       rw [if_pos (show (false == false) = true by decide)]
       refine wp_load_row 96 (.tmp 1) rfl g ((hs.keeps (by kernel_rfl)).trans rfl) 96 (treeA A n c) (0, 0) _ (HBo.out.step hb) Tryz.underlying96 rfl (by kernel_rfl) ⟨_, rfl, rfl, Below.refl _ _⟩
     | 11, _, ho => by
       cases ho
       generalize hW : Region.wanted _ _ = W
       obtain rfl : W = (false == false) := hW.symm.trans (wanted_of rfl rfl rfl (show a.eval (.tmp 13) = .bool false from (hm.get 7 13 (by kernel_rfl))))
       clear hW
       rw [if_pos (show (false == false) = true by decide)]
       have h1 := eval_getD (hm.get 9 15 (by kernel_rfl)); have h2 := eval_getD (hm.get 10 16 (by kernel_rfl)); unfold Oper.wp; simp only [execOp]; go_simp; refine (objSame_tree A n c l w (HA.out.below hb) Hn9.out).mono ?_; rintro e w' ⟨rfl, hb'⟩; exact ⟨_, rfl, rfl, hb'⟩
     | 12, _, ho => by
       cases ho
       generalize hW : Region.wanted _ _ = W
       obtain rfl : W = (false == false) := hW.symm.trans (wanted_of rfl rfl rfl (show a.eval (.tmp 13) = .bool false from (hm.get 7 13 (by kernel_rfl))))
       clear hW
       rw [if_pos (show (false == false) = true by decide)]
       have h1 := eval_getD (hm.get 11 17 (by kernel_rfl)); unfold Oper.wp; simp only [execOp]; go_simp; exact ⟨_, rfl, rfl, Below.refl _ _⟩
     | (n + 13), hi, _ => absurd hi (by omega)
 ·have e1 : a.eval (.tmp 13) = .bool false := by cases ho; exact hm.get 7 13 (by kernel_rfl)
  have e2 : a.eval (.tmp 18) = .bool false := by cases ho; exact hm.get 12 18 (by kernel_rfl)
  have hfr := hs.frame [6, 7, 8, 9, 10, 11, 12, 13, 14, 15, 16, 17, 18, 19] (by kernel_rfl)
  cases ho
  rw [hfr]
  simp only [List.foldl_cons, List.foldl_nil, e1, e2]
  clear hfr hs hm e1 e2
  generalize a.eval (.tmp 6) = u6, a.eval (.tmp 7) = u7, a.eval (.tmp 8) = u8, a.eval (.tmp 9) = u9, a.eval (.tmp 10) = u10, a.eval (.tmp 11) = u11, a.eval (.tmp 12) = u12, a.eval (.tmp 14) = u14, a.eval (.tmp 15) = u15, a.eval (.tmp 16) = u16, a.eval (.tmp 17) = u17, a.eval (.tmp 19) = u19
  unfold Oper.wp
  simp only [execOp]
  go_simp
  clear a
  have BX := Lib.hid (bstep B2.out hb)
  clear hb
  go_wp2
  go_ret
  exact ⟨rfl, BX.out⟩
set_option maxHeartbeats 4000000 in
set_option maxRecDepth 100000 in
theorem treeLay_any (A : Option Addr) (n c : Nat) (l0 : List UInt8) (B : Option Addr) (m d : Nat) (es : List Ent3) (w : World) (hA : Sl w 1 A n (u8s l0)) (hB : Sl w 3 B m (ens es)) (hT : (l0 ++ layTr es).length ≤ 1000000000) :
  Calls Tryz.prog 327 #[.agg #[.slice B m d], .slice A n c] w (RetB w (l0 ++ layTr es)) := by
 obtain ⟨i0, hi0, hz0, hz1, hz2⟩ := info_parts Tryz.infoU8
 have hm := ens_count hB
 have hl := u8s_len hA
 have HB := Lib.hid hB
 have HT := Lib.hid hT
 have Hm := Lib.hid hm
 have b1 := balloc (Below.refl _ w) (.cells #[.slice B m d] 266)
 have HA1 := Lib.hid (hA.below b1)
 have r1 := (Blk.new w 266 #[.slice B m d]).cell
 have Hx := Lib.hid (Blk.new w 266 #[.slice B m d])
 obtain ⟨g, hg⟩ : ∃ g, g = w.heap.size := ⟨_, rfl⟩
 have hmb : m ≤ 1000000000 := by
  have := hT
  rw [List.length_append] at this
  unfold layTr at this
  rw [List.length_append] at this
  have h2 : es.length ≤ (es.flatMap layE).length := by
   clear hT this HT Hm HB hB hm
   induction es with
   | nil => simp
   | cons x t ih =>
    rw [List.flatMap_cons, List.length_append, List.length_cons]
    have := layE_len x
    omega
  omega
 have hn9 : n ≤ 1000000000 := by rw [List.length_append] at hT; omega
 have CN := Lib.hid (putNum_nat A n c m l0 _ HA1.out (by omega) (by omega))
 clear hA hB hT b1 hm
 go_enter Tryz.func327, Tryz.ntmps327
 go_wp2_with fail
 refine CN.out.mono ?_
 rintro e w1 ⟨A1, m1, c1, rfl, ho1⟩
 have HO1 := Lib.hid ho1
 have HX1 := Lib.hid (Hx.out.step ho1.2)
 have r2 := HX1.out.cell
 clear ho1 CN r1
 go_wp2
 clear r2
 go_loopw [1, 15] (fun s1 s15 wr => ∃ (k k1 c1 : Nat) (A1 : Option Addr), k ≤ m ∧ s15 = .int .i64 k ∧ s1 = .slice A1 k1 c1 ∧ Hid (Ow w wr 5 1 A1 k1 c1 (u8s (l0 ++ (putNum m ++ (es.take k).flatMap layE))))) (fun _ s15 _ => m - (intOf s15).toNat)
 case atStart => exact ⟨0, m1, c1, A1, Nat.zero_le _, rfl, rfl, Lib.hid (by
  simp only [List.take_zero, List.flatMap_nil, List.append_nil]
  exact HO1.out.since (balloc (Below.refl _ _) _))⟩
 case round =>
  obtain ⟨k, k1, c1, A1, hk, rfl, rfl, HO⟩ := hrel
  by_cases hlt : k < m
  ·obtain ⟨b, off, x, rfl, _, hx, x0, x1, x2⟩ := (HB.out.below HO.out.2).en hlt
   obtain ⟨nm, dr, id⟩ := x
   obtain ⟨cur, hcur⟩ : ∃ cur, cur = l0 ++ (putNum m ++ (es.take k).flatMap layE) := ⟨_, rfl⟩
   have hnext : l0 ++ (putNum m ++ (es.take (k + 1)).flatMap layE) = cur ++ layE (nm, dr, id) := by
    rw [hcur, List.take_add_one, hx]
    simp only [Option.toList_some, List.flatMap_append, List.flatMap_cons, List.flatMap_nil, List.append_nil, List.append_assoc]
   have hle : (cur ++ layE (nm, dr, id)).length ≤ 1000000000 := by
    rw [← hnext]
    refine Nat.le_trans ?_ HT.out
    unfold layTr
    rw [Hm.out]
    simp only [List.length_append]
    have := lay_take es (k + 1)
    omega
   have hO := HO.out
   rw [← hcur] at hO
   have hk1 := u8s_len hO.sl
   have hlen := layE_len (nm, dr, id)
   rw [List.length_append] at hle
   have b3 := balloc (Below.refl _ wr) (.cells #[S nm, .bool dr, S id] 129)
   have r4 := (Blk.new wr 129 #[S nm, .bool dr, S id]).cell
   have HX4 := Lib.hid (Blk.new wr 129 #[S nm, .bool dr, S id])
   have CP := Lib.hid (putText_any A1 k1 c1 cur nm _ (hO.sl.below b3) (by simp only at hlen; omega))
   have HBb := Lib.hid (bstep hO.2 b3)
   have HN := Lib.hid hnext
   have Hle := Lib.hid hle
   have Hk1 := Lib.hid hk1
   have HL := Lib.hid hlen
   clear hx hO hnext hle hk1 hlen b3 hcur HO
   go_wp2_with fail
   refine CP.out.mono ?_
   rintro e w3 ⟨A3, k3, c3, rfl, ho3⟩
   have HO3 := Lib.hid ho3
   have r5 := (HX4.out.step ho3.2).cell
   have hk3 := ow_len HO3.out
   have hb3 : k3 + 1 + id.length ≤ 1000000000 := by
    have h1 := Hle.out
    have h2 := Hk1.out
    rw [← hk3]
    have e : (layE (nm, dr, id)).length = (putNum nm.length ++ nm).length + 1 + id.length := by
     unfold layE
     cases dr <;> simp [List.length_append] <;> omega
    rw [e] at h1
    rw [List.length_append]
    omega
   have m1 : k3 + 1 ≤ maxLen := by simp only [maxLen]; omega
   have m2 : (k3 + 1) * 1 ≤ 140737488355328 := by omega
   have m3 : k3 + 1 + id.length ≤ 140737488355328 := by omega
   obtain ⟨wb, hwb⟩ : ∃ wb, wb = wr.alloc (.cells #[S nm, .bool dr, S id] 129) := ⟨_, rfl⟩
   rw [← hwb] at HO3 HX4 HBb
   have HNx := Lib.hid (HN.out.trans (show cur ++ layE (nm, dr, id) = cur ++ (putNum nm.length ++ nm) ++ [if dr then 1 else 0] ++ id by
    unfold layE
    cases dr <;> simp))
   clear ho3 CP r4 x0 x1 x2 hk3 hwb hb3 HN Hle HL
   cases dr
   ·have HO4 := Lib.hid (HO3.out.alloc (.cells #[U8 0] 5))
    go_wp2_with (first
     | (at_builtin; refine wpList_append_sl _ rfl (.tmp 28) (.tmp 29) _ rfl wb 5 i0 _ 1 1 Tryz.underlying38 hi0 hz0 hz1 hz2 rfl Nat.one_pos _ _ _ _ rfl HO4.out _ 1 1 [U8 0] rfl (sl_one _ _ _) (one_one rfl) m1 m2 ?_; intro A5 c5 w5 hO5 hg5 hat5; have r7 := (HX4.out.step hO5.2).cell; have HO5 := Lib.hid hO5; have HO5 : Hid (Ow wb w5 5 1 A5 (k3 + 1) c5 (u8s (cur ++ (putNum nm.length ++ nm) ++ [0]))) := Lib.hid (by simpa using hO5); clear hO5 hg5 hat5 HO4 HO3 r5)
     | (at_builtin; refine wpList_append_text _ rfl (.tmp 31) (.tmp 33) _ _ rfl wb 5 i0 Tryz.underlying38 Tryz.underlying9 hi0 hz0 hz1 hz2 _ _ _ _ rfl HO5.out id rfl m3 ?_; intro A6 c6 w6 hO6 hg6; have HO6 := Lib.hid (hO6.since HBb.out); clear hO6 hg6 HO5 r7))
    go_roundw
    case rel => exact ⟨k + 1, _, c6, A6, hlt, by go_num, rfl, Lib.hid (by have h9 := HO6.out; rw [HNx.out]; simpa [u8s] using h9)⟩
    case measure => simp [intOf]; omega
   ·have HO4 := Lib.hid (HO3.out.alloc (.cells #[U8 1] 5))
    go_wp2_with (first
     | (at_builtin; refine wpList_append_sl _ rfl (.tmp 25) (.tmp 26) _ rfl wb 5 i0 _ 1 1 Tryz.underlying38 hi0 hz0 hz1 hz2 rfl Nat.one_pos _ _ _ _ rfl HO4.out _ 1 1 [U8 1] rfl (sl_one _ _ _) (one_one rfl) m1 m2 ?_; intro A5 c5 w5 hO5 hg5 hat5; have r7 := (HX4.out.step hO5.2).cell; have HO5 := Lib.hid hO5; have HO5 : Hid (Ow wb w5 5 1 A5 (k3 + 1) c5 (u8s (cur ++ (putNum nm.length ++ nm) ++ [1]))) := Lib.hid (by simpa using hO5); clear hO5 hg5 hat5 HO4 HO3 r5)
     | (at_builtin; refine wpList_append_text _ rfl (.tmp 31) (.tmp 33) _ _ rfl wb 5 i0 Tryz.underlying38 Tryz.underlying9 hi0 hz0 hz1 hz2 _ _ _ _ rfl HO5.out id rfl m3 ?_; intro A6 c6 w6 hO6 hg6; have HO6 := Lib.hid (hO6.since HBb.out); clear hO6 hg6 HO5 r7))
    go_roundw
    case rel => exact ⟨k + 1, _, c6, A6, hlt, by go_num, rfl, Lib.hid (by have h9 := HO6.out; rw [HNx.out]; simpa [u8s] using h9)⟩
    case measure => simp [intOf]; omega
  ·obtain rfl : m = k := by omega
   have h9 := HO.out
   rw [List.take_of_length_le (by rw [Hm.out]; exact Nat.le_refl _)] at h9
   have H9 := Lib.hid h9
   clear h9 HO
   go_wp2
   go_ret
   refine ⟨A1, k1, c1, rfl, ?_⟩
   unfold layTr
   rw [Hm.out]
   exact H9.out
def encT (l : List Ent3) : List UInt8 := [2] ++ layTr l
def tePhi (W : World) (A : Option Addr) (n c g : Nat) (l : List Ent3) : Nat → Value → World → Prop
 | 0, v, _ => v = .agg (treeA A n c)
 | 1, v, _ => v = .iface 266 (.agg #[.slice A n c])
 | 2, v, _ => v = .pointer (some ⟨g, 0, none⟩)
 | 3, v, _ => v = I 2
 | 4, v, _ => v = U8 2
 | 5, v, w => ∃ (g' : Nat), v = .slice (some ⟨g', 0, none⟩) 1 1 ∧ Ow W w 5 1 (some ⟨g', 0, none⟩) 1 1 (u8s [2])
 | 6, v, w => ∃ (A' : Option Addr) (c' : Nat), v = .slice A' (encT l).length c' ∧ Ow W w 5 1 A' (encT l).length c' (u8s (encT l))
 | 7, v, w => ∃ (A' : Option Addr) (c' : Nat), v = .slice A' (encT l).length c' ∧ Ow W w 5 1 A' (encT l).length c' (u8s (encT l))
 | _, _, _ => True
theorem tePhi_mono {W : World} {A : Option Addr} {n c g : Nat} {l : List Ent3} : ∀ (j : Nat) (v : Value) (w w' : World), tePhi W A n c g l j v w → Below w.heap.size w w' → tePhi W A n c g l j v w' := by
 intro j v w w' h hb9
 match j, h with
 | 0, h => exact h
 | 1, h => exact h
 | 2, h => exact h
 | 3, h => exact h
 | 4, h => exact h
 | 5, h => obtain ⟨g', h1, h2⟩ := h; exact ⟨g', h1, h2.keep hb9⟩
 | 6, h => obtain ⟨A', c', h1, h2⟩ := h; exact ⟨A', c', h1, h2.keep hb9⟩
 | 7, h => obtain ⟨A', c', h1, h2⟩ := h; exact ⟨A', c', h1, h2.keep hb9⟩
 | (n + 8), _ => trivial
set_option maxHeartbeats 4000000 in
set_option maxRecDepth 100000 in
theorem treeEnc_ok (A : Option Addr) (n c : Nat) (l : List Ent3) (w : World) (hA : Sl w 3 A n (ens l)) (hn9 : n ≤ 1000000000) (hT : (encT l).length ≤ 1000000000) (hok : (okE l n && decide (n ≤ 4096)) = true) :
  Calls Tryz.prog 68 #[.agg (treeA A n c)] w fun e w' => ∃ A' c', e = .returned (.tuple #[.slice A' (encT l).length c', I 0]) ∧ Ow w w' 5 1 A' (encT l).length c' (u8s (encT l)) := by
 obtain ⟨g, hg⟩ : ∃ g, g = w.heap.size := ⟨_, rfl⟩
 obtain ⟨w1, hw1⟩ : ∃ w1, w1 = w.alloc (.cells (treeA A n c) 96) := ⟨_, rfl⟩
 have b1 : Below w.heap.size w w1 := by rw [hw1]; exact balloc (Below.refl _ w) _
 have e1 : Blk w1 g 96 (treeA A n c) := by rw [hw1, hg]; exact Blk.new w _ _
 have C1 := Lib.hid (treeCheck_ok A n c l w1 (hA.below b1) hn9 hok)
 have B1 := Lib.hid b1
 have E1 := Lib.hid e1
 have HA0 := Lib.hid hA
 have Hn : Hid ((encT l).length ≤ 1000000000) := Lib.hid hT
 have r1 := e1.cell
 clear hA hok b1 e1 hT hn9
 go_enter Tryz.func68, Tryz.ntmps68
 go_wp2_with fail
 simp only [← hg, ← hw1]
 refine C1.out.mono ?_
 rintro e W ⟨rfl, b2⟩
 have B2 := Lib.hid (bstep B1.out b2)
 have HBo := Lib.hid (E1.out.step b2)
 have HA := Lib.hid (HA0.out.below B2.out)
 clear b2 r1 hw1 hg C1
 go_wp2
 refine wp_region_guards (by kernel_rfl) 8 (by kernel_rfl) ?_ (tePhi W A n c g l) tePhi_mono (fun i o hi ho a w hb hs hm => ?_) (fun o ho a w hb hs hm => ?_)
 ·exact dst_lt9 (n := 17) (by kernel_rfl)
 ·exact match i, hi, ho with
   | 0, _, ho => by
     cases ho
     rw [if_pos (wanted_none _ rfl)]
     refine wp_load_row 96 (.tmp 1) rfl g ((hs.keeps (by kernel_rfl)).trans rfl) 96 (treeA A n c) (0, 0) _ (HBo.out.step hb) Tryz.underlying96 rfl (by kernel_rfl) ⟨_, rfl, rfl, Below.refl _ _⟩
   | 1, _, ho => by
     cases ho
     rw [if_pos (wanted_none _ rfl)]
     have h1 := eval_getD (hm.get 0 10 (by kernel_rfl)); unfold Oper.wp; simp only [execOp]; go_simp; refine (objOf_tree A n c w).mono ?_; rintro e w' ⟨rfl, hb'⟩; exact ⟨_, rfl, rfl, hb'⟩
   | 2, _, ho => by
     cases ho
     rw [if_pos (wanted_none _ rfl)]
     refine wp_value (st_field rfl ((hs.keeps (by kernel_rfl)).trans rfl) (by kernel_rfl)) ⟨_, rfl, rfl, Below.refl _ _⟩
   | 3, _, ho => by
     cases ho
     rw [if_pos (wanted_none _ rfl)]
     have hx : w.cell? ⟨g, 0, none⟩ = some (I 2) := (HBo.out.step hb).cell 0; refine wp_value (st_load rfl (hm.get 2 12 (by kernel_rfl)) (by go_simp)) ⟨_, rfl, rfl, Below.refl _ _⟩
   | 4, _, ho => by
     cases ho
     rw [if_pos (wanted_none _ rfl)]
     have h1 := eval_getD (hm.get 3 13 (by kernel_rfl)); unfold Oper.wp; simp only [execOp]; go_simp; exact ⟨_, rfl, rfl, Below.refl _ _⟩
   | 5, _, ho => by
     cases ho
     rw [if_pos (wanted_none _ rfl)]
     have h1 := eval_getD (hm.get 4 14 (by kernel_rfl)); unfold Oper.wp; simp only [execOp]; go_simp; exact ⟨_, rfl, ⟨w.heap.size, rfl, (own_one w 5 (U8 2)).since hb⟩, balloc (Below.refl _ w) _⟩
   | 6, _, ho => by
     cases ho
     rw [if_pos (wanted_none _ rfl)]
     refine Exists.elim (show ∃ (g' : Nat), a.eval (.tmp 15) = .slice (some ⟨g', 0, none⟩) 1 1 ∧ Ow W w 5 1 (some ⟨g', 0, none⟩) 1 1 (u8s [2]) from (hm.get 5 15 (by kernel_rfl))) fun g' h9 => ?_; have h1 := eval_getD (hm.get 1 11 (by kernel_rfl)); have h2 := eval_getD h9.1; unfold Oper.wp; simp only [execOp]; go_simp; refine (treeLay_any (some ⟨g', 0, none⟩) 1 1 [2] A n c l w h9.2.sl (HA.out.below hb) Hn.out).mono ?_; rintro e w' ⟨A', m', c', rfl, hO'⟩; obtain rfl := ow_len hO'; exact ⟨_, rfl, ⟨A', c', rfl, hO'.since hb⟩, hO'.2⟩
   | 7, _, ho => by
     cases ho
     rw [if_pos (wanted_none _ rfl)]
     refine Exists.elim (show ∃ (A' : Option Addr) (c' : Nat), a.eval (.tmp 16) = .slice A' (encT l).length c' ∧ Ow W w 5 1 A' (encT l).length c' (u8s (encT l)) from (hm.get 6 16 (by kernel_rfl))) fun A' h8 => ?_; refine Exists.elim h8 fun c' h9 => ?_; have h1 := eval_getD h9.1; unfold Oper.wp; simp only [execOp]; go_simp; exact ⟨_, rfl, ⟨A', c', rfl, h9.2⟩, Below.refl _ _⟩
   | (n + 8), hi, _ => absurd hi (by omega)
 ·refine Exists.elim (show ∃ (A' : Option Addr) (c' : Nat), a.eval (.tmp 2) = .slice A' (encT l).length c' ∧ Ow W w 5 1 A' (encT l).length c' (u8s (encT l)) by cases ho; exact hm.get 7 2 (by kernel_rfl)) fun A' h8 => ?_
  refine Exists.elim h8 fun c' h9 => ?_
  have e1 := h9.1
  have HO := Lib.hid h9.2
  have hfr := hs.frame [10, 11, 12, 13, 14, 15, 16, 2, 3] (by kernel_rfl)
  cases ho
  rw [hfr]
  simp only [List.foldl_cons, List.foldl_nil, e1]
  clear hfr hs hm e1 h8 h9
  generalize a.eval (.tmp 10) = u10, a.eval (.tmp 11) = u11, a.eval (.tmp 12) = u12, a.eval (.tmp 13) = u13, a.eval (.tmp 14) = u14, a.eval (.tmp 15) = u15, a.eval (.tmp 16) = u16, a.eval (.tmp 3) = u3
  unfold Oper.wp
  simp only [execOp]
  go_simp
  clear a hb
  go_wp2
  go_ret2
  exact ⟨A', c', rfl, HO.out.since B2.out⟩
end Go.Proofs.YtcednfmkiaelnaaGreatDoor
