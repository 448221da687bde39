/-
  disk: made, named, Read, Has, Off, Free, cost, ready, there. Condition: the disk lies in memory, is on, has no cut ahead.
-/
import Derived.Test.YtkginbfpokbhcaaGreatDoorDiskMem
import Derived.Test.YtkginbfpokbhcaaGreatDoorIndexFn
import Derived.Test.YtkginbfpokbhcaaGreatDoorMaxL
import Derived.Test.YtkginbfpokbhcaaGreatDoorCode
import Derived.Laws.Cover3
namespace Go.Proofs.YtkginbfpokbhcaaGreatDoor
open Go.RowKit

set_option maxRecDepth 100000 in
theorem made_any (w : World) (p m : Nat) (rc : w.cell? ⟨p, 1, none⟩ = some (.map (some m))) :
    Calls Tryz.prog 114 #[.pointer (some ⟨p, 0, none⟩)] w fun e w' => e = .returned (.bool true) ∧ w = w' := by
  have qT : ∀ (w : World) (r : Option Nat), (binOp .neq 85 (.map r) (.map none)).run Tryz.prog w = .ok (.bool (!r.isNone)) w := fun w r => Go.run_neq_map_nil w _ _ _ r Tryz.underlying85
  go_enter Tryz.func114, Tryz.ntmps114
  go_wp2
  go_ret
  exact ⟨rfl, rfl⟩
set_option maxRecDepth 100000 in
theorem made_nil (w : World) :
    Calls Tryz.prog 114 #[.pointer none] w fun e w' => e = .returned (.bool false) ∧ w = w' := by
  go_enter Tryz.func114, Tryz.ntmps114
  go_wp2
  go_ret
  exact ⟨rfl, rfl⟩
set_option maxRecDepth 100000 in
theorem named1_any (s : List UInt8) (w : World) :
    Calls Tryz.prog 155 #[S s] w fun e w' => e = .returned (.bool (!okName s)) ∧ Below w.heap.size w w' := by
  have C := Lib.hid (fun W => indexByte_any s 0 W)
  go_enter Tryz.func155, Tryz.ntmps155
  go_wp2_with (go_at_call 143; refine (C.out _).mono ?_; rintro e w' ⟨rfl, rfl⟩)
  all_goals
    go_ret
    refine ⟨ret_bool ?_, Below.refl _ _⟩
    unfold okName
    clear C
    grind
theorem named_all (l : List (List UInt8)) : (!l.any (fun s => !okName s)) = l.all okName := by
  rw [Bool.eq_iff_iff]
  simp
theorem dnamed_any (A : Option Addr) (n c : Nat) (l : List (List UInt8)) (w : World) (hA : Sl w 1 A n (strs l)) (hn : n ≤ 1000000000) :
    Calls Tryz.prog 99 #[.slice A n c] w fun e w' => e = .returned (.bool (l.all okName)) ∧ Below w.heap.size w w' := by
  have C := Lib.hid (containsFnS 155 #[] (enters_of Tryz.func155 (by kernel_rfl) rfl) (fun s => !okName s) A n c l w hA hn (fun x _ W _ => named1_any x W))
  clear hA
  go_enter Tryz.func99, Tryz.ntmps99
  go_wp2_with (go_at_call 154; refine C.out.mono ?_; rintro e w' ⟨rfl, b2⟩)
  go_ret
  exact ⟨ret_bool (by rw [← named_all]), b2⟩
theorem strs_one (w : World) (s : List UInt8) : Sl (w.alloc (.cells #[S s] 9)) 1 (some ⟨w.heap.size, 0, none⟩) 1 (strs [s]) := sl_one w 9 (S s)
def RetOpt (w : World) (r : Option (List UInt8)) (e : Ending) (w' : World) : Prop :=
  (∃ l A n c, r = some l ∧ e = .returned (.tuple #[.slice A n c, I 0]) ∧ Ow w w' 5 1 A n c (u8s l))
set_option maxHeartbeats 1000000 in
set_option maxRecDepth 100000 in
theorem dread_bad (w : World) (p m n : Nat) (cap : Int) (L : List DF) (s : List UInt8) (h : DiskAt w p m n cap L) (hs : okName s = false) :
    Calls Tryz.prog 54 #[.pointer (some ⟨p, 0, none⟩), S s] w fun e w' => e = .returned (.tuple #[.slice none 0 0, I 1]) ∧ Below w.heap.size w w' := by
  obtain ⟨ops, hB⟩ := h.blk
  have C1 := Lib.hid (fun W hb => made_any W p m hb)
  have C2 := Lib.hid (dnamed_any (some ⟨w.heap.size, 0, none⟩) 1 1 [s] (w.alloc (.cells #[S s] 9)) (strs_one w s) (by omega))
  have e1 : [s].all okName = false := by simp [hs]
  rw [e1] at C2
  have HB := Lib.hid hB
  clear h hs e1 hB
  go_enter Tryz.func54, Tryz.ntmps54
  go_wp2_with (first
    | (go_at_call 114; refine (C1.out _ (HB.out.cell 1)).mono ?_; rintro e w1 ⟨rfl, rfl⟩)
    | (go_at_call 99; refine C2.out.mono ?_; rintro e w2 ⟨rfl, b2⟩; have B2 := Lib.hid (bstep (balloc (Below.refl _ w) _) b2); clear b2))
  go_ret2
  exact ⟨rfl, B2.out⟩
theorem okName_good {s : List UInt8} (h : okName s = true) : s.length ≤ maxLen := by have := (okName_len h).2; simp only [maxLen]; omega
set_option maxHeartbeats 1000000 in
set_option maxRecDepth 100000 in
theorem dread_none (w : World) (p m n : Nat) (cap : Int) (L : List DF) (s : List UInt8) (h : DiskAt w p m n cap L) (hs : okName s = true) (hg : getF L s = none) :
    Calls Tryz.prog 54 #[.pointer (some ⟨p, 0, none⟩), S s] w fun e w' => e = .returned (.tuple #[.slice none 0 0, I 3]) ∧ Below w.heap.size w w' := by
  obtain ⟨ops, hB⟩ := h.blk
  have C1 := Lib.hid (fun W hb => made_any W p m hb)
  have C2 := Lib.hid (dnamed_any (some ⟨w.heap.size, 0, none⟩) 1 1 [s] (w.alloc (.cells #[S s] 9)) (strs_one w s) (by omega))
  have e1 : [s].all okName = true := by simp [hs]
  rw [e1] at C2
  have HB := Lib.hid hB
  have Hgd := Lib.hid (show diskC.good s from okName_good hs)
  have E1 : Hid (lk (keyF L) s = none) := Lib.hid (by rw [getF_lk, hg]; rfl)
  have HM := Lib.hid h.map
  clear h hs e1 hB hg
  go_enter Tryz.func54, Tryz.ntmps54
  go_wp2_with (first
    | (go_at_call 114; refine (C1.out _ (HB.out.cell 1)).mono ?_; rintro e w1 ⟨rfl, rfl⟩)
    | (go_at_call 99; refine C2.out.mono ?_; rintro e w2 ⟨rfl, b2⟩; have B2 := Lib.hid (bstep (balloc (Below.refl _ w) _) b2); clear b2; have rc := (HB.out.step B2.out).cell; have hm := (HM.out.step B2.out).is)
    | (at_lookup; refine wpList_look_ok _ rfl _ _ 85 rfl diskC Tryz.underlying85 ⟨none, 0, 0⟩ (Tryz.zeroH _) m n _ rfl hm s rfl Hgd.out ?_; rw [E1.out]))
  go_ret2
  exact ⟨rfl, B2.out⟩
set_option maxHeartbeats 1000000 in
set_option maxRecDepth 100000 in
theorem dread_some (w : World) (p m n : Nat) (cap : Int) (L : List DF) (s : List UInt8) (x : DF) (h : DiskAt w p m n cap L) (hg : getF L s = some x) :
    Calls Tryz.prog 54 #[.pointer (some ⟨p, 0, none⟩), S s] w fun e w' => ∃ A k c, e = .returned (.tuple #[.slice A k c, I 0]) ∧ Ow w w' 5 1 A k c (u8s x.2.2) := by
  obtain ⟨ops, hB⟩ := h.blk
  obtain ⟨hx, rfl⟩ := getF_mem hg
  have hs := h.name x hx
  have C1 := Lib.hid (fun W hb => made_any W p m hb)
  have C2 := Lib.hid (dnamed_any (some ⟨w.heap.size, 0, none⟩) 1 1 [x.1] (w.alloc (.cells #[S x.1] 9)) (strs_one w x.1) (by omega))
  have e1 : [x.1].all okName = true := by simp [hs]
  rw [e1] at C2
  have HB := Lib.hid hB
  have Hgd := Lib.hid (show diskC.good x.1 from okName_good hs)
  have E1 : Hid (lk (keyF L) x.1 = some x.2.1) := Lib.hid (by rw [getF_lk, hg]; rfl)
  have HM := Lib.hid h.map
  have hsm := h.small x hx
  have C3 := Lib.hid (fun W (hb : Below w.heap.size w W) => cloneB_any x.2.1.a x.2.1.n x.2.1.c x.2.2 W ((h.row x hx).step hb).sl (by omega))
  have E2 : Hid (diskC.vv x.2.1 = .slice x.2.1.a x.2.1.n x.2.1.c) := Lib.hid rfl
  clear h hs e1 hB hg hx hsm
  go_enter Tryz.func54, Tryz.ntmps54
  go_wp2_with (first
    | (go_at_call 114; refine (C1.out _ (HB.out.cell 1)).mono ?_; rintro e w1 ⟨rfl, rfl⟩)
    | (go_at_call 99; refine C2.out.mono ?_; rintro e w2 ⟨rfl, b2⟩; have B2 := Lib.hid (bstep (balloc (Below.refl _ w) _) b2); clear b2; have rc := (HB.out.step B2.out).cell; have hm := (HM.out.step B2.out).is)
    | (at_lookup; refine wpList_look_ok _ rfl _ _ 85 rfl diskC Tryz.underlying85 ⟨none, 0, 0⟩ (Tryz.zeroH _) m n _ rfl hm x.1 rfl Hgd.out ?_; rw [E1.out]; simp only [Option.getD_some]; rw [E2.out])
    | (go_at_call 100; refine (C3.out _ B2.out).mono ?_; rintro e w3 ⟨A3, n3, c3, rfl, hO3⟩))
  go_ret2
  exact ⟨A3, n3, c3, rfl, hO3.since B2.out⟩
end Go.Proofs.YtkginbfpokbhcaaGreatDoor
