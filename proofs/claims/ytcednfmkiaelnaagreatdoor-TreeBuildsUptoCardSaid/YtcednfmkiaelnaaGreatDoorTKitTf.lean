/-
  Texts merged: Aw13, Awake13. What each law says and asks stands at its head.
-/
import Derived.Test.YtcednfmkiaelnaaGreatDoorTKitTe
import Derived.Test.YtcednfmkiaelnaaGreatDoorTKitX
import Derived.Test.YtcednfmkiaelnaaGreatDoorTKitG
import Derived.Test.YtcednfmkiaelnaaGreatDoorTKitN
import Derived.Test.YtcednfmkiaelnaaGreatDoorTDiskNew
import Derived.Test.YtcednfmkiaelnaaGreatDoorTKitSt
namespace Go.Proofs.YtcednfmkiaelnaaGreatDoor
open Go.RowKit
open TreeLaw
open PathLaw (Bs)
def r13 (c : UInt8) : Bs := List.replicate 32 c
def ex13 : List Fil := [([97, 47, 120], r13 1), ([97, 47, 121], r13 2), ([98], r13 3)]
def bad13 : List Fil := [([97], r13 1), ([97, 47, 120], r13 1)]
theorem ex13_ok : CheckP ex13 := by
 unfold CheckP
 refine ⟨by decide +kernel, by decide +kernel, by decide +kernel, by decide +kernel⟩
theorem bad13_no : ¬ CheckP bad13 := fun h => by
 have h1 := h.2.2.1 ([97, 47, 120], r13 1) (by unfold bad13; simp) ([97], r13 1) (by unfold bad13; simp)
 revert h1
 decide +kernel
theorem ex13_two : (treesL ex13).length = 2 := by decide +kernel
theorem ex13_room : needAll (treesL ex13) ≤ 10000 := by decide +kernel
theorem ex13_put : writeZ [] ex13 = 0 := by decide +kernel
theorem ex13_find : DiffLaw.fid ex13 [98] = r13 3 := by decide +kernel
theorem ex13_under : PathLaw.under [97, 47, 120] [97] = true ∧ PathLaw.under [97] [97] = false := by decide +kernel
theorem write_in {R : List Bs} {l : List Fil} (hc : CheckP l) (h : writeZ R l = 0) : AllIn (writeR R l) 151 l :=
 buildL_all 151 l [] (fineB_of hc) (fun x hx => putAll_all (treesL l) R h x hx)
theorem objs_trees {w : World} {q p pk m n : Nat} {cap : Int} {L : List DF} {R : List Bs} (hS : StoreAt w q p pk) (h : DiskAt w p m n cap L) (hO : Objs L R) : TreeObjs w q R := fun V es hV hin hfi =>
 sobjT_one V q p pk m n cap L R (sumL (encT es)) es (hS.step hV) (h.step hV) hO (getS_mem hO hin) hfi (by rw [sumL_len]; decide)
set_option maxRecDepth 100000 in
set_option maxHeartbeats 16000000 in
theorem awake13_any (w : World) (hM : MaxL w) :
  Calls Tryz.prog 5 #[] w fun e w' => e = .returned (.bool true) ∧ Below w.heap.size w w' := by
 obtain ⟨i1, hi1⟩ : ∃ i, i = r13 1 := ⟨_, rfl⟩
 obtain ⟨i2, hi2⟩ : ∃ i, i = r13 2 := ⟨_, rfl⟩
 obtain ⟨i3, hi3⟩ : ∃ i, i = r13 3 := ⟨_, rfl⟩
 have C1 : Hid (∀ V, Calls Tryz.prog 25 #[.int .u8 1] V fun e w' => e = .returned (S i1) ∧ Below V.heap.size V w') := Lib.hid (fun V => by rw [hi1]; exact id13_any 1 V)
 have C2 : Hid (∀ V, Calls Tryz.prog 25 #[.int .u8 2] V fun e w' => e = .returned (S i2) ∧ Below V.heap.size V w') := Lib.hid (fun V => by rw [hi2]; exact id13_any 2 V)
 have C3 : Hid (∀ V, Calls Tryz.prog 25 #[.int .u8 3] V fun e w' => e = .returned (S i3) ∧ Below V.heap.size V w') := Lib.hid (fun V => by rw [hi3]; exact id13_any 3 V)
 have hex : [([97, 47, 120], i1), ([97, 47, 121], i2), ([98], i3)] = ex13 := by rw [hi1, hi2, hi3]; rfl
 have hbad : [([97], i1), ([97, 47, 120], i1)] = bad13 := by rw [hi1]; rfl
 have Hex := Lib.hid hex
 have Hbad := Lib.hid hbad
 have Hi3 := Lib.hid hi3
 have HM := Lib.hid hM
 have C4 := Lib.hid (fun V => dnew_ok 10000 V (by decide) (by decide))
 clear hi1 hi2 hi3 hex hbad hM
 go_enter Tryz.func5, Tryz.ntmps5
 go_wp2_with fail
 refine (C1.out _).mono ?_
 rintro e w1 ⟨rfl, b1⟩
 go_wp2_with fail
 refine (C2.out _).mono ?_
 rintro e w2 ⟨rfl, b2⟩
 go_wp2_with fail
 refine (C3.out _).mono ?_
 rintro e w3 ⟨rfl, b3⟩
 obtain ⟨g, hg⟩ : ∃ g, g = w3.heap.size := ⟨_, rfl⟩
 obtain ⟨w4, hw4⟩ : ∃ w4, w4 = w3.alloc (.cells #[.string ⟨#[97, 47, 120]⟩, S i1, .string ⟨#[97, 47, 121]⟩, S i2, .string ⟨#[98]⟩, S i3] 61) := ⟨_, rfl⟩
 have B4 : Hid (Below w.heap.size w w4) := Lib.hid (by rw [hw4]; exact balloc (bstep (bstep b1 b2) b3) _)
 have HL : Hid (Sl w4 2 (some ⟨g, 0, none⟩) 3 (fls ex13)) := Lib.hid (by
  rw [← Hex.out, hw4, hg]
  refine ⟨by simp [fls, flC], fun _ => ⟨_, _, rfl, by simp, fun k hk => ?_⟩⟩
  rw [Nat.zero_add]
  simp [fls, flC])
 have C5 := Lib.hid (tbuild_any w4 (some ⟨g, 0, none⟩) 3 3 ex13 HL.out (by decide) (fun f hf => Nat.le_trans (Nat.le_of_lt (short_of ex13_ok f hf)) (by decide)) (HM.out.step B4.out))
 have Hg := Lib.hid hg
 have Hw4 := Lib.hid hw4
 clear b1 b2 b3 hg hw4
 obtain ⟨rt, hrt⟩ : ∃ rt, rt = rootL ex13 := ⟨_, rfl⟩
 rw [ex13_two, ← hrt] at C5
 have Hrt := Lib.hid hrt
 clear hrt
 go_wp2_with fail
 rw [← Hg.out, ← Hw4.out]
 refine C5.out.mono ?_
 rintro e w5 ⟨hret, b5⟩
 rcases hret with ⟨_, A5, c5, hs5, rfl, _, _⟩ | ⟨hno, _⟩
 ·have B5 := Lib.hid (bstep B4.out b5)
  have HL5 := Lib.hid (HL.out.below b5)
  clear b5 C5
  go_wp2_with fail
  refine (C4.out _).mono ?_
  rintro e w6 ⟨p, m, rfl, hp6, hm6, hD6, b6⟩
  have B6 := Lib.hid (bstep B5.out b6)
  have HL6 := Lib.hid (HL5.out.below b6)
  have HD6 := Lib.hid hD6
  have C7 := Lib.hid (sopen_any w6 p m 0 10000 [] hD6 (by decide) (by simp) rfl)
  have Hpm : Hid (w5.heap.size ≤ p ∧ w5.heap.size ≤ m) := Lib.hid ⟨hp6, hm6⟩
  clear b6 hD6 C4 hp6 hm6
  go_wp2_with fail
  refine C7.out.mono ?_
  rintro e w7 ⟨q, pk, rfl, hq7, hpk7, hS7, b7⟩
  have B7 := Lib.hid (bstep B6.out b7)
  have HL7 := Lib.hid (HL6.out.below b7)
  have HD7 := Lib.hid (HD6.out.step b7)
  have HS7 := Lib.hid hS7
  have C8 := Lib.hid (twrite_any w7 q p pk m 0 10000 [] [] (some ⟨g, 0, none⟩) 3 3 ex13 hS7 HD7.out Objs.nil_ HL7.out (by decide) (fun f hf => Nat.le_trans (Nat.le_of_lt (short_of ex13_ok f hf)) (by decide)) (HM.out.step B7.out) (by decide) (fun _ => by have := ex13_room; simp only [costs]; omega) (by decide))
  clear b7 C7 hq7 hpk7 hS7
  go_wp2_with fail
  refine C8.out.mono ?_
  rintro e w8 (⟨_, rfl, ⟨n8, L8, _, hD8, hO8, _⟩, hf8⟩ | ⟨hno, _⟩)
  ·rw [ex13_put, if_pos rfl, ← Hrt.out]
   have hlo : w.heap.size ≤ w5.heap.size := B5.out.size
   have hg5 : g < w5.heap.size := HL5.out.lt_ g 0 (by decide) rfl
   have B8 : Hid (Below w.heap.size w w8) := Lib.hid (B7.out.trans (hf8.below B7.out.size (fun k hk => by have := Hpm.out; rcases hk with rfl | rfl <;> omega)))
   have HL8 : Hid (Sl w8 2 (some ⟨g, 0, none⟩) 3 (fls ex13)) := Lib.hid ((SlF.fr (E := fun j => j = p ∨ j = m) ⟨HL7.out, fun b off _ e hE => by cases e; have := Hpm.out; rcases hE with hE | hE <;> omega⟩ hf8).1)
   have HS8 := Lib.hid (HS7.out.fr HD7.out hf8)
   have C9 := Lib.hid (tread_any w8 q (writeR [] ex13) ex13 ex13_ok (write_in ex13_ok ex13_put) (objs_trees HS8.out hD8 hO8) (HM.out.step B8.out))
   rw [← Hrt.out, show ex13.length = 3 from rfl] at C9
   clear hlo hg5 hD8 hO8 hf8 C8 B7 HL7
   go_wp2_with fail
   refine C9.out.mono ?_
   rintro e w9 ⟨A9, c9, rfl, hO9⟩
   have B9 := Lib.hid (bstep B8.out hO9.2)
   have HL9 := Lib.hid (HL8.out.below hO9.2)
   obtain ⟨b9, o9, rfl, _, hc9⟩ := hO9.sl.2 (by decide)
   have z2 : w9.cell? ⟨b9, o9 + 2, none⟩ = some (.string ⟨#[97, 47, 121]⟩) := by
    have h1 := hc9 2 (by decide)
    rw [← Hex.out] at h1
    exact h1
   have hU1 := ex13_under.1
   have hU2 := ex13_under.2
   have C10 : Hid (Calls Tryz.prog 13 #[.string ⟨#[97, 47, 120]⟩, .string ⟨#[97]⟩] w9 fun e w' => e = .returned (.bool true) ∧ w9 = w') := Lib.hid (by
    have h1 := under_any [97, 47, 120] [97] w9 (by decide)
    rw [hU1] at h1
    exact h1)
   have C11 : Hid (Calls Tryz.prog 13 #[.string ⟨#[97]⟩, .string ⟨#[97]⟩] w9 fun e w' => e = .returned (.bool false) ∧ w9 = w') := Lib.hid (by
    have h1 := under_any [97] [97] w9 (by decide)
    rw [hU2] at h1
    exact h1)
   have C12 : Hid (Calls Tryz.prog 15 #[.slice (some ⟨g, 0, none⟩) 3 3, .string ⟨#[98]⟩] w9 fun e w' => e = .returned (S i3) ∧ Below w9.heap.size w9 w') := Lib.hid (by
    have h1 := treeFind_any (some ⟨g, 0, none⟩) 3 3 ex13 [98] w9 HL9.out (by decide)
    rw [ex13_find, ← Hi3.out] at h1
    exact h1)
   clear hO9 hc9 hU1 hU2 C9
   go_wp2_with fail
   refine C10.out.mono ?_
   rintro e w10 ⟨rfl, rfl⟩
   go_wp2_with fail
   refine C11.out.mono ?_
   rintro e w11 ⟨rfl, rfl⟩
   go_wp2_with fail
   refine C12.out.mono ?_
   rintro e w12 ⟨rfl, b12⟩
   have B12 := Lib.hid (bstep B9.out b12)
   clear b12 z2 C10 C11 C12
   go_wp2_with fail
   refine (C3.out _).mono ?_
   rintro e w13 ⟨rfl, b13⟩
   have B13 := Lib.hid (bstep B12.out b13)
   clear b13
   go_wp2_with fail
   refine (C1.out _).mono ?_
   rintro e w14 ⟨rfl, b14⟩
   have B14 := Lib.hid (bstep B13.out b14)
   clear b14
   go_wp2_with fail
   refine (C1.out _).mono ?_
   rintro e w15 ⟨rfl, b15⟩
   have B15 := Lib.hid (bstep B14.out b15)
   obtain ⟨g2, hg2⟩ : ∃ g2, g2 = w15.heap.size := ⟨_, rfl⟩
   obtain ⟨w16, hw16⟩ : ∃ w16, w16 = w15.alloc (.cells #[.string ⟨#[97]⟩, S i1, .string ⟨#[97, 47, 120]⟩, S i1] 61) := ⟨_, rfl⟩
   have HL2 : Hid (Sl w16 2 (some ⟨g2, 0, none⟩) 2 (fls bad13)) := Lib.hid (by
    rw [← Hbad.out, hw16, hg2]
    refine ⟨by simp [fls, flC], fun _ => ⟨_, _, rfl, by simp, fun k hk => ?_⟩⟩
    rw [Nat.zero_add]
    simp [fls, flC])
   have B16 : Hid (Below w.heap.size w w16) := Lib.hid (by rw [hw16]; exact balloc B15.out _)
   have C17 := Lib.hid (checkX_any (some ⟨g2, 0, none⟩) 2 2 bad13 w16 HL2.out (by decide) (fun f hf => by
    unfold bad13 at hf
    simp only [List.mem_cons, List.not_mem_nil, or_false] at hf
    rcases hf with rfl | rfl <;> decide) (HM.out.step B16.out))
   have Hg2 := Lib.hid hg2
   have Hw16 := Lib.hid hw16
   clear b15 hg2 hw16
   go_wp2_with fail
   rw [← Hg2.out, ← Hw16.out]
   refine C17.out.mono ?_
   rintro e w17 ⟨z, rfl, hz, b17⟩
   have hz1 : z = 1 := by
    rcases hz with ⟨_, h⟩ | ⟨h, _⟩
    ·exact absurd h bad13_no
    ·exact h
   subst hz1
   have B17 := Lib.hid (bstep B16.out b17)
   clear b17 hz C17
   go_wp2
   go_ret
   exact ⟨rfl, B17.out⟩
  ·exact absurd ex13_ok hno
 ·exact absurd ex13_ok hno
end Go.Proofs.YtcednfmkiaelnaaGreatDoor
