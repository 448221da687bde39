/-
  dolmenlaw14: awake is true; mine. Condition: MaxLen holds an int.
-/
import Derived.Test.YtjcelelgebohkaaGreatDoorIdxLists
namespace Go.Proofs.YtjcelelgebohkaaGreatDoor
open Go.RowKit
open IdxLaw (Ent Key zE sortE)

def idB (c : UInt8) : List UInt8 := List.replicate 32 c
theorem id_at (c : UInt8) (n : Int) (hn : n = (c.toNat : Int)) (w : World) :
    Calls Tryz.prog 12 #[.int .u8 n] w fun e w' => e = .returned (S (idB c)) ∧ Below w.heap.size w w' := by
  subst hn
  exact id_any c w
theorem mine_any (x : Ent) (w : World) :
    Calls Tryz.prog 28 #[entV x] w fun e w' => e = .returned (entV x) ∧ Below w.heap.size w w' := by
  have r0 := ((Blk.new w 32 #[S x.path, I x.stage, S x.id, I x.size, I x.stamp]).alloc (.cells #[S [], I 0, S [], I 0, I 0] 36)).cell
  go_enter Tryz.func28, Tryz.ntmps28
  go_wp2
  refine bodyPost_ret (v := entV x) (by simp [results, Tryz.results28, go_sem]) rfl ⟨rfl, ?_⟩
  exact balloc (balloc (Below.refl _ w) _) _
theorem below_fr {w wa wb : World} {m : Nat} (h : Below w.heap.size w wa) (hF : Fr (fun j => j = m) wa wb) (hm : w.heap.size ≤ m) : Below w.heap.size w wb := h.trans (hF.below h.size (fun k e => by rw [e]; exact hm))

def aw1 : Ent := ⟨[97], 0, idB 9, 3, 5⟩
def aw3 : Ent := ⟨[97, 47, 120], 0, idB 3, 0, 0⟩
def aw4 : Ent := ⟨[97], 0, idB 1, 0, 0⟩
def awC : List Ent := [⟨[97], 2, idB 2, 0, 0⟩, ⟨[97], 1, idB 1, 0, 0⟩]
theorem awk1 : IdxLaw.set [] aw1 = (0, [aw1]) := by decide +kernel
theorem awk2 : IdxLaw.conflict [aw1] [97] (idB 1) (idB 2) [] = (0, awC) := by decide +kernel
theorem awk3 : IdxLaw.set awC aw3 = (0, aw3 :: awC) := by decide +kernel
theorem awk4 : IdxLaw.set (aw3 :: awC) aw4 = (0, [aw4]) := by decide +kernel
theorem awk5 : IdxLaw.drop [aw4] [97] = [] := by decide +kernel
theorem awU : IdxLaw.Uniq awC := by unfold IdxLaw.Uniq; decide +kernel
theorem awS : sortE awC = awC.reverse := (IdxLaw.sortE_unique awU (List.reverse_perm _) (by decide +kernel)).symm
theorem awk6 : Lib.compact (confsOf (sortE awC)) = [[97]] := by rw [awS]; decide +kernel
theorem awk7 : filesOf (sortE awC) = [] := by rw [awS]; decide +kernel
theorem awr1 : ∀ e ∈ ([] : List Ent), IdxLaw.right e = true := by simp
theorem awr3 : ∀ e ∈ awC, IdxLaw.right e = true := by decide +kernel
theorem awr4 : ∀ e ∈ aw3 :: awC, IdxLaw.right e = true := by decide +kernel

set_option maxRecDepth 100000 in
set_option maxHeartbeats 4000000 in
theorem awake14_any (w : World) (hM : MaxL w) : Calls Tryz.prog 6 #[] w fun e w' => e = .returned (.bool true) ∧ Below w.heap.size w w' := by
  have HM := Lib.hid hM
  clear hM
  go_enter Tryz.func6, Tryz.ntmps6
  go_wp2_with fail
  refine (new_any w).mono ?_
  rintro e w1 ⟨p, m, rfl, hI1, hp1, hm1, hb1⟩
  have I1 := Lib.hid hI1
  have B1 := Lib.hid hb1
  have Hm := Lib.hid hm1
  clear hI1 hb1 hm1 hp1
  go_wp2_with fail
  refine (id_at 9 9 rfl w1).mono ?_
  rintro e w2 ⟨rfl, b2⟩
  have B2 := Lib.hid (bstep B1.out b2)
  have I2 := Lib.hid (I1.out.step b2)
  clear b2
  go_wp2_with fail
  refine (set_any w2 p m 0 [] aw1 I2.out (by omega) awr1 (by decide) (HM.out.step B2.out)).mono ?_
  rw [awk1]
  rintro e w3 ⟨rfl, hI3, hF3⟩
  have I3 := Lib.hid hI3
  have B3 := Lib.hid (below_fr B2.out hF3 Hm.out)
  clear hI3 hF3
  go_wp2_with fail
  refine (fresh_any w3 p m _ [aw1] [97] 3 5 6 I3.out (by decide)).mono ?_
  rw [show freshB (IdxLaw.find [aw1] ([97], 0)) 3 5 6 = true by decide +kernel]
  rintro e w4 ⟨rfl, b4⟩
  have B4 := Lib.hid (bstep B3.out b4)
  have I4 := Lib.hid (I3.out.step b4)
  clear b4
  go_wp2_with fail
  refine (fresh_any w4 p m _ [aw1] [97] 3 5 5 I4.out (by decide)).mono ?_
  rw [show freshB (IdxLaw.find [aw1] ([97], 0)) 3 5 5 = false by decide +kernel]
  rintro e w5 ⟨rfl, b5⟩
  have B5 := Lib.hid (bstep B4.out b5)
  have I5 := Lib.hid (I4.out.step b5)
  clear b5
  go_wp2_with fail
  refine (id_at 1 1 rfl w5).mono ?_
  rintro e w6 ⟨rfl, b6⟩
  have B6 := Lib.hid (bstep B5.out b6)
  have I6 := Lib.hid (I5.out.step b6)
  clear b6
  go_wp2_with fail
  refine (id_at 2 2 rfl w6).mono ?_
  rintro e w7 ⟨rfl, b7⟩
  have B7 := Lib.hid (bstep B6.out b7)
  have I7 := Lib.hid (I6.out.step b7)
  clear b7
  go_wp2_with fail
  refine (conflict_any w7 p m _ [aw1] [97] (idB 1) (idB 2) [] I7.out (by omega) (by decide) (HM.out.step B7.out)).mono ?_
  rw [awk2]
  rintro e w8 ⟨rfl, hI8, hF8⟩
  have I8 := Lib.hid hI8
  have B8 := Lib.hid (below_fr B7.out hF8 Hm.out)
  clear hI8 hF8
  go_wp2_with fail
  refine (entries_any w8 p m _ awC I8.out (by omega)).mono ?_
  rintro e w9 ⟨A9, c9, rfl, hO9⟩
  have B9 := Lib.hid (bstep B8.out hO9.2)
  have I9 := Lib.hid (I8.out.step hO9.2)
  clear hO9
  go_wp2_with fail
  refine (conflicts_any w9 p m _ awC I9.out (by omega)).mono ?_
  rw [awk6]
  rintro e w10 ⟨A10, t10, c10, rfl, rfl, hS10, b10⟩
  have B10 := Lib.hid (bstep B9.out b10)
  have I10 := Lib.hid (I9.out.step b10)
  have HS10 := Lib.hid hS10
  clear b10 hS10
  go_wp2_with fail
  refine (files_any w10 p m _ awC I10.out (by omega)).mono ?_
  rw [awk7]
  rintro e w11 ⟨A11, t11, c11, rfl, rfl, hO11⟩
  have B11 := Lib.hid (bstep B10.out hO11.2)
  have I11 := Lib.hid (I10.out.step hO11.2)
  have HS11 := Lib.hid (HS10.out.below hO11.2)
  clear hO11
  go_wp2_with fail
  refine (id_at 3 3 rfl w11).mono ?_
  rintro e w12 ⟨rfl, b12⟩
  have B12 := Lib.hid (bstep B11.out b12)
  have I12 := Lib.hid (I11.out.step b12)
  have HS12 := Lib.hid (HS11.out.below b12)
  clear b12
  go_wp2_with fail
  refine (set_any w12 p m _ awC aw3 I12.out (by omega) awr3 (by decide) (HM.out.step B12.out)).mono ?_
  rw [awk3]
  rintro e w13 ⟨rfl, hI13, hF13⟩
  have I13 := Lib.hid hI13
  have B13 := Lib.hid (below_fr B12.out hF13 Hm.out)
  have HS13 : Hid (Sl w13 1 A10 1 (strs [[97]])) := Lib.hid (by
    obtain ⟨b, off, s, e, hs, hc⟩ := HS12.out.str (k := 0) (by decide)
    have hbl : b < w12.heap.size := World.block_lt_of_cell? _ _ hc
    refine ⟨by simp, fun _ => ⟨b, off, e, hF13.lt hbl, fun k hk => ?_⟩⟩
    obtain rfl : k = 0 := by omega
    have h0 : s = [97] := by simpa using hs.symm
    subst h0
    refine (hF13.cell (p := ⟨b, off + 0, none⟩) hbl (fun hbm => ?_)).trans hc
    have hbm' : b = m := hbm
    subst hbm'
    have hno := I12.out.map
    obtain ⟨D, ⟨es, clock, h1, _⟩, _⟩ := hno
    simp [World.cell?, h1] at hc)
  clear hI13 hF13
  obtain ⟨b, off, s, rfl, hs, hc13⟩ := HS13.out.str (k := 0) (by decide)
  obtain rfl : s = [97] := by simpa using hs.symm
  rw [Nat.add_zero] at hc13
  clear hs
  go_wp2_with fail
  refine (entries_any w13 p m _ (aw3 :: awC) I13.out (by omega)).mono ?_
  rintro e w14 ⟨A14, c14, rfl, hO14⟩
  have B14 := Lib.hid (bstep B13.out hO14.2)
  have I14 := Lib.hid (I13.out.step hO14.2)
  clear hO14
  go_wp2_with fail
  refine (id_at 1 1 rfl w14).mono ?_
  rintro e w15 ⟨rfl, b15⟩
  have B15 := Lib.hid (bstep B14.out b15)
  have I15 := Lib.hid (I14.out.step b15)
  clear b15
  go_wp2_with fail
  refine (set_any w15 p m _ (aw3 :: awC) aw4 I15.out (by omega) awr4 (by decide) (HM.out.step B15.out)).mono ?_
  rw [awk4]
  rintro e w16 ⟨rfl, hI16, hF16⟩
  have I16 := Lib.hid hI16
  have B16 := Lib.hid (below_fr B15.out hF16 Hm.out)
  clear hI16 hF16
  go_wp2_with fail
  refine (entries_any w16 p m _ [aw4] I16.out (by omega)).mono ?_
  rintro e w17 ⟨A17, c17, rfl, hO17⟩
  have B17 := Lib.hid (bstep B16.out hO17.2)
  have I17 := Lib.hid (I16.out.step hO17.2)
  clear hO17
  go_wp2_with fail
  refine (dropm_any w17 p m _ [aw4] [97] I17.out).mono ?_
  rw [awk5, show fewer [] [aw4] = true by decide]
  rintro e w18 ⟨rfl, hI18, hF18⟩
  have I18 := Lib.hid hI18
  have B18 := Lib.hid (below_fr B17.out hF18 Hm.out)
  clear hI18 hF18
  go_wp2_with fail
  refine (dropm_any w18 p m _ [] [97] I18.out).mono ?_
  rw [show fewer (IdxLaw.drop [] [97]) [] = false by decide]
  rintro e w19 ⟨rfl, hI19, hF19⟩
  have B19 := Lib.hid (below_fr B18.out hF19 Hm.out)
  clear hI19 hF19
  go_wp2_with fail
  go_ret
  exact ⟨rfl, B19.out⟩
end Go.Proofs.YtjcelelgebohkaaGreatDoor
