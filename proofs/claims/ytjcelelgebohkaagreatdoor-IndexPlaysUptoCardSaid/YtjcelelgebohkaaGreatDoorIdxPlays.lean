/-
  dolmenlaw14.IndexPlays: whatever is done to an index is answered as the document says. Conditions: paths are shorter than 2147483648 bytes; MaxLen holds an int.
-/
import Derived.Test.YtjcelelgebohkaaGreatDoorIdxAlike
import Derived.Test.YtjcelelgebohkaaGreatDoorIdxPlay
import Derived.Test.YtjcelelgebohkaaGreatDoorIdxMade
import Derived.Test.YtjcelelgebohkaaGreatDoorIdxNil
import Derived.Test.YtjcelelgebohkaaGreatDoorIdxOps
namespace Go.Proofs.YtjcelelgebohkaaGreatDoor
open Go.RowKit
open IdxLaw (Ent Key zE Inv sortE)

theorem short_sort {l : List Ent} {z : Nat} (hI : Inv l) (hl : l.length ≤ z) : Short (sortE l) z :=
  ⟨by rw [(IdxLaw.sortE_perm l).length_eq]; exact hl, fun e he => Nat.le_trans (right_path (hI.right e ((IdxLaw.sortE_perm l).mem_iff.1 he))) (by decide)⟩
set_option maxHeartbeats 8000000 in
set_option maxRecDepth 100000 in
theorem indexPlays_law (A : Option Addr) (n c : Nat) (os : List OpG) (w : World) (hA : Sl w 10 A n (opsC os)) (hO : ∀ o ∈ os, o.ok) (hM : MaxL w) :
    Calls Tryz.prog 3 #[.slice A n c] w fun e w' => e = .returned (.bool true) ∧ Below w.heap.size w w' := by
  have HA := Lib.hid hA
  have HO := Lib.hid hO
  have HM := Lib.hid hM
  have C0 := Lib.hid (awake14_any _ HM.out)
  have CN := Lib.hid new_any
  clear hA hO hM
  go_enter Tryz.func3, Tryz.ntmps3
  go_wp2_with (first
    | (go_at_call 6; refine C0.out.mono ?_; rintro e w0 ⟨rfl, b0⟩; have B0 := Lib.hid b0; clear b0)
    | (go_at_call 7; refine (CN.out w0).mono ?_; rintro e w1 ⟨p, m, rfl, hI1, hp1, hm1, b1⟩; have I1 := Lib.hid hI1; have B1 := Lib.hid (bstep B0.out b1); have Hm := Lib.hid (Nat.le_trans B0.out.size hm1); clear hI1 hp1 hm1 b1))
  obtain ⟨q, hq⟩ : ∃ q, q = w1.heap.size := ⟨_, rfl⟩
  have hmq : m < q := hq ▸ I1.out.map.lt
  have hpq : p < q := hq ▸ I1.out.blk.lt
  have hb2 := balloc (Below.refl w1.heap.size w1) (.cells #[.slice none 0 0] 29)
  have T0 : Two (w1.alloc (.cells #[.slice none 0 0] 29)) p m q [] [] 0 := by
    refine ⟨I1.out.step hb2, ?_, by omega, by omega⟩
    rw [hq]
    exact RIx.new w1 (fun k => k = m) (fun k e => e ▸ I1.out.map.lt)
  have HB1 := Lib.hid (bstep B1.out hb2)
  have HT0 := Lib.hid T0
  have hwq : w.heap.size ≤ q := hq ▸ B1.out.size
  simp only [← hq]
  clear hb2 T0 hq
  go_loopw [6] (fun i wr => ∃ k : Nat, i = .int .i64 k ∧ Hid (k ≤ 60) ∧ Hid (k ≤ n) ∧ Hid (∃ l, Two wr p m q l (sortE l) (3 * k) ∧ Inv l) ∧ Hid (Below w.heap.size w wr)) (fun i _ => 60 - (intOf i).toNat)
  case atStart => exact ⟨0, rfl, Lib.hid (by omega), Lib.hid (by omega), Lib.hid ⟨[], by rw [show sortE [] = [] from List.perm_nil.1 (IdxLaw.sortE_perm [])]; exact HT0.out, IdxLaw.inv_nil⟩, HB1⟩
  case round =>
    obtain ⟨k, rfl, hk, hkn, hTk, hb⟩ := hrel
    by_cases hlt : k < n ∧ k < 60
    · obtain ⟨h1, h2⟩ := hlt
      obtain ⟨b, off, o, rfl, hbz, hx, y0, y1, y2, y3, y4, y5, y6, y7, y8, y9⟩ := HA.out.opg h1
      have x0 := (hb.out.cell (p := ⟨b, off + k * 10, none⟩) hbz).trans y0
      have x1 := (hb.out.cell (p := ⟨b, off + k * 10 + 1, none⟩) hbz).trans y1
      have x2 := (hb.out.cell (p := ⟨b, off + k * 10 + 2, none⟩) hbz).trans y2
      have x3 := (hb.out.cell (p := ⟨b, off + k * 10 + 3, none⟩) hbz).trans y3
      have x4 := (hb.out.cell (p := ⟨b, off + k * 10 + 4, none⟩) hbz).trans y4
      have x5 := (hb.out.cell (p := ⟨b, off + k * 10 + 5, none⟩) hbz).trans y5
      have x6 := (hb.out.cell (p := ⟨b, off + k * 10 + 6, none⟩) hbz).trans y6
      have x7 := (hb.out.cell (p := ⟨b, off + k * 10 + 7, none⟩) hbz).trans y7
      have x8 := (hb.out.cell (p := ⟨b, off + k * 10 + 8, none⟩) hbz).trans y8
      have x9 := (hb.out.cell (p := ⟨b, off + k * 10 + 9, none⟩) hbz).trans y9
      have hok := HO.out o (List.mem_of_getElem? hx)
      obtain ⟨l, hT, hI⟩ := hTk.out
      have hle : l.length ≤ 3 * k := by have h1 := hT.idx.map.le; simp [kd] at h1; exact h1
      have hS := short_sort hI hle
      have C1' := step_any wr p m q (3 * k) l (sortE l) o hT (by omega) (by have := hS.1; omega) hI.right (fun e he => Nat.le_trans (hS.2 e he) (by decide)) hok.1 hok.2 (HM.out.step hb.out)
      unfold Stepped at C1'
      rw [step_yes hI o, play_sort hI o] at C1'
      have C1 := Lib.hid C1'
      have HI2 := Lib.hid (playL_inv hI o)
      generalize playL o l = l2 at *
      have C2 := Lib.hid (fun W hT2 => alike_any W p m q (3 * k + 3) l2 hT2 (by omega) HI2.out)
      clear y0 y1 y2 y3 y4 y5 y6 y7 y8 y9 hx hT hI hS hok hle C1'
      go_wp2_with (first
        | (go_at_call 8; refine C1.out.mono ?_; rintro e w2 ⟨rfl, hT2, hF2⟩; have T2 := Lib.hid hT2; have B2 := Lib.hid (hb.out.trans (hF2.below hb.out.size (fun j h => by have := Hm.out; rcases h with h | h <;> omega))); clear hT2 hF2)
        | (go_at_call 9; refine (C2.out _ T2.out).mono ?_; rintro e w3 ⟨rfl, b3⟩; have B3 := Lib.hid (bstep B2.out b3); have T3 := Lib.hid (T2.out.step b3); clear b3))
      go_roundw
      case rel => exact ⟨k + 1, by go_num, Lib.hid (by omega), Lib.hid (by omega), Lib.hid ⟨_, T3.out, HI2.out⟩, B3⟩
      case measure => simp [intOf]; omega
    · have Cn1 := Lib.hid (fun W => find_nil [97] 0 W)
      have Cn2 := Lib.hid (fun W => id_at 1 1 rfl W)
      have Cn3 := Lib.hid (fun W => set_nil ⟨[97], 0, idB 1, 0, 0⟩ W)
      have Cn4 := Lib.hid (fun W => conflict_nil W [97] (idB 1) [] [])
      have Cn5 := Lib.hid (fun W => dropm_nil [97] W)
      have hor : (k < n ∧ ¬ k < 60) ∨ ¬ k < n := by omega
      clear hlt
      rcases hor with ⟨h1, h2⟩ | h1
      all_goals
        go_wp2_with (first
          | (go_at_call 10; refine (Cn1.out _).mono ?_; rintro e w3 ⟨rfl, b3⟩; have B3 := Lib.hid (balloc (bstep hb.out b3) (.cells #[S zE.path, I zE.stage, S zE.id, I zE.size, I zE.stamp] 36)); clear b3)
          | (go_at_call 11; refine (Cn3.out _).mono ?_; rintro e w5 ⟨rfl, b5⟩; have B5 := Lib.hid (bstep B4.out b5); clear b5)
          | (go_at_call 13; refine (Cn4.out _).mono ?_; rintro e w7 ⟨rfl, b7⟩; have B7 := Lib.hid (bstep B6.out b7); clear b7)
          | (go_at_call 14; refine (Cn5.out _).mono ?_; rintro e w8 ⟨rfl, b8⟩; have B8 := Lib.hid (bstep B7.out b8); clear b8)
          | (go_at_call 15; refine (entries_nil _).mono ?_; rintro e w9 ⟨rfl, rfl⟩)
          | (go_at_call 16; refine (files_nil _).mono ?_; rintro e w9 ⟨rfl, b9⟩; have B9 := Lib.hid (bstep B8.out b9); clear b9)
          | (go_at_call 17; refine (conflicts_nil _).mono ?_; rintro e wa ⟨A9, c9, rfl, ba⟩; have Ba := Lib.hid (bstep B9.out ba); clear ba)
          | (go_at_call 12; refine (Cn2.out _).mono ?_; rintro e w4 ⟨rfl, b4⟩; first | (have B6 := Lib.hid (bstep B5.out b4); clear b4) | (have B4 := Lib.hid (bstep B3.out b4); clear b4)))
        go_ret
        exact ⟨rfl, Ba.out⟩
end Go.Proofs.YtjcelelgebohkaaGreatDoor
