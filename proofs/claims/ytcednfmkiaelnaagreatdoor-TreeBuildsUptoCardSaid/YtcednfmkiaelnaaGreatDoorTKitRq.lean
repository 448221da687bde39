/-
  Texts merged: RpTake, RpSumLaw, RpSum. What each law says and asks stands at its head.
-/
import Derived.Test.YtcednfmkiaelnaaGreatDoorTKitM
import Derived.Test.YtcednfmkiaelnaaGreatDoorTKitSu
namespace Go.Proofs.YtcednfmkiaelnaaGreatDoor
open Go.RowKit
set_option maxRecDepth 100000 in
set_option maxHeartbeats 8000000 in
theorem rtake_exact (w : World) (p cs9 : Nat) (s : List Nat) (rest : List Value) (A : Option Addr) (c : Nat) (l : List UInt8) (hp : Blk w p 179 (u32s s ++ rest).toArray) (hs : s.length = 8) (hlt : ∀ x ∈ s, x < 4294967296) (hA : SlT (fun _ => True) 5 w 1 A 32 (u8s l)) :
  Calls Tryz.prog 122 #[.slice (some ⟨p, 0, none⟩) 8 cs9, .slice A 32 c] w fun e w' => e = .returned (.tuple #[]) ∧ Blk w' p 179 (u32s (takeB s l) ++ rest).toArray ∧ Fr (fun k => k = p) w w' := by
 obtain ⟨i0, hi0, hz0, hz1, hz2⟩ := info_parts Tryz.infoU32
 obtain ⟨b, off, hAe, hbw⟩ : ∃ b off, A = some ⟨b, off, none⟩ ∧ b < w.heap.size := by
  obtain ⟨b, off, h1, h2, _⟩ := hA.sl.2 (by omega)
  exact ⟨b, off, h1, h2⟩
 subst hAe
 have hll : l.length = 32 := by have := hA.sl.1; simp [u8s] at this; omega
 have HP := Lib.hid hp
 have HA := Lib.hid hA
 have HL := Lib.hid hlt
 have Hs := Lib.hid hs
 have Hll := Lib.hid hll
 clear hp hA hlt hs hll
 go_enter Tryz.func122, Tryz.ntmps122
 go_wp2
 go_loopw [4, 5] (fun wv iv wr => ∃ (i co : Nat) (Ao : Option Addr), i ≤ 8 ∧ wv = .slice Ao i co ∧ iv = .int .i64 i ∧ Hid (Ow w wr 179 1 Ao i co (u32s (wordK9 l i)))) (fun _ v _ => 8 - (intOf v).toNat)
 case atStart => exact ⟨0, 0, none, Nat.zero_le _, rfl, rfl, Lib.hid (Ow.nil_ (Below.refl _ _))⟩
 case round =>
  obtain ⟨i, co, Ao, hi, rfl, rfl, hO⟩ := hrel
  by_cases hlt : i < 8
  ·have d1 : decide ((i : Int) < 8) = true := decide_eq_true (by omega)
   obtain ⟨j0, hj0⟩ : ∃ j0, j0 = 4 * i := ⟨_, rfl⟩
   obtain ⟨j1, hj1⟩ : ∃ j1, j1 = 4 * i + 1 := ⟨_, rfl⟩
   obtain ⟨j2, hj2⟩ : ∃ j2, j2 = 4 * i + 2 := ⟨_, rfl⟩
   obtain ⟨j3, hj3⟩ : ∃ j3, j3 = 4 * i + 3 := ⟨_, rfl⟩
   obtain ⟨c0, hc0⟩ : ∃ c0, c0 = l.getD j0 0 := ⟨_, rfl⟩
   obtain ⟨c1, hc1⟩ : ∃ c1, c1 = l.getD j1 0 := ⟨_, rfl⟩
   obtain ⟨c2, hc2⟩ : ∃ c2, c2 = l.getD j2 0 := ⟨_, rfl⟩
   obtain ⟨c3, hc3⟩ : ∃ c3, c3 = l.getD j3 0 := ⟨_, rfl⟩
   have HY : Hid (∀ V, Below w.heap.size w V → V.cell? ⟨b, off + j0, none⟩ = some (U8 c0) ∧ V.cell? ⟨b, off + j1, none⟩ = some (U8 c1) ∧ V.cell? ⟨b, off + j2, none⟩ = some (U8 c2) ∧ V.cell? ⟨b, off + j3, none⟩ = some (U8 c3)) := Lib.hid (fun V hV => by
    obtain ⟨b9, o9, e9, _, hcell⟩ := HA.out.sl.2 (by omega)
    cases e9
    have hll := Hll.out
    have hat : ∀ k, k < 32 → V.cell? ⟨b, off + k, none⟩ = some (U8 (l.getD k 0)) := fun k hk => by
     rw [World.cell?_of_block (hV.block b hbw), hcell k (by omega)]
     exact byte_val l k (by omega)
    exact ⟨by rw [hc0]; exact hat j0 (by omega), by rw [hc1]; exact hat j1 (by omega), by rw [hc2]; exact hat j2 (by omega), by rw [hc3]; exact hat j3 (by omega)⟩)
   obtain ⟨b0, hb0⟩ : ∃ b0, b0 = c0.toNat := ⟨_, rfl⟩
   obtain ⟨b1, hb1⟩ : ∃ b1, b1 = c1.toNat := ⟨_, rfl⟩
   obtain ⟨b2, hb2⟩ : ∃ b2, b2 = c2.toNat := ⟨_, rfl⟩
   obtain ⟨b3, hb3⟩ : ∃ b3, b3 = c3.toNat := ⟨_, rfl⟩
   have hl0 : b0 < 256 := by rw [hb0]; exact c0.toNat_lt
   have hl1 : b1 < 256 := by rw [hb1]; exact c1.toNat_lt
   have hl2 : b2 < 256 := by rw [hb2]; exact c2.toNat_lt
   have hl3 : b3 < 256 := by rw [hb3]; exact c3.toNat_lt
   obtain ⟨m1, hm1⟩ : ∃ m1, m1 = 256 * b1 := ⟨_, rfl⟩
   obtain ⟨m2, hm2⟩ : ∃ m2, m2 = 65536 * b2 := ⟨_, rfl⟩
   obtain ⟨m3, hm3⟩ : ∃ m3, m3 = 16777216 * b3 := ⟨_, rfl⟩
   obtain ⟨a1, ha1⟩ : ∃ a1, a1 = b0 + m1 := ⟨_, rfl⟩
   obtain ⟨a2, ha2⟩ : ∃ a2, a2 = a1 + m2 := ⟨_, rfl⟩
   obtain ⟨a3, ha3⟩ : ∃ a3, a3 = a2 + m3 := ⟨_, rfl⟩
   have hnum : a3 = num4 l (4 * i) := by
    rw [ha3, ha2, ha1, hm1, hm2, hm3, hb0, hb1, hb2, hb3, hc0, hc1, hc2, hc3, hj0, hj1, hj2, hj3]
    unfold num4
    omega
   have K0 : Hid (IntKind.i64.wrap (4 * (i : Int)) = (j0 : Int) ∧ wrap64 (4 * (i : Int)) = (j0 : Int)) := Lib.hid (wrap64_both _ _ (by omega) (by omega))
   have K1 : Hid (IntKind.i64.wrap ((j0 : Int) + 1) = (j1 : Int) ∧ wrap64 ((j0 : Int) + 1) = (j1 : Int)) := Lib.hid (wrap64_both _ _ (by omega) (by omega))
   have K2 : Hid (IntKind.i64.wrap ((j0 : Int) + 2) = (j2 : Int) ∧ wrap64 ((j0 : Int) + 2) = (j2 : Int)) := Lib.hid (wrap64_both _ _ (by omega) (by omega))
   have K3 : Hid (IntKind.i64.wrap ((j0 : Int) + 3) = (j3 : Int) ∧ wrap64 ((j0 : Int) + 3) = (j3 : Int)) := Lib.hid (wrap64_both _ _ (by omega) (by omega))
   have KC0 : Hid (IntKind.u32.wrap (c0.toNat : Int) = (b0 : Int) ∧ (c0.toNat : Int) % 4294967296 = (b0 : Int)) := Lib.hid (wrap32_both _ _ (by omega) (by omega))
   have KC1 : Hid (IntKind.u32.wrap (c1.toNat : Int) = (b1 : Int) ∧ (c1.toNat : Int) % 4294967296 = (b1 : Int)) := Lib.hid (wrap32_both _ _ (by omega) (by omega))
   have KC2 : Hid (IntKind.u32.wrap (c2.toNat : Int) = (b2 : Int) ∧ (c2.toNat : Int) % 4294967296 = (b2 : Int)) := Lib.hid (wrap32_both _ _ (by omega) (by omega))
   have KC3 : Hid (IntKind.u32.wrap (c3.toNat : Int) = (b3 : Int) ∧ (c3.toNat : Int) % 4294967296 = (b3 : Int)) := Lib.hid (wrap32_both _ _ (by omega) (by omega))
   have KM1 : Hid (IntKind.u32.wrap (256 * (b1 : Int)) = (m1 : Int) ∧ 256 * (b1 : Int) % 4294967296 = (m1 : Int)) := Lib.hid (wrap32_both _ _ (by omega) (by omega))
   have KM2 : Hid (IntKind.u32.wrap (65536 * (b2 : Int)) = (m2 : Int) ∧ 65536 * (b2 : Int) % 4294967296 = (m2 : Int)) := Lib.hid (wrap32_both _ _ (by omega) (by omega))
   have KM3 : Hid (IntKind.u32.wrap (16777216 * (b3 : Int)) = (m3 : Int) ∧ 16777216 * (b3 : Int) % 4294967296 = (m3 : Int)) := Lib.hid (wrap32_both _ _ (by omega) (by omega))
   have KA1 : Hid (IntKind.u32.wrap ((b0 : Int) + (m1 : Int)) = (a1 : Int) ∧ ((b0 : Int) + (m1 : Int)) % 4294967296 = (a1 : Int)) := Lib.hid (wrap32_both _ _ (by omega) (by omega))
   have KA2 : Hid (IntKind.u32.wrap ((a1 : Int) + (m2 : Int)) = (a2 : Int) ∧ ((a1 : Int) + (m2 : Int)) % 4294967296 = (a2 : Int)) := Lib.hid (wrap32_both _ _ (by omega) (by omega))
   have KA3 : Hid (IntKind.u32.wrap ((a2 : Int) + (m3 : Int)) = (a3 : Int) ∧ ((a2 : Int) + (m3 : Int)) % 4294967296 = (a3 : Int)) := Lib.hid (wrap32_both _ _ (by omega) (by omega))
   have hjn : (j0 : Int) < 32 ∧ (j1 : Int) < 32 ∧ (j2 : Int) < 32 ∧ (j3 : Int) < 32 := by omega
   obtain ⟨hn0, hn1, hn2, hn3⟩ := hjn
   obtain ⟨W, hW⟩ : ∃ W, W = wr := ⟨_, rfl⟩
   subst hW
   have HO6 := Lib.hid (hO.out.drew.alloc (.cells #[U32 a3] 179))
   have hS6 := sl_u32 W.drew 179 a3
   obtain ⟨A5, c5, w5, hrun, hO5, hg5, _⟩ := run_append_sl (P := Tryz.prog) _ w.heap.size 210 210 179 i0 _ 1 4 Tryz.underlying210 hi0 hz0 hz1 hz2 rfl (by decide) (.slice Ao i co) i (u32s (wordK9 l i)) HO6.out.1 _ 1 1 (u32s [a3]) hS6 (one_u32s _) (by simp only [maxLen]; omega) (by omega) HO6.out.2.size
   have hb5 : Below w.heap.size w w5 := HO6.out.2.grown hg5 HO6.out.2.size (fun k hk => (HO6.out.1.lt k hk).1)
   have HO5 : Hid (Ow w w5 179 1 A5 (i + 1) c5 (u32s (wordK9 l (i + 1)))) := Lib.hid (by
    rw [wordK9_succ, ← hnum, show u32s (wordK9 l i ++ [a3]) = u32s (wordK9 l i) ++ u32s [a3] by simp [u32s]]
    exact ⟨hO5, hb5⟩)
   have HBel := Lib.hid (CJ.bel (w0 := w) (W0 := W.drew) (W1 := W.drew.alloc (.cells #[U32 a3] 179)) (W2 := w5) hO.out.2.drew HO6.out.2 hb5)
   have Hrun := Lib.hid hrun
   clear hS6 hrun hO5 hg5 hb5 HO6 hj0 hj1 hj2 hj3 hc0 hc1 hc2 hc3 hb0 hb1 hb2 hb3 hm1 hm2 hm3 ha1 ha2 ha3 hnum hl0 hl1 hl2 hl3
   obtain ⟨gg9, hgg⟩ : ∃ gg9, gg9 = W.heap.size := ⟨_, rfl⟩
   have Hg := Lib.hid hgg
   clear hgg
   go_wp2
   refine wp_region_pairR (by kernel_rfl) 36 (by kernel_rfl) ?_ (fun q v => rt4Phi b off c i co gg9 c5 Ao A5 c0 c1 c2 c3 j0 j1 j2 j3 b0 b1 b2 b3 m1 m2 m3 a1 a2 a3 q v W) 34 35 (by kernel_rfl) (fun w w' => w' = w) (fun _ => rfl) (CJ W.drew (W.drew.alloc (.cells #[U32 a3] 179)) w5) CJ.step rfl (fun i9 o hi hi1 hi2 ho a w k' hk hk2 hs hm => ?_) (fun o ho a w hj hs hm => ?_) (fun o ho a w hj hs hm => ?_) (fun o ho a w hj hs hm => ?_)
   ·exact dst_ltC2 (n := 90) (by kernel_rfl)
   ·obtain ⟨y0, y1, y2, y3⟩ := HY.out w (HBel.out k' w hk)
    exact match i9, hi, ho, hi1, hi2 with
      | 0, _, ho, _, _ => by
        cases ho
        rw [if_pos (wanted_none _ rfl)]
        refine wp_value (st_move rfl ((hs.keeps (by kernel_rfl)).trans rfl)) ⟨_, rfl, rfl, rfl⟩
      | 1, _, ho, _, _ => by
        cases ho
        rw [if_pos (wanted_none _ rfl)]
        refine wp_value (st_move rfl ((hs.keeps (by kernel_rfl)).trans rfl)) ⟨_, rfl, rfl, rfl⟩
      | 2, _, ho, _, _ => by
        cases ho
        rw [if_pos (wanted_none _ rfl)]
        refine wp_value (st_move rfl ((hs.keeps (by kernel_rfl)).trans rfl)) ⟨_, rfl, rfl, rfl⟩
      | 3, _, ho, _, _ => by
        cases ho
        rw [if_pos (wanted_none _ rfl)]
        have h1 := eval_getD (hm.get 2 15 (by kernel_rfl)); unfold Oper.wp; simp only [execOp]; go_simp; (first | exact ⟨_, rfl, (by first | rfl | (show Value.int _ _ = Value.int _ _; first | rw [K0.out.1] | rw [K0.out.2]))⟩ | exact ⟨_, rfl, (by first | rfl | (show Value.int _ _ = Value.int _ _; first | rw [K0.out.1] | rw [K0.out.2])), rfl⟩)
      | 4, _, ho, _, _ => by
        cases ho
        rw [if_pos (wanted_none _ rfl)]
        have h1 := eval_getD (hm.get 1 14 (by kernel_rfl)); have h2 := eval_getD (hm.get 3 16 (by kernel_rfl)); unfold Oper.wp; simp only [execOp]; go_simp; (first | exact ⟨_, rfl, (rfl)⟩ | exact ⟨_, rfl, (rfl), rfl⟩)
      | 5, _, ho, _, _ => by
        cases ho
        rw [if_pos (wanted_none _ rfl)]
        have hx := y0; have h1 := eval_getD (hm.get 4 17 (by kernel_rfl)); unfold Oper.wp; simp only [execOp]; go_simp; (first | exact ⟨_, rfl, (rfl)⟩ | exact ⟨_, rfl, (rfl), rfl⟩)
      | 6, _, ho, _, _ => by
        cases ho
        rw [if_pos (wanted_none _ rfl)]
        have h1 := eval_getD (hm.get 5 18 (by kernel_rfl)); unfold Oper.wp; simp only [execOp]; go_simp; (first | exact ⟨_, rfl, (by first | rfl | (show Value.int _ _ = Value.int _ _; first | rw [KC0.out.1] | rw [KC0.out.2]))⟩ | exact ⟨_, rfl, (by first | rfl | (show Value.int _ _ = Value.int _ _; first | rw [KC0.out.1] | rw [KC0.out.2])), rfl⟩)
      | 7, _, ho, _, _ => by
        cases ho
        rw [if_pos (wanted_none _ rfl)]
        refine wp_value (st_move rfl ((hs.keeps (by kernel_rfl)).trans rfl)) ⟨_, rfl, rfl, rfl⟩
      | 8, _, ho, _, _ => by
        cases ho
        rw [if_pos (wanted_none _ rfl)]
        refine wp_value (st_move rfl ((hs.keeps (by kernel_rfl)).trans rfl)) ⟨_, rfl, rfl, rfl⟩
      | 9, _, ho, _, _ => by
        cases ho
        rw [if_pos (wanted_none _ rfl)]
        have h1 := eval_getD (hm.get 8 21 (by kernel_rfl)); unfold Oper.wp; simp only [execOp]; go_simp; (first | exact ⟨_, rfl, (by first | rfl | (show Value.int _ _ = Value.int _ _; first | rw [K0.out.1] | rw [K0.out.2]))⟩ | exact ⟨_, rfl, (by first | rfl | (show Value.int _ _ = Value.int _ _; first | rw [K0.out.1] | rw [K0.out.2])), rfl⟩)
      | 10, _, ho, _, _ => by
        cases ho
        rw [if_pos (wanted_none _ rfl)]
        have h1 := eval_getD (hm.get 9 22 (by kernel_rfl)); unfold Oper.wp; simp only [execOp]; go_simp; (first | exact ⟨_, rfl, (by first | rfl | (show Value.int _ _ = Value.int _ _; first | rw [K1.out.1] | rw [K1.out.2]))⟩ | exact ⟨_, rfl, (by first | rfl | (show Value.int _ _ = Value.int _ _; first | rw [K1.out.1] | rw [K1.out.2])), rfl⟩)
      | 11, _, ho, _, _ => by
        cases ho
        rw [if_pos (wanted_none _ rfl)]
        have h1 := eval_getD (hm.get 7 20 (by kernel_rfl)); have h2 := eval_getD (hm.get 10 23 (by kernel_rfl)); unfold Oper.wp; simp only [execOp]; go_simp; (first | exact ⟨_, rfl, (rfl)⟩ | exact ⟨_, rfl, (rfl), rfl⟩)
      | 12, _, ho, _, _ => by
        cases ho
        rw [if_pos (wanted_none _ rfl)]
        have hx := y1; have h1 := eval_getD (hm.get 11 24 (by kernel_rfl)); unfold Oper.wp; simp only [execOp]; go_simp; (first | exact ⟨_, rfl, (rfl)⟩ | exact ⟨_, rfl, (rfl), rfl⟩)
      | 13, _, ho, _, _ => by
        cases ho
        rw [if_pos (wanted_none _ rfl)]
        have h1 := eval_getD (hm.get 12 25 (by kernel_rfl)); unfold Oper.wp; simp only [execOp]; go_simp; (first | exact ⟨_, rfl, (by first | rfl | (show Value.int _ _ = Value.int _ _; first | rw [KC1.out.1] | rw [KC1.out.2]))⟩ | exact ⟨_, rfl, (by first | rfl | (show Value.int _ _ = Value.int _ _; first | rw [KC1.out.1] | rw [KC1.out.2])), rfl⟩)
      | 14, _, ho, _, _ => by
        cases ho
        rw [if_pos (wanted_none _ rfl)]
        have h1 := eval_getD (hm.get 13 26 (by kernel_rfl)); unfold Oper.wp; simp only [execOp]; go_simp; (first | exact ⟨_, rfl, (by first | rfl | (show Value.int _ _ = Value.int _ _; first | rw [KM1.out.1] | rw [KM1.out.2]))⟩ | exact ⟨_, rfl, (by first | rfl | (show Value.int _ _ = Value.int _ _; first | rw [KM1.out.1] | rw [KM1.out.2])), rfl⟩)
      | 15, _, ho, _, _ => by
        cases ho
        rw [if_pos (wanted_none _ rfl)]
        have h1 := eval_getD (hm.get 6 19 (by kernel_rfl)); have h2 := eval_getD (hm.get 14 27 (by kernel_rfl)); unfold Oper.wp; simp only [execOp]; go_simp; (first | exact ⟨_, rfl, (by first | rfl | (show Value.int _ _ = Value.int _ _; first | rw [KA1.out.1] | rw [KA1.out.2]))⟩ | exact ⟨_, rfl, (by first | rfl | (show Value.int _ _ = Value.int _ _; first | rw [KA1.out.1] | rw [KA1.out.2])), rfl⟩)
      | 16, _, ho, _, _ => by
        cases ho
        rw [if_pos (wanted_none _ rfl)]
        refine wp_value (st_move rfl ((hs.keeps (by kernel_rfl)).trans rfl)) ⟨_, rfl, rfl, rfl⟩
      | 17, _, ho, _, _ => by
        cases ho
        rw [if_pos (wanted_none _ rfl)]
        refine wp_value (st_move rfl ((hs.keeps (by kernel_rfl)).trans rfl)) ⟨_, rfl, rfl, rfl⟩
      | 18, _, ho, _, _ => by
        cases ho
        rw [if_pos (wanted_none _ rfl)]
        have h1 := eval_getD (hm.get 17 30 (by kernel_rfl)); unfold Oper.wp; simp only [execOp]; go_simp; (first | exact ⟨_, rfl, (by first | rfl | (show Value.int _ _ = Value.int _ _; first | rw [K0.out.1] | rw [K0.out.2]))⟩ | exact ⟨_, rfl, (by first | rfl | (show Value.int _ _ = Value.int _ _; first | rw [K0.out.1] | rw [K0.out.2])), rfl⟩)
      | 19, _, ho, _, _ => by
        cases ho
        rw [if_pos (wanted_none _ rfl)]
        have h1 := eval_getD (hm.get 18 31 (by kernel_rfl)); unfold Oper.wp; simp only [execOp]; go_simp; (first | exact ⟨_, rfl, (by first | rfl | (show Value.int _ _ = Value.int _ _; first | rw [K2.out.1] | rw [K2.out.2]))⟩ | exact ⟨_, rfl, (by first | rfl | (show Value.int _ _ = Value.int _ _; first | rw [K2.out.1] | rw [K2.out.2])), rfl⟩)
      | 20, _, ho, _, _ => by
        cases ho
        rw [if_pos (wanted_none _ rfl)]
        have h1 := eval_getD (hm.get 16 29 (by kernel_rfl)); have h2 := eval_getD (hm.get 19 32 (by kernel_rfl)); unfold Oper.wp; simp only [execOp]; go_simp; (first | exact ⟨_, rfl, (rfl)⟩ | exact ⟨_, rfl, (rfl), rfl⟩)
      | 21, _, ho, _, _ => by
        cases ho
        rw [if_pos (wanted_none _ rfl)]
        have hx := y2; have h1 := eval_getD (hm.get 20 33 (by kernel_rfl)); unfold Oper.wp; simp only [execOp]; go_simp; (first | exact ⟨_, rfl, (rfl)⟩ | exact ⟨_, rfl, (rfl), rfl⟩)
      | 22, _, ho, _, _ => by
        cases ho
        rw [if_pos (wanted_none _ rfl)]
        have h1 := eval_getD (hm.get 21 34 (by kernel_rfl)); unfold Oper.wp; simp only [execOp]; go_simp; (first | exact ⟨_, rfl, (by first | rfl | (show Value.int _ _ = Value.int _ _; first | rw [KC2.out.1] | rw [KC2.out.2]))⟩ | exact ⟨_, rfl, (by first | rfl | (show Value.int _ _ = Value.int _ _; first | rw [KC2.out.1] | rw [KC2.out.2])), rfl⟩)
      | 23, _, ho, _, _ => by
        cases ho
        rw [if_pos (wanted_none _ rfl)]
        have h1 := eval_getD (hm.get 22 35 (by kernel_rfl)); unfold Oper.wp; simp only [execOp]; go_simp; (first | exact ⟨_, rfl, (by first | rfl | (show Value.int _ _ = Value.int _ _; first | rw [KM2.out.1] | rw [KM2.out.2]))⟩ | exact ⟨_, rfl, (by first | rfl | (show Value.int _ _ = Value.int _ _; first | rw [KM2.out.1] | rw [KM2.out.2])), rfl⟩)
      | 24, _, ho, _, _ => by
        cases ho
        rw [if_pos (wanted_none _ rfl)]
        have h1 := eval_getD (hm.get 15 28 (by kernel_rfl)); have h2 := eval_getD (hm.get 23 36 (by kernel_rfl)); unfold Oper.wp; simp only [execOp]; go_simp; (first | exact ⟨_, rfl, (by first | rfl | (show Value.int _ _ = Value.int _ _; first | rw [KA2.out.1] | rw [KA2.out.2]))⟩ | exact ⟨_, rfl, (by first | rfl | (show Value.int _ _ = Value.int _ _; first | rw [KA2.out.1] | rw [KA2.out.2])), rfl⟩)
      | 25, _, ho, _, _ => by
        cases ho
        rw [if_pos (wanted_none _ rfl)]
        refine wp_value (st_move rfl ((hs.keeps (by kernel_rfl)).trans rfl)) ⟨_, rfl, rfl, rfl⟩
      | 26, _, ho, _, _ => by
        cases ho
        rw [if_pos (wanted_none _ rfl)]
        refine wp_value (st_move rfl ((hs.keeps (by kernel_rfl)).trans rfl)) ⟨_, rfl, rfl, rfl⟩
      | 27, _, ho, _, _ => by
        cases ho
        rw [if_pos (wanted_none _ rfl)]
        have h1 := eval_getD (hm.get 26 39 (by kernel_rfl)); unfold Oper.wp; simp only [execOp]; go_simp; (first | exact ⟨_, rfl, (by first | rfl | (show Value.int _ _ = Value.int _ _; first | rw [K0.out.1] | rw [K0.out.2]))⟩ | exact ⟨_, rfl, (by first | rfl | (show Value.int _ _ = Value.int _ _; first | rw [K0.out.1] | rw [K0.out.2])), rfl⟩)
      | 28, _, ho, _, _ => by
        cases ho
        rw [if_pos (wanted_none _ rfl)]
        have h1 := eval_getD (hm.get 27 40 (by kernel_rfl)); unfold Oper.wp; simp only [execOp]; go_simp; (first | exact ⟨_, rfl, (by first | rfl | (show Value.int _ _ = Value.int _ _; first | rw [K3.out.1] | rw [K3.out.2]))⟩ | exact ⟨_, rfl, (by first | rfl | (show Value.int _ _ = Value.int _ _; first | rw [K3.out.1] | rw [K3.out.2])), rfl⟩)
      | 29, _, ho, _, _ => by
        cases ho
        rw [if_pos (wanted_none _ rfl)]
        have h1 := eval_getD (hm.get 25 38 (by kernel_rfl)); have h2 := eval_getD (hm.get 28 41 (by kernel_rfl)); unfold Oper.wp; simp only [execOp]; go_simp; (first | exact ⟨_, rfl, (rfl)⟩ | exact ⟨_, rfl, (rfl), rfl⟩)
      | 30, _, ho, _, _ => by
        cases ho
        rw [if_pos (wanted_none _ rfl)]
        have hx := y3; have h1 := eval_getD (hm.get 29 42 (by kernel_rfl)); unfold Oper.wp; simp only [execOp]; go_simp; (first | exact ⟨_, rfl, (rfl)⟩ | exact ⟨_, rfl, (rfl), rfl⟩)
      | 31, _, ho, _, _ => by
        cases ho
        rw [if_pos (wanted_none _ rfl)]
        have h1 := eval_getD (hm.get 30 43 (by kernel_rfl)); unfold Oper.wp; simp only [execOp]; go_simp; (first | exact ⟨_, rfl, (by first | rfl | (show Value.int _ _ = Value.int _ _; first | rw [KC3.out.1] | rw [KC3.out.2]))⟩ | exact ⟨_, rfl, (by first | rfl | (show Value.int _ _ = Value.int _ _; first | rw [KC3.out.1] | rw [KC3.out.2])), rfl⟩)
      | 32, _, ho, _, _ => by
        cases ho
        rw [if_pos (wanted_none _ rfl)]
        have h1 := eval_getD (hm.get 31 44 (by kernel_rfl)); unfold Oper.wp; simp only [execOp]; go_simp; (first | exact ⟨_, rfl, (by first | rfl | (show Value.int _ _ = Value.int _ _; first | rw [KM3.out.1] | rw [KM3.out.2]))⟩ | exact ⟨_, rfl, (by first | rfl | (show Value.int _ _ = Value.int _ _; first | rw [KM3.out.1] | rw [KM3.out.2])), rfl⟩)
      | 33, _, ho, _, _ => by
        cases ho
        rw [if_pos (wanted_none _ rfl)]
        have h1 := eval_getD (hm.get 24 37 (by kernel_rfl)); have h2 := eval_getD (hm.get 32 45 (by kernel_rfl)); unfold Oper.wp; simp only [execOp]; go_simp; (first | exact ⟨_, rfl, (by first | rfl | (show Value.int _ _ = Value.int _ _; first | rw [KA3.out.1] | rw [KA3.out.2]))⟩ | exact ⟨_, rfl, (by first | rfl | (show Value.int _ _ = Value.int _ _; first | rw [KA3.out.1] | rw [KA3.out.2])), rfl⟩)
      | 34, _, _, h, _ => absurd rfl h
      | 35, _, _, _, h => absurd rfl h
      | (n + 36), hi, _, _, _ => absurd hi (by omega)

   ·cases ho
    obtain rfl : w = W.drew := hj
    have h1 := eval_getD (hm.get 33 46 (by kernel_rfl))
    unfold Oper.wp
    simp only [execOp]
    go_simp
    exact ⟨_, rfl, show Value.slice _ _ _ = Value.slice _ _ _ by rw [Hg.out], rfl⟩
   ·have hj1 : w = W.drew.alloc (.cells #[U32 a3] 179) := hj
    subst hj1
    obtain ⟨h1, h2, h3, h4, h5⟩ : a.eval (.tmp 13) = .slice Ao i co ∧ a.eval (.tmp 47) = .slice (some ⟨gg9, 0, none⟩) 1 1 ∧ o.op = .call { callee := .builtin .append, args := #[.tmp 13, .tmp 47], argTypes := #[210, 210] } ∧ o.dst = some 48 ∧ o.type = 210 := by
     cases ho
     exact ⟨hm.get 0 13 (by kernel_rfl), hm.get 34 47 (by kernel_rfl), rfl, rfl, rfl⟩
    rw [Hg.out] at h2
    have hr := Hrun.out
    simp only [World.size_drew] at hr
    unfold Oper.wp execOp
    simp only [h3, h5, resolve, invoke, builtin, Sem.run_bind, Sem.run_pure, Result.andThen_ok, List.map_toArray, List.map_cons, List.map_nil, h1, h2, hr]
    exact ⟨_, rfl, rfl, rfl⟩
   ·have e1 : a.eval (.tmp 48) = .slice A5 (i + 1) c5 := by cases ho; exact hm.get 35 48 (by kernel_rfl)
    have hfr := hs.frame [13, 14, 15, 16, 17, 18, 19, 20, 21, 22, 23, 24, 25, 26, 27, 28, 29, 30, 31, 32, 33, 34, 35, 36, 37, 38, 39, 40, 41, 42, 43, 44, 45, 46, 47, 48] (by kernel_rfl)
    cases ho
    obtain rfl : w = w5 := hj
    rw [hfr]
    simp only [List.foldl_cons, List.foldl_nil, e1]
    clear hfr hs hm e1
    generalize a.eval (.tmp 13) = u13, a.eval (.tmp 14) = u14, a.eval (.tmp 15) = u15, a.eval (.tmp 16) = u16, a.eval (.tmp 17) = u17, a.eval (.tmp 18) = u18, a.eval (.tmp 19) = u19, a.eval (.tmp 20) = u20, a.eval (.tmp 21) = u21, a.eval (.tmp 22) = u22, a.eval (.tmp 23) = u23, a.eval (.tmp 24) = u24, a.eval (.tmp 25) = u25, a.eval (.tmp 26) = u26, a.eval (.tmp 27) = u27, a.eval (.tmp 28) = u28, a.eval (.tmp 29) = u29, a.eval (.tmp 30) = u30, a.eval (.tmp 31) = u31, a.eval (.tmp 32) = u32, a.eval (.tmp 33) = u33, a.eval (.tmp 34) = u34, a.eval (.tmp 35) = u35, a.eval (.tmp 36) = u36, a.eval (.tmp 37) = u37, a.eval (.tmp 38) = u38, a.eval (.tmp 39) = u39, a.eval (.tmp 40) = u40, a.eval (.tmp 41) = u41, a.eval (.tmp 42) = u42, a.eval (.tmp 43) = u43, a.eval (.tmp 44) = u44, a.eval (.tmp 45) = u45, a.eval (.tmp 46) = u46, a.eval (.tmp 47) = u47
    unfold Oper.wp
    simp only [execOp]
    go_simp
    clear a
    go_wp2
    go_roundw
    case rel => exact ⟨i + 1, c5, A5, hlt, rfl, by go_num, HO5⟩
    case measure => simp [intOf]; omega
  ·obtain rfl : i = 8 := by omega
   obtain ⟨W, hW⟩ : ∃ W, W = wordK9 l 8 := ⟨_, rfl⟩
   have hWl : W.length = 8 := by rw [hW]; exact wordK9_len l 8
   have hWb : ∀ x ∈ W, x < 4294967296 := by rw [hW]; exact wordK9_lt l 8
   rw [← hW] at hO
   obtain ⟨g, hAo, hg0, hg1⟩ := hO.out.form (by omega)
   subst hAo
   have hwr := hO.out.2
   obtain ⟨rest2, hG⟩ : ∃ rest2, Blk wr g 179 (u32s W ++ rest2).toArray := by
    rcases hO.out.1.2 with ⟨h, _⟩ | ⟨g', cap, cur, hv, _, hb, _, _, hsz, htk⟩
    ·cases h
    ·injection hv with e1 e2 e3
     injection e1 with e1
     injection e1 with e1
     subst e1
     refine ⟨cur.toList.drop 8, ?_⟩
     unfold Blk
     rw [← show cur.toList.take (8 * 1) = u32s W from htk, List.take_append_drop]
     simpa using hb
   have HP2 := Lib.hid (HP.out.step hwr)
   have HF2 : Hid (Fr (fun k => k = p) w wr) := Lib.hid (.of_below hwr)
   have hgp : g ≠ p := fun e => by have := HP.out.lt; omega
   have Hgp := Lib.hid hgp
   have HWl := Lib.hid hWl
   have HWe : Hid (W = wordsOf l) := Lib.hid hW
   have HWb := Lib.hid hWb
   have H1g := Lib.hid hG
   clear hW hWl hWb hg0 hg1 hwr hG hgp hO HA hi
   go_wp2
   go_loopw [6, 7, 8] (fun s21 _ _ wr => ∃ r : Nat, r ≤ 8 ∧ s21 = .int .i64 r ∧ Hid (Blk wr g 179 (u32s W ++ rest2).toArray) ∧ Hid (Blk wr p 179 (u32s (stepsW W s (8 * r)) ++ rest).toArray) ∧ Hid (Fr (fun k => k = p) w wr)) (fun s21 _ _ _ => 8 - (intOf s21).toNat)
   case atStart => exact ⟨0, by omega, rfl, H1g, HP2, HF2⟩
   case round =>
    obtain ⟨r, hr, rfl, G1, P1, F1⟩ := hrel
    by_cases hlt : r < 8
    ·have hd22 : decide ((r : Int) < 8) = true := decide_eq_true (by omega)
     go_wp2
     go_loopw [7, 8] (fun s24 _ wr => ∃ j : Nat, j ≤ 8 ∧ s24 = .int .i64 j ∧ Hid (Blk wr g 179 (u32s W ++ rest2).toArray) ∧ Hid (Blk wr p 179 (u32s (stepsW W s (8 * r + j)) ++ rest).toArray) ∧ Hid (Fr (fun k => k = p) w wr)) (fun s24 _ _ => 8 - (intOf s24).toNat)
     case atStart => exact ⟨0, by omega, rfl, G1, P1, F1⟩
     case round =>
      obtain ⟨j, hj, rfl, G2, P2, F2⟩ := hrel
      by_cases hlt2 : j < 8
      ·obtain ⟨st, hst⟩ : ∃ st, st = stepsW W s (8 * r + j) := ⟨_, rfl⟩
       have Hst := Lib.hid hst
       have hsl : st.length = 8 := by rw [hst, stepsW_len]; exact Hs.out
       have hsb : ∀ x ∈ st, x < 4294967296 := by rw [hst]; exact stepsW_lt HL.out _
       rw [← hst] at P2
       obtain ⟨m, hm⟩ : ∃ m, m = (j + r) % 8 := ⟨_, rfl⟩
       obtain ⟨m2, hm2⟩ : ∃ m2, m2 = (j + 1) % 8 := ⟨_, rfl⟩
       obtain ⟨a, ha⟩ : ∃ a, a = st.getD j 0 := ⟨_, rfl⟩
       obtain ⟨b, hb⟩ : ∃ b, b = W.getD m 0 := ⟨_, rfl⟩
       obtain ⟨d, hd⟩ : ∃ d, d = st.getD m2 0 := ⟨_, rfl⟩
       have ca : wr.cell? ⟨p, j, none⟩ = some (U32 a) := by rw [P2.out.cell j, u32s_at (by rw [hsl]; exact hlt2), ← ha]
       have cb : wr.cell? ⟨g, m, none⟩ = some (U32 b) := by rw [G2.out.cell m, u32s_at (by rw [HWl.out, hm]; omega), ← hb]
       have cd : wr.cell? ⟨p, m2, none⟩ = some (U32 d) := by rw [P2.out.cell m2, u32s_at (by rw [hsl, hm2]; omega), ← hd]
       have hal : a < 4294967296 := by rw [ha]; exact getD_lt hsb j
       have hbl : b < 4294967296 := by rw [hb]; exact getD_lt HWb.out m
       have hdl : d < 4294967296 := by rw [hd]; exact getD_lt hsb m2
       have hxl : a ^^^ b < 4294967296 := Nat.xor_lt_two_pow (n := 32) hal hbl
       have hxo := xor32 a b hal hbl
       have e1 : IntKind.i64.wrap ((j : Int) + (r : Int)) = (j : Int) + (r : Int) := IntWalk.i64_in _ (by omega)
       have e2 : ((j : Int) + (r : Int)).tmod 8 = (m : Int) := by rw [Int.tmod_eq_emod_of_nonneg (by omega)]; omega
       have e3 : IntKind.i64.wrap (3 * (j : Int)) = 3 * (j : Int) := IntWalk.i64_in _ (by omega)
       have e4 : IntKind.i64.wrap (5 + 3 * (j : Int)) = 5 + 3 * (j : Int) := IntWalk.i64_in _ (by omega)
       have CR' : Hid (∀ W', Calls Tryz.prog 183 #[U32 (a ^^^ b), I (5 + 3 * (j : Int))] W' fun e w' => e = .returned (U32 (rot32 (a ^^^ b) (5 + 3 * j))) ∧ ∃ m, w' = W'.drewN m) := Lib.hid (fun W' => by
        have := rturned_any (a ^^^ b) (5 + 3 * j) W' hxl (by omega) (by omega)
        simpa using this)
       have hm8 : (m : Int) < 8 := by omega
       have hm28 : (m2 : Int) < 8 := by omega
       have Hmm := Lib.hid (And.intro hm hm2)
       have Ha := Lib.hid ha
       have Hb := Lib.hid hb
       have Hd := Lib.hid hd
       clear hm hm2 ha hb hd hst
       go_wp2
       go_quiet ((go_at_call 183; exact Calls.quiet_of (CR'.out _)))
       have e5 : IntKind.i64.wrap ((j : Int) + 1) = (j : Int) + 1 := IntWalk.i64_in _ (by omega)
       have e6 : ((j : Int) + 1).tmod 8 = (m2 : Int) := by rw [Int.tmod_eq_emod_of_nonneg (by omega)]; have := Hmm.out.2; omega
       obtain ⟨X, hX⟩ : ∃ X, X = rot32 (a ^^^ b) (5 + 3 * j) := ⟨_, rfl⟩
       have HX := Lib.hid hX
       rw [← hX]
       clear hX CR' e2 e3 e4 hxo cb
       obtain ⟨wq, hwq⟩ : ∃ wq, wq = wr.drewN nq := ⟨_, rfl⟩
       have P3 : Hid (Blk wq p 179 (u32s st ++ rest).toArray) := Lib.hid (by rw [hwq]; exact P2.out.drewN nq)
       have G3 : Hid (Blk wq g 179 (u32s W ++ rest2).toArray) := Lib.hid (by rw [hwq]; exact G2.out.drewN nq)
       have F3 : Hid (Fr (fun k => k = p) w wq) := Lib.hid (by rw [hwq]; exact F2.out.drewN nq)
       have da : wq.cell? ⟨p, j, none⟩ = some (U32 a) := by rw [hwq]; exact ca
       have dd : wq.cell? ⟨p, m2, none⟩ = some (U32 d) := by rw [hwq]; exact cd
       have df := P3.out.frozen
       rw [← hwq]
       clear hwq ca cd
       go_wp2
       go_roundw
       case rel =>
        have h1 := P3.out.set_ j (U32 ((X + d * 2246822507 + (j + r)) % 4294967296))
        have h2 := u32s_set st j ((X + d * 2246822507 + (j + r)) % 4294967296) rest
        rw [if_pos (by rw [hsl]; exact hlt2)] at h2
        rw [h2] at h1
        have h3 : st.set j ((X + d * 2246822507 + (j + r)) % 4294967296) = stepsW W s (8 * r + (j + 1)) := by
         show _ = stepW W ((8 * r + j) / 8) ((8 * r + j) % 8) (stepsW W s (8 * r + j))
         rw [← Hst.out]
         unfold stepW
         rw [show (8 * r + j) / 8 = r by omega, show (8 * r + j) % 8 = j by omega, HX.out, Ha.out, Hb.out, Hd.out, Hmm.out.1, Hmm.out.2]
        rw [h3] at h1
        have em : ((X : Int) + (d : Int) * 2246822507 + ((j : Int) + (r : Int))) % 4294967296 = (((X + d * 2246822507 + (j + r)) % 4294967296 : Nat) : Int) := by omega
        rw [em]
        exact ⟨j + 1, hlt2, by go_num, Lib.hid (G3.out.far (by exact Hgp.out) _), Lib.hid h1, Lib.hid (F3.out.setCell (p := ⟨p, j, none⟩) rfl _)⟩
       case measure => simp [intOf]; omega
      ·obtain rfl : j = 8 := by omega
       go_wp2
       go_roundw
       case rel => exact ⟨r + 1, hlt, by go_num, G2, Lib.hid (by have := P2.out; rwa [show 8 * r + 8 = 8 * (r + 1) by omega] at this), F2⟩
       case measure => simp [intOf]; omega
    ·obtain rfl : r = 8 := by omega
     go_wp2
     go_end0
     exact ⟨rfl, by have h9 := P1.out; rw [HWe.out] at h9; exact h9, F1.out⟩
end Go.Proofs.YtcednfmkiaelnaaGreatDoor
namespace Go.Proofs.YtcednfmkiaelnaaGreatDoor
theorem absorb_app : ∀ (b t : List UInt8) (s : List Nat), absorb s (b ++ t) = absorb (absorb s b).1 ((absorb s b).2 ++ t) := by
 intro b
 induction h : b.length using Nat.strongRecOn generalizing b with
 | ind n ih =>
  intro t s
  by_cases h2 : 32 ≤ b.length
  ·rw [absorb_big (b := b ++ t) (by rw [List.length_append]; omega), absorb_big h2, List.take_append_of_le_length h2, List.drop_append_of_le_length h2]
   exact ih (b.drop 32).length (by rw [List.length_drop]; omega) (b.drop 32) rfl t _
  ·rw [absorb_small (b := b) (by omega)]
theorem absorb_mod : ∀ (b : List UInt8) (s : List Nat), (absorb s b).2.length = b.length % 32 := by
 intro b
 induction h : b.length using Nat.strongRecOn generalizing b with
 | ind n ih =>
  intro s
  by_cases h2 : 32 ≤ b.length
  ·rw [absorb_big h2, ih (b.drop 32).length (by rw [List.length_drop]; omega) (b.drop 32) rfl, List.length_drop]
   omega
  ·rw [absorb_small (by omega)]
   show b.length = _
   omega
theorem pad_mod (n t : Nat) : padOf (n % 32) t = padOf n t := by
 unfold padOf padLen
 rw [Nat.mod_mod]
theorem sum_plain {b : List UInt8} (h : b.length < 18446744073709551616) : sumL b = ((absorb firstS (b ++ padOf b.length b.length)).1.map (fun x => leBytes x 4)).flatten := by
 rw [absorb_app]
 show ((absorb (absorb firstS b).1 ((absorb firstS b).2 ++ padOf (absorb firstS b).2.length (b.length % 18446744073709551616))).1.map (fun x => leBytes x 4)).flatten = _
 rw [absorb_mod, pad_mod, Nat.mod_eq_of_lt h]
end Go.Proofs.YtcednfmkiaelnaaGreatDoor
namespace Go.Proofs.YtcednfmkiaelnaaGreatDoor
open Go.RowKit
theorem of_toNat (c : UInt8) (r : Nat) (h : (r : Int) = (c.toNat : Int)) : c = UInt8.ofNat r := by
 have h1 : r = c.toNat := by omega
 rw [h1, UInt8.ofNat_toNat]
set_option maxRecDepth 100000 in
set_option maxHeartbeats 8000000 in
theorem rsum_exact (A : Option Addr) (n c : Nat) (l : List UInt8) (w : World) (hA : Sl w 1 A n (u8s l)) (hn : n ≤ 1100000) :
  Calls Tryz.prog 73 #[.slice A n c] w fun e w' => e = .returned (S (sumL l)) ∧ Below w.heap.size w w' := by
 obtain ⟨i0, hi0, hz0, hz1, hz2⟩ := info_parts Tryz.infoU8
 obtain ⟨j0, hj0, hy0, hy1, hy2⟩ := info_parts Tryz.infoU32
 have HA := Lib.hid hA
 have Hln : Hid (l.length = n) := Lib.hid (u8s_len hA)
 clear hA
 have q1 : 0 + n ≤ maxLen := by simp only [maxLen]; omega
 have q2 : (0 + n) * 1 ≤ 140737488355328 := by omega
 have q3 : 0 + n + 1 ≤ maxLen := by simp only [maxLen]; omega
 have q4 : (0 + n + 1) * 1 ≤ 140737488355328 := by omega
 go_enter Tryz.func73, Tryz.ntmps73
 go_wp2_with (first
  | (at_builtin; refine wpList_append_sl _ rfl (.tmp 12) (.tmp 13) _ rfl w 5 i0 _ 1 1 Tryz.underlying38 hi0 hz0 hz1 hz2 rfl Nat.one_pos none 0 0 [] rfl (Ow.nil_ (Below.refl _ w)) A n c (u8s l) rfl HA.out (one_u8s l) q1 q2 ?_; intro A1 c1 w1 hO1 hg1 hat1; have HO1 := Lib.hid (hO1.alloc (.cells #[U8 1] 5)); clear hO1 hg1 hat1)
  | (at_builtin; refine wpList_append_sl _ rfl (.tmp 15) (.tmp 16) _ rfl w 5 i0 _ 1 1 Tryz.underlying38 hi0 hz0 hz1 hz2 rfl Nat.one_pos A1 (0 + n) c1 _ (by rw [Nat.zero_add]; rfl) HO1.out _ 1 _ (u8s [1]) rfl (sl_byte w1 5 1) (one_u8s _) q3 q4 ?_; intro A2 c2 w2 hO2 hg2 hat2; have HO2 : Hid (Ow w w2 5 1 A2 (n + 1) c2 (u8s (l ++ [1]))) := Lib.hid (by rw [u8s_two]; simpa using hO2); clear hO2 hg2 hat2))
 obtain ⟨K0, hK0⟩ : ∃ K0, K0 = (n + 1) + (56 - (n + 1) % 32) % 32 := ⟨_, rfl⟩
 have hKm : K0 % 32 = 24 ∧ K0 ≤ 1200000 := by omega
 obtain ⟨hKm, hKl⟩ := hKm
 have HK0 := Lib.hid hK0
 clear hK0
 go_loopw [3] (fun v wr => ∃ (k cA : Nat) (Aa : Option Addr) (bs : List UInt8), v = .slice Aa k cA ∧ k + (56 - k % 32) % 32 = K0 ∧ Hid (Ow w wr 5 1 Aa k cA (u8s bs)) ∧ Hid (∃ j, k = n + 1 + j ∧ bs = l ++ [1] ++ List.replicate j 0)) (fun v _ => (56 - slLen v % 32) % 32)
 case atStart => exact ⟨n + 1, c2, A2, _, by simp, HK0.out.symm, HO2, Lib.hid ⟨0, rfl, by simp⟩⟩
 case round =>
  obtain ⟨k, cA, Aa, bs, rfl, hk, hO, hE1⟩ := hrel
  obtain ⟨m, hm⟩ : ∃ m, m = k % 32 := ⟨_, rfl⟩
  have e1 : (k : Int).tmod 32 = (m : Int) := by rw [Int.tmod_eq_emod_of_nonneg (by omega)]; omega
  by_cases hgo : m = 24
  ·have d1 : ((m : Int) != 24) = false := by rw [hgo]; rfl
   obtain rfl : k = K0 := by omega
   have HP1 : Hid (bs = l ++ [1] ++ List.replicate (padLen n) 0) := Lib.hid (by
    obtain ⟨j, h1, h2⟩ := hE1.out
    have h3 := HK0.out
    rw [h2, show padLen n = j by unfold padLen; omega])
   clear hm hgo hk
   go_wp2
   go_loopw [3, 4, 5] (fun v x iv wr => ∃ (j cA y : Nat) (Aa : Option Addr) (bs : List UInt8), j ≤ 8 ∧ v = .slice Aa (k + j) cA ∧ x = .int .u64 y ∧ iv = .int .i64 j ∧ Hid (y < 18446744073709551616) ∧ Hid (Ow w wr 5 1 Aa (k + j) cA (u8s bs)) ∧ Hid (bs ++ leBytes y (8 - j) = l ++ [1] ++ List.replicate (padLen n) 0 ++ leBytes n 8)) (fun _ _ iv _ => 8 - (intOf iv).toNat)
   case atStart => exact ⟨0, cA, n, Aa, bs, by omega, rfl, rfl, rfl, Lib.hid (by omega), hO, Lib.hid (by rw [HP1.out])⟩
   case round =>
    obtain ⟨j, cA, y, Aa, bs, hj, rfl, rfl, rfl, hy, hO, hE2⟩ := hrel
    by_cases hlt : j < 8
    ·have d1 : decide ((j : Int) < 8) = true := decide_eq_true (by omega)
     obtain ⟨b, hb⟩ : ∃ b : UInt8, (y : Int) % 256 = (b.toNat : Int) := ⟨UInt8.ofNat (y % 256), by simp⟩
     have HBE : Hid (bs ++ [b] ++ leBytes (y / 256) (8 - (j + 1)) = l ++ [1] ++ List.replicate (padLen n) 0 ++ leBytes n 8) := Lib.hid (by
      have h := hE2.out
      rw [show 8 - j = 8 - (j + 1) + 1 by omega, leBytes] at h
      rw [of_toNat b (y % 256) (by omega), ← h, List.append_assoc]
      rfl)
     have HO6 := Lib.hid (hO.out.alloc (.cells #[U8 b] 5))
     have ew : IntKind.u64.wrap ((y : Int) / 256) = ((y / 256 : Nat) : Int) := wrapN64 (y / 256) (by have := hy.out; omega)
     have HY : Hid (y / 256 < 18446744073709551616) := Lib.hid (by have := hy.out; omega)
     have q5 : k + j + 1 ≤ maxLen := by simp only [maxLen]; omega
     have q6 : (k + j + 1) * 1 ≤ 140737488355328 := by omega
     go_wp2_with (at_builtin; refine wpList_append_sl _ rfl (.tmp 32) (.tmp 36) _ rfl w 5 i0 _ 1 1 Tryz.underlying38 hi0 hz0 hz1 hz2 rfl Nat.one_pos Aa (k + j) cA _ rfl HO6.out _ 1 _ (u8s [b]) rfl (sl_byte wr 5 b) (one_u8s _) q5 q6 ?_; intro A5 c5 w5 hO5 hg5 hat5; have HO5 : Hid (Ow w w5 5 1 A5 (k + j + 1) c5 (u8s (bs ++ [b]))) := Lib.hid (by rw [u8s_two]; exact hO5); clear hO5 hg5 hat5)
     go_roundw
     case rel => exact ⟨j + 1, c5, y / 256, A5, _, hlt, rfl, rfl, by go_num, HY, HO5, HBE⟩
     case measure => simp [intOf]; omega
    ·obtain rfl : j = 8 := by omega
     have HP2 : Hid (bs = l ++ [1] ++ List.replicate (padLen n) 0 ++ leBytes n 8) := Lib.hid (by have h := hE2.out; rw [Nat.sub_self, leBytes, List.append_nil] at h; exact h)
     obtain ⟨k8, hk8⟩ : ∃ k8, k8 = k + 8 := ⟨_, rfl⟩
     rw [← hk8] at hO
     have hkm : k8 % 32 = 0 ∧ k8 ≤ 1200008 := by omega
     obtain ⟨hkm, hkl⟩ := hkm
     rw [← hk8]
     clear hk8
     go_wp2
     go_loopw [3, 6] (fun v iv wr => ∃ (j cA : Nat) (Aa : Option Addr) (bs : List UInt8), j ≤ 32 ∧ v = .slice Aa (k8 + j) cA ∧ iv = .int .i64 j ∧ Hid (Ow w wr 5 1 Aa (k8 + j) cA (u8s bs)) ∧ Hid (bs = l ++ [1] ++ List.replicate (padLen n) 0 ++ leBytes n 8 ++ List.replicate j 0)) (fun _ iv _ => 32 - (intOf iv).toNat)
     case atStart => exact ⟨0, cA, Aa, bs, by omega, rfl, rfl, hO, Lib.hid (by rw [HP2.out]; simp)⟩
     case round =>
      obtain ⟨j, cA, Aa, bs, hj, rfl, rfl, hO, hE3⟩ := hrel
      by_cases hlt : j < 32
      ·have d1 : decide ((j : Int) < 32) = true := decide_eq_true (by omega)
       have HO6 := Lib.hid (hO.out.alloc (.cells #[U8 0] 5))
       have q5 : k8 + j + 1 ≤ maxLen := by simp only [maxLen]; omega
       have q6 : (k8 + j + 1) * 1 ≤ 140737488355328 := by omega
       go_wp2_with (at_builtin; refine wpList_append_sl _ rfl (.tmp 44) (.tmp 45) _ rfl w 5 i0 _ 1 1 Tryz.underlying38 hi0 hz0 hz1 hz2 rfl Nat.one_pos Aa (k8 + j) cA _ rfl HO6.out _ 1 _ (u8s [0]) rfl (sl_byte wr 5 0) (one_u8s _) q5 q6 ?_; intro A5 c5 w5 hO5 hg5 hat5; have HO5 : Hid (Ow w w5 5 1 A5 (k8 + j + 1) c5 (u8s (bs ++ [0]))) := Lib.hid (by rw [u8s_two]; exact hO5); clear hO5 hg5 hat5)
       go_roundw
       case rel =>
        (repeat apply Exists.intro)
        exact ⟨⟨j + 1, c5, A5, _, hlt, rfl, by go_num, HO5, Lib.hid (by rw [hE3.out, List.replicate_succ', ← List.append_assoc])⟩, rfl⟩
       case measure => simp [intOf]; omega
      ·obtain rfl : j = 32 := by omega
       have HP3 : Hid (bs = l ++ padOf n n) := Lib.hid (by rw [hE3.out]; unfold padOf; simp only [List.append_assoc])
       obtain ⟨T, hT⟩ : ∃ T, T = k8 + 32 := ⟨_, rfl⟩
       rw [← hT] at hO
       have hTm : T % 32 = 0 ∧ T ≤ 1200040 ∧ 0 < T := by omega
       obtain ⟨hTm, hTl, hT0⟩ := hTm
       rw [← hT]
       clear hT hkm hkl
       obtain ⟨wa, hwa⟩ : ∃ wa, wa = wr := ⟨_, rfl⟩
       subst hwa
       go_wp2
       go_loopw [7, 8] (fun v iv W => ∃ (j cs9 : Nat) (As : Option Addr) (s : List Nat), j ≤ 8 ∧ v = .slice As j cs9 ∧ iv = .int .i64 j ∧ Hid (s.length = j ∧ ∀ x ∈ s, x < 4294967296) ∧ Hid (Ow wa W 179 1 As j cs9 (u32s s)) ∧ Hid (s = (List.range j).map fun i => (i + 1) * 2654435769 % two32)) (fun _ iv _ => 8 - (intOf iv).toNat)
       case atStart => exact ⟨0, 0, none, [], by omega, rfl, rfl, Lib.hid ⟨rfl, by simp⟩, Lib.hid (Ow.nil_ (Below.refl _ _)), Lib.hid rfl⟩
       case round =>
        obtain ⟨j, cs9, As, s, hj, rfl, rfl, hs, hOs, hE4⟩ := hrel
        by_cases hlt : j < 8
        ·have d1 : decide ((j : Int) < 8) = true := decide_eq_true (by omega)
         obtain ⟨x, hx⟩ : ∃ x : Nat, x = (j + 1) * 2654435769 % 4294967296 := ⟨_, rfl⟩
         have hx2 : ((j : Int) + 1) * 2654435769 % 4294967296 = (x : Int) := by omega
         have hxl : x < 4294967296 := by omega
         have HX : Hid ((s ++ [x]).length = j + 1 ∧ ∀ y ∈ s ++ [x], y < 4294967296) := Lib.hid ⟨by rw [List.length_append, hs.out.1]; rfl, fun y hy => by
          rcases List.mem_append.1 hy with h | h
          ·exact hs.out.2 y h
          ·rw [List.mem_singleton.1 h]; exact hxl⟩
         have HXe : Hid (s ++ [x] = (List.range (j + 1)).map fun i => (i + 1) * 2654435769 % two32) := Lib.hid (by rw [List.range_succ, List.map_append, ← hE4.out, hx]; rfl)
         clear hx
         have HO6 := Lib.hid (hOs.out.alloc (.cells #[U32 x] 179))
         have q5 : j + 1 ≤ maxLen := by simp only [maxLen]; omega
         have q6 : (j + 1) * 4 ≤ 140737488355328 := by omega
         go_wp2_with (at_builtin; refine wpList_append_sl _ rfl (.tmp 51) (.tmp 56) _ rfl wa 179 j0 _ 1 4 Tryz.underlying210 hj0 hy0 hy1 hy2 rfl Nat.one_pos As j cs9 _ rfl HO6.out _ 1 _ (u32s [x]) rfl (sl_u32 wr 179 x) (one_u32s _) q5 q6 ?_; intro A5 c5 w5 hO5 hg5 hat5; have HO5 : Hid (Ow wa w5 179 1 A5 (j + 1) c5 (u32s (s ++ [x]))) := Lib.hid (by rw [show u32s (s ++ [x]) = u32s s ++ u32s [x] by simp [u32s]]; exact hO5); clear hO5 hg5 hat5)
         go_roundw
         case rel =>
          (repeat apply Exists.intro)
          exact ⟨⟨j + 1, c5, A5, _, hlt, rfl, by go_num, HX, HO5, HXe⟩, rfl⟩
         case measure => simp [intOf]; omega
        ·obtain rfl : j = 8 := by omega
         have HFs : Hid (s = firstS) := Lib.hid hE4.out
         have Hbl : Hid (bs.length = T) := Lib.hid (u8s_len hO.out.sl)
         obtain ⟨p, hAs, hp0, hp1⟩ := hOs.out.form (by omega)
         subst hAs
         obtain ⟨ga, hAa, hga0, hga1⟩ := hO.out.form hT0
         subst hAa
         obtain ⟨rest, hG⟩ : ∃ rest, Blk wr p 179 (u32s s ++ rest).toArray := by
          rcases hOs.out.1.2 with ⟨h, _⟩ | ⟨g', cap, cur, hv, _, hb, _, _, hsz, htk⟩
          ·cases h
          ·injection hv with e1 e2 e3
           injection e1 with e1
           injection e1 with e1
           subst e1
           refine ⟨cur.toList.drop 8, ?_⟩
           unfold Blk
           rw [← show cur.toList.take (8 * 1) = u32s s from htk, List.take_append_drop]
           simpa using hb
         have HG := Lib.hid hG
         have hTc := hO.out.cap.1
         have HS3 : Hid (SlT (fun _ => True) 5 wr 1 (some ⟨ga, 0, none⟩) T (u8s bs)) := Lib.hid ((hO.out.slT.weak (fun _ _ _ => trivial)).step hOs.out.2)
         have HBw : Hid (Below w.heap.size w wr) := Lib.hid (bstep hO.out.2 hOs.out.2)
         have Hp0 : Hid (w.heap.size ≤ p) := Lib.hid (Nat.le_trans hO.out.2.size hp0)
         obtain ⟨wb, hwb⟩ : ∃ wb, wb = wr := ⟨_, rfl⟩
         subst hwb
         clear hG hp0 hp1 hga0 hga1
         go_wp2
         go_loopw [9] (fun v W => ∃ (j : Nat) (s : List Nat), 32 * j ≤ T ∧ v = .int .i64 ((32 * j : Nat) : Int) ∧ Hid (Blk W p 179 (u32s s ++ rest).toArray) ∧ Hid (s.length = 8 ∧ ∀ x ∈ s, x < 4294967296) ∧ Hid (Fr (fun k => k = p) wb W) ∧ Hid ((absorb s (bs.drop (32 * j))).1 = (absorb firstS bs).1)) (fun v _ => T - (intOf v).toNat)
         case atStart => exact ⟨0, s, by omega, rfl, HG, hs, Lib.hid (Fr.refl _ _), Lib.hid (by rw [HFs.out]; rfl)⟩
         case round =>
          obtain ⟨j, s1, hj, rfl, hB, hs1, hF, hE5⟩ := hrel
          obtain ⟨a, ha⟩ : ∃ a, a = 32 * j := ⟨_, rfl⟩
          rw [← ha]
          by_cases hlt : a < T
          ·have d1 : decide ((a : Int) < (T : Int)) = true := decide_eq_true (by omega)
           obtain ⟨a2, ha2⟩ : ∃ a2, a2 = a + 32 := ⟨_, rfl⟩
           have k1 : IntKind.i64.wrap ((a : Int) + 32) = (a2 : Int) := by rw [IntWalk.i64_in _ (by omega)]; omega
           have kc := fun V : World => run_cut_lh (P := Tryz.prog) V Tryz.underlying38 Tryz.sizeU8 (some ⟨ga, 0, none⟩) T cA .i64 .i64 a a2 (by omega) (by omega)
           rw [cutA_at _ _ _ _ (by omega), Nat.zero_add, show a2 - a = 32 by omega] at kc
           have HS4 : Hid (SlT (fun _ => True) 5 wr 1 (some ⟨ga, a, none⟩) 32 (u8s ((bs.drop a).take 32))) := Lib.hid (by
            have h9 := SlT.keep HS3.out (KeepT.of_fr hF.out (fun k cs fr e => by subst e; exact Blk.type HG.out (by decide) cs fr))
            have h10 := SlT.mid h9 (i := a) (k := 32) (by omega)
            rwa [Nat.zero_add] at h10)
           have CT := Lib.hid (rtake_exact wr p cs9 s1 rest (some ⟨ga, a, none⟩) (cA - a) _ hB.out hs1.out.1 hs1.out.2 HS4.out)
           have HJ : Hid (32 * (j + 1) ≤ T ∧ a2 = 32 * (j + 1) ∧ T - a2 < T - a) := Lib.hid (by omega)
           have HE6 : Hid ((absorb (takeB s1 ((bs.drop a).take 32)) (bs.drop (32 * (j + 1)))).1 = (absorb firstS bs).1) := Lib.hid (by
            have h := hE5.out
            have hl := Hbl.out
            rw [← ha, absorb_big (by rw [List.length_drop]; omega), List.drop_drop] at h
            rw [show 32 * (j + 1) = a + 32 by omega]
            exact h)
           clear ha ha2
           go_wp2_with fail
           refine CT.out.mono ?_
           rintro e w5 ⟨rfl, h5, f5⟩
           have H5 := Lib.hid h5
           have H6 : Hid ((takeB s1 ((bs.drop a).take 32)).length = 8 ∧ ∀ x ∈ takeB s1 ((bs.drop a).take 32), x < 4294967296) := Lib.hid ⟨by rw [takeB_len]; exact hs1.out.1, takeB_lt hs1.out.2⟩
           have F5 := Lib.hid (hF.out.trans f5)
           clear h5 f5 CT kc
           go_wp2
           go_roundw
           case rel =>
            (repeat apply Exists.intro)
            exact ⟨⟨j + 1, _, HJ.out.1, by rw [← HJ.out.2.1], H5, H6, F5, HE6⟩, rfl⟩
           case measure => have h9 := HJ.out.2.2; simp [intOf]; omega
          ·obtain rfl : a = T := by omega
           have HS9 : Hid (s1 = (absorb firstS bs).1) := Lib.hid (by
            have h := hE5.out
            rw [← ha, List.drop_eq_nil_of_le (by rw [Hbl.out]; exact Nat.le_refl _), absorb_small (by decide)] at h
            exact h)
           clear ha hj
           have HBw2 : Hid (Below w.heap.size w wr) := Lib.hid (HBw.out.trans (hF.out.below HBw.out.size (fun k e => by rw [e]; exact Hp0.out)))
           obtain ⟨wc, hwc⟩ : ∃ wc, wc = wr := ⟨_, rfl⟩
           subst hwc
           go_wp2
           go_loopw [10, 11] (fun v iv W => ∃ (i k9 co : Nat) (Ao : Option Addr) (ob : List UInt8), i ≤ 8 ∧ k9 = 4 * i ∧ v = .slice Ao k9 co ∧ iv = .int .i64 i ∧ Hid (Ow wc W 5 1 Ao k9 co (u8s ob)) ∧ Hid (ob = ((s1.take i).map (fun x => leBytes x 4)).flatten)) (fun _ iv _ => 8 - (intOf iv).toNat)
           case atStart => exact ⟨0, 0, 0, none, [], by omega, rfl, rfl, rfl, Lib.hid (Ow.nil_ (Below.refl _ _)), Lib.hid rfl⟩
           case round =>
            obtain ⟨i, k9, co, Ao, ob, hi, hk9, rfl, rfl, hOo, hE7⟩ := hrel
            by_cases hlt : i < 8
            ·have d1 : decide ((i : Int) < 8) = true := decide_eq_true (by omega)
             have hi8 : (i : Int) < 8 := by omega
             obtain ⟨x, hx⟩ : ∃ x, x = s1.getD i 0 := ⟨_, rfl⟩
             have hxl : x < 4294967296 := by rw [hx]; exact getD_lt hs1.out.2 i
             have HY : Hid (∀ V, Below wc.heap.size wc V → V.cell? ⟨p, i, none⟩ = some (U32 x)) := Lib.hid (fun V hV => by
              rw [(hB.out.step hV).cell i, u32s_at (by rw [hs1.out.1]; exact hlt), ← hx])
             obtain ⟨r0, hr0⟩ : ∃ r0, r0 = x % 256 := ⟨_, rfl⟩
             obtain ⟨v1, hv1⟩ : ∃ v1, v1 = x / 256 := ⟨_, rfl⟩
             obtain ⟨r1, hr1⟩ : ∃ r1, r1 = v1 % 256 := ⟨_, rfl⟩
             obtain ⟨v2, hv2⟩ : ∃ v2, v2 = x / 65536 := ⟨_, rfl⟩
             obtain ⟨r2, hr2⟩ : ∃ r2, r2 = v2 % 256 := ⟨_, rfl⟩
             obtain ⟨v3, hv3⟩ : ∃ v3, v3 = x / 16777216 := ⟨_, rfl⟩
             have ex : ∀ r : Nat, r < 256 → ∃ c : UInt8, (r : Int) = (c.toNat : Int) := fun r hr => ⟨UInt8.ofNat r, by simp; omega⟩
             obtain ⟨c0, hc0⟩ := ex r0 (by omega)
             obtain ⟨c1, hc1⟩ := ex r1 (by omega)
             obtain ⟨c2, hc2⟩ := ex r2 (by omega)
             obtain ⟨c3, hc3⟩ := ex v3 (by omega)
             have Kr0 : Hid ((x : Int) % 256 = (r0 : Int) ∧ (x : Int).tmod 256 = (r0 : Int)) := Lib.hid ⟨by omega, by rw [Int.tmod_eq_emod_of_nonneg (by omega)]; omega⟩
             have Kv1 : Hid (IntKind.u32.wrap ((x : Int) / 256) = (v1 : Int) ∧ (x : Int) / 256 = (v1 : Int)) := Lib.hid ⟨by rw [show (x : Int) / 256 = (v1 : Int) by omega]; exact wrapN32 v1 (by omega), by omega⟩
             have Kr1 : Hid ((v1 : Int) % 256 = (r1 : Int) ∧ (v1 : Int).tmod 256 = (r1 : Int)) := Lib.hid ⟨by omega, by rw [Int.tmod_eq_emod_of_nonneg (by omega)]; omega⟩
             have Kv2 : Hid (IntKind.u32.wrap ((x : Int) / 65536) = (v2 : Int) ∧ (x : Int) / 65536 = (v2 : Int)) := Lib.hid ⟨by rw [show (x : Int) / 65536 = (v2 : Int) by omega]; exact wrapN32 v2 (by omega), by omega⟩
             have Kr2 : Hid ((v2 : Int) % 256 = (r2 : Int) ∧ (v2 : Int).tmod 256 = (r2 : Int)) := Lib.hid ⟨by omega, by rw [Int.tmod_eq_emod_of_nonneg (by omega)]; omega⟩
             have Kv3 : Hid (IntKind.u32.wrap ((x : Int) / 16777216) = (v3 : Int) ∧ (x : Int) / 16777216 = (v3 : Int)) := Lib.hid ⟨by rw [show (x : Int) / 16777216 = (v3 : Int) by omega]; exact wrapN32 v3 (by omega), by omega⟩
             have KC0 : Hid (IntKind.u8.wrap (r0 : Int) = (c0.toNat : Int) ∧ (r0 : Int) % 256 = (c0.toNat : Int)) := Lib.hid (wrap8_both _ _ hc0 (by omega))
             have KC1 : Hid (IntKind.u8.wrap (r1 : Int) = (c1.toNat : Int) ∧ (r1 : Int) % 256 = (c1.toNat : Int)) := Lib.hid (wrap8_both _ _ hc1 (by omega))
             have KC2 : Hid (IntKind.u8.wrap (r2 : Int) = (c2.toNat : Int) ∧ (r2 : Int) % 256 = (c2.toNat : Int)) := Lib.hid (wrap8_both _ _ hc2 (by omega))
             have KC3 : Hid (IntKind.u8.wrap (v3 : Int) = (c3.toNat : Int) ∧ (v3 : Int) % 256 = (c3.toNat : Int)) := Lib.hid (wrap8_both _ _ hc3 (by omega))
             have HOB : Hid (ob ++ [c0, c1, c2, c3] = ((s1.take (i + 1)).map (fun x => leBytes x 4)).flatten) := Lib.hid (by
              have hxi : s1[i]? = some x := by
               have h9 := hs1.out.1
               rw [hx, List.getD_eq_getElem?_getD, List.getElem?_eq_getElem (by omega)]
               rfl
              have h4 : [c0, c1, c2, c3] = leBytes x 4 := by
               rw [of_toNat c0 _ hc0, of_toNat c1 _ hc1, of_toNat c2 _ hc2, of_toNat c3 _ hc3]
               show _ = [UInt8.ofNat (x % 256), UInt8.ofNat (x / 256 % 256), UInt8.ofNat (x / 256 / 256 % 256), UInt8.ofNat (x / 256 / 256 / 256 % 256)]
               rw [show x / 256 / 256 / 256 % 256 = v3 by omega, show x / 256 / 256 % 256 = r2 by omega, show x / 256 % 256 = r1 by omega, ← hr0]
              rw [List.take_add_one, hxi, List.map_append, List.flatten_append, ← hE7.out, h4]
              simp)
             clear hx hr0 hv1 hr1 hv2 hr2 hv3 ex hc0 hc1 hc2 hc3
             have HK9 := Lib.hid hk9
             have hkl : k9 ≤ 32 := by omega
             clear hk9
             obtain ⟨W, hW⟩ : ∃ W, W = wr := ⟨_, rfl⟩
             subst hW
             have HO6 := Lib.hid (hOo.out.drew.alloc (.cells #[U8 c0, U8 c1, U8 c2, U8 c3] 5))
             have hS6 := sl_four W.drew 5 c0 c1 c2 c3
             obtain ⟨A5, c5, w5, hrun, hO5, hg5, _⟩ := run_append_sl (P := Tryz.prog) _ wc.heap.size 38 38 5 i0 _ 1 1 Tryz.underlying38 hi0 hz0 hz1 hz2 rfl (by decide) (.slice Ao k9 co) k9 (u8s ob) HO6.out.1 _ 4 4 (u8s [c0, c1, c2, c3]) hS6 (one_u8s _) (by simp only [maxLen]; omega) (by omega) HO6.out.2.size
             have hb5 : Below wc.heap.size wc w5 := HO6.out.2.grown hg5 HO6.out.2.size (fun k hk => (HO6.out.1.lt k hk).1)
             have HO5 : Hid (Ow wc w5 5 1 A5 (k9 + 4) c5 (u8s (ob ++ [c0, c1, c2, c3]))) := Lib.hid (by rw [u8s_two]; exact ⟨hO5, hb5⟩)
             have HBel := Lib.hid (CJ.bel (w0 := wc) (W0 := W.drew) (W1 := W.drew.alloc (.cells #[U8 c0, U8 c1, U8 c2, U8 c3] 5)) (W2 := w5) hOo.out.2.drew HO6.out.2 hb5)
             have Hrun := Lib.hid hrun
             clear hS6 hrun hO5 hg5 hb5 HO6
             obtain ⟨gg9, hgg⟩ : ∃ gg9, gg9 = W.heap.size := ⟨_, rfl⟩
             have Hg := Lib.hid hgg
             clear hgg
             go_wp2
             refine wp_region_pairR (by kernel_rfl) 29 (by kernel_rfl) ?_ (fun q v => rs29Phi p i k9 co gg9 c5 cs9 Ao A5 x v1 v2 v3 r0 r1 r2 c0 c1 c2 c3 q v W) 27 28 (by kernel_rfl) (fun w w' => w' = w) (fun _ => rfl) (CJ W.drew (W.drew.alloc (.cells #[U8 c0, U8 c1, U8 c2, U8 c3] 5)) w5) CJ.step rfl (fun i9 o hi hi1 hi2 ho a w k' hk hk2 hs hm => ?_) (fun o ho a w hj hs hm => ?_) (fun o ho a w hj hs hm => ?_) (fun o ho a w hj hs hm => ?_)
             ·exact dst_ltC2 (n := 106) (by kernel_rfl)
             ·have y0 := HY.out w (HBel.out k' w hk)
              exact match i9, hi, ho, hi1, hi2 with
                | 0, _, ho, _, _ => by
                  cases ho
                  rw [if_pos (wanted_none _ rfl)]
                  refine wp_value (st_move rfl ((hs.keeps (by kernel_rfl)).trans rfl)) ⟨_, rfl, rfl, rfl⟩
                | 1, _, ho, _, _ => by
                  cases ho
                  rw [if_pos (wanted_none _ rfl)]
                  refine wp_value (st_move rfl ((hs.keeps (by kernel_rfl)).trans rfl)) ⟨_, rfl, rfl, rfl⟩
                | 2, _, ho, _, _ => by
                  cases ho
                  rw [if_pos (wanted_none _ rfl)]
                  refine wp_value (st_move rfl ((hs.keeps (by kernel_rfl)).trans rfl)) ⟨_, rfl, rfl, rfl⟩
                | 3, _, ho, _, _ => by
                  cases ho
                  rw [if_pos (wanted_none _ rfl)]
                  have h1 := eval_getD (hm.get 1 76 (by kernel_rfl)); have h2 := eval_getD (hm.get 2 77 (by kernel_rfl)); unfold Oper.wp; simp only [execOp]; go_simp; (first | exact ⟨_, rfl, (rfl)⟩ | exact ⟨_, rfl, (rfl), rfl⟩)
                | 4, _, ho, _, _ => by
                  cases ho
                  rw [if_pos (wanted_none _ rfl)]
                  have hx := y0; have h1 := eval_getD (hm.get 3 78 (by kernel_rfl)); unfold Oper.wp; simp only [execOp]; go_simp; (first | exact ⟨_, rfl, (rfl)⟩ | exact ⟨_, rfl, (rfl), rfl⟩)
                | 5, _, ho, _, _ => by
                  cases ho
                  rw [if_pos (wanted_none _ rfl)]
                  have h1 := eval_getD (hm.get 4 79 (by kernel_rfl)); unfold Oper.wp; simp only [execOp]; go_simp; (first | exact ⟨_, rfl, (by first | rfl | (show Value.int _ _ = Value.int _ _; first | rw [Kr0.out.1] | rw [Kr0.out.2]))⟩ | exact ⟨_, rfl, (by first | rfl | (show Value.int _ _ = Value.int _ _; first | rw [Kr0.out.1] | rw [Kr0.out.2])), rfl⟩)
                | 6, _, ho, _, _ => by
                  cases ho
                  rw [if_pos (wanted_none _ rfl)]
                  have h1 := eval_getD (hm.get 5 80 (by kernel_rfl)); unfold Oper.wp; simp only [execOp]; go_simp; (first | exact ⟨_, rfl, (by first | rfl | (show Value.int _ _ = Value.int _ _; first | rw [KC0.out.1] | rw [KC0.out.2]))⟩ | exact ⟨_, rfl, (by first | rfl | (show Value.int _ _ = Value.int _ _; first | rw [KC0.out.1] | rw [KC0.out.2])), rfl⟩)
                | 7, _, ho, _, _ => by
                  cases ho
                  rw [if_pos (wanted_none _ rfl)]
                  refine wp_value (st_move rfl ((hs.keeps (by kernel_rfl)).trans rfl)) ⟨_, rfl, rfl, rfl⟩
                | 8, _, ho, _, _ => by
                  cases ho
                  rw [if_pos (wanted_none _ rfl)]
                  refine wp_value (st_move rfl ((hs.keeps (by kernel_rfl)).trans rfl)) ⟨_, rfl, rfl, rfl⟩
                | 9, _, ho, _, _ => by
                  cases ho
                  rw [if_pos (wanted_none _ rfl)]
                  have h1 := eval_getD (hm.get 7 82 (by kernel_rfl)); have h2 := eval_getD (hm.get 8 83 (by kernel_rfl)); unfold Oper.wp; simp only [execOp]; go_simp; (first | exact ⟨_, rfl, (rfl)⟩ | exact ⟨_, rfl, (rfl), rfl⟩)
                | 10, _, ho, _, _ => by
                  cases ho
                  rw [if_pos (wanted_none _ rfl)]
                  have hx := y0; have h1 := eval_getD (hm.get 9 84 (by kernel_rfl)); unfold Oper.wp; simp only [execOp]; go_simp; (first | exact ⟨_, rfl, (rfl)⟩ | exact ⟨_, rfl, (rfl), rfl⟩)
                | 11, _, ho, _, _ => by
                  cases ho
                  rw [if_pos (wanted_none _ rfl)]
                  have h1 := eval_getD (hm.get 10 85 (by kernel_rfl)); unfold Oper.wp; simp only [execOp]; go_simp; (first | exact ⟨_, rfl, (by first | rfl | (show Value.int _ _ = Value.int _ _; first | rw [Kv1.out.1] | rw [Kv1.out.2]))⟩ | exact ⟨_, rfl, (by first | rfl | (show Value.int _ _ = Value.int _ _; first | rw [Kv1.out.1] | rw [Kv1.out.2])), rfl⟩)
                | 12, _, ho, _, _ => by
                  cases ho
                  rw [if_pos (wanted_none _ rfl)]
                  have h1 := eval_getD (hm.get 11 86 (by kernel_rfl)); unfold Oper.wp; simp only [execOp]; go_simp; (first | exact ⟨_, rfl, (by first | rfl | (show Value.int _ _ = Value.int _ _; first | rw [Kr1.out.1] | rw [Kr1.out.2]))⟩ | exact ⟨_, rfl, (by first | rfl | (show Value.int _ _ = Value.int _ _; first | rw [Kr1.out.1] | rw [Kr1.out.2])), rfl⟩)
                | 13, _, ho, _, _ => by
                  cases ho
                  rw [if_pos (wanted_none _ rfl)]
                  have h1 := eval_getD (hm.get 12 87 (by kernel_rfl)); unfold Oper.wp; simp only [execOp]; go_simp; (first | exact ⟨_, rfl, (by first | rfl | (show Value.int _ _ = Value.int _ _; first | rw [KC1.out.1] | rw [KC1.out.2]))⟩ | exact ⟨_, rfl, (by first | rfl | (show Value.int _ _ = Value.int _ _; first | rw [KC1.out.1] | rw [KC1.out.2])), rfl⟩)
                | 14, _, ho, _, _ => by
                  cases ho
                  rw [if_pos (wanted_none _ rfl)]
                  refine wp_value (st_move rfl ((hs.keeps (by kernel_rfl)).trans rfl)) ⟨_, rfl, rfl, rfl⟩
                | 15, _, ho, _, _ => by
                  cases ho
                  rw [if_pos (wanted_none _ rfl)]
                  refine wp_value (st_move rfl ((hs.keeps (by kernel_rfl)).trans rfl)) ⟨_, rfl, rfl, rfl⟩
                | 16, _, ho, _, _ => by
                  cases ho
                  rw [if_pos (wanted_none _ rfl)]
                  have h1 := eval_getD (hm.get 14 89 (by kernel_rfl)); have h2 := eval_getD (hm.get 15 90 (by kernel_rfl)); unfold Oper.wp; simp only [execOp]; go_simp; (first | exact ⟨_, rfl, (rfl)⟩ | exact ⟨_, rfl, (rfl), rfl⟩)
                | 17, _, ho, _, _ => by
                  cases ho
                  rw [if_pos (wanted_none _ rfl)]
                  have hx := y0; have h1 := eval_getD (hm.get 16 91 (by kernel_rfl)); unfold Oper.wp; simp only [execOp]; go_simp; (first | exact ⟨_, rfl, (rfl)⟩ | exact ⟨_, rfl, (rfl), rfl⟩)
                | 18, _, ho, _, _ => by
                  cases ho
                  rw [if_pos (wanted_none _ rfl)]
                  have h1 := eval_getD (hm.get 17 92 (by kernel_rfl)); unfold Oper.wp; simp only [execOp]; go_simp; (first | exact ⟨_, rfl, (by first | rfl | (show Value.int _ _ = Value.int _ _; first | rw [Kv2.out.1] | rw [Kv2.out.2]))⟩ | exact ⟨_, rfl, (by first | rfl | (show Value.int _ _ = Value.int _ _; first | rw [Kv2.out.1] | rw [Kv2.out.2])), rfl⟩)
                | 19, _, ho, _, _ => by
                  cases ho
                  rw [if_pos (wanted_none _ rfl)]
                  have h1 := eval_getD (hm.get 18 93 (by kernel_rfl)); unfold Oper.wp; simp only [execOp]; go_simp; (first | exact ⟨_, rfl, (by first | rfl | (show Value.int _ _ = Value.int _ _; first | rw [Kr2.out.1] | rw [Kr2.out.2]))⟩ | exact ⟨_, rfl, (by first | rfl | (show Value.int _ _ = Value.int _ _; first | rw [Kr2.out.1] | rw [Kr2.out.2])), rfl⟩)
                | 20, _, ho, _, _ => by
                  cases ho
                  rw [if_pos (wanted_none _ rfl)]
                  have h1 := eval_getD (hm.get 19 94 (by kernel_rfl)); unfold Oper.wp; simp only [execOp]; go_simp; (first | exact ⟨_, rfl, (by first | rfl | (show Value.int _ _ = Value.int _ _; first | rw [KC2.out.1] | rw [KC2.out.2]))⟩ | exact ⟨_, rfl, (by first | rfl | (show Value.int _ _ = Value.int _ _; first | rw [KC2.out.1] | rw [KC2.out.2])), rfl⟩)
                | 21, _, ho, _, _ => by
                  cases ho
                  rw [if_pos (wanted_none _ rfl)]
                  refine wp_value (st_move rfl ((hs.keeps (by kernel_rfl)).trans rfl)) ⟨_, rfl, rfl, rfl⟩
                | 22, _, ho, _, _ => by
                  cases ho
                  rw [if_pos (wanted_none _ rfl)]
                  refine wp_value (st_move rfl ((hs.keeps (by kernel_rfl)).trans rfl)) ⟨_, rfl, rfl, rfl⟩
                | 23, _, ho, _, _ => by
                  cases ho
                  rw [if_pos (wanted_none _ rfl)]
                  have h1 := eval_getD (hm.get 21 96 (by kernel_rfl)); have h2 := eval_getD (hm.get 22 97 (by kernel_rfl)); unfold Oper.wp; simp only [execOp]; go_simp; (first | exact ⟨_, rfl, (rfl)⟩ | exact ⟨_, rfl, (rfl), rfl⟩)
                | 24, _, ho, _, _ => by
                  cases ho
                  rw [if_pos (wanted_none _ rfl)]
                  have hx := y0; have h1 := eval_getD (hm.get 23 98 (by kernel_rfl)); unfold Oper.wp; simp only [execOp]; go_simp; (first | exact ⟨_, rfl, (rfl)⟩ | exact ⟨_, rfl, (rfl), rfl⟩)
                | 25, _, ho, _, _ => by
                  cases ho
                  rw [if_pos (wanted_none _ rfl)]
                  have h1 := eval_getD (hm.get 24 99 (by kernel_rfl)); unfold Oper.wp; simp only [execOp]; go_simp; (first | exact ⟨_, rfl, (by first | rfl | (show Value.int _ _ = Value.int _ _; first | rw [Kv3.out.1] | rw [Kv3.out.2]))⟩ | exact ⟨_, rfl, (by first | rfl | (show Value.int _ _ = Value.int _ _; first | rw [Kv3.out.1] | rw [Kv3.out.2])), rfl⟩)
                | 26, _, ho, _, _ => by
                  cases ho
                  rw [if_pos (wanted_none _ rfl)]
                  have h1 := eval_getD (hm.get 25 100 (by kernel_rfl)); unfold Oper.wp; simp only [execOp]; go_simp; (first | exact ⟨_, rfl, (by first | rfl | (show Value.int _ _ = Value.int _ _; first | rw [KC3.out.1] | rw [KC3.out.2]))⟩ | exact ⟨_, rfl, (by first | rfl | (show Value.int _ _ = Value.int _ _; first | rw [KC3.out.1] | rw [KC3.out.2])), rfl⟩)
                | 27, _, _, h, _ => absurd rfl h
                | 28, _, _, _, h => absurd rfl h
                | (n + 29), hi, _, _, _ => absurd hi (by omega)

             ·cases ho
              obtain rfl : w = W.drew := hj
              have h1 := eval_getD (hm.get 6 81 (by kernel_rfl))
              have h2 := eval_getD (hm.get 13 88 (by kernel_rfl))
              have h3 := eval_getD (hm.get 20 95 (by kernel_rfl))
              have h4 := eval_getD (hm.get 26 101 (by kernel_rfl))
              unfold Oper.wp
              simp only [execOp]
              go_simp
              exact ⟨_, rfl, show Value.slice _ _ _ = Value.slice _ _ _ by rw [Hg.out], rfl⟩
             ·have hj1 : w = W.drew.alloc (.cells #[U8 c0, U8 c1, U8 c2, U8 c3] 5) := hj
              subst hj1
              obtain ⟨h1, h2, h3, h4, h5⟩ : a.eval (.tmp 75) = .slice Ao k9 co ∧ a.eval (.tmp 102) = .slice (some ⟨gg9, 0, none⟩) 4 4 ∧ o.op = .call { callee := .builtin .append, args := #[.tmp 75, .tmp 102], argTypes := #[38, 38] } ∧ o.dst = some 103 ∧ o.type = 38 := by
               cases ho
               exact ⟨hm.get 0 75 (by kernel_rfl), hm.get 27 102 (by kernel_rfl), rfl, rfl, rfl⟩
              rw [Hg.out] at h2
              have hr := Hrun.out
              simp only [World.size_drew] at hr
              unfold Oper.wp execOp
              simp only [h3, h5, resolve, invoke, builtin, Sem.run_bind, Sem.run_pure, Result.andThen_ok, List.map_toArray, List.map_cons, List.map_nil, h1, h2, hr]
              exact ⟨_, rfl, rfl, rfl⟩
             ·have e1 : a.eval (.tmp 103) = .slice A5 (k9 + 4) c5 := by cases ho; exact hm.get 28 103 (by kernel_rfl)
              have hfr := hs.frame [75, 76, 77, 78, 79, 80, 81, 82, 83, 84, 85, 86, 87, 88, 89, 90, 91, 92, 93, 94, 95, 96, 97, 98, 99, 100, 101, 102, 103] (by kernel_rfl)
              cases ho
              obtain rfl : w = w5 := hj
              rw [hfr]
              simp only [List.foldl_cons, List.foldl_nil, e1]
              clear hfr hs hm e1
              generalize a.eval (.tmp 75) = u75, a.eval (.tmp 76) = u76, a.eval (.tmp 77) = u77, a.eval (.tmp 78) = u78, a.eval (.tmp 79) = u79, a.eval (.tmp 80) = u80, a.eval (.tmp 81) = u81, a.eval (.tmp 82) = u82, a.eval (.tmp 83) = u83, a.eval (.tmp 84) = u84, a.eval (.tmp 85) = u85, a.eval (.tmp 86) = u86, a.eval (.tmp 87) = u87, a.eval (.tmp 88) = u88, a.eval (.tmp 89) = u89, a.eval (.tmp 90) = u90, a.eval (.tmp 91) = u91, a.eval (.tmp 92) = u92, a.eval (.tmp 93) = u93, a.eval (.tmp 94) = u94, a.eval (.tmp 95) = u95, a.eval (.tmp 96) = u96, a.eval (.tmp 97) = u97, a.eval (.tmp 98) = u98, a.eval (.tmp 99) = u99, a.eval (.tmp 100) = u100, a.eval (.tmp 101) = u101, a.eval (.tmp 102) = u102
              unfold Oper.wp
              simp only [execOp]
              go_simp
              clear a
              go_wp2
              go_roundw
              case rel =>
               (repeat apply Exists.intro)
               exact ⟨⟨i + 1, k9 + 4, c5, A5, _, hlt, by have := HK9.out; omega, rfl, by go_num, HO5, HOB⟩, rfl⟩
              case measure => simp [intOf]; omega
            ·obtain rfl : i = 8 := by omega
             clear hk9
             have hcv := run_conv_str (P := Tryz.prog) wr 38 9 5 Ao k9 co _ Tryz.underlying38 Tryz.underlying5 Tryz.underlying9 hOo.out.sl
             go_wp2
             go_ret
             have h8 : ob = sumL l := by
              have h9 := HS9.out
              rw [hE7.out, List.take_of_length_le (by rw [hs1.out.1]; exact Nat.le_refl _), h9, HP3.out, sum_plain (by rw [Hln.out]; omega), Hln.out]
             exact ⟨by rw [h8]; rfl, bstep HBw2.out hOo.out.2⟩
  ·have d1 : ((m : Int) != 24) = true := by rw [bne_iff_ne]; omega
   have q5 : k + 1 ≤ maxLen := by simp only [maxLen]; omega
   have q6 : (k + 1) * 1 ≤ 140737488355328 := by omega
   have hk9 : k + 1 + (56 - (k + 1) % 32) % 32 = K0 := by omega
   have hms : (56 - (k + 1) % 32) % 32 < (56 - k % 32) % 32 := by omega
   have HO6 := Lib.hid (hO.out.alloc (.cells #[U8 0] 5))
   clear hm hgo hk
   go_wp2_with (at_builtin; refine wpList_append_sl _ rfl (.tmp 22) (.tmp 23) _ rfl w 5 i0 _ 1 1 Tryz.underlying38 hi0 hz0 hz1 hz2 rfl Nat.one_pos Aa k cA _ rfl HO6.out _ 1 _ (u8s [0]) rfl (sl_byte wr 5 0) (one_u8s _) q5 q6 ?_; intro A5 c5 w5 hO5 hg5 hat5; have HO5 : Hid (Ow w w5 5 1 A5 (k + 1) c5 (u8s (bs ++ [0]))) := Lib.hid (by rw [u8s_two]; exact hO5); clear hO5 hg5 hat5)
   go_roundw
   case rel => exact ⟨k + 1, c5, A5, _, rfl, hk9, HO5, Lib.hid (by obtain ⟨j, h1, h2⟩ := hE1.out; exact ⟨j + 1, by omega, by rw [h2, List.replicate_succ', ← List.append_assoc]⟩)⟩
   case measure => simp only [slLen]; omega
end Go.Proofs.YtcednfmkiaelnaaGreatDoor
