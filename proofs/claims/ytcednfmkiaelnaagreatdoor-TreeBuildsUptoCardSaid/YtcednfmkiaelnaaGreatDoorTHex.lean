/-
  sum.Hex: an id as digits. Condition: the text is no longer than 1000000 bytes.
-/
import Derived.Test.YtcednfmkiaelnaaGreatDoorTKitPr
import Derived.Test.YtcednfmkiaelnaaGreatDoorTKitX
import Derived.Test.YtcednfmkiaelnaaGreatDoorTKitTk
import Derived.Test.YtcednfmkiaelnaaGreatDoorTKitM
namespace Go.Proofs.YtcednfmkiaelnaaGreatDoor
open Go.RowKit
def digs : List UInt8 := [48, 49, 50, 51, 52, 53, 54, 55, 56, 57, 97, 98, 99, 100, 101, 102]
def hexL (s : List UInt8) : List UInt8 := s.flatMap fun c => [digs.getD (c.toNat / 16) 0, digs.getD (c.toNat % 16) 0]
theorem hexL_len (s : List UInt8) : (hexL s).length = 2 * s.length := by
 induction s with
 | nil => rfl
 | cons c r ih =>
  unfold hexL at ih ⊢
  rw [List.flatMap_cons, List.length_append, ih, List.length_cons]
  simp
  omega
theorem digs_inj : ∀ a b : Fin 16, digs.getD a.val 0 = digs.getD b.val 0 → a = b := by decide
theorem digs_pos : ∀ a : Fin 16, digs.getD a.val 0 ≠ 0 := by decide
theorem hex_inj : ∀ (s t : List UInt8), hexL s = hexL t → s = t
 | [], [], _ => rfl
 | [], c :: t, h => by have := congrArg List.length h; rw [hexL_len, hexL_len] at this; simp at this
 | c :: s, [], h => by have := congrArg List.length h; rw [hexL_len, hexL_len] at this; simp at this
 | c :: s, d :: t, h => by
  unfold hexL at h
  simp only [List.flatMap_cons, List.cons_append, List.nil_append, List.cons.injEq] at h
  have h1 := digs_inj ⟨c.toNat / 16, by have := c.toNat_lt; omega⟩ ⟨d.toNat / 16, by have := d.toNat_lt; omega⟩ h.1
  have h2 := digs_inj ⟨c.toNat % 16, by omega⟩ ⟨d.toNat % 16, by omega⟩ h.2.1
  have e1 : c.toNat / 16 = d.toNat / 16 := Fin.mk.inj h1
  have e2 : c.toNat % 16 = d.toNat % 16 := Fin.mk.inj h2
  have e3 : c = d := UInt8.toNat_inj.1 (by omega)
  rw [e3, hex_inj s t h.2.2]
theorem hex_zero (s : List UInt8) : (0 : UInt8) ∉ hexL s := by
 intro h
 unfold hexL at h
 obtain ⟨c, _, hc⟩ := List.mem_flatMap.1 h
 simp only [List.mem_cons, List.not_mem_nil, or_false] at hc
 rcases hc with hc | hc
 ·exact digs_pos ⟨c.toNat / 16, by have := c.toNat_lt; omega⟩ hc.symm
 ·exact digs_pos ⟨c.toNat % 16, by omega⟩ hc.symm
theorem hex_snoc {s : List UInt8} {i : Nat} {c : UInt8} (h : s[i]? = some c) : hexL (s.take i) ++ [digs.getD (c.toNat / 16) 0, digs.getD (c.toNat % 16) 0] = hexL (s.take (i + 1)) := by
 rw [List.take_add_one, h]
 unfold hexL
 rw [List.flatMap_append]
 rfl
set_option maxRecDepth 100000 in
theorem run_dig (k : Nat) (hk : k < 16) (w : World) : (Instr.index 9 (.string ⟨#[48, 49, 50, 51, 52, 53, 54, 55, 56, 57, 97, 98, 99, 100, 101, 102]⟩) (.int .u8 (k : Int))).run Tryz.prog w = .ok (U8 (digs.getD k 0)) w := by
 rcases k with _ | _ | _ | _ | _ | _ | _ | _ | _ | _ | _ | _ | _ | _ | _ | _ | k
 all_goals first | rfl | omega
theorem u8_quo : ∀ m : Fin 256, IntKind.u8.wrap ((m.val : Int) / 16) = (m.val : Int) / 16 := by decide +kernel
theorem u8_rem : ∀ m : Fin 256, IntKind.u8.wrap ((m.val : Int) % 16) = (m.val : Int) % 16 := by decide +kernel
def hx5Phi (Ao : Option Addr) (no co : Nat) (c d1 d2 : UInt8) : Nat → Value → World → Prop
 | 0, v, _ => v = .slice Ao no co
 | 1, v, _ => v = U8 c
 | 2, v, _ => v = .int .u8 ((c.toNat : Int) / 16)
 | 3, v, _ => v = U8 d1
 | 4, v, _ => v = U8 c
 | 5, v, _ => v = .int .u8 ((c.toNat : Int) % 16)
 | 6, v, _ => v = U8 d2
 | 7, v, w => ∃ gb : Nat, v = .slice (some ⟨gb, 0, none⟩) 2 2 ∧ SlF (fun j => (Value.slice Ao no co).ownBlock = some j) w 1 (some ⟨gb, 0, none⟩) 2 (u8s [d1, d2])
 | 8, _, _ => True
 | _, _, _ => True
theorem hx5Phi_mono {Ao : Option Addr} {no co : Nat} {c d1 d2 : UInt8} : ∀ (j : Nat) (v : Value) (w w' : World), hx5Phi Ao no co c d1 d2 j v w → Fr (fun j => (Value.slice Ao no co).ownBlock = some j) w w' → hx5Phi Ao no co c d1 d2 j v w' := by
 intro j v w w' h hb9
 match j, h with
 | 0, h => exact h
 | 1, h => exact h
 | 2, h => exact h
 | 3, h => exact h
 | 4, h => exact h
 | 5, h => exact h
 | 6, h => exact h
 | 7, h => obtain ⟨gb, h1, h2⟩ := h; exact ⟨gb, h1, h2.fr hb9⟩
 | 8, h => exact trivial
 | (n + 9), _ => trivial
set_option maxHeartbeats 8000000 in
set_option maxRecDepth 100000 in
theorem hex_any (s : List UInt8) (w : World) (hs : s.length ≤ 1000000) :
  Calls Tryz.prog 150 #[S s] w fun e w' => e = .returned (S (hexL s)) ∧ Below w.heap.size w w' := by
 obtain ⟨i0, hi0, hz0, hz1, hz2⟩ := info_parts Tryz.infoU8
 obtain ⟨cc, ob, hrun, hcell⟩ := conv_bytes w s
 have HC := Lib.hid hcell
 clear hcell
 go_enter Tryz.func150, Tryz.ntmps150
 go_wp2
 obtain ⟨w1, hw1⟩ : ∃ w1, w1 = (w.alloc ob).drew := ⟨_, rfl⟩
 obtain ⟨g, hg⟩ : ∃ g, g = w.heap.size := ⟨_, rfl⟩
 have B1 : Hid (Below w.heap.size w w1) := Lib.hid (by rw [hw1]; exact (balloc (Below.refl _ w) ob).drew)
 have HB : Hid (∀ V, Below w1.heap.size w1 V → ∀ (i : Nat) (x : UInt8), s[i]? = some x → V.cell? ⟨g, i, none⟩ = some (U8 x)) := Lib.hid (fun V hV i x hx => by
  have h1 : w1.cell? ⟨g, i, none⟩ = some (U8 x) := by rw [hw1, hg]; exact HC.out i x hx
  exact (World.cell?_of_block (hV.block g (World.block_lt_of_cell? _ _ h1))).trans h1)
 simp only [← hg]
 rw [← hw1]
 clear hrun HC hw1
 have Hg := Lib.hid hg
 clear hg
 go_loopw [3, 9] (fun ov iv wr => ∃ (i no co : Nat) (Ao : Option Addr), ov = .slice Ao no co ∧ iv = .int .i64 i ∧ i ≤ s.length ∧ Hid (no = 2 * i) ∧ Hid (Ow w1 wr 5 1 Ao no co (u8s (hexL (s.take i))))) (fun _ iv _ => s.length - (intOf iv).toNat)
 case atStart => exact ⟨0, 0, 0, none, rfl, rfl, Nat.zero_le _, Lib.hid rfl, Lib.hid (Ow.nil_ (Below.refl _ _))⟩
 case round =>
  obtain ⟨i, no, co, Ao, rfl, rfl, hi, hno, hO⟩ := hrel
  by_cases hlt : i < s.length
  ·obtain ⟨c, hc⟩ : ∃ c, s[i]? = some c := ⟨s[i]'hlt, List.getElem?_eq_getElem _⟩
   have y0 := HB.out wr hO.out.2 i c hc
   have Hx := Lib.hid (hex_snoc hc)
   obtain ⟨d1, hd1⟩ : ∃ d1, d1 = digs.getD (c.toNat / 16) 0 := ⟨_, rfl⟩
   obtain ⟨d2, hd2⟩ : ∃ d2, d2 = digs.getD (c.toNat % 16) 0 := ⟨_, rfl⟩
   rw [← hd1, ← hd2] at Hx
   have R1 : Hid (∀ V : World, (Instr.index 9 (.string ⟨#[48, 49, 50, 51, 52, 53, 54, 55, 56, 57, 97, 98, 99, 100, 101, 102]⟩) (.int .u8 ((c.toNat : Int) / 16))).run Tryz.prog V = .ok (U8 d1) V) := Lib.hid (fun V => by rw [hd1, show (c.toNat : Int) / 16 = ((c.toNat / 16 : Nat) : Int) by omega]; exact run_dig _ (by have := c.toNat_lt; omega) V)
   have R2 : Hid (∀ V : World, (Instr.index 9 (.string ⟨#[48, 49, 50, 51, 52, 53, 54, 55, 56, 57, 97, 98, 99, 100, 101, 102]⟩) (.int .u8 ((c.toNat : Int) % 16))).run Tryz.prog V = .ok (U8 d2) V) := Lib.hid (fun V => by rw [hd2, show (c.toNat : Int) % 16 = ((c.toNat % 16 : Nat) : Int) by omega]; exact run_dig _ (by omega) V)
   have q1 : no + 2 ≤ maxLen := by have := hno.out; simp only [maxLen]; omega
   have q2 : (no + 2) * 1 ≤ 140737488355328 := by have := hno.out; omega
   have HnE : Hid (∀ k, wr.heap.size ≤ k → ¬ (Value.slice Ao no co).ownBlock = some k) := Lib.hid (fun k hk e => by have := (hO.out.1.lt k e).2; omega)
   have HU : Hid (IntKind.u8.wrap ((c.toNat : Int) / 16) = (c.toNat : Int) / 16 ∧ IntKind.u8.wrap ((c.toNat : Int) % 16) = (c.toNat : Int) % 16) := Lib.hid ⟨u8_quo ⟨c.toNat, c.toNat_lt⟩, u8_rem ⟨c.toNat, c.toNat_lt⟩⟩
   clear hc hd1 hd2
   obtain ⟨W, hW⟩ : ∃ W, W = wr := ⟨_, rfl⟩
   subst hW
   go_wp2
   clear y0
   refine wp_region_chainG (by kernel_rfl) 9 (by kernel_rfl) ?_ [8] (by kernel_rfl) (fun w w' => Fr (fun j => (Value.slice Ao no co).ownBlock = some j) w w') (fun _ _ hb => Fr.of_below hb) (hx5Phi Ao no co c d1 d2) hx5Phi_mono (orJ w1.heap.size W Ao no co 2 (hexL (s.take (i + 1)))) orJ.step ⟨undef, below_drewN (Below.refl _ W) 1⟩ (fun i9 o9 hi hiC ho a w jj u hj hs hm => ?_) (fun t i9 o9 ht ho a w u hj hs hm => ?_) (fun o9 ho a w9 u hj hu hs hm => ?_)
   ·exact dst_ltC2 (n := 25) (by kernel_rfl)
   ·have hfr := orJ.fr _ _ _ hj
    exact match i9, hi, hiC, ho with
     | 0, _, _, ho => by
       cases ho
       rw [if_pos (wanted_none _ rfl)]
       refine wp_value (st_move rfl ((hs.keeps (by kernel_rfl)).trans rfl)) ⟨_, rfl, rfl, Below.refl _ _⟩
     | 1, _, _, ho => by
       cases ho
       rw [if_pos (wanted_none _ rfl)]
       refine wp_value (st_move rfl ((hs.keeps (by kernel_rfl)).trans rfl)) ⟨_, rfl, rfl, Below.refl _ _⟩
     | 2, _, _, ho => by
       cases ho
       rw [if_pos (wanted_none _ rfl)]
       have h1 := eval_getD (hm.get 1 14 (by kernel_rfl)); unfold Oper.wp; simp only [execOp]; go_simp; exact ⟨_, rfl, (show Value.int _ _ = Value.int _ _ by first | rfl | rw [HU.out.1] | rw [HU.out.2]), Below.refl _ _⟩
     | 3, _, _, ho => by
       cases ho
       rw [if_pos (wanted_none _ rfl)]
       have hd := R1.out w; have h1 := eval_getD (hm.get 2 15 (by kernel_rfl)); unfold Oper.wp; simp only [execOp]; go_simp; exact ⟨_, rfl, rfl, Below.refl _ _⟩
     | 4, _, _, ho => by
       cases ho
       rw [if_pos (wanted_none _ rfl)]
       refine wp_value (st_move rfl ((hs.keeps (by kernel_rfl)).trans rfl)) ⟨_, rfl, rfl, Below.refl _ _⟩
     | 5, _, _, ho => by
       cases ho
       rw [if_pos (wanted_none _ rfl)]
       have h1 := eval_getD (hm.get 4 17 (by kernel_rfl)); unfold Oper.wp; simp only [execOp]; go_simp; exact ⟨_, rfl, (show Value.int _ _ = Value.int _ _ by first | rfl | rw [HU.out.1] | rw [HU.out.2]), Below.refl _ _⟩
     | 6, _, _, ho => by
       cases ho
       rw [if_pos (wanted_none _ rfl)]
       have hd := R2.out w; have h1 := eval_getD (hm.get 5 18 (by kernel_rfl)); unfold Oper.wp; simp only [execOp]; go_simp; exact ⟨_, rfl, rfl, Below.refl _ _⟩
     | 7, _, _, ho => by
       cases ho
       rw [if_pos (wanted_none _ rfl)]
       have hge := hfr.size; have h1 := eval_getD (hm.get 3 16 (by kernel_rfl)); have h2 := eval_getD (hm.get 6 19 (by kernel_rfl)); unfold Oper.wp; simp only [execOp]; go_simp; exact ⟨_, rfl, ⟨w.heap.size, rfl, ⟨rfl, fun _ => ⟨_, _, rfl, by simp, fun k hk => by rw [Nat.zero_add]; simp [u8s]⟩⟩, fun b9 off9 _ e9 => by cases e9; exact HnE.out _ hge⟩, balloc (Below.refl _ w) _⟩
     | 8, _, hiC, _ => absurd (by decide) hiC
     | (n + 9), hi, _, _ => absurd hi (by omega)

   ·exact match t, ht, hj with
    | 0, ht, hj => by
      cases ht
      cases ho
      refine ⟨wanted_none _ rfl, ?_⟩
      have h1 : a.eval (.tmp 13) = .slice Ao no co := hm.get 0 13 (by kernel_rfl)
      refine Exists.elim (show ∃ gb : Nat, a.eval (.tmp 20) = .slice (some ⟨gb, 0, none⟩) 2 2 ∧ SlF (fun j => (Value.slice Ao no co).ownBlock = some j) w 1 (some ⟨gb, 0, none⟩) 2 (u8s [d1, d2]) from hm.get 7 20 (by kernel_rfl)) fun gb h2 => ?_
      have hrw : w.ownsRow w1.heap.size 5 1 (.slice Ao no co) no (u8s (hexL (s.take i))) := own_stepP hO.out.1 hj
      have hbw : w1.heap.size ≤ w.heap.size := Nat.le_trans hO.out.2.size hj.size
      refine wp_append_sl w (.tmp 13) (.tmp 20) 38 rfl (baseW w w1.heap.size) 5 i0 _ 1 1 Tryz.underlying38 hi0 hz0 hz1 hz2 rfl Nat.one_pos Ao no co _ h1 (ow_of hrw hbw) _ 2 2 (u8s [d1, d2]) h2.1 h2.2.1 (one_u8s [d1, d2]) q1 q2 (fun A' c' w' h3 h4 h5 => ⟨_, rfl, trivial, ⟨A', c', rfl, ?_, ?_, ?_⟩, ?_⟩)
      ·exact (Fr.of_below hj).trans (Fr.of_grown h4 (fun j e => e))
      ·have h6 := h3.1
       rw [baseW_size hbw, show u8s (hexL (s.take i)) ++ u8s [d1, d2] = u8s (hexL (s.take i) ++ [d1, d2]) by simp [u8s], Hx.out] at h6
       exact h6
      ·rcases h5 with h5 | h5
       ·exact .inl h5
       ·exact .inr ⟨_, h5, hj.size⟩
      ·exact Fr.of_grown h4 (fun j e => e)
    | (t + 1), ht, _ => by cases ht
   ·obtain ⟨A', c', rfl, hf9, hr9, ho9⟩ := hj
    have e21 : a.eval (.tmp 21) = .slice A' (no + 2) c' := hu 0 8 21 _ rfl rfl rfl rfl
    have H9 : Hid (Ow w1 w9 5 1 A' (no + 2) c' (u8s (hexL (s.take (i + 1))))) := Lib.hid ⟨hr9, hO.out.2.trans (hf9.below hO.out.2.size (fun k e => (hO.out.1.lt k e).1))⟩
    have hfr := hs.frame [13, 14, 15, 16, 17, 18, 19, 20, 21] (by kernel_rfl)
    cases ho
    rw [hfr]
    simp only [List.foldl_cons, List.foldl_nil, e21]
    clear hfr hs hm hu e21 hf9 hr9 ho9
    generalize a.eval (.tmp 13) = u13, a.eval (.tmp 14) = u14, a.eval (.tmp 15) = u15, a.eval (.tmp 16) = u16, a.eval (.tmp 17) = u17, a.eval (.tmp 18) = u18, a.eval (.tmp 19) = u19, a.eval (.tmp 20) = u20
    unfold Oper.wp
    simp only [execOp]
    go_simp
    clear a
    go_wp2
    go_roundw
    case rel => exact ⟨i + 1, no + 2, c', A', rfl, by go_num, hlt, Lib.hid (by have := hno.out; omega), H9⟩
    case measure => simp [intOf]; omega
  ·obtain rfl : i = s.length := by omega
   have hcv := run_conv_str (P := Tryz.prog) wr 38 9 5 Ao no co _ Tryz.underlying38 Tryz.underlying5 Tryz.underlying9 hO.out.sl
   go_wp2
   go_ret
   exact ⟨by simp, bstep B1.out hO.out.2⟩
end Go.Proofs.YtcednfmkiaelnaaGreatDoor
