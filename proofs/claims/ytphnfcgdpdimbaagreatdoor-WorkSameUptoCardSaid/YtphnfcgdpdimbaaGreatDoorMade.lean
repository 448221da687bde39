/-
  dolmenlaw20.made. Conditions: the world can be read and is of a bounded bulk; MaxLen holds an int.
-/
import Derived.Test.YtphnfcgdpdimbaaGreatDoorKitI
import Derived.Test.YtphnfcgdpdimbaaGreatDoorKitM
import Derived.Test.YtphnfcgdpdimbaaGreatDoorWorkId
import Derived.Test.YtphnfcgdpdimbaaGreatDoorWorkClobber
import Derived.Deep.CutBlock
namespace Go.Proofs.YtphnfcgdpdimbaaGreatDoor
open Go.RowKit
open IdxLaw (Ent)

def md6Phi (g1 b off n c i co g c5 : Nat) (Ao A5 : Option Addr) (s : List UInt8) (RA : Option Addr) (rk rc : Nat) : Nat → Value → World → Prop
  | 0, v, _ => v = .slice Ao i co
  | 1, v, _ => v = .pointer (some ⟨g1, 1, none⟩)
  | 2, v, _ => v = .slice (some ⟨b, off, none⟩) n c
  | 3, v, _ => v = I ((i : Int))
  | 4, v, _ => v = .pointer (some ⟨b, off + i * 2, none⟩)
  | 5, v, _ => v = .pointer (some ⟨b, off + i * 2, none⟩)
  | 6, v, _ => v = S s
  | 7, v, _ => v = .pointer (some ⟨g1, 1, none⟩)
  | 8, v, _ => v = .slice (some ⟨b, off, none⟩) n c
  | 9, v, _ => v = I ((i : Int))
  | 10, v, _ => v = .pointer (some ⟨b, off + i * 2, none⟩)
  | 11, v, _ => v = .pointer (some ⟨b, off + i * 2 + 1, none⟩)
  | 12, v, _ => v = .slice RA rk rc
  | 13, v, _ => v = .agg #[S s, .slice RA rk rc]
  | 14, v, _ => v = .slice (some ⟨g, 0, none⟩) 1 1
  | 15, v, _ => v = .slice A5 (i + 1) c5
  | _, _, _ => True
def md19Phi (p r g : Nat) (s : List UInt8) (RA : Option Addr) (rk rc : Nat) (st ans : Int) : Nat → Value → World → Prop
  | 0, v, _ => v = .bool true
  | 1, v, _ => v = .bool true
  | 2, v, _ => v = .pointer (some ⟨p, 0, none⟩)
  | 3, v, _ => v = .pointer (some ⟨g, 0, none⟩)
  | 4, v, _ => v = S s
  | 5, v, _ => v = .pointer (some ⟨g, 1, none⟩)
  | 6, v, _ => v = .slice RA rk rc
  | 7, v, _ => v = .pointer (some ⟨g, 3, none⟩)
  | 8, v, _ => v = I st
  | 9, v, _ => v = I ans
  | 10, v, _ => v = .pointer (some ⟨r, 0, none⟩)
  | 11, v, _ => v = .pointer (some ⟨g, 0, none⟩)
  | 12, v, _ => v = S s
  | 13, v, _ => v = .pointer (some ⟨g, 1, none⟩)
  | 14, v, _ => v = .slice RA rk rc
  | 15, v, _ => v = .pointer (some ⟨g, 3, none⟩)
  | 16, v, _ => v = I st
  | 17, v, _ => v = I ans
  | 18, v, _ => v = .bool true
  | 19, v, _ => v = .bool true
  | _, _, _ => True
theorem md19Phi_mono {E : Nat → Prop} {p r g : Nat} {s : List UInt8} {RA : Option Addr} {rk rc : Nat} {st ans : Int} : ∀ (j : Nat) (v : Value) (w w' : World), md19Phi p r g s RA rk rc st ans j v w → Fr E w w' → md19Phi p r g s RA rk rc st ans j v w' := by
  intro j v w w' h _
  match j, h with
  | 0, h => exact h
  | 1, h => exact h
  | 2, h => exact h
  | 3, h => exact h
  | 4, h => exact h
  | 5, h => exact h
  | 6, h => exact h
  | 7, h => exact h
  | 8, h => exact h
  | 9, h => exact h
  | 10, h => exact h
  | 11, h => exact h
  | 12, h => exact h
  | 13, h => exact h
  | 14, h => exact h
  | 15, h => exact h
  | 16, h => exact h
  | 17, h => exact h
  | 18, h => exact h
  | 19, h => exact h
  | (n + 20), _ => trivial
def md24Phi (z g : Nat) (s : List UInt8) (RA : Option Addr) (rk rc : Nat) (st : Int) (B : Option Addr) (bk bc : Nat) (id : List UInt8) (mx : Int) : Nat → Value → World → Prop
  | 0, v, _ => v = .pointer (some ⟨z, 0, none⟩)
  | 1, v, _ => v = .pointer (some ⟨g, 0, none⟩)
  | 2, v, _ => v = S s
  | 3, v, _ => v = .slice B bk bc
  | 4, v, _ => v = S ((id))
  | 5, v, _ => v = .pointer (some ⟨g, 1, none⟩)
  | 6, v, _ => v = .slice RA rk rc
  | 7, v, _ => v = I ((rk : Int))
  | 8, v, _ => v = .pointer (some ⟨g, 3, none⟩)
  | 9, v, _ => v = I st
  | 10, v, _ => v = I mx
  | 11, v, _ => v = .agg #[S s, I 0, S (id), I (rk : Int), I mx]
  | _, _, _ => True
theorem md24Phi_mono {z g : Nat} {s : List UInt8} {RA : Option Addr} {rk rc : Nat} {st : Int} {B : Option Addr} {bk bc : Nat} {id : List UInt8} {mx : Int} : ∀ (j : Nat) (v : Value) (w w' : World), md24Phi z g s RA rk rc st B bk bc id mx j v w → Below w.heap.size w w' → md24Phi z g s RA rk rc st B bk bc id mx j v w' := by
  intro j v w w' h _
  match j, h with
  | 0, h => exact h
  | 1, h => exact h
  | 2, h => exact h
  | 3, h => exact h
  | 4, h => exact h
  | 5, h => exact h
  | 6, h => exact h
  | 7, h => exact h
  | 8, h => exact h
  | 9, h => exact h
  | 10, h => exact h
  | 11, h => exact h
  | (n + 12), _ => trivial
def md25Phi (z g : Nat) (s : List UInt8) (RA : Option Addr) (rk rc : Nat) (st : Int) (B : Option Addr) (bk bc : Nat) (mx : Int) : Nat → Value → World → Prop
  | 0, v, _ => v = .pointer (some ⟨z, 0, none⟩)
  | 1, v, _ => v = .pointer (some ⟨g, 0, none⟩)
  | 2, v, _ => v = S s
  | 3, v, _ => v = .slice B bk bc
  | 4, v, _ => ∃ id : List UInt8, v = S id
  | 5, v, _ => v = .pointer (some ⟨g, 1, none⟩)
  | 6, v, _ => v = .slice RA rk rc
  | 7, v, _ => v = I ((rk : Int))
  | 8, v, _ => v = .pointer (some ⟨g, 3, none⟩)
  | 9, v, _ => v = I st
  | 10, v, _ => v = I mx
  | 11, v, _ => ∃ id : List UInt8, v = .agg #[S s, I 0, S id, I (rk : Int), I mx]
  | _, _, _ => True
theorem md25Phi_mono {z g : Nat} {s : List UInt8} {RA : Option Addr} {rk rc : Nat} {st : Int} {B : Option Addr} {bk bc : Nat} {mx : Int} : ∀ (j : Nat) (v : Value) (w w' : World), md25Phi z g s RA rk rc st B bk bc mx j v w → Below w.heap.size w w' → md25Phi z g s RA rk rc st B bk bc mx j v w' := by
  intro j v w w' h hb9
  match j, h with
  | 0, h => exact h
  | 1, h => exact h
  | 2, h => exact h
  | 3, h => exact h
  | 4, h => exact h
  | 5, h => exact h
  | 6, h => exact h
  | 7, h => exact h
  | 8, h => exact h
  | 9, h => exact h
  | 10, h => exact h
  | 11, h => exact h
  | (n + 12), _ => trivial
theorem rfs_take : ∀ (l : List (List UInt8 × RwB)) (i : Nat), (rfs l).take (i * 2) = rfs (l.take i)
  | [], i => by simp [rfs]
  | x :: l, 0 => by simp [rfs]
  | x :: l, i + 1 => by
    have h := rfs_take l i
    rw [show (i + 1) * 2 = i * 2 + 2 by omega, List.take_succ_cons]
    unfold rfs at h ⊢
    rw [List.flatMap_cons, List.flatMap_cons, ← h]
    show ([S x.1, x.2.v] ++ _).take (i * 2 + 2) = [S x.1, x.2.v] ++ _
    rw [List.cons_append, List.cons_append, List.nil_append, List.take_succ_cons, List.take_succ_cons]
    rfl
theorem rfs_cut {w : World} {A : Option Addr} {n c i : Nat} {l : List (List UInt8 × RwB)} (h : Sl w 2 A n (rfs l)) (hc : n ≤ c) (hi : i ≤ n) : Sl w 2 (cutA A c 0 2) i (rfs (l.take i)) := by
  have h1 := h.cut (Nat.zero_le i) hi hc
  rw [Nat.zero_mul, List.drop_zero, Nat.sub_zero, rfs_take] at h1
  exact h1
theorem bstep' {B : Nat} {w0 w w' : World} (h : Below B w0 w) (h2 : Below B w w') : Below B w0 w' := h.trans h2
theorem and_small (z : Int) : ∃ cap : Nat, cap ≤ 1048575 ∧ bits .and .i64 z 1048575 = (cap : Int) := by
  have e : bits .and .i64 z 1048575 = IntKind.i64.wrap (((BitVec.ofInt 64 z &&& BitVec.ofInt 64 1048575).toNat : Nat) : Int) := rfl
  have h : (BitVec.ofInt 64 z &&& BitVec.ofInt 64 1048575).toNat ≤ 1048575 := by
    rw [BitVec.toNat_and]
    exact Nat.le_trans Nat.and_le_right (by decide)
  exact ⟨_, h, by rw [e, IntWalk.i64_in _ (by omega)]⟩
theorem Tryz.infoDFile : (Tryz.prog.info? 88).map (fun i => (i.zero, i.size, i.bytes)) = some (some (.agg #[.string ⟨#[]⟩, .slice none 0 0]), 2, 40) := by kernel_rfl
set_option maxHeartbeats 16000000 in
set_option maxRecDepth 100000 in
theorem made20_any (x : Wd) (w : World) (hx : x.ok w) (hM : MaxL w) :
    Calls Tryz.prog 7 #[.agg #[I x.room, .slice x.A x.n x.c, .slice x.B x.m x.d, .slice x.C x.j x.e, .slice x.D x.k x.f]] w fun e w' => ∃ (p mp r q mi zz nn cap i : Nat) (L l : List DF) (li lz : List Ent), e = .returned (.tuple #[.pointer (some ⟨p, 0, none⟩), .pointer (some ⟨r, 0, none⟩), .pointer (some ⟨q, 0, none⟩), .pointer (some ⟨zz, 0, none⟩), .bool true]) ∧
      MdS w' p mp r q mi zz nn cap i L l li lz ∧ nn ≤ 4000000 ∧ cap ≤ 1048575 ∧ i ≤ 30 ∧ (∀ k, mdE p mp r q mi zz k → w.heap.size ≤ k) ∧ Below w.heap.size w w' := by
  obtain ⟨i0, hi0, hz0, hz1, hz2⟩ := info_parts Tryz.infoDFile
  obtain ⟨room, A, n, c, raw, B, m, d, puts, C, j, e, cur, D, k, f, tgt⟩ := x
  obtain ⟨hraw, hrc, hrn, hrg, hput, hpn, hpg, _, _, _, _, _, _⟩ := hx
  simp only at hraw hrc hrn hrg hput hpn hpg ⊢
  have HA := Lib.hid hraw
  have HB := Lib.hid hput
  have HRg := Lib.hid hrg
  have HPg := Lib.hid hpg
  have HM := Lib.hid hM
  have Hln := Lib.hid (rfs_count hraw)
  have Hn := Lib.hid hrn
  have Hrc := Lib.hid hrc
  have Hm := Lib.hid hpn
  obtain ⟨cap, hcap, hand⟩ := and_small room
  have Hcap := Lib.hid hcap
  obtain ⟨g1, hg1⟩ : ∃ g1, g1 = w.heap.size := ⟨_, rfl⟩
  obtain ⟨w1, hw1⟩ : ∃ w1, w1 = w.alloc (.cells #[I room, .slice A n c, .slice B m d, .slice C j e, .slice D k f] 26) := ⟨_, rfl⟩
  have hG1 : Blk w1 g1 26 #[I room, .slice A n c, .slice B m d, .slice C j e, .slice D k f] := by rw [hw1, hg1]; exact Blk.new w _ _
  have b1 : Below w.heap.size w w1 := by rw [hw1]; exact balloc (Below.refl _ w) _
  have HG1 := Lib.hid hG1
  have B1 := Lib.hid b1
  have rg := hG1.cell
  clear hraw hrc hrn hrg hput hpn hpg hM hcap hG1 b1
  go_enter Tryz.func7, Tryz.ntmps7
  go_upto_block 0 with fail
  simp only [← hg1]
  rw [← hw1]
  have Hg1 := Lib.hid hg1
  clear hg1 hw1
  go_cut [8, 9] from 23 (fun kv iv W => ∃ (i co : Nat) (Ao : Option Addr), i ≤ n ∧ i ≤ 40 ∧ kv = .slice Ao i co ∧ iv = .int .i64 i ∧ Hid (Ow w1 W 88 2 Ao i co (rfs (raw.take i))))
  case first =>
   go_wp2
   go_loopw [8, 9] (fun kv iv wr => ∃ (i co : Nat) (Ao : Option Addr), i ≤ n ∧ i ≤ 40 ∧ kv = .slice Ao i co ∧ iv = .int .i64 i ∧ Hid (Ow w1 wr 88 2 Ao i co (rfs (raw.take i)))) (fun _ v _ => 40 - (intOf v).toNat)
   case atStart => exact ⟨0, 0, none, Nat.zero_le _, Nat.zero_le _, rfl, rfl, Lib.hid (Ow.nil_ (Below.refl _ _))⟩
   case round =>
     obtain ⟨i, co, Ao, hi, hi40, rfl, rfl, hO⟩ := hrel
     have rg := (HG1.out.step hO.out.2).cell
     by_cases hgo : i < n ∧ i < 40
     · obtain ⟨hlt, hlt40⟩ := hgo
       have d1 : decide ((i : Int) < (n : Int)) = true := decide_eq_true (by omega)
       have d2 : decide ((i : Int) < 40) = true := decide_eq_true (by omega)
       obtain ⟨b, off, x, rfl, hbw, hx, x0, x1⟩ := HA.out.rf hlt
       obtain ⟨s, r⟩ := x
       obtain ⟨RA, rk, rc, bs⟩ := r
       have HY : Hid (∀ V, Below w1.heap.size w1 V → V.cell? ⟨b, off + i * 2, none⟩ = some (S s) ∧ V.cell? ⟨b, off + i * 2 + 1, none⟩ = some (.slice RA rk rc) ∧ V.cell? ⟨g1, 1, none⟩ = some (.slice (some ⟨b, off, none⟩) n c)) := Lib.hid (fun V hV => by
         have h9 := bstep B1.out hV
         exact ⟨(World.cell?_of_block (h9.block b hbw)).trans x0, (World.cell?_of_block (h9.block b hbw)).trans x1, (HG1.out.step hV).cell 1⟩)
       have hE : rfs (raw.take (i + 1)) = rfs (raw.take i) ++ rfs [(s, (⟨RA, rk, rc, bs⟩ : RwB))] := by
         rw [List.take_add_one, hx, rfs_append]; rfl
       obtain ⟨W, hW⟩ : ∃ W, W = wr := ⟨_, rfl⟩
       subst hW
       have HO6 := Lib.hid (hO.out.drew.alloc (.cells #[S s, .slice RA rk rc] 88))
       have hS6 := sl_rf W.drew 88 (s, (⟨RA, rk, rc, bs⟩ : RwB))
       obtain ⟨A5, c5, w5, hrun, hO5, hg5, _⟩ := run_append_sl (P := Tryz.prog) _ w1.heap.size 85 85 88 i0 _ 2 40 Tryz.underlying85 hi0 hz0 hz1 hz2 rfl (by decide) (.slice Ao i co) i (rfs (raw.take i)) HO6.out.1 _ 1 1 (rfs [(s, (⟨RA, rk, rc, bs⟩ : RwB))]) hS6 (one_rfs _) (by simp only [maxLen]; omega) (by omega) HO6.out.2.size
       have hb5 : Below w1.heap.size w1 w5 := HO6.out.2.grown hg5 HO6.out.2.size (fun k hk => (HO6.out.1.lt k hk).1)
       have HO5 : Hid (Ow w1 w5 88 2 A5 (i + 1) c5 (rfs (raw.take (i + 1)))) := Lib.hid (by rw [hE]; exact ⟨hO5, hb5⟩)
       have HBel := Lib.hid (CJ.bel (w0 := w1) (W0 := W.drew) (W1 := W.drew.alloc (.cells #[S s, .slice RA rk rc] 88)) (W2 := w5) hO.out.2.drew HO6.out.2 hb5)
       have Hrun := Lib.hid hrun
       clear hS6 hrun hO5 hg5 hb5 HO6 hE hx x0 x1 hbw
       obtain ⟨g, hg⟩ : ∃ g, g = W.heap.size := ⟨_, rfl⟩
       have Hg := Lib.hid hg
       clear hg
       go_wp2
       refine wp_region_pairR (by kernel_rfl) 16 (by kernel_rfl) ?_ (fun q v => md6Phi g1 b off n c i co g c5 Ao A5 s RA rk rc q v W) 14 15 (by kernel_rfl) (fun w w' => w' = w) (fun _ => rfl) (CJ W.drew (W.drew.alloc (.cells #[S s, .slice RA rk rc] 88)) w5) CJ.step rfl (fun i9 o hi hi1 hi2 ho a w k' hk hk2 hs hm => ?_) (fun o ho a w hj hs hm => ?_) (fun o ho a w hj hs hm => ?_) (fun o ho a w hj hs hm => ?_)
       · exact dst_ltC2 (n := 177) (by kernel_rfl)
       · obtain ⟨y0, y1, y2⟩ := HY.out w (HBel.out k' w hk)
         exact match i9, hi, ho, hi1, hi2 with
             | 0, _, ho, _, _ => by
                 cases ho
                 rw [if_pos (wanted_none _ rfl)]
                 refine wp_value (st_move rfl ((hs.keeps (by kernel_rfl)).trans rfl)) ⟨_, rfl, rfl, rfl⟩
             | 1, _, ho, _, _ => by
                 cases ho
                 rw [if_pos (wanted_none _ rfl)]
                 refine wp_value (st_field rfl ((hs.keeps (by kernel_rfl)).trans rfl) (by kernel_rfl)) ⟨_, rfl, rfl, rfl⟩
             | 2, _, ho, _, _ => by
                 cases ho
                 rw [if_pos (wanted_none _ rfl)]
                 have hx := y2; have h1 := eval_getD (hm.get 1 35 (by kernel_rfl)); unfold Oper.wp; simp only [execOp]; go_simp; (first | exact ⟨_, rfl, rfl⟩ | exact ⟨_, rfl, rfl, rfl⟩)
             | 3, _, ho, _, _ => by
                 cases ho
                 rw [if_pos (wanted_none _ rfl)]
                 refine wp_value (st_move rfl ((hs.keeps (by kernel_rfl)).trans rfl)) ⟨_, rfl, rfl, rfl⟩
             | 4, _, ho, _, _ => by
                 cases ho
                 rw [if_pos (wanted_none _ rfl)]
                 have h1 := eval_getD (hm.get 2 36 (by kernel_rfl)); have h2 := eval_getD (hm.get 3 37 (by kernel_rfl)); unfold Oper.wp; simp only [execOp]; go_simp; (first | exact ⟨_, rfl, rfl⟩ | exact ⟨_, rfl, rfl, rfl⟩)
             | 5, _, ho, _, _ => by
                 cases ho
                 rw [if_pos (wanted_none _ rfl)]
                 have h1 := eval_getD (hm.get 4 38 (by kernel_rfl)); unfold Oper.wp; simp only [execOp]; go_simp; (first | exact ⟨_, rfl, rfl⟩ | exact ⟨_, rfl, rfl, rfl⟩)
             | 6, _, ho, _, _ => by
                 cases ho
                 rw [if_pos (wanted_none _ rfl)]
                 have hx := y0; have h1 := eval_getD (hm.get 5 39 (by kernel_rfl)); unfold Oper.wp; simp only [execOp]; go_simp; (first | exact ⟨_, rfl, rfl⟩ | exact ⟨_, rfl, rfl, rfl⟩)
             | 7, _, ho, _, _ => by
                 cases ho
                 rw [if_pos (wanted_none _ rfl)]
                 refine wp_value (st_field rfl ((hs.keeps (by kernel_rfl)).trans rfl) (by kernel_rfl)) ⟨_, rfl, rfl, rfl⟩
             | 8, _, ho, _, _ => by
                 cases ho
                 rw [if_pos (wanted_none _ rfl)]
                 have hx := y2; have h1 := eval_getD (hm.get 7 41 (by kernel_rfl)); unfold Oper.wp; simp only [execOp]; go_simp; (first | exact ⟨_, rfl, rfl⟩ | exact ⟨_, rfl, rfl, rfl⟩)
             | 9, _, ho, _, _ => by
                 cases ho
                 rw [if_pos (wanted_none _ rfl)]
                 refine wp_value (st_move rfl ((hs.keeps (by kernel_rfl)).trans rfl)) ⟨_, rfl, rfl, rfl⟩
             | 10, _, ho, _, _ => by
                 cases ho
                 rw [if_pos (wanted_none _ rfl)]
                 have h1 := eval_getD (hm.get 8 42 (by kernel_rfl)); have h2 := eval_getD (hm.get 9 43 (by kernel_rfl)); unfold Oper.wp; simp only [execOp]; go_simp; (first | exact ⟨_, rfl, rfl⟩ | exact ⟨_, rfl, rfl, rfl⟩)
             | 11, _, ho, _, _ => by
                 cases ho
                 rw [if_pos (wanted_none _ rfl)]
                 have h1 := eval_getD (hm.get 10 44 (by kernel_rfl)); unfold Oper.wp; simp only [execOp]; go_simp; (first | exact ⟨_, rfl, rfl⟩ | exact ⟨_, rfl, rfl, rfl⟩)
             | 12, _, ho, _, _ => by
                 cases ho
                 rw [if_pos (wanted_none _ rfl)]
                 have hx := y1; have h1 := eval_getD (hm.get 11 45 (by kernel_rfl)); unfold Oper.wp; simp only [execOp]; go_simp; (first | exact ⟨_, rfl, rfl⟩ | exact ⟨_, rfl, rfl, rfl⟩)
             | 13, _, ho, _, _ => by
                 cases ho
                 rw [if_pos (wanted_none _ rfl)]
                 have h1 := eval_getD (hm.get 6 40 (by kernel_rfl)); have h2 := eval_getD (hm.get 12 46 (by kernel_rfl)); unfold Oper.wp; simp only [execOp]; go_simp; (first | exact ⟨_, rfl, rfl⟩ | exact ⟨_, rfl, rfl, rfl⟩)
             | 14, _, _, h, _ => absurd rfl h
             | 15, _, _, _, h => absurd rfl h
             | (n + 16), hi, _, _, _ => absurd hi (by omega)

       · cases ho
         obtain rfl : w = W.drew := hj
         have h1 := eval_getD (hm.get 13 47 (by kernel_rfl))
         unfold Oper.wp
         simp only [execOp]
         go_simp
         exact ⟨_, rfl, show Value.slice _ _ _ = Value.slice _ _ _ by rw [Hg.out], rfl⟩
       · have hj1 : w = W.drew.alloc (.cells #[S s, .slice RA rk rc] 88) := hj
         subst hj1
         obtain ⟨h1, h2, h3, h4, h5⟩ : a.eval (.tmp 34) = .slice Ao i co ∧ a.eval (.tmp 48) = .slice (some ⟨g, 0, none⟩) 1 1 ∧ o.op = .call { callee := .builtin .append, args := #[.tmp 34, .tmp 48], argTypes := #[85, 85] } ∧ o.dst = some 49 ∧ o.type = 85 := by
           cases ho
           exact ⟨hm.get 0 34 (by kernel_rfl), hm.get 14 48 (by kernel_rfl), rfl, rfl, rfl⟩
         rw [Hg.out] at h2
         have hr := Hrun.out
         simp only [World.size_drew] at hr
         unfold Oper.wp execOp
         simp only [h3, h5, resolve, invoke, builtin, Sem.run_bind, Sem.run_pure, Result.andThen_ok, List.map_toArray, List.map_cons, List.map_nil, h1, h2, hr]
         exact ⟨_, rfl, rfl, rfl⟩
       · have e1 : a.eval (.tmp 49) = .slice A5 (i + 1) c5 := by cases ho; exact hm.get 15 49 (by kernel_rfl)
         have hfr := hs.frame [34, 35, 36, 37, 38, 39, 40, 41, 42, 43, 44, 45, 46, 47, 48, 49] (by kernel_rfl)
         cases ho
         obtain rfl : w = w5 := hj
         rw [hfr]
         simp only [List.foldl_cons, List.foldl_nil, e1]
         clear hfr hs hm e1
         generalize a.eval (.tmp 34) = u34
         generalize a.eval (.tmp 35) = u35
         generalize a.eval (.tmp 36) = u36
         generalize a.eval (.tmp 37) = u37
         generalize a.eval (.tmp 38) = u38
         generalize a.eval (.tmp 39) = u39
         generalize a.eval (.tmp 40) = u40
         generalize a.eval (.tmp 41) = u41
         generalize a.eval (.tmp 42) = u42
         generalize a.eval (.tmp 43) = u43
         generalize a.eval (.tmp 44) = u44
         generalize a.eval (.tmp 45) = u45
         generalize a.eval (.tmp 46) = u46
         generalize a.eval (.tmp 47) = u47
         generalize a.eval (.tmp 48) = u48
         unfold Oper.wp
         simp only [execOp]
         go_simp
         clear a
         go_wp2
         go_roundw
         case rel => exact ⟨i + 1, c5, A5, hlt, hlt40, rfl, by go_num, HO5⟩
         case measure => simp [intOf]; omega
     · have hd9 : (decide ((i : Int) < (n : Int)) = true ∧ decide ((i : Int) < 40) = false) ∨ decide ((i : Int) < (n : Int)) = false := by
         by_cases h : i < n
         · exact .inl ⟨decide_eq_true (by omega), decide_eq_false (by omega)⟩
         · exact .inr (decide_eq_false (by omega))
       rcases hd9 with ⟨d1, d2⟩ | d1
       · go_wp2
         all_goals
           go_meet
           case rel => exact ⟨i, co, Ao, hi, hi40, rfl, rfl, hO⟩
       · go_wp2
         all_goals
           go_meet
           case rel => exact ⟨i, co, Ao, hi, hi40, rfl, rfl, hO⟩
  case rest =>
    obtain ⟨i, co, Ao, hi, hi40, rfl, rfl, hO⟩ := hcut
    obtain ⟨wr, hwr⟩ : ∃ wr, wr = wc := ⟨_, rfl⟩
    subst hwr
    have hik : i ≤ n ∧ i ≤ 40 := ⟨hi, hi40⟩
    have Hik := Lib.hid hik
    have hg9 : ∀ f ∈ raw.take i, f.1.length ≤ 1048576 ∧ f.2.ok wr := fun f hf => by
      obtain ⟨h1, h2⟩ := HRg.out f (List.mem_of_mem_take hf)
      exact ⟨h1, h2.below (bstep B1.out hO.out.2)⟩
    have hcap9 := Hcap.out
    have CL := Lib.hid (dload_any wr cap Ao i co (raw.take i) (by omega) (by omega) hO.out.sl (by omega) hg9)
    have kh := fun V : World => run_cut_h (P := Tryz.prog) V Tryz.underlying22 Tryz.sizeRdF A n c .i64 i (by have := Hrc.out; omega)
    have CR := Lib.hid (fun W (hb : Below wr.heap.size wr W) => rload_any W cap (cutA A c 0 2) i (c - 0) (raw.take i) (by omega) (by omega) (rfs_cut (HA.out.below (bstep (bstep B1.out hO.out.2) hb)) Hrc.out hi) (by omega) (fun f hf => ⟨(hg9 f hf).1, (hg9 f hf).2.below hb⟩))
    have B2 := Lib.hid (bstep B1.out hO.out.2)
    have HG2 := Lib.hid (HG1.out.step hO.out.2)
    have B1r := Lib.hid hO.out.2
    clear hik hg9 hcap9 hO hi hi40
    go_wp2_with fail
    refine CL.out.mono ?_
    rintro e w3 ⟨v1, y1, rfl, h1, b3⟩
    have H1 := Lib.hid h1
    have B3 := Lib.hid b3
    have rg3 := (HG2.out.step b3).cell
    clear h1 b3 CL
    go_wp2_with fail
    refine (CR.out w3 B3.out).mono ?_
    rintro e w4 ⟨v2, y2, rfl, h2, b4⟩
    have H2 := Lib.hid h2
    have B4 := Lib.hid b4
    clear h2 b4 CR
    go_upto_region 9 with fail
    have hways : (y1 != 0) = true ∨ ((y1 != 0) = false ∧ (y2 != 0) = true) ∨ ((y1 != 0) = false ∧ (y2 != 0) = false ∧ y1 = 0 ∧ y2 = 0) := by
      by_cases h1 : y1 = 0
      · have e1 : (y1 != 0) = false := by rw [h1]; rfl
        by_cases h2 : y2 = 0
        · exact .inr (.inr ⟨e1, by rw [h2]; rfl, h1, h2⟩)
        · exact .inr (.inl ⟨e1, bne_iff_ne.2 h2⟩)
      · exact .inl (bne_iff_ne.2 h1)
    go_cut [71] from 66 (fun t W => ∃ q : Bool, t = .bool q ∧ Hid (q = true ∨ (q = false ∧ y1 = 0 ∧ y2 = 0)) ∧ W = w4)
    case first =>
      rcases hways with d1 | ⟨d1, d2⟩ | ⟨d1, d2, d3, d4⟩
      · go_wp2
        all_goals
          go_meet
          case rel => exact ⟨true, rfl, Lib.hid (.inl rfl), rfl⟩
      · go_wp2
        all_goals
          go_meet
          case rel => exact ⟨true, rfl, Lib.hid (.inl rfl), rfl⟩
      · have D := Lib.hid (And.intro d3 d4)
        clear d3 d4
        go_wp2
        all_goals
          go_meet
          case rel => exact ⟨false, rfl, Lib.hid (.inr ⟨rfl, D.out.1, D.out.2⟩), rfl⟩
    case rest =>
      obtain ⟨q, rfl, hq, rfl⟩ := hcut
      clear hways
      go_upto_if 71 with fail
      go_cut [10, 12] from 72 (fun dv rv W => ∃ (p mp r nn : Nat) (L l : List DF), dv = .pointer (some ⟨p, 0, none⟩) ∧ rv = .pointer (some ⟨r, 0, none⟩) ∧ Hid (w1.heap.size ≤ p ∧ w1.heap.size ≤ mp ∧ w1.heap.size ≤ r ∧ nn ≤ 1000) ∧ Hid (DiskAt W p mp nn cap L ∧ RdAt W r cap l ∧ Tied l L ∧ (costs L : Int) ≤ cap) ∧ Hid (Below w1.heap.size w1 W))
      case first =>
        have hcap9 := Hcap.out
        rcases hq.out with rfl | ⟨rfl, z1, z2⟩
        · have CN := Lib.hid (dnew_ok cap wc (by omega) (by omega))
          have CN2 := Lib.hid (fun W => rdnew_ok cap W (by omega) (by omega))
          clear hcap9
          go_wp2_with fail
          refine CN.out.mono ?_
          rintro e w5 ⟨p, mp, rfl, hp, hmp, hD, b5⟩
          have HP5 := Lib.hid (And.intro hp hmp)
          have HD5 := Lib.hid hD
          have B5 := Lib.hid b5
          clear hp hmp hD b5 CN
          go_wp2_with fail
          refine (CN2.out w5).mono ?_
          rintro e w6 ⟨r, rfl, hr, hR, b6⟩
          have HR6 := Lib.hid hR
          have B6 := Lib.hid b6
          have Hr6 := Lib.hid hr
          clear hr hR b6 CN2
          go_wp2
          go_meet
          case rel =>
            have hb := bstep (bstep (bstep B1r.out B3.out) B4.out) B5.out
            have hs1 := (bstep (bstep B1r.out B3.out) B4.out).size
            refine ⟨p, mp, r, 0, [], [], rfl, rfl, Lib.hid ⟨Nat.le_trans hs1 HP5.out.1, Nat.le_trans hs1 HP5.out.2, Nat.le_trans hb.size Hr6.out, by omega⟩, Lib.hid ⟨HD5.out.step B6.out, HR6.out, ⟨List.Pairwise.nil, List.Perm.refl _⟩, by simp [costs]⟩, Lib.hid (bstep hb B6.out)⟩
        · obtain ⟨p, mp, L, rfl, hp, hmp, hD, hc, hpm⟩ := H1.out z1
          obtain ⟨r, l, rfl, hr, hR, hsr, hpr⟩ := H2.out z2
          have F1 := Lib.hid (And.intro hp (And.intro hmp hr))
          have F2 := Lib.hid (And.intro hD (And.intro hR (And.intro hsr (And.intro hc (hpr.trans hpm.symm)))))
          clear hp hmp hD hc hpm hr hR hsr hpr hcap9 H1 H2 z1 z2
          go_wp2
          go_meet
          case rel =>
            have hb := bstep B1r.out B3.out
            refine ⟨p, mp, r, i, L, l, rfl, rfl, Lib.hid ⟨Nat.le_trans B1r.out.size F1.out.1, Nat.le_trans B1r.out.size F1.out.2.1, Nat.le_trans hb.size F1.out.2.2, by have := Hik.out; omega⟩, Lib.hid ⟨F2.out.1.step B4.out, F2.out.2.1, ⟨F2.out.2.2.1, F2.out.2.2.2.2⟩, F2.out.2.2.2.1⟩, Lib.hid (bstep hb B4.out)⟩
      case rest =>
        obtain ⟨p, mp, r, nn, L0, l0, rfl, rfl, HP0, HS0, HB0⟩ := hcut
        clear H1 H2 B3 B4 hq rg3
        obtain ⟨wa, hwa⟩ : ∃ wa, wa = wc := ⟨_, rfl⟩
        subst hwa
        go_wp2_with fail
        refine (new_any wa).mono ?_
        rintro e w7 ⟨q, mi, rfl, hI, hq, hmi, b7⟩
        obtain ⟨zz, hzz⟩ : ∃ zz, zz = w7.heap.size := ⟨_, rfl⟩
        obtain ⟨w8, hw8⟩ : ∃ w8, w8 = w7.alloc (.cells #[.slice none 0 0] 95) := ⟨_, rfl⟩
        have b8 : Below wa.heap.size wa w8 := by rw [hw8]; exact balloc b7 _
        have hpl := HS0.out.1.lt
        have hml := HS0.out.1.map.lt
        have hrl := HS0.out.2.1.lt
        have hS8 : MdS w8 p mp r q mi zz nn cap 0 L0 l0 [] [] := by
          refine ⟨HS0.out.1.step b8, HS0.out.2.1.step b8, HS0.out.2.2.1, HS0.out.2.2.2, ⟨0, Nat.le_refl _, ?_⟩, IdxLaw.inv_nil, ?_, Nat.le_refl _, by simp, by omega⟩
          · rw [hw8]; exact hI.step (balloc (Below.refl _ w7) _)
          · rw [hw8, hzz]
            exact RIx.new w7 (fun k => ((k = p ∨ k = mp) ∨ k = r) ∨ (k = q ∨ k = mi)) (fun k hk => by
              have h9 := b7.size
              have h10 := hI.blk.lt
              have h11 := hI.map.lt
              rcases hk with ((rfl | rfl) | rfl) | (rfl | rfl) <;> omega)
        have HS8 := Lib.hid hS8
        have HB8 := Lib.hid (bstep HB0.out b8)
        have HPz : Hid (w1.heap.size ≤ p ∧ w1.heap.size ≤ mp ∧ w1.heap.size ≤ r ∧ w1.heap.size ≤ q ∧ w1.heap.size ≤ mi ∧ w1.heap.size ≤ zz ∧ nn ≤ 1000) := Lib.hid (by
          have h9 := HB0.out.size
          have h10 := b7.size
          have h11 := HP0.out
          omega)
        have Hzz := Lib.hid hzz
        clear hI hq hmi b7 b8 hpl hml hrl hS8 HS0 HB0 HP0
        go_upto_block 2 with fail
        rw [← hw8]
        simp only [← hzz]
        clear hw8 hzz
        go_cut [16, 17] from 85 (fun okv iv W => okv = .bool true ∧ ∃ (nn i : Nat) (L l : List DF) (li lz : List Ent), iv = .int .i64 i ∧ i ≤ 30 ∧ Hid (MdS W p mp r q mi zz nn cap i L l li lz ∧ nn ≤ 1000 + i * 100000) ∧ Hid (Below w1.heap.size w1 W))
        case first =>
          go_wp2
          go_loopw [16, 17] (fun okv iv W => okv = .bool true ∧ ∃ (nn i : Nat) (L l : List DF) (li lz : List Ent), iv = .int .i64 i ∧ i ≤ 30 ∧ Hid (MdS W p mp r q mi zz nn cap i L l li lz ∧ nn ≤ 1000 + i * 100000) ∧ Hid (Below w1.heap.size w1 W)) (fun _ v _ => 30 - (intOf v).toNat)
          case atStart => exact ⟨rfl, nn, 0, L0, l0, [], [], rfl, by omega, Lib.hid ⟨HS8.out, by have := HPz.out; omega⟩, HB8⟩
          case round =>
            obtain ⟨rfl, nn, i, L, l, li, lz, rfl, hi30, hS, hBW⟩ := hrel
            have rg := (HG1.out.step hBW.out).cell
            by_cases hgo : i < m ∧ i < 30
            · obtain ⟨hlt, hlt30⟩ := hgo
              have d1 : decide ((i : Int) < (m : Int)) = true := decide_eq_true (by omega)
              have d2 : decide ((i : Int) < 30) = true := decide_eq_true (by omega)
              obtain ⟨b, off, x, rfl, hbw, hx, x0, x1, x2, x3, x4, x5⟩ := HB.out.pt hlt
              obtain ⟨s, r1, r2, st, sg, ii⟩ := x
              obtain ⟨hg1, hg2, hg3⟩ := HPg.out _ (List.mem_of_getElem? hx)
              simp only at x0 x1 x2 x3 x4 x5 hg1 hg2 hg3
              obtain ⟨RA, rk, rc, bs1⟩ := r1
              obtain ⟨RB, rk2, rc2, bs2⟩ := r2
              have hb9 := bstep B1.out hBW.out
              have y0 := (World.cell?_of_block (hb9.block b hbw)).trans x0
              have y1 := (World.cell?_of_block (hb9.block b hbw)).trans x1
              have y2 := (World.cell?_of_block (hb9.block b hbw)).trans x2
              have y3 := (World.cell?_of_block (hb9.block b hbw)).trans x3
              have y4 := (World.cell?_of_block (hb9.block b hbw)).trans x4
              have y5 := (World.cell?_of_block (hb9.block b hbw)).trans x5
              simp only at y1 y2
              obtain ⟨g, hg⟩ : ∃ g, g = wr.heap.size := ⟨_, rfl⟩
              obtain ⟨w2, hw2⟩ : ∃ w2, w2 = wr.alloc (.cells #[S s, .slice RA rk rc, .slice RB rk2 rc2, I st, .bool sg, I ii] 97) := ⟨_, rfl⟩
              have hBg : Blk w2 g 97 #[S s, .slice RA rk rc, .slice RB rk2 rc2, I st, .bool sg, I ii] := by rw [hw2, hg]; exact Blk.new wr _ _
              have b2 : Below wr.heap.size wr w2 := by rw [hw2]; exact balloc (Below.refl _ wr) _
              have hpl := hS.out.1.disk.lt
              have hml := hS.out.1.disk.map.lt
              have hrl := hS.out.1.ref.lt
              have HG18 : Hid (∀ V, Fr (fun k => (k = p ∨ k = mp) ∨ k = r) w2 V → Blk V g 97 #[S s, .slice RA rk rc, .slice RB rk2 rc2, I st, .bool sg, I ii]) := Lib.hid (fun V hf => hf.blk hBg (by rintro ((e | e) | e) <;> omega))
              have HBg := Lib.hid hBg
              have Hlt : Hid (mi < g ∧ zz < g) := Lib.hid (by
                obtain ⟨nj, _, hJ⟩ := hS.out.1.idx
                have h1 := hJ.map.lt
                have h2 := hS.out.1.rix.2.1 zz hS.out.1.rix.1
                omega)
              have HS2 := Lib.hid (hS.out.1.step b2)
              have Hnn := Lib.hid hS.out.2
              have HB2 := Lib.hid (bstep hBW.out b2)
              have HW2 : Hid (∀ V, Below w1.heap.size w2 V → Below w.heap.size w V) := Lib.hid (fun V hV => (bstep B1.out (bstep hBW.out b2)).trans (hV.mono B1.out.size))
              have HR1 := Lib.hid hg2
              have HR2 := Lib.hid hg3
              have Hsl := Lib.hid hg1
              obtain ⟨ans, hans⟩ : ∃ ans, ans = putAns cap L s bs1 st := ⟨_, rfl⟩
              have hcap9 := Hcap.out
              have hw1s := HB2.out.size
              have CP1 : Hid (∀ V, Below w2.heap.size w2 V → Calls Tryz.prog 8 #[.pointer (some ⟨p, 0, none⟩), S s, .slice RA rk rc, I st] V fun e w' => e = .returned (I ans) ∧ (∃ hd n', n' ≤ nn + 100000 ∧ DiskAt w' p mp n' cap (putL cap L s bs1 st hd)) ∧ Fr (fun k => k = p ∨ k = mp) V w') := Lib.hid (fun V hV => by
                rw [hans]
                have h9 := HW2.out V (hV.mono hw1s)
                exact wput_all V p mp nn cap L s RA rk rc bs1 st (HS2.out.disk.step hV) (by omega) (HM.out.step h9) (HR1.out.1.below h9) (by have := HR1.out.2; simp only at this; simp only [maxLen]; omega) (by omega) HS2.out.cost (by have := Hnn.out; simp only [maxLen]; omega))
              have CP2 : Hid (∀ V, Below w1.heap.size w2 V → RdAt V r cap l → Calls Tryz.prog 33 #[.pointer (some ⟨r, 0, none⟩), S s, .slice RA rk rc, I st] V fun e w' => e = .returned (I ans) ∧ (∃ l', RdAt w' r cap l' ∧ ∀ hd2, Tied l' (putL cap l s bs1 st hd2)) ∧ Fr (fun k => k = r) V w') := Lib.hid (fun V hV hR => by
                rw [hans, ← (HS2.out.tied.ans cap s bs1 st).2]
                have h9 := HW2.out V hV
                exact rput_all V r cap l s RA rk rc bs1 st hR HS2.out.tied.1 (by have h1 := HS2.out.cost; have h2 := HS2.out.tied.costs; omega) (by omega) hg1 (HR1.out.1.below h9) (by have := HR1.out.2; simp only at this; omega))
              clear x0 x1 x2 x3 x4 x5 hbw hBg hpl hml hrl hg1 hg2 hg3 hans hcap9 hx hS hb9
              go_wp2
              rw [← hw2]
              simp only [← hg]
              clear hw2 hg y0 y1 y2 y3 y4 y5 b2
              go_cut [16] from 85 to 163 (fun okv W => okv = .bool true ∧ ∃ (nn' : Nat) (L' l' : List DF), Hid (MdS W p mp r q mi zz nn' cap i L' l' li lz ∧ nn' ≤ nn + 100000) ∧ Hid (Fr (fun k => (k = p ∨ k = mp) ∨ k = r) w2 W))
              case first =>
                refine wp_region_chainG (by kernel_rfl) 20 (by kernel_rfl) ?_ [9, 17] (by kernel_rfl) (fun w w' => Fr (fun k => (k = p ∨ k = mp) ∨ k = r) w w') (fun _ _ hb => Fr.of_below hb) (md19Phi p r g s RA rk rc st ans) md19Phi_mono (mdJ w2 p mp r nn cap L l s bs1 st) mdJ.step ⟨undef, below_drewN (Below.refl _ w2) 1⟩ (fun i9 o hi hiC ho a w k u hj hs hm => ?_) (fun t i9 o ht ho a w u hj hs hm => ?_) (fun o ho a w9 u hj hu hs hm => ?_)
                · exact dst_ltC2 (n := 177) (by kernel_rfl)
                · have hfr := mdJ.fr _ _ _ hj
                  exact match i9, hi, hiC, ho with
                      | 0, _, _, ho => by
                          cases ho
                          rw [if_pos (wanted_none _ rfl)]
                          refine wp_value (st_move rfl ((hs.keeps (by kernel_rfl)).trans rfl)) ⟨_, rfl, rfl, Below.refl _ _⟩
                      | 1, _, _, ho => by
                          cases ho
                          rw [if_pos (wanted_none _ rfl)]
                          refine wp_value (st_move rfl (hm.get 0 109 (by kernel_rfl))) ⟨_, rfl, rfl, Below.refl _ _⟩
                      | 2, _, _, ho => by
                          cases ho
                          generalize hW : Region.wanted _ _ = W
                          obtain rfl : W = (true == true) := hW.symm.trans (wanted_of rfl rfl rfl (show a.eval (.tmp 110) = .bool true from (hm.get 1 110 (by kernel_rfl))))
                          clear hW
                          rw [if_pos (show (true == true) = true by decide)]
                          refine wp_value (st_move rfl ((hs.keeps (by kernel_rfl)).trans rfl)) ⟨_, rfl, rfl, Below.refl _ _⟩
                      | 3, _, _, ho => by
                          cases ho
                          generalize hW : Region.wanted _ _ = W
                          obtain rfl : W = (true == true) := hW.symm.trans (wanted_of rfl rfl rfl (show a.eval (.tmp 110) = .bool true from (hm.get 1 110 (by kernel_rfl))))
                          clear hW
                          rw [if_pos (show (true == true) = true by decide)]
                          refine wp_value (st_field rfl ((hs.keeps (by kernel_rfl)).trans rfl) (by kernel_rfl)) ⟨_, rfl, rfl, Below.refl _ _⟩
                      | 4, _, _, ho => by
                          cases ho
                          generalize hW : Region.wanted _ _ = W
                          obtain rfl : W = (true == true) := hW.symm.trans (wanted_of rfl rfl rfl (show a.eval (.tmp 110) = .bool true from (hm.get 1 110 (by kernel_rfl))))
                          clear hW
                          rw [if_pos (show (true == true) = true by decide)]
                          have hx : w.cell? ⟨g, 0, none⟩ = some (S s) := (HG18.out w hfr).cell 0; refine wp_value (st_load rfl (hm.get 3 112 (by kernel_rfl)) (by go_simp)) ⟨_, rfl, rfl, Below.refl _ _⟩
                      | 5, _, _, ho => by
                          cases ho
                          generalize hW : Region.wanted _ _ = W
                          obtain rfl : W = (true == true) := hW.symm.trans (wanted_of rfl rfl rfl (show a.eval (.tmp 110) = .bool true from (hm.get 1 110 (by kernel_rfl))))
                          clear hW
                          rw [if_pos (show (true == true) = true by decide)]
                          refine wp_value (st_field rfl ((hs.keeps (by kernel_rfl)).trans rfl) (by kernel_rfl)) ⟨_, rfl, rfl, Below.refl _ _⟩
                      | 6, _, _, ho => by
                          cases ho
                          generalize hW : Region.wanted _ _ = W
                          obtain rfl : W = (true == true) := hW.symm.trans (wanted_of rfl rfl rfl (show a.eval (.tmp 110) = .bool true from (hm.get 1 110 (by kernel_rfl))))
                          clear hW
                          rw [if_pos (show (true == true) = true by decide)]
                          have hx : w.cell? ⟨g, 1, none⟩ = some (.slice RA rk rc) := (HG18.out w hfr).cell 1; refine wp_value (st_load rfl (hm.get 5 114 (by kernel_rfl)) (by go_simp)) ⟨_, rfl, rfl, Below.refl _ _⟩
                      | 7, _, _, ho => by
                          cases ho
                          generalize hW : Region.wanted _ _ = W
                          obtain rfl : W = (true == true) := hW.symm.trans (wanted_of rfl rfl rfl (show a.eval (.tmp 110) = .bool true from (hm.get 1 110 (by kernel_rfl))))
                          clear hW
                          rw [if_pos (show (true == true) = true by decide)]
                          refine wp_value (st_field rfl ((hs.keeps (by kernel_rfl)).trans rfl) (by kernel_rfl)) ⟨_, rfl, rfl, Below.refl _ _⟩
                      | 8, _, _, ho => by
                          cases ho
                          generalize hW : Region.wanted _ _ = W
                          obtain rfl : W = (true == true) := hW.symm.trans (wanted_of rfl rfl rfl (show a.eval (.tmp 110) = .bool true from (hm.get 1 110 (by kernel_rfl))))
                          clear hW
                          rw [if_pos (show (true == true) = true by decide)]
                          have hx : w.cell? ⟨g, 3, none⟩ = some (I st) := (HG18.out w hfr).cell 3; refine wp_value (st_load rfl (hm.get 7 116 (by kernel_rfl)) (by go_simp)) ⟨_, rfl, rfl, Below.refl _ _⟩
                      | 9, _, hiC, _ => absurd (by decide) hiC
                      | 10, _, _, ho => by
                          cases ho
                          generalize hW : Region.wanted _ _ = W
                          obtain rfl : W = (true == true) := hW.symm.trans (wanted_of rfl rfl rfl (show a.eval (.tmp 110) = .bool true from (hm.get 1 110 (by kernel_rfl))))
                          clear hW
                          rw [if_pos (show (true == true) = true by decide)]
                          refine wp_value (st_move rfl ((hs.keeps (by kernel_rfl)).trans rfl)) ⟨_, rfl, rfl, Below.refl _ _⟩
                      | 11, _, _, ho => by
                          cases ho
                          generalize hW : Region.wanted _ _ = W
                          obtain rfl : W = (true == true) := hW.symm.trans (wanted_of rfl rfl rfl (show a.eval (.tmp 110) = .bool true from (hm.get 1 110 (by kernel_rfl))))
                          clear hW
                          rw [if_pos (show (true == true) = true by decide)]
                          refine wp_value (st_field rfl ((hs.keeps (by kernel_rfl)).trans rfl) (by kernel_rfl)) ⟨_, rfl, rfl, Below.refl _ _⟩
                      | 12, _, _, ho => by
                          cases ho
                          generalize hW : Region.wanted _ _ = W
                          obtain rfl : W = (true == true) := hW.symm.trans (wanted_of rfl rfl rfl (show a.eval (.tmp 110) = .bool true from (hm.get 1 110 (by kernel_rfl))))
                          clear hW
                          rw [if_pos (show (true == true) = true by decide)]
                          have hx : w.cell? ⟨g, 0, none⟩ = some (S s) := (HG18.out w hfr).cell 0; refine wp_value (st_load rfl (hm.get 11 120 (by kernel_rfl)) (by go_simp)) ⟨_, rfl, rfl, Below.refl _ _⟩
                      | 13, _, _, ho => by
                          cases ho
                          generalize hW : Region.wanted _ _ = W
                          obtain rfl : W = (true == true) := hW.symm.trans (wanted_of rfl rfl rfl (show a.eval (.tmp 110) = .bool true from (hm.get 1 110 (by kernel_rfl))))
                          clear hW
                          rw [if_pos (show (true == true) = true by decide)]
                          refine wp_value (st_field rfl ((hs.keeps (by kernel_rfl)).trans rfl) (by kernel_rfl)) ⟨_, rfl, rfl, Below.refl _ _⟩
                      | 14, _, _, ho => by
                          cases ho
                          generalize hW : Region.wanted _ _ = W
                          obtain rfl : W = (true == true) := hW.symm.trans (wanted_of rfl rfl rfl (show a.eval (.tmp 110) = .bool true from (hm.get 1 110 (by kernel_rfl))))
                          clear hW
                          rw [if_pos (show (true == true) = true by decide)]
                          have hx : w.cell? ⟨g, 1, none⟩ = some (.slice RA rk rc) := (HG18.out w hfr).cell 1; refine wp_value (st_load rfl (hm.get 13 122 (by kernel_rfl)) (by go_simp)) ⟨_, rfl, rfl, Below.refl _ _⟩
                      | 15, _, _, ho => by
                          cases ho
                          generalize hW : Region.wanted _ _ = W
                          obtain rfl : W = (true == true) := hW.symm.trans (wanted_of rfl rfl rfl (show a.eval (.tmp 110) = .bool true from (hm.get 1 110 (by kernel_rfl))))
                          clear hW
                          rw [if_pos (show (true == true) = true by decide)]
                          refine wp_value (st_field rfl ((hs.keeps (by kernel_rfl)).trans rfl) (by kernel_rfl)) ⟨_, rfl, rfl, Below.refl _ _⟩
                      | 16, _, _, ho => by
                          cases ho
                          generalize hW : Region.wanted _ _ = W
                          obtain rfl : W = (true == true) := hW.symm.trans (wanted_of rfl rfl rfl (show a.eval (.tmp 110) = .bool true from (hm.get 1 110 (by kernel_rfl))))
                          clear hW
                          rw [if_pos (show (true == true) = true by decide)]
                          have hx : w.cell? ⟨g, 3, none⟩ = some (I st) := (HG18.out w hfr).cell 3; refine wp_value (st_load rfl (hm.get 15 124 (by kernel_rfl)) (by go_simp)) ⟨_, rfl, rfl, Below.refl _ _⟩
                      | 17, _, hiC, _ => absurd (by decide) hiC
                      | 18, _, _, ho => by
                          cases ho
                          generalize hW : Region.wanted _ _ = W
                          obtain rfl : W = (true == true) := hW.symm.trans (wanted_of rfl rfl rfl (show a.eval (.tmp 110) = .bool true from (hm.get 1 110 (by kernel_rfl))))
                          clear hW
                          rw [if_pos (show (true == true) = true by decide)]
                          have h1 := eval_getD (hm.get 9 118 (by kernel_rfl)); have h2 := eval_getD (hm.get 17 126 (by kernel_rfl)); unfold Oper.wp; simp only [execOp]; go_simp; exact ⟨_, rfl, (by first | rfl | simp), Below.refl _ _⟩
                      | 19, _, _, ho => by
                          cases ho
                          rw [if_pos (wanted_none _ rfl)]
                          have h1 := eval_getD (hm.get 1 110 (by kernel_rfl)); have h3 := eval_getD (hm.get 18 127 (by kernel_rfl)); unfold Oper.wp; simp only [execOp]; go_simp; exact ⟨_, rfl, rfl, Below.refl _ _⟩
                      | (n + 20), hi, _, _ => absurd hi (by omega)

                · exact match t, ht, hj with
                  | 0, ht, hj => by
                      cases ht
                      cases ho
                      refine ⟨(wanted_of rfl rfl rfl (show a.eval (.tmp 110) = .bool true from hm.get 1 110 (by kernel_rfl))).trans rfl, ?_⟩
                      have h1 := eval_getD (hm.get 2 111 (by kernel_rfl))
                      have h2 := eval_getD (hm.get 4 113 (by kernel_rfl))
                      have h3 := eval_getD (hm.get 6 115 (by kernel_rfl))
                      have h4 := eval_getD (hm.get 8 117 (by kernel_rfl))
                      unfold Oper.wp; simp only [execOp]; go_simp
                      refine (CP1.out w hj).mono ?_
                      rintro e w4 ⟨rfl, h5, f5⟩
                      exact ⟨_, rfl, rfl, ⟨(Fr.of_below hj).trans f5, h5⟩, f5.weak (fun _ e => .inl e)⟩
                  | 1, ht, hj => by
                      cases ht
                      cases ho
                      refine ⟨(wanted_of rfl rfl rfl (show a.eval (.tmp 110) = .bool true from hm.get 1 110 (by kernel_rfl))).trans rfl, ?_⟩
                      have h1 := eval_getD (hm.get 10 119 (by kernel_rfl))
                      have h2 := eval_getD (hm.get 12 121 (by kernel_rfl))
                      have h3 := eval_getD (hm.get 14 123 (by kernel_rfl))
                      have h4 := eval_getD (hm.get 16 125 (by kernel_rfl))
                      obtain ⟨hf1, hd, n', hn', hD1⟩ := hj
                      have hR1 := HS2.out.put1 hf1
                      unfold Oper.wp; simp only [execOp]; go_simp
                      refine (CP2.out w (hf1.below hw1s (fun k e => by have := HPz.out; rcases e with e | e <;> omega)) hR1).mono ?_
                      rintro e w4 ⟨rfl, ⟨l', hR4, hT4⟩, f5⟩
                      exact ⟨_, rfl, rfl, ⟨(hf1.weak (fun _ e => .inl e)).trans (f5.weak (fun _ e => .inr e)), hd, n', l', hn', disk_ref hD1 hR1 f5, hR4, hT4⟩, f5.weak (fun _ e => .inr e)⟩
                  | (t + 2), ht, _ => by cases ht
                · have e1 : a.eval (.tmp 128) = .bool true := by cases ho; exact hm.get 19 128 (by kernel_rfl)
                  obtain ⟨hf9, hd, n', l', hn', hD9, hR9, hT9⟩ := hj
                  have HF : Hid (MdS w9 p mp r q mi zz n' cap i (putL cap L s bs1 st hd) l' li lz ∧ n' ≤ nn + 100000) := Lib.hid ⟨HS2.out.put2 hf9 hD9 hR9 (HS2.out.tied.putL (hT9 hd)) (putL_costs HS2.out.disk.keys HS2.out.cost s bs1 st hd), hn'⟩
                  have HFr := Lib.hid hf9
                  have hfr := hs.frame [109, 110, 111, 112, 113, 114, 115, 116, 117, 118, 119, 120, 121, 122, 123, 124, 125, 126, 127, 128] (by kernel_rfl)
                  cases ho
                  rw [hfr]
                  simp only [List.foldl_cons, List.foldl_nil, e1]
                  clear hfr hs hm hu e1 hf9 hD9 hR9 hT9 hn' CP1 CP2
                  generalize a.eval (.tmp 109) = u109
                  generalize a.eval (.tmp 110) = u110
                  generalize a.eval (.tmp 111) = u111
                  generalize a.eval (.tmp 112) = u112
                  generalize a.eval (.tmp 113) = u113
                  generalize a.eval (.tmp 114) = u114
                  generalize a.eval (.tmp 115) = u115
                  generalize a.eval (.tmp 116) = u116
                  generalize a.eval (.tmp 117) = u117
                  generalize a.eval (.tmp 118) = u118
                  generalize a.eval (.tmp 119) = u119
                  generalize a.eval (.tmp 120) = u120
                  generalize a.eval (.tmp 121) = u121
                  generalize a.eval (.tmp 122) = u122
                  generalize a.eval (.tmp 123) = u123
                  generalize a.eval (.tmp 124) = u124
                  generalize a.eval (.tmp 125) = u125
                  generalize a.eval (.tmp 126) = u126
                  generalize a.eval (.tmp 127) = u127
                  unfold Oper.wp
                  simp only [execOp]
                  go_simp
                  clear a
                  go_wp2
                  go_meet
                  case rel => exact ⟨rfl, n', _, l', HF, HFr⟩
              case rest =>
                obtain ⟨rfl, nn', L', l', HS3, HFr⟩ := hcut
                clear CP1 CP2
                have HBg9 := Lib.hid (HG18.out wc HFr.out)
                have B9 : Hid (Below w1.heap.size w2 wc) := Lib.hid (HFr.out.below HB2.out.size (fun k e => by have := HPz.out; rcases e with (e | e) | e <;> omega))
                have Hk1 : Hid (rk ≤ 1048576 ∧ rk2 ≤ 1048576) := Lib.hid ⟨HR1.out.2, HR2.out.2⟩
                have rg9 := HBg9.out.cell
                go_upto_if 133 with fail
                go_cut [19] from 85 to 163 (fun bv W => ∃ (B : Option Addr) (bk bc : Nat) (bs : List UInt8), bv = .slice B bk bc ∧ Hid (Sl w 1 B bk (u8s bs) ∧ bk ≤ 1048576) ∧ W = wc)
                case first =>
                  go_wp2
                  all_goals
                    go_meet
                    case rel => first
                      | exact ⟨RB, rk2, rc2, bs2, rfl, Lib.hid ⟨HR2.out.1, Hk1.out.2⟩, rfl⟩
                      | exact ⟨RA, rk, rc, bs1, rfl, Lib.hid ⟨HR1.out.1, Hk1.out.1⟩, rfl⟩
                case rest =>
                  obtain ⟨B, bk, bc, bs, rfl, HBs, hwc⟩ := hcut
                  obtain rfl := hwc.symm
                  clear hwc
                  have hi9 : i + 1 ≤ 30 := hlt30
                  rcases sg with _ | _
                  · go_wp2
                    go_roundw
                    case rel =>
                      exact ⟨rfl, nn', i + 1, L', l', li, lz, by go_num, hi9, Lib.hid ⟨HS3.out.1.more, by have h1 := HS3.out.2; have h2 := Hnn.out; omega⟩, Lib.hid (bstep' HB2.out B9.out)⟩
                    case measure => simp [intOf]; omega
                  · obtain ⟨mx, hmx⟩ : ∃ mx, mx = max st 0 := ⟨_, rfl⟩
                    have HMX : Hid (max st 0 = mx) := Lib.hid hmx.symm
                    clear hmx
                    have CId := Lib.hid (fun V (hV : Below wc.heap.size wc V) => wid_any B bk bc bs V (HBs.out.1.below ((HW2.out wc B9.out).trans (hV.mono (HW2.out wc B9.out).size))) (by have := HBs.out.2; omega))
                    obtain ⟨ni, hni, hIx⟩ := HS3.out.1.idx
                    have CY := Lib.hid (fun V (hV : Below wc.heap.size wc V) => set_any V q mi ni li ⟨s, 0, widL bs, rk, mx⟩ (hIx.step hV) (by omega) HS3.out.1.inv.right (by have := Hsl.out; simp only; omega) (HM.out.step ((HW2.out wc B9.out).trans (hV.mono (HW2.out wc B9.out).size))))
                    have Hni := Lib.hid hni
                    clear hIx hni
                    go_wp2
                    refine wp_region_guards (by kernel_rfl) 12 (by kernel_rfl) ?_ (md24Phi q g s RA rk rc st B bk bc (widL bs) mx) md24Phi_mono (fun i9 o hi ho a w hb hs hm => ?_) (fun o ho a w5 hb hs hm => ?_)
                    · exact dst_ltC2 (n := 177) (by kernel_rfl)
                    · exact match i9, hi, ho with
                          | 0, _, ho => by
                              cases ho
                              rw [if_pos (wanted_none _ rfl)]
                              refine wp_value (st_move rfl ((hs.keeps (by kernel_rfl)).trans rfl)) ⟨_, rfl, rfl, Below.refl _ _⟩
                          | 1, _, ho => by
                              cases ho
                              rw [if_pos (wanted_none _ rfl)]
                              refine wp_value (st_field rfl ((hs.keeps (by kernel_rfl)).trans rfl) (by kernel_rfl)) ⟨_, rfl, rfl, Below.refl _ _⟩
                          | 2, _, ho => by
                              cases ho
                              rw [if_pos (wanted_none _ rfl)]
                              have hx : w.cell? ⟨g, 0, none⟩ = some (S s) := (HBg9.out.step hb).cell 0; refine wp_value (st_load rfl (hm.get 1 139 (by kernel_rfl)) (by go_simp)) ⟨_, rfl, rfl, Below.refl _ _⟩
                          | 3, _, ho => by
                              cases ho
                              rw [if_pos (wanted_none _ rfl)]
                              refine wp_value (st_move rfl ((hs.keeps (by kernel_rfl)).trans rfl)) ⟨_, rfl, rfl, Below.refl _ _⟩
                          | 4, _, ho => by
                              cases ho
                              rw [if_pos (wanted_none _ rfl)]
                              have h1 := eval_getD (hm.get 3 141 (by kernel_rfl)); unfold Oper.wp; simp only [execOp]; go_simp; refine (CId.out w hb).mono ?_; rintro e w6 ⟨rfl, b6⟩; exact ⟨_, rfl, rfl, b6⟩
                          | 5, _, ho => by
                              cases ho
                              rw [if_pos (wanted_none _ rfl)]
                              refine wp_value (st_field rfl ((hs.keeps (by kernel_rfl)).trans rfl) (by kernel_rfl)) ⟨_, rfl, rfl, Below.refl _ _⟩
                          | 6, _, ho => by
                              cases ho
                              rw [if_pos (wanted_none _ rfl)]
                              have hx : w.cell? ⟨g, 1, none⟩ = some (.slice RA rk rc) := (HBg9.out.step hb).cell 1; refine wp_value (st_load rfl (hm.get 5 143 (by kernel_rfl)) (by go_simp)) ⟨_, rfl, rfl, Below.refl _ _⟩
                          | 7, _, ho => by
                              cases ho
                              rw [if_pos (wanted_none _ rfl)]
                              have h1 := eval_getD (hm.get 6 144 (by kernel_rfl)); unfold Oper.wp; simp only [execOp]; go_simp; exact ⟨_, rfl, (by first | rfl | simp [HMX.out]), Below.refl _ _⟩
                          | 8, _, ho => by
                              cases ho
                              rw [if_pos (wanted_none _ rfl)]
                              refine wp_value (st_field rfl ((hs.keeps (by kernel_rfl)).trans rfl) (by kernel_rfl)) ⟨_, rfl, rfl, Below.refl _ _⟩
                          | 9, _, ho => by
                              cases ho
                              rw [if_pos (wanted_none _ rfl)]
                              have hx : w.cell? ⟨g, 3, none⟩ = some (I st) := (HBg9.out.step hb).cell 3; refine wp_value (st_load rfl (hm.get 8 146 (by kernel_rfl)) (by go_simp)) ⟨_, rfl, rfl, Below.refl _ _⟩
                          | 10, _, ho => by
                              cases ho
                              rw [if_pos (wanted_none _ rfl)]
                              have h1 := eval_getD (hm.get 9 147 (by kernel_rfl)); unfold Oper.wp; simp only [execOp]; go_simp; exact ⟨_, rfl, (show Value.int _ _ = Value.int _ _ by rw [HMX.out]), Below.refl _ _⟩
                          | 11, _, ho => by
                              cases ho
                              rw [if_pos (wanted_none _ rfl)]
                              have h1 := eval_getD (hm.get 2 140 (by kernel_rfl)); have h2 := eval_getD (hm.get 4 142 (by kernel_rfl)); have h3 := eval_getD (hm.get 7 145 (by kernel_rfl)); have h4 := eval_getD (hm.get 10 148 (by kernel_rfl)); unfold Oper.wp; simp only [execOp]; go_simp; exact ⟨_, rfl, rfl, Below.refl _ _⟩
                          | (n + 12), hi, _ => absurd hi (by omega)

                    · have e1 : a.eval (.tmp 138) = .pointer (some ⟨q, 0, none⟩) := by cases ho; exact hm.get 0 138 (by kernel_rfl)
                      have e2 : a.eval (.tmp 149) = .agg #[S s, I 0, S (widL bs), I (rk : Int), I mx] := by cases ho; exact hm.get 11 149 (by kernel_rfl)
                      have hfr := hs.frame [138, 139, 140, 141, 142, 143, 144, 145, 146, 147, 148, 149, 150] (by kernel_rfl)
                      have B5 := Lib.hid hb
                      cases ho
                      rw [hfr]
                      simp only [List.foldl_cons, List.foldl_nil, e1, e2]
                      clear hfr hs hm e1 e2 hb CId
                      generalize a.eval (.tmp 138) = u138
                      generalize a.eval (.tmp 139) = u139
                      generalize a.eval (.tmp 140) = u140
                      generalize a.eval (.tmp 141) = u141
                      generalize a.eval (.tmp 142) = u142
                      generalize a.eval (.tmp 143) = u143
                      generalize a.eval (.tmp 144) = u144
                      generalize a.eval (.tmp 145) = u145
                      generalize a.eval (.tmp 146) = u146
                      generalize a.eval (.tmp 147) = u147
                      generalize a.eval (.tmp 148) = u148
                      generalize a.eval (.tmp 149) = u149
                      generalize a.eval (.tmp 150) = u150
                      unfold Oper.wp
                      simp only [execOp]
                      go_simp
                      clear a
                      refine (CY.out w5 B5.out).mono ?_
                      rintro e w6 ⟨rfl, hI6, f6⟩
                      have HS6 : Hid (MdS w6 p mp r q mi zz nn' cap (i + 1) L' l' (IdxLaw.set li ⟨s, 0, widL bs, rk, mx⟩).2 lz) := Lib.hid ((HS3.out.1.step B5.out).more.setY f6 (by have := Hni.out; omega) hI6 (IdxLaw.inv_set HS3.out.1.inv _))
                      have HBg6 : Hid (Blk w6 g 97 #[S s, .slice RA rk rc, .slice RB rk2 rc2, I st, .bool true, I ii]) := Lib.hid (f6.blk (HBg9.out.step B5.out) (by have := Hlt.out; omega))
                      have B6 : Hid (Below w1.heap.size w2 w6) := Lib.hid (bstep' (bstep' B9.out (B5.out.mono (Nat.le_trans HB2.out.size B9.out.size))) (f6.below (Nat.le_trans (Nat.le_trans HB2.out.size B9.out.size) B5.out.size) (fun k e => by have := HPz.out; omega)))
                      have HZ6 : Hid (lz.length ≤ i) := Lib.hid HS3.out.1.zlen
                      have HM3 : Hid (nn' ≤ 1000 + (i + 1) * 100000) := Lib.hid (by have h1 := HS3.out.2; have h2 := Hnn.out; omega)
                      have CId2 := Lib.hid (fun V (hV : Below w6.heap.size w6 V) => rid20_any B bk bc bs V (HBs.out.1.below ((HW2.out w6 B6.out).trans (hV.mono (HW2.out w6 B6.out).size))) HBs.out.2)
                      have CZ := Lib.hid (fun id V (hV : Below w6.heap.size w6 V) => rset_any (mdE p mp r q mi zz) V zz lz ⟨s, 0, id, rk, mx⟩ (HS6.out.rix.step hV) (by have := HZ6.out; omega) (by have := Hsl.out; simp only; omega) (fun e he => by have := HS6.out.zpath e he; simp only [maxLen]; omega))
                      have HBg9 := HBg6
                      clear hI6 f6 HBg6 CY HS3 rg9
                      go_wp2
                      refine wp_region_guards (by kernel_rfl) 12 (by kernel_rfl) ?_ (md25Phi zz g s RA rk rc st B bk bc mx) md25Phi_mono (fun i9 o hi ho a w hb hs hm => ?_) (fun o ho a w7 hb hs hm => ?_)
                      · exact dst_ltC2 (n := 177) (by kernel_rfl)
                      · exact match i9, hi, ho with
                            | 0, _, ho => by
                                cases ho
                                rw [if_pos (wanted_none _ rfl)]
                                refine wp_value (st_move rfl ((hs.keeps (by kernel_rfl)).trans rfl)) ⟨_, rfl, rfl, Below.refl _ _⟩
                            | 1, _, ho => by
                                cases ho
                                rw [if_pos (wanted_none _ rfl)]
                                refine wp_value (st_field rfl ((hs.keeps (by kernel_rfl)).trans rfl) (by kernel_rfl)) ⟨_, rfl, rfl, Below.refl _ _⟩
                            | 2, _, ho => by
                                cases ho
                                rw [if_pos (wanted_none _ rfl)]
                                have hx : w.cell? ⟨g, 0, none⟩ = some (S s) := (HBg9.out.step hb).cell 0; refine wp_value (st_load rfl (hm.get 1 152 (by kernel_rfl)) (by go_simp)) ⟨_, rfl, rfl, Below.refl _ _⟩
                            | 3, _, ho => by
                                cases ho
                                rw [if_pos (wanted_none _ rfl)]
                                refine wp_value (st_move rfl ((hs.keeps (by kernel_rfl)).trans rfl)) ⟨_, rfl, rfl, Below.refl _ _⟩
                            | 4, _, ho => by
                                cases ho
                                rw [if_pos (wanted_none _ rfl)]
                                have h1 := eval_getD (hm.get 3 154 (by kernel_rfl)); unfold Oper.wp; simp only [execOp]; go_simp; refine (CId2.out w hb).mono ?_; rintro e w6 ⟨id, rfl, b6⟩; exact ⟨_, rfl, ⟨id, rfl⟩, b6⟩
                            | 5, _, ho => by
                                cases ho
                                rw [if_pos (wanted_none _ rfl)]
                                refine wp_value (st_field rfl ((hs.keeps (by kernel_rfl)).trans rfl) (by kernel_rfl)) ⟨_, rfl, rfl, Below.refl _ _⟩
                            | 6, _, ho => by
                                cases ho
                                rw [if_pos (wanted_none _ rfl)]
                                have hx : w.cell? ⟨g, 1, none⟩ = some (.slice RA rk rc) := (HBg9.out.step hb).cell 1; refine wp_value (st_load rfl (hm.get 5 156 (by kernel_rfl)) (by go_simp)) ⟨_, rfl, rfl, Below.refl _ _⟩
                            | 7, _, ho => by
                                cases ho
                                rw [if_pos (wanted_none _ rfl)]
                                have h1 := eval_getD (hm.get 6 157 (by kernel_rfl)); unfold Oper.wp; simp only [execOp]; go_simp; exact ⟨_, rfl, (by first | rfl | simp [HMX.out]), Below.refl _ _⟩
                            | 8, _, ho => by
                                cases ho
                                rw [if_pos (wanted_none _ rfl)]
                                refine wp_value (st_field rfl ((hs.keeps (by kernel_rfl)).trans rfl) (by kernel_rfl)) ⟨_, rfl, rfl, Below.refl _ _⟩
                            | 9, _, ho => by
                                cases ho
                                rw [if_pos (wanted_none _ rfl)]
                                have hx : w.cell? ⟨g, 3, none⟩ = some (I st) := (HBg9.out.step hb).cell 3; refine wp_value (st_load rfl (hm.get 8 159 (by kernel_rfl)) (by go_simp)) ⟨_, rfl, rfl, Below.refl _ _⟩
                            | 10, _, ho => by
                                cases ho
                                rw [if_pos (wanted_none _ rfl)]
                                have h1 := eval_getD (hm.get 9 160 (by kernel_rfl)); unfold Oper.wp; simp only [execOp]; go_simp; exact ⟨_, rfl, (show Value.int _ _ = Value.int _ _ by rw [HMX.out]), Below.refl _ _⟩
                            | 11, _, ho => by
                                cases ho
                                rw [if_pos (wanted_none _ rfl)]
                                refine Exists.elim (show ∃ id : List UInt8, a.eval (.tmp 155) = S id from (hm.get 4 155 (by kernel_rfl))) fun id h9 => ?_; have h0 := eval_getD h9; have h1 := eval_getD (hm.get 2 153 (by kernel_rfl)); have h2 := eval_getD (hm.get 7 158 (by kernel_rfl)); have h3 := eval_getD (hm.get 10 161 (by kernel_rfl)); unfold Oper.wp; simp only [execOp]; go_simp; exact ⟨_, rfl, ⟨id, rfl⟩, Below.refl _ _⟩
                            | (n + 12), hi, _ => absurd hi (by omega)

                      · have e1 : a.eval (.tmp 151) = .pointer (some ⟨zz, 0, none⟩) := by cases ho; exact hm.get 0 151 (by kernel_rfl)
                        refine Exists.elim (show ∃ id : List UInt8, a.eval (.tmp 162) = .agg #[S s, I 0, S id, I (rk : Int), I mx] by cases ho; exact hm.get 11 162 (by kernel_rfl)) fun id e2 => ?_
                        have hfr := hs.frame [151, 152, 153, 154, 155, 156, 157, 158, 159, 160, 161, 162, 163] (by kernel_rfl)
                        have B7 := Lib.hid hb
                        cases ho
                        rw [hfr]
                        simp only [List.foldl_cons, List.foldl_nil, e1, e2]
                        clear hfr hs hm e1 e2 hb CId2
                        generalize a.eval (.tmp 151) = u151
                        generalize a.eval (.tmp 152) = u152
                        generalize a.eval (.tmp 153) = u153
                        generalize a.eval (.tmp 154) = u154
                        generalize a.eval (.tmp 155) = u155
                        generalize a.eval (.tmp 156) = u156
                        generalize a.eval (.tmp 157) = u157
                        generalize a.eval (.tmp 158) = u158
                        generalize a.eval (.tmp 159) = u159
                        generalize a.eval (.tmp 160) = u160
                        generalize a.eval (.tmp 161) = u161
                        generalize a.eval (.tmp 162) = u162
                        generalize a.eval (.tmp 163) = u163
                        unfold Oper.wp
                        simp only [execOp]
                        go_simp
                        clear a
                        refine (CZ.out id w7 B7.out).mono ?_
                        rintro e w9 ⟨rfl, hR9, f9⟩
                        have HS9 : Hid (MdS w9 p mp r q mi zz nn' cap (i + 1) L' l' (IdxLaw.set li ⟨s, 0, widL bs, rk, mx⟩).2 (rset lz ⟨s, 0, id, rk, mx⟩).2) := Lib.hid ((HS6.out.step B7.out).setZ f9 hR9 (Nat.le_trans (rset_len _ _) (Nat.succ_le_succ HZ6.out)) (rset_path HS6.out.zpath Hsl.out))
                        have B9' : Hid (Below w1.heap.size w1 w9) := Lib.hid (bstep' HB2.out (bstep' (bstep' B6.out (B7.out.mono (Nat.le_trans HB2.out.size B6.out.size))) (f9.below (Nat.le_trans (Nat.le_trans HB2.out.size B6.out.size) B7.out.size) (fun k e => by have := HPz.out; omega))))
                        clear hR9 f9 CZ
                        go_wp2
                        go_roundw
                        case rel =>
                          exact ⟨rfl, nn', i + 1, L', l', _, _, by go_num, hi9, Lib.hid ⟨HS9.out, HM3.out⟩, B9'⟩
                        case measure => simp [intOf]; omega
            · have hd9 : (decide ((i : Int) < (m : Int)) = true ∧ decide ((i : Int) < 30) = false) ∨ decide ((i : Int) < (m : Int)) = false := by
                by_cases h : i < m
                · exact .inl ⟨decide_eq_true (by omega), decide_eq_false (by omega)⟩
                · exact .inr (decide_eq_false (by omega))
              rcases hd9 with ⟨d1, d2⟩ | d1
              · go_wp2
                all_goals
                  go_meet
                  case rel => exact ⟨rfl, nn, i, L, l, li, lz, rfl, hi30, hS, hBW⟩
              · go_wp2
                all_goals
                  go_meet
                  case rel => exact ⟨rfl, nn, i, L, l, li, lz, rfl, hi30, hS, hBW⟩
        case rest =>
          obtain ⟨rfl, nn', i9, L, l, li, lz, rfl, hi30, hS, hBW⟩ := hcut
          go_wp2
          refine bodyPost_ret (v := .tuple #[.pointer (some ⟨p, 0, none⟩), .pointer (some ⟨r, 0, none⟩), .pointer (some ⟨q, 0, none⟩), .pointer (some ⟨zz, 0, none⟩), .bool true]) (by simp [results, Tryz.results7]) rfl ?_
          have hw9 := B1.out.size
          have hp9 := HPz.out
          exact ⟨p, mp, r, q, mi, zz, nn', cap, i9, L, l, li, lz, rfl, hS.out.1, by have := hS.out.2; omega, Hcap.out, hi30, fun k hk => by rcases hk with (((e | e) | e) | (e | e)) | e <;> omega, bstep B1.out hBW.out⟩
end Go.Proofs.YtphnfcgdpdimbaaGreatDoor
