/-
  Texts merged: RdMem, RdFind, RdNew, RdDrop, RdPut, RdPutW, RdLaw, RdNamed, RdOps. What each law says and asks stands at its head.
-/
import Derived.Test.YtphnfcgdpdimbaaGreatDoorRKitD
import Derived.BigQuiet
import Derived.IntWalk
import Derived.Test.YtphnfcgdpdimbaaGreatDoorRKitE
import Derived.Test.YtphnfcgdpdimbaaGreatDoorRKitDk
import Derived.Test.YtphnfcgdpdimbaaGreatDoorRWorkPut
namespace Go.Proofs.YtphnfcgdpdimbaaGreatDoor
open Go.RowKit
def rdC (x : DF) : List Value := [S x.1, x.2.1.v]
def rds (l : List DF) : List Value := l.flatMap rdC
theorem rdC_len (l : List DF) : ∀ x ∈ l, (rdC x).length = 2 := fun _ _ => rfl
theorem rds_len (l : List DF) : (rds l).length = l.length * 2 := flat_len (rdC_len l)
theorem rds_append (l k : List DF) : rds (l ++ k) = rds l ++ rds k := by simp [rds]
theorem one_rds (l : List DF) : ∀ u ∈ rds l, u.oneCell' = true := by
 intro u hu
 obtain ⟨c, _, hu⟩ := List.mem_flatMap.1 hu
 simp [rdC] at hu
 rcases hu with rfl | rfl <;> rfl
theorem rds_at {l : List DF} {k j : Nat} {c : DF} (h : l[k]? = some c) (hj : j < 2) : (rds l)[k * 2 + j]? = (rdC c)[j]? := flat_at (rdC_len l) h hj
theorem rds_count {w : World} {A : Option Addr} {m : Nat} {l : List DF} (h : Sl w 2 A m (rds l)) : l.length = m := by have := h.1; rw [rds_len] at this; omega
theorem Sl.rd {w : World} {A : Option Addr} {m k : Nat} {l : List DF} (h : Sl w 2 A m (rds l)) (hk : k < m) : ∃ b off x, A = some ⟨b, off, none⟩ ∧ b < w.heap.size ∧ l[k]? = some x ∧
  w.cell? ⟨b, off + k * 2, none⟩ = some (S x.1) ∧
  w.cell? ⟨b, off + k * 2 + 1, none⟩ = some (x.2.1.v) := by
 obtain ⟨b, off, rfl, hb, hc⟩ := h.2 (by omega)
 have hl := rds_count h
 obtain ⟨x, hx⟩ : ∃ x, l[k]? = some x := ⟨l[k]'(by omega), List.getElem?_eq_getElem _⟩
 refine ⟨b, off, x, rfl, hb, hx, ?_, ?_⟩
 ·have := (hc (k * 2 + 0) (by omega)).trans (rds_at hx (by omega : 0 < 2)); simpa [rdC] using this
 ·have := (hc (k * 2 + 1) (by omega)).trans (rds_at hx (by omega : 1 < 2)); simpa [rdC, Nat.add_assoc] using this
theorem sl_rd (w : World) (t : TypeId) (x : DF) : Sl (w.alloc (.cells #[S x.1, x.2.1.v] t)) 2 (some ⟨w.heap.size, 0, none⟩) 1 (rds [x]) := by
 refine ⟨by simp [rds, rdC], fun _ => ⟨_, _, rfl, by simp, fun k hk => ?_⟩⟩
 rw [Nat.zero_add]
 simp [rds, rdC]
def RdAt (w : World) (r : Nat) (cap : Int) (l : List DF) : Prop :=
 ∃ (A : Option Addr) (n c : Nat) (done : Int), Blk w r 173 #[I cap, .slice A n c, I done, I (-1), .bool false] ∧ n ≤ c ∧ SlT (fun _ => True) 87 w 2 A n (rds l) ∧ ∀ x ∈ l, SlT (fun _ => True) 5 w 1 x.2.1.a x.2.1.n (u8s x.2.2)
theorem RdAt.step {w w' : World} {r : Nat} {cap : Int} {l : List DF} (h : RdAt w r cap l) (hb : Below w.heap.size w w') : RdAt w' r cap l := by
 obtain ⟨A, n, c, done, h1, hc, h2, h3⟩ := h
 exact ⟨A, n, c, done, h1.step hb, hc, h2.step hb, fun x hx => (h3 x hx).step hb⟩
def rfPos (l : List DF) (s : List UInt8) : Nat := (l.takeWhile (fun x => decide (x.1 < s))).length
def rfHas (l : List DF) (s : List UInt8) : Bool := decide ((l[rfPos l s]?).map (·.1) = some s)
theorem rfPos_of {l : List DF} {s : List UInt8} {k : Nat} (h : ∀ x ∈ l.take k, x.1 < s) (hk : k ≤ l.length) (he : ∀ x, l[k]? = some x → ¬ x.1 < s) : rfPos l s = k := by
 unfold rfPos
 have e : l = l.take k ++ l.drop k := (List.take_append_drop k l).symm
 rw [e, List.takeWhile_append_of_pos (fun x hx => decide_eq_true (h x hx))]
 have e2 : (l.drop k).takeWhile (fun x => decide (x.1 < s)) = [] := by
  cases hd : l.drop k with
  | nil => rfl
  | cons y t =>
   have hy : l[k]? = some y := by
    have := congrArg (fun z => z[0]?) hd
    simpa using this
   rw [List.takeWhile_cons, decide_eq_false (he y hy)]
   rfl
 rw [e2, List.append_nil, List.length_take]
 omega
set_option maxHeartbeats 4000000 in
set_option maxRecDepth 100000 in
theorem rdfind_any (w : World) (r : Nat) (cap : Int) (l : List DF) (s : List UInt8) (h : RdAt w r cap l) (hl : l.length ≤ 1000000) :
  Calls Tryz.prog 152 #[.pointer (some ⟨r, 0, none⟩), S s] w fun e w' => e = .returned (.tuple #[I (rfPos l s), .bool (rfHas l s)]) ∧ ∃ m, w' = w.drewN m := by
 obtain ⟨A, n, c, done, hB, _, hS0, _⟩ := h
 have hS := hS0.sl
 clear hS0
 have hn := rds_count hS
 have HS := Lib.hid hS
 have HB := Lib.hid hB
 have Hl := Lib.hid hl
 have Hn := Lib.hid hn
 clear hS hn hl
 have r1 := hB.cell 1
 clear hB
 go_enter Tryz.func152, Tryz.ntmps152
 go_wp2
 go_loop [6] (fun v => ∃ k : Nat, k ≤ n ∧ v = .int .i64 k ∧ Hid (∀ x ∈ l.take k, x.1 < s)) (fun v => n - (intOf v).toNat)
 case atStart => exact ⟨0, Nat.zero_le _, rfl, Lib.hid (by simp)⟩
 case round =>
  obtain ⟨k, hk, rfl, ha⟩ := hrel
  by_cases hlt : k < n
  ·obtain ⟨b, off, x, rfl, _, hx, x0, x1⟩ := HS.out.rd hlt
   have Hx := Lib.hid hx
   clear hx
   have hn9 : n ≤ 1000000 := by have := Hl.out; have := Hn.out; omega
   by_cases hx2 : x.1 < s
   ·have d1 : Op.bytesLess x.1 s = true := by rw [Go.Proofs.bytesLess_eq]; exact decide_eq_true hx2
    have HA : Hid (∀ y ∈ l.take (k + 1), y.1 < s) := Lib.hid (by
     intro y hy
     rw [List.take_add_one, Hx.out] at hy
     rcases List.mem_append.1 hy with h1 | h1
     ·exact ha.out y h1
     ·rw [List.mem_singleton.1 h1]; exact hx2)
    clear hx2
    go_wp2
    go_round
    case rel => exact ⟨k + 1, hlt, by go_num, HA⟩
    case measure => simp [intOf]; omega
   ·have d1 : Op.bytesLess x.1 s = false := by rw [Go.Proofs.bytesLess_eq]; exact decide_eq_false hx2
    have HI : Hid (rfPos l s = k) := Lib.hid (rfPos_of ha.out (by have := Hn.out; omega) (fun y hy => by rw [Hx.out] at hy; cases hy; exact hx2))
    have HR : Hid (rfHas l s = (x.1 == s)) := Lib.hid (by unfold rfHas; rw [HI.out, Hx.out]; simp [Bool.beq_eq_decide_eq])
    clear hx2
    go_wp2
    go_quiet (fail)
    go_wp2
    go_ret2
    exact ⟨by rw [HI.out, HR.out]; rfl, _, rfl⟩
  ·obtain rfl : n = k := by omega
   have HI : Hid (rfPos l s = n) := Lib.hid (rfPos_of ha.out (by have := Hn.out; omega) (fun y hy => by rw [List.getElem?_eq_none (by have := Hn.out; omega)] at hy; cases hy))
   have HR : Hid (rfHas l s = false) := Lib.hid (by unfold rfHas; rw [HI.out, List.getElem?_eq_none (by have := Hn.out; omega)]; rfl)
   go_wp2
   go_quiet (fail)
   go_wp2
   go_ret2
   exact ⟨by rw [HI.out, HR.out]; rfl, _, rfl⟩
set_option maxRecDepth 100000 in
theorem rdhas_any (w : World) (r : Nat) (cap : Int) (l : List DF) (s : List UInt8) (h : RdAt w r cap l) (hl : l.length ≤ 1000000) :
  Calls Tryz.prog 83 #[.pointer (some ⟨r, 0, none⟩), S s] w fun e w' => e = .returned (.bool (rfHas l s)) ∧ ∃ m, w' = w.drewN m := by
 have C1 := rdfind_any w r cap l s h hl
 go_enter Tryz.func83, Tryz.ntmps83
 go_wp2_with fail
 refine C1.mono ?_
 rintro e w1 ⟨rfl, m, rfl⟩
 go_wp2
 go_ret
 exact ⟨rfl, m, rfl⟩
theorem Tryz.infoRDisk : (Tryz.prog.info? 173).map (fun i => (i.zero, i.size, i.bytes)) = some (some (.agg #[.int .i64 0, .slice none 0 0, .int .i64 0, .int .i64 0, .bool false]), 5, 56) := by kernel_rfl
theorem costs_app2 (l k : List DF) : costs (l ++ k) = costs l + costs k := by
 induction l with
 | nil => simp [costs]
 | cons x l ih => simp only [List.cons_append, costs, ih]; omega
theorem costs_take {l : List DF} {k : Nat} {x : DF} (h : l[k]? = some x) : costs (l.take (k + 1)) = costs (l.take k) + cost1 x := by
 rw [List.take_add_one, h, costs_app2]
 simp [costs]
theorem costs_take_le (l : List DF) (k : Nat) : costs (l.take k) ≤ costs l := by
 have h : costs l = costs (l.take k) + costs (l.drop k) := by rw [← costs_app2, List.take_append_drop]
 omega
set_option maxRecDepth 100000 in
theorem rdnew_ok (z : Int) (w : World) (h0 : 0 ≤ z) (h1 : z ≤ 1099511627776) :
  Calls Tryz.prog 32 #[I z] w fun e w' => ∃ r, e = .returned (.tuple #[.pointer (some ⟨r, 0, none⟩), I 0]) ∧ w.heap.size ≤ r ∧ RdAt w' r z [] ∧ Below w.heap.size w w' := by
 have d1 : decide (z < 0) = false := by simp; omega
 have d2 : decide (1099511627776 < z) = false := by simp; omega
 obtain ⟨i0, hi0, hz0, hz1, hz2⟩ := info_parts Tryz.infoRDisk
 go_enter Tryz.func32, Tryz.ntmps32
 go_wp2
 go_ret2
 exact ⟨w.heap.size, rfl, Nat.le_refl _, ⟨none, 0, 0, 0, Blk.new w _ _, Nat.le_refl _, SlT.nil_, by simp⟩, balloc (Below.refl _ w) _⟩
set_option maxHeartbeats 4000000 in
set_option maxRecDepth 100000 in
theorem rdfree_any (w : World) (r : Nat) (cap : Int) (l : List DF) (h : RdAt w r cap l) (hl : l.length ≤ 1000000) (hc : 0 ≤ cap ∧ cap ≤ 1099511627776) (hk : costs l ≤ 4000000000000000000) :
  Calls Tryz.prog 85 #[.pointer (some ⟨r, 0, none⟩)] w fun e w' => e = .returned (I (cap - costs l)) ∧ ∃ m, w' = w.drewN m := by
 obtain ⟨A, n, c, done, hB, _, hS0, hR⟩ := h
 have hS := hS0.sl
 clear hS0
 have hn := rds_count hS
 have HS := Lib.hid hS
 have HR := Lib.hid hR
 have Hl := Lib.hid hl
 have Hn := Lib.hid hn
 have Hc := Lib.hid hc
 have Hk := Lib.hid hk
 clear hS hn hl hc hk hR
 have r1 := hB.cell 1
 have r0 := hB.cell 0
 have HB := Lib.hid hB
 clear hB
 go_enter Tryz.func85, Tryz.ntmps85
 go_wp2
 go_loopw [3, 4] (fun f v wr => ∃ (k m : Nat), k ≤ n ∧ v = .int .i64 k ∧ f = I (cap - costs (l.take k)) ∧ wr = w.drewN m) (fun _ v _ => n - (intOf v).toNat)
 case atStart => exact ⟨0, 0, Nat.zero_le _, rfl, by simp [costs], rfl⟩
 case round =>
  obtain ⟨k, m, hk, rfl, rfl, rfl⟩ := hrel
  by_cases hlt : k < n
  ·obtain ⟨b, off, x, rfl, _, hx, x0, x1⟩ := HS.out.rd hlt
   have HC : Hid (costs (l.take (k + 1)) = costs (l.take k) + cost1 x ∧ costs (l.take (k + 1)) ≤ costs l) := Lib.hid ⟨costs_take hx, costs_take_le l (k + 1)⟩
   have Hx := Lib.hid hx
   have hln : x.2.2.length = x.2.1.n := by have := (HR.out x (List.mem_of_getElem? hx)).sl.len; simpa using this
   have hn9 : n ≤ 1000000 := by have := Hl.out; have := Hn.out; omega
   obtain ⟨F, hF⟩ : ∃ F : Int, F = cap - costs (l.take k) := ⟨_, rfl⟩
   have HF : Hid (F = cap - costs (l.take k)) := Lib.hid hF
   have hb : -4000000000000000000 ≤ F - 16 - x.1.length - x.2.1.n ∧ F ≤ 1099511627776 := by
    have h1 := HC.out; have h2 := Hc.out; have h3 := Hk.out
    unfold cost1 at h1
    omega
   rw [← hF]
   have k1 : IntKind.i64.wrap (F - 16) = F - 16 := IntWalk.i64_in _ (by omega)
   have k2 : IntKind.i64.wrap (F - 16 - x.1.length) = F - 16 - x.1.length := IntWalk.i64_in _ (by omega)
   have k3 : IntKind.i64.wrap (F - 16 - x.1.length - x.2.1.n) = F - 16 - x.1.length - x.2.1.n := IntWalk.i64_in _ (by omega)
   have HE : Hid (F - 16 - x.1.length - x.2.1.n = cap - costs (l.take (k + 1))) := Lib.hid (by
    have h1 := HC.out
    unfold cost1 at h1
    omega)
   clear hx hF hb
   change _ = some (Value.slice x.2.1.a x.2.1.n x.2.1.c) at x1
   go_wp2
   go_quiet (fail)
   go_wp2
   go_roundw
   case rel => exact ⟨k + 1, _, hlt, by go_num, by rw [← HE.out], rfl⟩
   case measure => simp [intOf]; omega
  ·obtain rfl : k = n := by omega
   have HE : Hid (l.take k = l) := Lib.hid (List.take_of_length_le (by rw [Hn.out]; exact Nat.le_refl _))
   go_wp2
   go_ret
   exact ⟨by rw [HE.out]; rfl, m, rfl⟩
theorem Tryz.sizeRdF (w : World) : (sizeOf 87).run Tryz.prog w = .ok 2 w := by kernel_rfl
theorem Tryz.infoRdF : (Tryz.prog.info? 87).map (fun i => (i.zero, i.size, i.bytes)) = some (some (.agg #[.string ⟨#[]⟩, .slice none 0 0]), 2, 40) := by kernel_rfl
theorem rds_drop : ∀ (l : List DF) (i : Nat), (rds l).drop (i * 2) = rds (l.drop i)
 | [], i => by simp [rds]
 | x :: l, 0 => by simp
 | x :: l, i + 1 => by
  have h := rds_drop l i
  rw [show (i + 1) * 2 = i * 2 + 2 by omega, List.drop_succ_cons, ← h]
  unfold rds
  rw [List.flatMap_cons]
  show ([S x.1, x.2.1.v] ++ _).drop (i * 2 + 2) = _
  rw [List.cons_append, List.cons_append, List.nil_append, List.drop_succ_cons, List.drop_succ_cons]
theorem rds_take : ∀ (l : List DF) (i : Nat), (rds l).take (i * 2) = rds (l.take i)
 | [], i => by simp [rds]
 | x :: l, 0 => by simp [rds]
 | x :: l, i + 1 => by
  have h := rds_take l i
  rw [show (i + 1) * 2 = i * 2 + 2 by omega, List.take_succ_cons]
  unfold rds at h ⊢
  rw [List.flatMap_cons, List.flatMap_cons, ← h]
  show ([S x.1, x.2.1.v] ++ _).take (i * 2 + 2) = [S x.1, x.2.1.v] ++ _
  rw [List.cons_append, List.cons_append, List.nil_append, List.take_succ_cons, List.take_succ_cons]
  rfl
theorem rds_cut {w : World} {A : Option Addr} {n c : Nat} {l : List DF} (h : Sl w 2 A n (rds l)) (hc : n ≤ c) {i j : Nat} (hij : i ≤ j) (hj : j ≤ n) : Sl w 2 (cutA A c i 2) (j - i) (rds ((l.drop i).take (j - i))) := by
 have h1 := h.cut hij hj hc
 rwa [rds_drop, rds_take] at h1
theorem rf_lt {l : List DF} {s : List UInt8} (h : rfHas l s = true) : rfPos l s < l.length := by
 unfold rfHas at h
 have h1 := of_decide_eq_true h
 exact Classical.byContradiction fun hn => by rw [List.getElem?_eq_none (by omega)] at h1; cases h1
set_option maxHeartbeats 4000000 in
set_option maxRecDepth 100000 in
theorem rddrop_any (w : World) (r : Nat) (cap : Int) (l : List DF) (s : List UInt8) (h : RdAt w r cap l) (hl : l.length ≤ 1000000) (hs : rfHas l s = true) :
  Calls Tryz.prog 229 #[.pointer (some ⟨r, 0, none⟩), S s] w fun e w' => e = .returned (.tuple #[]) ∧ RdAt w' r cap (l.take (rfPos l s) ++ l.drop (rfPos l s + 1)) ∧ Fr (fun k => k = r) w w' := by
 have C1 := rdfind_any w r cap l s h hl
 rw [hs] at C1
 have hlt := rf_lt hs
 obtain ⟨i, hi⟩ : ∃ i, i = rfPos l s := ⟨_, rfl⟩
 rw [← hi] at C1 hlt ⊢
 obtain ⟨A, n, c, done, hB, hc, hS, hR⟩ := h
 have hn := rds_count hS.sl
 obtain ⟨i0, hi0, hz0, hz1, hz2⟩ := info_parts Tryz.infoRdF
 have HB := Lib.hid hB
 have HS := Lib.hid hS
 have HR := Lib.hid hR
 have C1' := Lib.hid C1
 have kh := fun V : World => run_cut_h (P := Tryz.prog) V Tryz.underlying22 Tryz.sizeRdF A n c .i64 i (by omega)
 have kl := fun V : World => run_cut_l (P := Tryz.prog) V Tryz.underlying22 Tryz.sizeRdF A n c .i64 (i + 1) (by omega)
 have HC1 := Lib.hid (rds_cut hS.sl hc (Nat.zero_le i) (by omega))
 have HC2 := Lib.hid (rds_cut hS.sl hc (show i + 1 ≤ n by omega) (Nat.le_refl n))
 clear C1 hi hB hS hR hs
 go_enter Tryz.func229, Tryz.ntmps229
 go_wp2_with fail
 refine C1'.out.mono ?_
 rintro e w1 ⟨rfl, m, hm⟩
 have hb1 : Below w.heap.size w w1 := by rw [hm]; exact below_drewN (Below.refl _ w) m
 have b1 := (HB.out.step hb1).cell 1
 have B1 := Lib.hid hb1
 have HS1 : Hid (Sl w1 2 (cutA A c 0 2) i (rds (l.take i))) := Lib.hid (by simpa using HC1.out.below hb1)
 have HT1 : Hid (Sl w1 2 (cutA A c (i + 1) 2) (n - (i + 1)) (rds (l.drop (i + 1)))) := Lib.hid (by
  have h1 := HC2.out.below hb1
  rwa [List.take_of_length_le (by rw [List.length_drop]; omega)] at h1)
 have q1 : 0 + i ≤ maxLen := by simp only [maxLen]; omega
 have q2 : (0 + i) * 40 ≤ 140737488355328 := by omega
 have hw : IntKind.i64.wrap ((i : Int) + 1) = ((i + 1 : Nat) : Int) := by rw [IntWalk.i64_in _ (by omega)]; omega
 clear hm hb1 C1'
 have q3 : 0 + i + (n - (i + 1)) ≤ maxLen := by simp only [maxLen]; omega
 have q4 : (0 + i + (n - (i + 1))) * 40 ≤ 140737488355328 := by omega
 go_wp2_with (first
  | (at_builtin; refine wpList_append_sl _ rfl (.tmp 14) (.tmp 20) _ rfl w1 87 i0 _ 2 40 Tryz.underlying22 hi0 hz0 hz1 hz2 rfl (by omega) none 0 0 [] rfl (Ow.nil_ (Below.refl _ w1)) _ i _ (rds (l.take i)) rfl HS1.out (one_rds _) q1 q2 ?_; intro A5 c5 w5 hO5 hg5 hat5; have HO5 := Lib.hid hO5; have b5 := (HB.out.step (bstep B1.out hO5.2)).cell 1; clear hO5 hg5 hat5)
  | (at_builtin; refine wpList_append_sl _ rfl (.tmp 23) (.tmp 30) _ rfl w1 87 i0 _ 2 40 Tryz.underlying22 hi0 hz0 hz1 hz2 rfl (by omega) A5 (0 + i) c5 _ (by rw [Nat.zero_add]; rfl) HO5.out _ (n - (i + 1)) _ (rds (l.drop (i + 1))) rfl (HT1.out.below HO5.out.2) (one_rds _) q3 q4 ?_; intro A6 c6 w6 hO6 hg6 hat6; have HO6 := Lib.hid hO6; have HB6 := Lib.hid (HB.out.step (bstep B1.out hO6.2)); have b6 := HB6.out.cell 1; have f6 := HB6.out.frozen; clear hO6 hg6 hat6))
 all_goals
  go_end0
  have hO6 := HO6.out
  simp only [Nat.zero_add, List.nil_append] at hO6
  have hb6 := bstep B1.out hO6.2
  refine ⟨rfl, ⟨A6, i + (n - (i + 1)), c6, done, HB6.out.set_ 1 _, hO6.cap.1, ?_, fun x hx => ?_⟩, (Fr.of_below (E := fun k => k = r) hb6).setCell (p := ⟨r, 1, none⟩) rfl _⟩
  ·rw [rds_append]
   exact (hO6.slT.weak (fun _ _ _ => trivial)).keep ((KeepT.refl _ _).setCell HB6.out (by decide) rfl _)
  ·have hx2 : x ∈ l := by
    rcases List.mem_append.1 hx with h | h
    ·exact List.mem_of_mem_take h
    ·exact List.mem_of_mem_drop h
   exact ((HR.out x hx2).step hb6).keep ((KeepT.refl _ _).setCell HB6.out (by decide) rfl _)
def rdPut (l : List DF) (s : List UInt8) (hd : Hd) (b : List UInt8) : List DF := l.take (rfPos l s) ++ (s, hd, b) :: l.drop (if rfHas l s then rfPos l s + 1 else rfPos l s)
theorem pos_le (l : List DF) (s : List UInt8) : rfPos l s ≤ l.length := (List.takeWhile_sublist _).length_le
theorem emp_ow (w : World) (t : TypeId) (sz : Nat) : Ow w (w.alloc (.cells #[] t)) t sz (some ⟨w.heap.size, 0, none⟩) 0 0 [] :=
 ⟨⟨by simp, .inr ⟨w.heap.size, 0, #[], rfl, Nat.le_refl _, heap_alloc_new w _, Nat.le_refl _, Nat.zero_le _, by simp, by simp⟩⟩, balloc (Below.refl _ w) _⟩
set_option maxHeartbeats 8000000 in
set_option maxRecDepth 100000 in
theorem rdput_any (w : World) (r : Nat) (cap : Int) (l : List DF) (s : List UInt8) (h : RdAt w r cap l) (hl : l.length ≤ 999999) (B : Option Addr) (k cb : Nat) (bs : List UInt8) (hb : Sl w 1 B k (u8s bs)) (hk : k ≤ 100000000) :
    Calls Tryz.prog 84 #[.pointer (some ⟨r, 0, none⟩), S s, .slice B k cb] w fun e w' => e = .returned (.tuple #[]) ∧ (∃ hd : Hd, hd.n = k ∧ RdAt w' r cap (rdPut l s hd bs)) ∧ Fr (fun k => k = r) w w' := by
  have C1 := rdfind_any w r cap l s h (by omega)
  have hlt := pos_le l s
  have hlt2 : (if rfHas l s then rfPos l s + 1 else rfPos l s) ≤ l.length := by
    split
    · rename_i hs
      exact rf_lt hs
    · exact hlt
  obtain ⟨i, hi⟩ : ∃ i, i = rfPos l s := ⟨_, rfl⟩
  obtain ⟨j, hj⟩ : ∃ j, j = if rfHas l s then rfPos l s + 1 else rfPos l s := ⟨_, rfl⟩
  obtain ⟨hs, hhs⟩ : ∃ b, b = rfHas l s := ⟨_, rfl⟩
  have hjs : j = if hs then i + 1 else i := by rw [hj, hi, hhs]
  have hput : ∀ hd : Hd, rdPut l s hd bs = l.take i ++ (s, hd, bs) :: l.drop j := by intro hd; rw [hi, hj]; rfl
  rw [← hi, ← hhs] at C1
  rw [← hi] at hlt
  rw [← hj] at hlt2
  obtain ⟨A, n, c, done, hB, hc, hS, hR⟩ := h
  have hn := rds_count hS.sl
  obtain ⟨i0, hi0, hz0, hz1, hz2⟩ := info_parts Tryz.infoRdF
  obtain ⟨j0, hj0, hy0, hy1, hy2⟩ := info_parts Tryz.infoU8
  have HB := Lib.hid hB
  have HS := Lib.hid hS
  have HR := Lib.hid hR
  have C1' := Lib.hid C1
  have kh := fun V : World => run_cut_h (P := Tryz.prog) V Tryz.underlying22 Tryz.sizeRdF A n c .i64 i (by omega)
  have kl := fun V : World => run_cut_l (P := Tryz.prog) V Tryz.underlying22 Tryz.sizeRdF A n c .i64 j (by omega)
  have HC1 := Lib.hid (rds_cut hS.sl hc (Nat.zero_le i) (by omega))
  have HC2 := Lib.hid (rds_cut hS.sl hc (show j ≤ n by omega) (Nat.le_refl n))
  have HP := Lib.hid hput
  have Hjs := Lib.hid hjs
  have HBS := Lib.hid hb
  clear C1 hi hj hhs hB hS hR hb hput hjs
  go_enter Tryz.func84, Tryz.ntmps84
  go_wp2_with fail
  refine C1'.out.mono ?_
  rintro e w1 ⟨rfl, m, hm⟩
  have hb1 : Below w.heap.size w w1 := by rw [hm]; exact below_drewN (Below.refl _ w) m
  have b1 := (HB.out.step hb1).cell 1
  have B1 := Lib.hid hb1
  have HS1 : Hid (Sl w1 2 (cutA A c 0 2) i (rds (l.take i))) := Lib.hid (by simpa using HC1.out.below hb1)
  have HT1 : Hid (Sl w1 2 (cutA A c j 2) (n - j) (rds (l.drop j))) := Lib.hid (by
    have h1 := HC2.out.below hb1
    rwa [List.take_of_length_le (by rw [List.length_drop]; omega)] at h1)
  have HBS1 := Lib.hid (HBS.out.below hb1)
  have q1 : 0 + i ≤ maxLen := by simp only [maxLen]; omega
  have q2 : (0 + i) * 40 ≤ 140737488355328 := by omega
  have q3 : 0 + k ≤ maxLen := by simp only [maxLen]; omega
  have q4 : (0 + k) * 1 ≤ 140737488355328 := by omega
  have q5 : 0 + i + 1 ≤ maxLen := by simp only [maxLen]; omega
  have q6 : (0 + i + 1) * 40 ≤ 140737488355328 := by omega
  have q7 : 0 + i + 1 + (n - j) ≤ maxLen := by simp only [maxLen]; omega
  have q8 : (0 + i + 1 + (n - j)) * 40 ≤ 140737488355328 := by omega
  have hw : IntKind.i64.wrap ((i : Int) + 1) = ((i + 1 : Nat) : Int) := by rw [IntWalk.i64_in _ (by omega)]; omega
  clear hm hb1 C1'
  rcases hs with _ | _
  · have hjj : i = j := (by simpa using Hjs.out.symm); subst hjj
    go_wp2_with (first
      | (at_builtin; refine wpList_append_sl _ rfl (.tmp 15) (.tmp 21) _ rfl w1 87 i0 _ 2 40 Tryz.underlying22 hi0 hz0 hz1 hz2 rfl (by omega) none 0 0 [] rfl (Ow.nil_ (Below.refl _ w1)) _ i _ (rds (l.take i)) rfl HS1.out (one_rds _) q1 q2 ?_; intro A5 c5 w5 hO5 hg5 hat5; have HO5 := Lib.hid hO5; have b5 := (HB.out.step (bstep B1.out hO5.2)).cell 1; have HE := Lib.hid (emp_ow w5 5 1); have HBS5 := Lib.hid ((HBS1.out.below hO5.2).alloc (.cells #[] 5)); clear hO5 hg5 hat5)
      | (at_builtin; refine wpList_append_sl _ rfl (.tmp 25) (.tmp 26) _ rfl w5 5 j0 _ 1 1 Tryz.underlying27 hj0 hy0 hy1 hy2 rfl Nat.one_pos (some ⟨w5.heap.size, 0, none⟩) 0 0 [] rfl HE.out B k _ (u8s bs) rfl HBS5.out (one_u8s bs) q3 q4 ?_; intro A7 c7 w7 hO7 hg7 hat7; obtain ⟨hd, hd1, hd2, hOd⟩ := hd_of hO7; rw [Nat.zero_add] at hd1 hd2; have HOd := Lib.hid hOd; have Hdn := Lib.hid hd2; have HO5' := Lib.hid ((HO5.out.keep hO7.2).alloc (.cells #[S s, .slice A7 k c7] 87)); have HS7 : Hid (Sl (w7.alloc (.cells #[S s, .slice A7 k c7] 87)) 2 (some ⟨w7.heap.size, 0, none⟩) 1 (rds [(s, hd, bs)])) := Lib.hid (by rw [← hd1]; exact sl_rd w7 87 (s, hd, bs)); clear hO7 hg7 hat7 hd1 hd2 hOd)
      | (at_builtin; refine wpList_append_sl _ rfl (.tmp 23) (.tmp 29) _ rfl w1 87 i0 _ 2 40 Tryz.underlying22 hi0 hz0 hz1 hz2 rfl (by omega) A5 (0 + i) c5 _ (by rw [Nat.zero_add]; rfl) HO5'.out _ 1 _ (rds [(s, hd, bs)]) rfl HS7.out (one_rds _) q5 q6 ?_; intro A8 c8 w8 hO8 hg8 hat8; have HO8 := Lib.hid hO8; have HB8 := Lib.hid (HB.out.step (bstep B1.out hO8.2)); have b8 := HB8.out.cell 1; have f8 := HB8.out.frozen; have K8 : Hid (KeepT 5 w7 w8) := Lib.hid ((KeepT.of_below (balloc (Below.refl _ w7) _)).grown hg8 (own_type HO5'.out.1 (by decide))); clear hO8 hg8 hat8)
      | (at_builtin; refine wpList_append_sl _ rfl (.tmp 35) (.tmp 41) _ rfl w1 87 i0 _ 2 40 Tryz.underlying22 hi0 hz0 hz1 hz2 rfl (by omega) A8 (0 + i + 1) c8 _ (by rw [Nat.zero_add]; rfl) HO8.out _ (n - i) _ (rds (l.drop (i))) rfl (HT1.out.below HO8.out.2) (one_rds _) q7 q8 ?_; intro A9 c9 w9 hO9 hg9 hat9; have HO9 := Lib.hid hO9; have HB9 := Lib.hid (HB.out.step (bstep B1.out hO9.2)); have b9 := HB9.out.cell 1; have f9 := HB9.out.frozen; have K9 : Hid (KeepT 5 w8 w9) := Lib.hid ((KeepT.refl _ w8).grown hg9 (own_type HO8.out.1 (by decide))); clear hO9 hg9 hat9))
    all_goals
     go_end0
     have hO9 := HO9.out
     have e9 : ([] ++ rds (l.take i) ++ rds [(s, hd, bs)] ++ rds (l.drop (i))) = rds (l.take i ++ (s, hd, bs) :: l.drop (i)) := by simp [rds]
     rw [e9] at hO9
     have hb9 := bstep B1.out hO9.2
     refine ⟨rfl, ⟨hd, Hdn.out, ?_⟩, (Fr.of_below (E := fun k => k = r) hb9).setCell (p := ⟨r, 1, none⟩) rfl _⟩
     rw [HP.out hd]
     simp only [Nat.zero_add] at hO9
     refine ⟨A9, i + 1 + (n - i), c9, done, HB9.out.set_ 1 _, hO9.cap.1, ?_, fun x hx => ?_⟩
     · exact (hO9.slT.weak (fun _ _ _ => trivial)).keep ((KeepT.refl _ _).setCell HB9.out (by decide) rfl _)
     · rcases List.mem_append.1 hx with h | h
       · exact ((HR.out x (List.mem_of_mem_take h)).step hb9).keep ((KeepT.refl _ _).setCell HB9.out (by decide) rfl _)
       · rcases List.mem_cons.1 h with rfl | h
         · exact ((HOd.out.slT.weak (fun _ _ _ => trivial)).keep (K8.out.trans K9.out)).keep ((KeepT.refl _ _).setCell HB9.out (by decide) rfl _)
         · exact ((HR.out x (List.mem_of_mem_drop h)).step hb9).keep ((KeepT.refl _ _).setCell HB9.out (by decide) rfl _)
  · have hjj : i + 1 = j := (by simpa using Hjs.out.symm); subst hjj
    go_wp2_with (first
      | (at_builtin; refine wpList_append_sl _ rfl (.tmp 15) (.tmp 21) _ rfl w1 87 i0 _ 2 40 Tryz.underlying22 hi0 hz0 hz1 hz2 rfl (by omega) none 0 0 [] rfl (Ow.nil_ (Below.refl _ w1)) _ i _ (rds (l.take i)) rfl HS1.out (one_rds _) q1 q2 ?_; intro A5 c5 w5 hO5 hg5 hat5; have HO5 := Lib.hid hO5; have b5 := (HB.out.step (bstep B1.out hO5.2)).cell 1; have HE := Lib.hid (emp_ow w5 5 1); have HBS5 := Lib.hid ((HBS1.out.below hO5.2).alloc (.cells #[] 5)); clear hO5 hg5 hat5)
      | (at_builtin; refine wpList_append_sl _ rfl (.tmp 25) (.tmp 26) _ rfl w5 5 j0 _ 1 1 Tryz.underlying27 hj0 hy0 hy1 hy2 rfl Nat.one_pos (some ⟨w5.heap.size, 0, none⟩) 0 0 [] rfl HE.out B k _ (u8s bs) rfl HBS5.out (one_u8s bs) q3 q4 ?_; intro A7 c7 w7 hO7 hg7 hat7; obtain ⟨hd, hd1, hd2, hOd⟩ := hd_of hO7; rw [Nat.zero_add] at hd1 hd2; have HOd := Lib.hid hOd; have Hdn := Lib.hid hd2; have HO5' := Lib.hid ((HO5.out.keep hO7.2).alloc (.cells #[S s, .slice A7 k c7] 87)); have HS7 : Hid (Sl (w7.alloc (.cells #[S s, .slice A7 k c7] 87)) 2 (some ⟨w7.heap.size, 0, none⟩) 1 (rds [(s, hd, bs)])) := Lib.hid (by rw [← hd1]; exact sl_rd w7 87 (s, hd, bs)); clear hO7 hg7 hat7 hd1 hd2 hOd)
      | (at_builtin; refine wpList_append_sl _ rfl (.tmp 23) (.tmp 29) _ rfl w1 87 i0 _ 2 40 Tryz.underlying22 hi0 hz0 hz1 hz2 rfl (by omega) A5 (0 + i) c5 _ (by rw [Nat.zero_add]; rfl) HO5'.out _ 1 _ (rds [(s, hd, bs)]) rfl HS7.out (one_rds _) q5 q6 ?_; intro A8 c8 w8 hO8 hg8 hat8; have HO8 := Lib.hid hO8; have HB8 := Lib.hid (HB.out.step (bstep B1.out hO8.2)); have b8 := HB8.out.cell 1; have f8 := HB8.out.frozen; have K8 : Hid (KeepT 5 w7 w8) := Lib.hid ((KeepT.of_below (balloc (Below.refl _ w7) _)).grown hg8 (own_type HO5'.out.1 (by decide))); clear hO8 hg8 hat8)
      | (at_builtin; refine wpList_append_sl _ rfl (.tmp 35) (.tmp 41) _ rfl w1 87 i0 _ 2 40 Tryz.underlying22 hi0 hz0 hz1 hz2 rfl (by omega) A8 (0 + i + 1) c8 _ (by rw [Nat.zero_add]; rfl) HO8.out _ (n - (i + 1)) _ (rds (l.drop ((i + 1)))) rfl (HT1.out.below HO8.out.2) (one_rds _) q7 q8 ?_; intro A9 c9 w9 hO9 hg9 hat9; have HO9 := Lib.hid hO9; have HB9 := Lib.hid (HB.out.step (bstep B1.out hO9.2)); have b9 := HB9.out.cell 1; have f9 := HB9.out.frozen; have K9 : Hid (KeepT 5 w8 w9) := Lib.hid ((KeepT.refl _ w8).grown hg9 (own_type HO8.out.1 (by decide))); clear hO9 hg9 hat9))
    all_goals
     go_end0
     have hO9 := HO9.out
     have e9 : ([] ++ rds (l.take i) ++ rds [(s, hd, bs)] ++ rds (l.drop ((i + 1)))) = rds (l.take i ++ (s, hd, bs) :: l.drop ((i + 1))) := by simp [rds]
     rw [e9] at hO9
     have hb9 := bstep B1.out hO9.2
     refine ⟨rfl, ⟨hd, Hdn.out, ?_⟩, (Fr.of_below (E := fun k => k = r) hb9).setCell (p := ⟨r, 1, none⟩) rfl _⟩
     rw [HP.out hd]
     simp only [Nat.zero_add] at hO9
     refine ⟨A9, i + 1 + (n - (i + 1)), c9, done, HB9.out.set_ 1 _, hO9.cap.1, ?_, fun x hx => ?_⟩
     · exact (hO9.slT.weak (fun _ _ _ => trivial)).keep ((KeepT.refl _ _).setCell HB9.out (by decide) rfl _)
     · rcases List.mem_append.1 hx with h | h
       · exact ((HR.out x (List.mem_of_mem_take h)).step hb9).keep ((KeepT.refl _ _).setCell HB9.out (by decide) rfl _)
       · rcases List.mem_cons.1 h with rfl | h
         · exact ((HOd.out.slT.weak (fun _ _ _ => trivial)).keep (K8.out.trans K9.out)).keep ((KeepT.refl _ _).setCell HB9.out (by decide) rfl _)
         · exact ((HR.out x (List.mem_of_mem_drop h)).step hb9).keep ((KeepT.refl _ _).setCell HB9.out (by decide) rfl _)
def Srt (l : List DF) : Prop := l.Pairwise fun x y => x.1 < y.1
def nb (x : DF) : List UInt8 × List UInt8 := (x.1, x.2.2)
theorem lt_irr (s : List UInt8) : ¬ s < s := List.lt_irrefl s
theorem rf_take (l : List DF) (s : List UInt8) : ∀ x ∈ l.take (rfPos l s), x.1 < s := by
 unfold rfPos
 induction l with
 | nil => simp
 | cons y l ih =>
  intro x hx
  rw [List.takeWhile_cons] at hx
  by_cases hy : y.1 < s
  ·rw [if_pos (decide_eq_true hy), List.length_cons, List.take_succ_cons] at hx
   rcases List.mem_cons.1 hx with rfl | hx
   ·exact hy
   ·exact ih x hx
  ·rw [if_neg (by simp [hy]), List.length_nil, List.take_zero] at hx
   cases hx
theorem rf_has {l : List DF} {s : List UInt8} (h : rfHas l s = true) : ∃ x, l[rfPos l s]? = some x ∧ x.1 = s := by
 unfold rfHas at h
 have h1 := of_decide_eq_true h
 cases hx : l[rfPos l s]? with
 | none => rw [hx] at h1; cases h1
 | some x => exact ⟨x, rfl, by rw [hx] at h1; exact Option.some.inj h1⟩
theorem rf_split {l : List DF} {s : List UInt8} (h : rfHas l s = true) : ∃ x, x.1 = s ∧ l = l.take (rfPos l s) ++ x :: l.drop (rfPos l s + 1) := by
 obtain ⟨x, hx, e⟩ := rf_has h
 refine ⟨x, e, ?_⟩
 have hlt := rf_lt h
 rw [List.getElem?_eq_getElem hlt] at hx
 have := List.drop_eq_getElem_cons hlt
 rw [Option.some.inj hx] at this
 rw [← this, List.take_append_drop]
theorem rf_next {l : List DF} {s : List UInt8} (hs : Srt l) : ∀ x ∈ l.drop (rfPos l s), ¬ x.1 < s := by
 unfold rfPos
 induction l with
 | nil => simp
 | cons y l ih =>
  intro x hx
  rw [List.takeWhile_cons] at hx
  by_cases hy : y.1 < s
  ·rw [if_pos (decide_eq_true hy), List.length_cons, List.drop_succ_cons] at hx
   exact ih (List.Pairwise.of_cons hs) x hx
  ·rw [if_neg (by simp [hy]), List.length_nil, List.drop_zero] at hx
   rcases List.mem_cons.1 hx with rfl | hx
   ·exact hy
   ·exact fun hlt => hy (List.lt_trans ((List.pairwise_cons.1 hs).1 x hx) hlt)
theorem srt_ne {l : List DF} (h : Srt l) : l.Pairwise fun x y => x.1 ≠ y.1 := by
 refine List.Pairwise.imp ?_ h
 intro a b hab he
 rw [he] at hab
 exact lt_irr _ hab
theorem srt_keys {l : List DF} (h : Srt l) : (l.map (·.1)).Nodup := List.pairwise_map.2 (srt_ne h)
theorem rf_iff {l : List DF} {s : List UInt8} (hs : Srt l) : rfHas l s = true ↔ s ∈ l.map (·.1) := by
 constructor
 ·intro h
  obtain ⟨x, hx, e⟩ := rf_has h
  exact List.mem_map.2 ⟨x, List.mem_of_getElem? hx, e⟩
 ·intro h
  obtain ⟨x, hx, e⟩ := List.mem_map.1 h
  have e2 : x ∈ l.take (rfPos l s) ++ l.drop (rfPos l s) := by rwa [List.take_append_drop]
  rcases List.mem_append.1 e2 with h1 | h1
  ·exact absurd (rf_take l s x h1) (by rw [e]; exact lt_irr s)
  ·have hsd : Srt (l.drop (rfPos l s)) := List.Pairwise.sublist (List.drop_sublist _ _) hs
   cases hd : l.drop (rfPos l s) with
   | nil => rw [hd] at h1; cases h1
   | cons y t =>
    have hy : l[rfPos l s]? = some y := by
     have := congrArg (fun z => z[0]?) hd
     simpa using this
    have hny := rf_next hs y (by rw [hd]; exact List.mem_cons_self)
    rw [hd] at h1 hsd
    rcases List.mem_cons.1 h1 with rfl | h2
    ·unfold rfHas
     rw [hy]
     simp [e]
    ·exact absurd ((List.pairwise_cons.1 hsd).1 x h2) (by rw [e]; exact hny)
theorem rf_cut {l : List DF} {s : List UInt8} (hs : Srt l) (h : rfHas l s = true) : l.take (rfPos l s) ++ l.drop (rfPos l s + 1) = dropF l s := by
 obtain ⟨x, e, hl⟩ := rf_split h
 have hn := srt_ne hs
 obtain ⟨a, ha⟩ : ∃ a, a = l.take (rfPos l s) := ⟨_, rfl⟩
 obtain ⟨b, hb⟩ : ∃ b, b = l.drop (rfPos l s + 1) := ⟨_, rfl⟩
 rw [← ha, ← hb] at hl ⊢
 rw [hl] at hn ⊢
 obtain ⟨h1, h2, h3⟩ := List.pairwise_append.1 hn
 have hx := (List.pairwise_cons.1 h2).1
 unfold dropF
 rw [List.filter_append, List.filter_cons]
 rw [if_neg (by simp [e])]
 rw [List.filter_eq_self.2, List.filter_eq_self.2]
 ·intro y hy
  have := hx y hy
  rw [e] at this
  simpa using fun h => this h.symm
 ·intro y hy
  have := h3 y hy x List.mem_cons_self
  rw [e] at this
  simpa using this
theorem srt_drop {l : List DF} (hs : Srt l) (s : List UInt8) : Srt (dropF l s) := List.Pairwise.sublist List.filter_sublist hs
theorem put_perm {l : List DF} {s : List UInt8} (hs : Srt l) (hd : Hd) (b : List UInt8) : (rdPut l s hd b).Perm (putF l s hd b) := by
 unfold rdPut putF
 refine List.perm_middle.trans (List.Perm.cons _ ?_)
 cases h : rfHas l s with
 | true => rw [if_pos rfl, rf_cut hs h]
 | false =>
  rw [if_neg (by simp), List.take_append_drop, dropF_none]
  intro hm
  rw [(rf_iff hs).2 hm] at h
  cases h
theorem srt_put {l : List DF} {s : List UInt8} (hs : Srt l) (hd : Hd) (b : List UInt8) : Srt (rdPut l s hd b) := by
 unfold rdPut
 refine List.pairwise_append.2 ⟨List.Pairwise.sublist (List.take_sublist _ _) hs, List.pairwise_cons.2 ⟨?_, List.Pairwise.sublist (List.drop_sublist _ _) hs⟩, ?_⟩
 ·intro y hy
  have hsd : Srt (l.drop (rfPos l s)) := List.Pairwise.sublist (List.drop_sublist _ _) hs
  cases h : rfHas l s with
  | true =>
   rw [h, if_pos rfl] at hy
   obtain ⟨x, e, hl⟩ := rf_split h
   rw [hl] at hs
   have := (List.pairwise_cons.1 (List.pairwise_append.1 hs).2.1).1 y hy
   rwa [e] at this
  | false =>
   rw [h, if_neg (by simp)] at hy
   have h1 := rf_next hs y hy
   have h2 : y.1 ≠ s := fun e => by
    have := (rf_iff hs).2 (List.mem_map.2 ⟨y, List.mem_of_mem_drop hy, e⟩)
    rw [h] at this
    cases this
   exact Classical.byContradiction fun h3 => h2 (List.le_antisymm (List.not_lt.1 h3) (List.not_lt.1 h1))
 ·intro x hx y hy
  have h1 := rf_take l s x hx
  rcases List.mem_cons.1 hy with rfl | hy
  ·exact h1
  ·have hy2 : y ∈ l.drop (rfPos l s) := by
    split at hy
    ·rw [← List.drop_drop] at hy
     exact List.mem_of_mem_drop hy
    ·exact hy
   rw [← List.take_append_drop (rfPos l s) l] at hs
   exact (List.pairwise_append.1 hs).2.2 x hx y hy2
def oldR (l : List DF) (s : List UInt8) : List UInt8 := if rfHas l s = true then ((l[rfPos l s]?).map (·.2.2)).getD [] else []
theorem pos_put (l : List DF) (s : List UInt8) (hd : Hd) (b : List UInt8) : rfPos (rdPut l s hd b) s = rfPos l s ∧ (rdPut l s hd b)[rfPos l s]? = some (s, hd, b) := by
 have hlen : (l.take (rfPos l s)).length = rfPos l s := by rw [List.length_take, Nat.min_eq_left (pos_le l s)]
 have h1 : (rdPut l s hd b)[rfPos l s]? = some (s, hd, b) := by
  unfold rdPut
  rw [List.getElem?_append_right (by omega), hlen, Nat.sub_self]
  rfl
 refine ⟨rfPos_of ?_ ?_ ?_, h1⟩
 ·have : (rdPut l s hd b).take (rfPos l s) = l.take (rfPos l s) := by
   unfold rdPut
   rw [List.take_append_of_le_length (by omega), List.take_take, Nat.min_self]
  rw [this]
  exact rf_take l s
 ·have := (List.getElem?_eq_some_iff.1 h1).1
  omega
 ·intro x hx
  rw [h1] at hx
  cases hx
  exact lt_irr s
theorem has_put (l : List DF) (s : List UInt8) (hd : Hd) (b : List UInt8) : rfHas (rdPut l s hd b) s = true ∧ oldR (rdPut l s hd b) s = b := by
 obtain ⟨h1, h2⟩ := pos_put l s hd b
 have h3 : rfHas (rdPut l s hd b) s = true := by
  unfold rfHas
  rw [h1, h2]
  simp
 refine ⟨h3, ?_⟩
 unfold oldR
 rw [if_pos h3, h1, h2]
 rfl
theorem put_again (l : List DF) (s : List UInt8) (hd hd' : Hd) (b b' : List UInt8) : rdPut (rdPut l s hd b) s hd' b' = rdPut l s hd' b' := by
 obtain ⟨h1, _⟩ := pos_put l s hd b
 obtain ⟨h3, _⟩ := has_put l s hd b
 have hlen : (l.take (rfPos l s)).length = rfPos l s := by rw [List.length_take, Nat.min_eq_left (pos_le l s)]
 have e : rdPut (rdPut l s hd b) s hd' b' = (rdPut l s hd b).take (rfPos l s) ++ (s, hd', b') :: (rdPut l s hd b).drop (rfPos l s + 1) := by
  show (rdPut l s hd b).take (rfPos (rdPut l s hd b) s) ++ (s, hd', b') :: (rdPut l s hd b).drop (if rfHas (rdPut l s hd b) s then rfPos (rdPut l s hd b) s + 1 else rfPos (rdPut l s hd b) s) = _
  rw [h1, h3, if_pos rfl]
 rw [e]
 unfold rdPut
 rw [List.take_append_of_le_length (by omega), List.take_take, Nat.min_self, List.drop_append, hlen, List.drop_of_length_le (by omega), Nat.add_sub_cancel_left]
 rfl
theorem costs_perm {l L : List DF} (h : (l.map nb).Perm (L.map nb)) : costs l = costs L := by
 have e : ∀ l : List DF, costs l = ((l.map nb).map fun y => 16 + y.1.length + y.2.length).sum := by
  intro l
  induction l with
  | nil => rfl
  | cons x l ih =>
   show cost1 x + costs l = _
   rw [ih]
   rfl
 rw [e l, e L]
 exact (h.map _).sum_nat
def Tied (l L : List DF) : Prop := Srt l ∧ (l.map nb).Perm (L.map nb)
theorem nb_drop (l : List DF) (s : List UInt8) : (dropF l s).map nb = (l.map nb).filter (fun y => !decide (y.1 = s)) := by
 unfold dropF
 rw [List.filter_map]
 congr 1
theorem Tied.drop {l L : List DF} (h : Tied l L) (s : List UInt8) : Tied (dropF l s) (dropF L s) := ⟨srt_drop h.1 s, by rw [nb_drop, nb_drop]; exact h.2.filter _⟩
theorem Tied.keys {l L : List DF} (h : Tied l L) : (l.map (·.1)).Perm (L.map (·.1)) := by
 have := h.2.map (·.1)
 rw [List.map_map, List.map_map] at this
 exact this
theorem Tied.has {l L : List DF} (h : Tied l L) (s : List UInt8) : rfHas l s = (getF L s).isSome := by
 have h1 := rf_iff (s := s) h.1
 have h2 := h.keys.mem_iff (a := s)
 cases hg : getF L s with
 | none =>
  have := getF_none.1 hg
  cases hr : rfHas l s with
  | false => rfl
  | true => exact absurd (h2.1 (h1.1 hr)) this
 | some x =>
  obtain ⟨hx, e⟩ := getF_mem hg
  exact h1.2 (h2.2 (List.mem_map.2 ⟨x, hx, e⟩))
theorem Tied.put {l L : List DF} (h : Tied l L) (s : List UInt8) (hd hd' : Hd) (b : List UInt8) : Tied (rdPut l s hd b) (putF L s hd' b) := by
 refine ⟨srt_put h.1 hd b, ((put_perm h.1 hd b).map nb).trans ?_⟩
 show ((s, b) :: (dropF l s).map nb).Perm ((s, b) :: (dropF L s).map nb)
 exact List.Perm.cons _ (h.drop s).2
theorem Tied.costs {l L : List DF} (h : Tied l L) : costs l = costs L := costs_perm h.2
theorem byte_at {s : List UInt8} {k : Nat} {x : UInt8} (hx : s[k]? = some x) (hh : k < (⟨s.toArray⟩ : ByteArray).size) : (⟨s.toArray⟩ : ByteArray)[k]'hh = x := by
 show s.toArray[k]'_ = x
 obtain ⟨h1, h2⟩ := List.getElem?_eq_some_iff.1 hx
 simpa using h2
set_option maxRecDepth 100000 in
/-- dolmenref04.Named -/
theorem rdnamed_any (w : World) (s : List UInt8) (hl : s.length ≤ 2147483648) :
  Calls Tryz.prog 82 #[S s] w fun e w' => e = .returned (.bool (okName s)) ∧ w' = w := by
 have Hl := Lib.hid hl
 clear hl
 go_enter Tryz.func82, Tryz.ntmps82
 go_wp2
 go_loop [3] (fun v => ∃ k : Nat, k ≤ s.length ∧ v = .int .i64 k ∧ Hid ((0 : UInt8) ∉ s.take k)) (fun v => s.length - (intOf v).toNat)
 case atStart => exact ⟨0, Nat.zero_le _, rfl, Lib.hid (by simp)⟩
 case round =>
  obtain ⟨k, hk, rfl, ha⟩ := hrel
  by_cases hlt : k < s.length
  ·obtain ⟨x, hx⟩ : ∃ x, s[k]? = some x := ⟨s[k], List.getElem?_eq_getElem hlt⟩
   have Hx := Lib.hid hx
   have hn9 := Hl.out
   have hh : k < (⟨s.toArray⟩ : ByteArray).size := by show k < s.toArray.size; simpa using hlt
   have hv := byte_at hx hh
   by_cases hx2 : x = 0
   ·have HO : Hid (okName s = false) := Lib.hid (by
     unfold okName
     have h1 : ¬ Lib.indexByte s 0 < 0 := fun h => idx_none.1 h (by rw [← hx2]; exact List.mem_of_getElem? hx)
     rw [decide_eq_false h1, Bool.and_false, Bool.and_false])
    have d1 : ((((⟨s.toArray⟩ : ByteArray)[k]'hh).toNat : Int) == 0) = true := by rw [hv, hx2]; rfl
    clear hv hx hx2
    go_wp2
    go_ret
    exact ⟨by rw [HO.out]; rfl, rfl⟩
   ·have HA : Hid ((0 : UInt8) ∉ s.take (k + 1)) := Lib.hid (by
     rw [List.take_add_one, Hx.out, List.mem_append]
     rintro (h | h)
     ·exact ha.out h
     ·exact hx2 (List.mem_singleton.1 h).symm)
    have d1 : ((((⟨s.toArray⟩ : ByteArray)[k]'hh).toNat : Int) == 0) = false := by
     rw [hv]
     refine beq_eq_false_iff_ne.2 (fun e => hx2 ?_)
     exact UInt8.toNat_inj.1 (by have : x.toNat = 0 := (by omega); rw [this]; rfl)
    clear hv hx hx2
    go_wp2
    go_round
    case rel => exact ⟨k + 1, hlt, by go_num, HA⟩
    case measure => simp [intOf]; omega
  ·obtain rfl : k = s.length := by omega
   have HI : Hid ((0 : UInt8) ∉ s) := Lib.hid (by have := ha.out; rwa [List.take_length] at this)
   have hways : (s.length < 1 ∧ okName s = false) ∨ (1 ≤ s.length ∧ s.length ≤ 200 ∧ okName s = true) ∨ (200 < s.length ∧ okName s = false) := by
    have h1 : decide (Lib.indexByte s 0 < 0) = true := decide_eq_true (idx_none.2 HI.out)
    unfold okName
    rw [h1]
    by_cases h2 : s.length < 1
    ·exact .inl ⟨h2, by rw [decide_eq_false (by omega)]; rfl⟩
    ·by_cases h3 : s.length ≤ 200
     ·exact .inr (.inl ⟨by omega, h3, by rw [decide_eq_true (by omega), decide_eq_true h3]; rfl⟩)
     ·exact .inr (.inr ⟨by omega, by rw [decide_eq_false h3]; simp⟩)
   have hn9 := Hl.out
   rcases hways with ⟨h1, h2⟩ | ⟨h1, h2, h3⟩ | ⟨h1, h2⟩
   ·have HO := Lib.hid h2
    have d1 : decide ((1 : Int) ≤ (s.length : Int)) = false := decide_eq_false (by omega)
    clear h2
    go_wp2
    go_ret
    exact ⟨by rw [HO.out]; rfl, rfl⟩
   ·have HO := Lib.hid h3
    have d1 : decide ((1 : Int) ≤ (s.length : Int)) = true := decide_eq_true (by omega)
    have d2 : decide ((s.length : Int) ≤ 200) = true := decide_eq_true (by omega)
    clear h3
    go_wp2
    go_ret
    exact ⟨by rw [HO.out]; rfl, rfl⟩
   ·have HO := Lib.hid h2
    have d1 : decide ((1 : Int) ≤ (s.length : Int)) = true := decide_eq_true (by omega)
    have d2 : decide ((s.length : Int) ≤ 200) = false := decide_eq_false (by omega)
    clear h2
    go_wp2
    go_ret
    exact ⟨by rw [HO.out]; rfl, rfl⟩
theorem u8s_of {w : World} {r : Nat} {cap : Int} {l : List DF} (h : RdAt w r cap l) {x : DF} (hx : x ∈ l) : Sl w 1 x.2.1.a x.2.1.n (u8s x.2.2) ∧ x.2.2.length = x.2.1.n := by
 obtain ⟨A, n, c, done, hB, hc, hS, hR⟩ := h
 have h1 := (hR x hx).sl
 exact ⟨h1, by have := h1.1; simpa [u8s] using this⟩
theorem one_costs : ∀ {l : List DF} {x : DF}, x ∈ l → 16 + x.1.length + x.2.2.length ≤ costs l
 | [], _, h => by cases h
 | y :: l, x, h => by
  rcases List.mem_cons.1 h with rfl | h
  ·show cost1 x ≤ cost1 x + costs l; omega
  ·have := one_costs h; show _ ≤ cost1 y + costs l; omega
theorem len_costs : ∀ (l : List DF), l.length * 16 ≤ costs l
 | [] => by simp
 | y :: l => by
  have := len_costs l
  show _ ≤ cost1 y + costs l
  unfold cost1
  rw [List.length_cons]
  omega
set_option maxRecDepth 100000 in
set_option maxHeartbeats 2000000 in
theorem rdread_no (w : World) (r : Nat) (cap : Int) (l : List DF) (s : List UInt8) (h : RdAt w r cap l) (hl : l.length ≤ 999999) (hs : okName s = true) (hh : rfHas l s = false) :
  Calls Tryz.prog 230 #[.pointer (some ⟨r, 0, none⟩), S s] w fun e w' => e = .returned (.tuple #[.slice none 0 0, I 3]) ∧ ∃ m, w' = w.drewN m := by
 have hsl := (okName_len hs).2
 have C1 := Lib.hid (rdnamed_any w s (by omega))
 rw [hs] at C1
 have C2 := Lib.hid (rdfind_any w r cap l s h (by omega))
 rw [hh] at C2
 clear h hs hh
 go_enter Tryz.func230, Tryz.ntmps230
 go_wp2_with (first
  | (go_at_call 82; refine C1.out.mono ?_; rintro e w1 ⟨rfl, h1⟩; obtain rfl := h1.symm; clear h1)
  | (go_at_call 152; refine C2.out.mono ?_; rintro e w2 ⟨rfl, m, rfl⟩))
 go_ret2
 exact ⟨rfl, m, rfl⟩
set_option maxRecDepth 100000 in
set_option maxHeartbeats 4000000 in
theorem rdread_yes (w : World) (r : Nat) (cap : Int) (l : List DF) (s : List UInt8) (h : RdAt w r cap l) (hl : l.length ≤ 999999) (hs : okName s = true) (hh : rfHas l s = true) (hk : (oldR l s).length ≤ 100000000) :
  Calls Tryz.prog 230 #[.pointer (some ⟨r, 0, none⟩), S s] w fun e w' => ∃ (A : Option Addr) (k c : Nat), e = .returned (.tuple #[.slice A k c, I 0]) ∧ Ow w w' 5 1 A k c (u8s (oldR l s)) := by
 have hsl := (okName_len hs).2
 have C1 := Lib.hid (rdnamed_any w s (by omega))
 rw [hs] at C1
 have C2 := Lib.hid (rdfind_any w r cap l s h (by omega))
 rw [hh] at C2
 obtain ⟨x, hx, hxs⟩ := rf_has hh
 have hlt := rf_lt hh
 have hold : oldR l s = x.2.2 := by unfold oldR; rw [if_pos hh, hx]; rfl
 rw [hold] at hk ⊢
 obtain ⟨hxS, hxn⟩ := u8s_of h (List.mem_of_getElem? hx)
 obtain ⟨i, hi⟩ : ∃ i, i = rfPos l s := ⟨_, rfl⟩
 rw [← hi] at C2 hx hlt
 obtain ⟨A, n, c, done, hB, hc, hS, hR⟩ := h
 have hn := rds_count hS.sl
 obtain ⟨b, off, y, rfl, hbl, hy, x0, x1⟩ := hS.sl.rd (show i < n by omega)
 obtain rfl : x = y := Option.some.inj (hx.symm.trans hy)
 obtain ⟨j0, hj0, hy0, hy1, hy2⟩ := info_parts Tryz.infoU8
 have HX := Lib.hid hxS
 have rc := Lib.hid (fun V (hb : Below w.heap.size w V) => (hB.step hb).cell 1)
 have q3 : 0 + x.2.1.n ≤ maxLen := by simp only [maxLen]; omega
 have q4 : (0 + x.2.1.n) * 1 ≤ 140737488355328 := by omega
 change _ = some (Value.slice x.2.1.a x.2.1.n x.2.1.c) at x1
 have X1 := Lib.hid (fun V (hb : Below w.heap.size w V) => (World.cell?_of_block (hb.block b hbl)).trans x1)
 clear x0 x1 hbl hB hS hR hx hy hs hh hi hxS hold
 go_enter Tryz.func230, Tryz.ntmps230
 go_wp2_with (first
  | (go_at_call 82; refine C1.out.mono ?_; rintro e w1 ⟨rfl, h1⟩; obtain rfl := h1.symm; clear h1)
  | (go_at_call 152; refine C2.out.mono ?_; rintro e w2 ⟨rfl, m, rfl⟩; have HE := Lib.hid (emp_ow (w.drewN m) 5 1); have hb2 := balloc (below_drewN (Below.refl _ w) m) (.cells #[] 5); have HX2 := Lib.hid (HX.out.below hb2); have r2 := rc.out _ hb2; have x2 := X1.out _ hb2; clear hb2)
  | (at_builtin; refine wpList_append_sl _ rfl (.tmp 19) (.tmp 27) _ rfl (w.drewN m) 5 j0 _ 1 1 Tryz.underlying27 hj0 hy0 hy1 hy2 rfl Nat.one_pos (some ⟨w.heap.size, 0, none⟩) 0 0 [] rfl HE.out x.2.1.a x.2.1.n _ (u8s x.2.2) rfl HX2.out (one_u8s _) q3 q4 ?_; intro A7 c7 w7 hO7 hg7 hat7; have HO7 := Lib.hid hO7; clear hO7 hg7 hat7))
 go_ret2
 have hO7 := HO7.out
 rw [Nat.zero_add, List.nil_append] at hO7
 exact ⟨A7, x.2.1.n, c7, rfl, hO7.since (below_drewN (Below.refl _ w) m)⟩
abbrev rdC5 (cap : Int) (A : Option Addr) (n c : Nat) (d : Int) : Array Value := #[I cap, .slice A n c, I d, I (-1), .bool false]
theorem RdAt.again {w w' : World} {r : Nat} {cap : Int} {l : List DF} (h : RdAt w r cap l) (hf : Fr (fun k => k = r) w w') (hb : ∀ A n c d, Blk w r 173 (rdC5 cap A n c d) → ∃ d', Blk w' r 173 (rdC5 cap A n c d')) : RdAt w' r cap l := by
 obtain ⟨A, n, c, done, hB, hc, hS, hR⟩ := h
 obtain ⟨d', hB'⟩ := hb A n c done hB
 have k1 : KeepT 5 w w' := KeepT.of_fr hf (fun k cs fr e => by subst e; exact Blk.type hB (by decide) cs fr)
 have k2 : KeepT 87 w w' := KeepT.of_fr hf (fun k cs fr e => by subst e; exact Blk.type hB (by decide) cs fr)
 exact ⟨A, n, c, d', hB', hc, hS.keep k2, fun x hx => (hR x hx).keep k1⟩
theorem RdAt.lt {w : World} {r : Nat} {cap : Int} {l : List DF} (h : RdAt w r cap l) : r < w.heap.size := by
 obtain ⟨A, n, c, done, hB, _⟩ := h
 exact hB.lt
theorem fr_tick (w : World) (r : Nat) (u : Value) : Fr (fun k => k = r) w (w.setCell ⟨r, 2, none⟩ u) := (Fr.refl (fun k => k = r) w).setCell rfl u
theorem blk_tick {w : World} {r : Nat} {cap d : Int} {A : Option Addr} {n c : Nat} (h : Blk w r 173 (rdC5 cap A n c d)) (x : Int) : Blk (w.setCell ⟨r, 2, none⟩ (I x)) r 173 (rdC5 cap A n c x) := h.set_ 2 _
theorem RdAt.tick {w : World} {r : Nat} {cap : Int} {l : List DF} (h : RdAt w r cap l) (x : Int) : RdAt (w.setCell ⟨r, 2, none⟩ (I x)) r cap l := h.again (fr_tick w r _) (fun _ _ _ _ hB => ⟨x, blk_tick hB x⟩)
set_option maxRecDepth 100000 in
set_option maxHeartbeats 2000000 in
theorem rdspend_any (w : World) (r : Nat) (cap : Int) (l : List DF) (h : RdAt w r cap l) :
  Calls Tryz.prog 228 #[.pointer (some ⟨r, 0, none⟩)] w fun e w' => e = .returned (.bool true) ∧ ∃ x : Int, w' = w.setCell ⟨r, 2, none⟩ (I x) := by
 obtain ⟨A, n, c, done, hB, hc, hS, hR⟩ := h
 have rc := hB.cell
 have rf := hB.frozen
 clear hB hS hR
 go_enter Tryz.func228, Tryz.ntmps228
 go_wp2
 go_ret
 exact ⟨rfl, _, rfl⟩
set_option maxRecDepth 100000 in
set_option maxHeartbeats 2000000 in
theorem rdtouch_ok (w : World) (r : Nat) (cap : Int) (l : List DF) (s : List UInt8) (h : RdAt w r cap l) (hl : l.length ≤ 999999) (hs : okName s = true) (hh : rfHas l s = true) :
  Calls Tryz.prog 227 #[.pointer (some ⟨r, 0, none⟩), S s] w fun e w' => e = .returned (I 0) ∧ ∃ m, w' = w.drewN m := by
 have hsl := (okName_len hs).2
 have C1 := Lib.hid (rdnamed_any w s (by omega))
 rw [hs] at C1
 have C2 := Lib.hid (rdhas_any w r cap l s h (by omega))
 rw [hh] at C2
 obtain ⟨A, n, c, done, hB, hc, hS, hR⟩ := h
 have rc := hB.cell 4
 clear hB hS hR hs hh
 go_enter Tryz.func227, Tryz.ntmps227
 go_wp2_with (first
  | (go_at_call 82; refine C1.out.mono ?_; rintro e w1 ⟨rfl, h1⟩; obtain rfl := h1.symm; clear h1)
  | (go_at_call 83; refine C2.out.mono ?_; rintro e w2 ⟨rfl, m, rfl⟩))
 go_ret
 exact ⟨rfl, m, rfl⟩
theorem RdAt.drewN {w : World} {r : Nat} {cap : Int} {l : List DF} (h : RdAt w r cap l) (m : Nat) : RdAt (w.drewN m) r cap l := h.step (below_drewN (Below.refl _ w) m)
set_option maxRecDepth 100000 in
set_option maxHeartbeats 2000000 in
theorem rdsync_ok (w : World) (r : Nat) (cap : Int) (l : List DF) (s : List UInt8) (h : RdAt w r cap l) (hl : l.length ≤ 999999) (hs : okName s = true) (hh : rfHas l s = true) :
  Calls Tryz.prog 158 #[.pointer (some ⟨r, 0, none⟩), S s] w fun e w' => e = .returned (I 0) ∧ RdAt w' r cap l ∧ Fr (fun k => k = r) w w' := by
 have C1 := Lib.hid (rdtouch_ok w r cap l s h hl hs hh)
 have HR := Lib.hid h
 clear h hs hh
 go_enter Tryz.func158, Tryz.ntmps158
 go_wp2_with (first
  | (go_at_call 227; refine C1.out.mono ?_; rintro e w1 ⟨rfl, m, rfl⟩; have C2 := Lib.hid (rdspend_any _ r cap l (HR.out.drewN m)))
  | (go_at_call 228; refine C2.out.mono ?_; rintro e w2 ⟨rfl, x, rfl⟩))
 go_ret
 exact ⟨rfl, (HR.out.drewN m).tick x, ((Fr.refl _ w).drewN m).trans (fr_tick _ _ _)⟩
set_option maxRecDepth 100000 in
set_option maxHeartbeats 2000000 in
theorem rdremove_ok (w : World) (r : Nat) (cap : Int) (l : List DF) (s : List UInt8) (h : RdAt w r cap l) (hl : l.length ≤ 999999) (hsr : Srt l) (hs : okName s = true) (hh : rfHas l s = true) :
  Calls Tryz.prog 155 #[.pointer (some ⟨r, 0, none⟩), S s] w fun e w' => e = .returned (I 0) ∧ RdAt w' r cap (dropF l s) ∧ Fr (fun k => k = r) w w' := by
 have C1 := Lib.hid (rdtouch_ok w r cap l s h hl hs hh)
 have HR := Lib.hid h
 have HC := Lib.hid (rf_cut hsr hh)
 have HH := Lib.hid hh
 clear h hs hh hsr
 go_enter Tryz.func155, Tryz.ntmps155
 go_wp2_with (first
  | (go_at_call 227; refine C1.out.mono ?_; rintro e w1 ⟨rfl, m, rfl⟩; have C2 := Lib.hid (rdspend_any _ r cap l (HR.out.drewN m)))
  | (go_at_call 228; refine C2.out.mono ?_; rintro e w2 ⟨rfl, x, rfl⟩; have C3 := Lib.hid (rddrop_any _ r cap l s ((HR.out.drewN m).tick x) (by omega) HH.out))
  | (go_at_call 229; refine C3.out.mono ?_; rintro e w3 ⟨rfl, h3, f3⟩; have H3 := Lib.hid h3; have F3 := Lib.hid f3; clear h3 f3))
 go_ret
 exact ⟨rfl, by have := H3.out; rwa [HC.out] at this, (((Fr.refl _ w).drewN m).trans (fr_tick _ _ _)).trans F3.out⟩
end Go.Proofs.YtphnfcgdpdimbaaGreatDoor
