/-
  dolmenlaw11.step where a transaction is applied to both books: it answers; both stay books. Conditions: as in Step.
-/
import Derived.Test.YtegehaokfcamfaaGreatDoorStep
namespace Go.Proofs.YtegehaokfcamfaaGreatDoor
open Go.RowKit
open RefsLaw (Val Chg Txn rightT Book)

theorem txn_box (w : World) (o : Obj) (cs : Array Value) : Blk ((w.alloc o).alloc (.cells cs 25)) (w.heap.size + 1) 25 cs := by
  have h := Blk.new (w.alloc o) 25 cs
  rwa [show (w.alloc o).heap.size = w.heap.size + 1 by simp] at h
set_option maxHeartbeats 4000000 in
set_option maxRecDepth 100000 in
theorem step_put0 (B N p q z y : Nat) (w : World) (what : Int) (t : TxG) (ref : List UInt8) (keep : Int) (hB : BothAt B N w p q z y) (hz : z ≤ 1000) (hy : y ≤ 1000) (hO : OpOk B w t ref keep) (hM : MaxL w) (hl : 0 < B)
    (h4 : (bits BinOp.and IntKind.i64 what 7 == 4) = false) (h7 : (bits BinOp.and IntKind.i64 what 7 == 7) = false) (h5 : (bits BinOp.and IntKind.i64 what 7 == 5) = false) (h6 : (bits BinOp.and IntKind.i64 what 7 == 6) = false) :
    Calls Tryz.prog 21 #[.pointer (some ⟨p, 0, none⟩), .pointer (some ⟨q, 0, none⟩), opV what t false ref keep] w (Stepped B w p q z y) := by
  obtain ⟨who, text, stamp, A, n, c, l⟩ := t
  have hq := hB.at_q
  have htop := hB.top
  have hn := hO.n
  have hs := hO.refs
  have HR := Lib.hid (Blk.new w 69 (opCs what ⟨who, text, stamp, A, n, c, l⟩ false ref keep))
  have r0 := HR.out.cell
  go_enter Tryz.func21, Tryz.ntmps21
  go_wp2
  obtain ⟨W, hW⟩ : ∃ W, W = (w.alloc (.cells (opCs what ⟨who, text, stamp, A, n, c, l⟩ false ref keep) 69)).alloc (.cells #[S who, S text, I stamp, .slice A n c] 25) := ⟨_, rfl⟩
  have qW : Below w.heap.size w W := hW ▸ balloc (balloc (Below.refl _ w) _) _
  have HTW : Hid (Blk W (w.heap.size + 1) 25 #[S who, S text, I stamp, .slice A n c]) := Lib.hid (hW ▸ txn_box w _ _)
  have HB := Lib.hid (hB.step qW)
  have HX : Hid (SlF (fun k => B ≤ k ∧ k < N) W 5 A n (chs l)) := Lib.hid ((hO.chg.step qW).weak (fun _ h => h.1))
  have HMW := Lib.hid (hM.step qW)
  have HF : Hid (Fr (fun k => B ≤ k) w W) := Lib.hid (Fr.of_below qW)
  have hs' := hs
  rw [← hW]
  clear hW qW hB hO hM r0
  have CM := Lib.hid (fun W' (h : Below W.heap.size W W') => mine_any W' ⟨who, text, stamp, A, n, c, l⟩ (HX.out.1.below h) hn)
  have tW := HTW.out.cell
  go_region_law (first
    | (go_simp; go_at_call 10; refine (CM.out _ (Below.refl _ W).drew).mono ?_; rintro e w3 ⟨A3, c3, rfl, hO3⟩; have q3 : Hid (Below W.heap.size W w3) := Lib.hid (below_undrew hO3.2); have t3 := (HTW.out.step q3.out).cell; clear tW)
    | (go_simp; go_at_call 9; refine (both_apply B N p q z y ⟨who, text, stamp, A3, n, c3, l⟩ _ w3 (HB.out.step q3.out) hz hO3.slT hn hs' (HMW.out.step q3.out) hl).mono ?_; rintro e w4 ⟨⟨i4, rfl⟩, hB4, hF4⟩; have t4 := (hF4.blk (HTW.out.step q3.out) (by omega)).cell; have HX4 := Lib.hid ((HX.out.step q3.out).fr hF4); clear t3)
    | (go_simp; go_at_call 51; refine (both_rapply B w4.heap.size p q (z + 1) y ⟨who, text, stamp, A, n, c, l⟩ w4 hB4 hy (HX4.out.weak (fun k hk => by subst hk; exact hq)) hn).mono ?_; rintro e w5 ⟨⟨i5, rfl⟩, hB5, hF5⟩))
  all_goals go_wp2
  all_goals
    go_ret
    exact ⟨AnyB.mk _, hB5, (HF.out.trans ((Fr.of_below q3.out).trans (hF4.weak (fun _ h => h.1)))).trans (hF5.weak (fun _ h => h ▸ hq.1))⟩
set_option maxHeartbeats 4000000 in
set_option maxRecDepth 100000 in
theorem step_put1 (B N p q z y : Nat) (w : World) (what : Int) (t : TxG) (ref : List UInt8) (keep : Int) (hB : BothAt B N w p q z y) (hz : z ≤ 1000) (hy : y ≤ 1000) (hO : OpOk B w t ref keep) (hM : MaxL w) (hl : 0 < B)
    (h4 : (bits BinOp.and IntKind.i64 what 7 == 4) = false) (h7 : (bits BinOp.and IntKind.i64 what 7 == 7) = false) (h5 : (bits BinOp.and IntKind.i64 what 7 == 5) = false) (h6 : (bits BinOp.and IntKind.i64 what 7 == 6) = false) :
    Calls Tryz.prog 21 #[.pointer (some ⟨p, 0, none⟩), .pointer (some ⟨q, 0, none⟩), opV what t true ref keep] w (Stepped B w p q z y) := by
  obtain ⟨who, text, stamp, A, n, c, l⟩ := t
  obtain ⟨bk, H, G, hI⟩ := hB
  have hq := hI.hG q hI.r.own
  have htop := hI.top
  have hn := hO.n
  have hs := hO.refs
  have C2 := Lib.hid (fun W (h : Below w.heap.size w W) => fitted_any W q G (y * 4096) y ⟨who, text, stamp, A, n, c, l⟩ (hI.r.step h) (by omega) (hO.chg.1.below h) hn)
  have HR := Lib.hid (Blk.new w 69 (opCs what ⟨who, text, stamp, A, n, c, l⟩ true ref keep))
  have r0 := HR.out.cell
  have HT := Lib.hid (txn_box w (.cells (opCs what ⟨who, text, stamp, A, n, c, l⟩ true ref keep) 69) #[S who, S text, I stamp, .slice A n c])
  have HR1 := Lib.hid (HR.out.alloc (.cells #[S who, S text, I stamp, .slice A n c] 25))
  have r1 := HR1.out.cell
  have t1 := HT.out.cell
  go_enter Tryz.func21, Tryz.ntmps21
  go_wp2_with (go_at_call 7; refine (C2.out _ (balloc (balloc (Below.refl _ w) _) _)).mono ?_; rintro e w2 ⟨A2, c2, l2, rfl, hO2, hl2⟩; have HT2 := Lib.hid (HT.out.step hO2.2); have t2 := HT2.out.cell; have f2 := HT2.out.frozen)
  obtain ⟨W, hW⟩ : ∃ W, W = (((w2.setCell ⟨w.heap.size + 1, 0, none⟩ (S who)).setCell ⟨w.heap.size + 1, 1, none⟩ (S text)).setCell ⟨w.heap.size + 1, 2, none⟩ (I stamp)).setCell ⟨w.heap.size + 1, 3, none⟩ (.slice A2 n c2) := ⟨_, rfl⟩
  have b2 : Below w.heap.size w w2 := bstep (balloc (balloc (Below.refl _ w) _) _) hO2.2
  have qW : Below w.heap.size w W := hW ▸ (((b2.setCell (p := ⟨w.heap.size + 1, 0, none⟩) (Nat.le_succ _) _).setCell (p := ⟨w.heap.size + 1, 1, none⟩) (Nat.le_succ _) _).setCell (p := ⟨w.heap.size + 1, 2, none⟩) (Nat.le_succ _) _).setCell (p := ⟨w.heap.size + 1, 3, none⟩) (Nat.le_succ _) _
  have HTW : Hid (Blk W (w.heap.size + 1) 25 #[S who, S text, I stamp, .slice A2 n c2]) := Lib.hid (hW ▸ (((HT2.out.set_ 0 (S who)).set_ 1 (S text)).set_ 2 (I stamp)).set_ 3 (.slice A2 n c2))
  have hF2 : Fr (fun k => k = w.heap.size + 1) w2 W := hW ▸ ((((Fr.refl (fun k => k = w.heap.size + 1) w2).setCell (p := ⟨w.heap.size + 1, 0, none⟩) rfl _).setCell (p := ⟨w.heap.size + 1, 1, none⟩) rfl _).setCell (p := ⟨w.heap.size + 1, 2, none⟩) rfl _).setCell (p := ⟨w.heap.size + 1, 3, none⟩) rfl _
  have hX2 := hO2.slT.keep (KeepT.of_fr hF2 (fun k cs fr e => by subst e; exact HT2.out.type (by decide) cs fr))
  have HB : Hid (BothAt B N W p q z y) := Lib.hid (BothAt.step ⟨bk, H, G, hI⟩ qW)
  have HX : Hid (SlF (fun k => B ≤ k ∧ k < N) W 5 A2 n (chs l2)) := Lib.hid ⟨hX2.1, fun b off h0 e hb => by
    obtain ⟨b', off', cs, fr, e', hH, _⟩ := hX2.2 h0
    rw [e] at e'
    cases e'
    simp at hH
    omega⟩
  have HMW := Lib.hid (hM.step qW)
  have HF : Hid (Fr (fun k => B ≤ k) w W) := Lib.hid (Fr.of_below qW)
  have hs' : ∀ x ∈ l2, x.ref.length ≤ maxLen := by
    intro x hx
    have h1 : x.ref ∈ l2.map (·.ref) := List.mem_map.2 ⟨x, hx, rfl⟩
    rw [hl2] at h1
    obtain ⟨x', h2, h3⟩ := List.mem_map.1 h1
    rw [← h3]
    exact hs x' h2
  rw [← hW]
  clear hW qW hM r0 r1 t1 t2 f2 HT2 b2 hF2 hX2 hO2 C2
  have CM := Lib.hid (fun W' (h : Below W.heap.size W W') => mine_any W' ⟨who, text, stamp, A2, n, c2, l2⟩ (HX.out.1.below h) hn)
  have tW := HTW.out.cell
  go_region_law (first
    | (go_simp; go_at_call 10; refine (CM.out _ (Below.refl _ W).drew).mono ?_; rintro e w3 ⟨A3, c3, rfl, hO3⟩; have q3 : Hid (Below W.heap.size W w3) := Lib.hid (below_undrew hO3.2); have t3 := (HTW.out.step q3.out).cell; clear tW)
    | (go_simp; go_at_call 9; refine (both_apply B N p q z y ⟨who, text, stamp, A3, n, c3, l2⟩ _ w3 (HB.out.step q3.out) hz hO3.slT hn hs' (HMW.out.step q3.out) hl).mono ?_; rintro e w4 ⟨⟨i4, rfl⟩, hB4, hF4⟩; have t4 := (hF4.blk (HTW.out.step q3.out) (by omega)).cell; have HX4 := Lib.hid ((HX.out.step q3.out).fr hF4); clear t3)
    | (go_simp; go_at_call 51; refine (both_rapply B w4.heap.size p q (z + 1) y ⟨who, text, stamp, A2, n, c2, l2⟩ w4 hB4 hy (HX4.out.weak (fun k hk => by subst hk; exact hq)) hn).mono ?_; rintro e w5 ⟨⟨i5, rfl⟩, hB5, hF5⟩))
  all_goals go_wp2
  all_goals
    go_ret
    exact ⟨AnyB.mk _, hB5, (HF.out.trans ((Fr.of_below q3.out).trans (hF4.weak (fun _ h => h.1)))).trans (hF5.weak (fun _ h => h ▸ hq.1))⟩
end Go.Proofs.YtegehaokfcamfaaGreatDoor
