/-
  refs: slices.Clone of changes and of transactions, Txn.copied. Conditions: as many as a length may be.
-/
import Derived.Test.YtegehaokfcamfaaGreatDoorRefsBook
import Derived.Lib.SliceRun
namespace Go.Proofs.YtegehaokfcamfaaGreatDoor
open Go.RowKit
open RefsLaw (named okc Val Chg Txn there rightV zv rightT okChs goodC Refs Book Inv)

theorem Tryz.infoChg : (Tryz.prog.info? 58).map (fun i => (i.zero, i.size, i.bytes)) = some (some (.agg #[S [], S [], S [], S [], S []]), 5, 80) := by kernel_rfl
theorem Tryz.infoTxn : (Tryz.prog.info? 37).map (fun i => (i.zero, i.size, i.bytes)) = some (some (.agg #[S [], S [], I 0, .slice none 0 0]), 4, 64) := by kernel_rfl

set_option maxHeartbeats 1000000 in
set_option maxRecDepth 100000 in
theorem cloneC_any (A : Option Addr) (n c : Nat) (l : List Chg) (w : World) (hA : Sl w 5 A n (chs l)) (hn : n * 80 ≤ 140737488355328) :
    Calls Tryz.prog 52 #[.slice A n c] w fun e w' => ∃ A' c', e = .returned (.slice A' n c') ∧ Ow w w' 58 5 A' n c' (chs l) := by
  obtain ⟨i0, hi0, hz0, hz1, hz2⟩ := info_parts Tryz.infoChg
  have hm : n ≤ maxLen := by simp only [maxLen]; omega
  have hnil := fun (W : World) (a : Option Addr) => Lib.run_eql_slice_nil (P := Tryz.prog) W 35 58 a n c 0 0 Tryz.underlying35
  rcases A with _ | a
  · have hn0 : n = 0 := by
      rcases Nat.eq_zero_or_pos n with h0 | h0
      · exact h0
      · obtain ⟨_, _, h, _⟩ := hA.2 (by omega)
        cases h
    subst hn0
    go_enter Tryz.func52, Tryz.ntmps52
    go_wp2
    go_ret
    obtain rfl : l = [] := List.eq_nil_of_length_eq_zero (chs_count hA)
    exact ⟨none, 0, rfl, Ow.nil_ (Below.refl _ _)⟩
  · have ho : Ow w (w.alloc (.cells #[] 58)) 58 5 (some ⟨w.heap.size, 0, none⟩) 0 0 [] := ⟨World.ownsRow_made _ #[] 0 (Nat.le_refl _) (Nat.zero_le _) rfl, (Below.refl _ _).alloc (Nat.le_refl _) _⟩
    have hs := hA.alloc (.cells #[] 58)
    have hm' : 0 + n ≤ maxLen := by omega
    have hn' : (0 + n) * 80 ≤ 140737488355328 := by omega
    go_enter Tryz.func52, Tryz.ntmps52
    go_wp2_with (at_builtin; refine wpList_append_sl _ rfl (.tmp 5) (.tmp 6) _ rfl w 58 i0 _ 5 80 Tryz.underlying35 hi0 hz0 hz1 hz2 rfl (by decide) _ _ _ _ rfl ho (some a) n c (chs l) rfl hs (one_chs l) hm' hn' ?_; intro A' c' w1 hown1 hg1 hat1)
    go_ret
    rw [Nat.zero_add] at hown1
    exact ⟨A', c', by simp, by simpa using hown1⟩
set_option maxHeartbeats 1000000 in
set_option maxRecDepth 100000 in
theorem cloneT_any (A : Option Addr) (n c : Nat) (l : List TxG) (w : World) (hA : Sl w 4 A n (txs l)) (hn : n * 64 ≤ 140737488355328) :
    Calls Tryz.prog 40 #[.slice A n c] w fun e w' => ∃ A' c', e = .returned (.slice A' n c') ∧ Ow w w' 37 4 A' n c' (txs l) := by
  obtain ⟨i0, hi0, hz0, hz1, hz2⟩ := info_parts Tryz.infoTxn
  have hm : n ≤ maxLen := by simp only [maxLen]; omega
  have hnil := fun (W : World) (a : Option Addr) => Lib.run_eql_slice_nil (P := Tryz.prog) W 61 37 a n c 0 0 Tryz.underlying61
  rcases A with _ | a
  · have hn0 : n = 0 := by
      rcases Nat.eq_zero_or_pos n with h0 | h0
      · exact h0
      · obtain ⟨_, _, h, _⟩ := hA.2 (by omega)
        cases h
    subst hn0
    go_enter Tryz.func40, Tryz.ntmps40
    go_wp2
    go_ret
    obtain rfl : l = [] := List.eq_nil_of_length_eq_zero (txs_count hA)
    exact ⟨none, 0, rfl, Ow.nil_ (Below.refl _ _)⟩
  · have ho : Ow w (w.alloc (.cells #[] 37)) 37 4 (some ⟨w.heap.size, 0, none⟩) 0 0 [] := ⟨World.ownsRow_made _ #[] 0 (Nat.le_refl _) (Nat.zero_le _) rfl, (Below.refl _ _).alloc (Nat.le_refl _) _⟩
    have hs := hA.alloc (.cells #[] 37)
    have hm' : 0 + n ≤ maxLen := by omega
    have hn' : (0 + n) * 64 ≤ 140737488355328 := by omega
    go_enter Tryz.func40, Tryz.ntmps40
    go_wp2_with (at_builtin; refine wpList_append_sl _ rfl (.tmp 5) (.tmp 6) _ rfl w 37 i0 _ 4 64 Tryz.underlying61 hi0 hz0 hz1 hz2 rfl (by decide) _ _ _ _ rfl ho (some a) n c (txs l) rfl hs (one_txs l) hm' hn' ?_; intro A' c' w1 hown1 hg1 hat1)
    go_ret
    rw [Nat.zero_add] at hown1
    exact ⟨A', c', by simp, by simpa using hown1⟩

set_option maxHeartbeats 1000000 in
set_option maxRecDepth 100000 in
theorem copied_any (x : TxG) (w : World) (hA : Sl w 5 x.A x.n (chs x.chs)) (hn : x.n * 80 ≤ 140737488355328) :
    Calls Tryz.prog 24 #[txV x.who x.text x.stamp x.A x.n x.c] w fun e w' => ∃ A' c', e = .returned (txV x.who x.text x.stamp A' x.n c') ∧ SlT (fun k => w.heap.size ≤ k ∧ k < w'.heap.size) 58 w' 5 A' x.n (chs x.chs) ∧ Below w.heap.size w w' := by
  obtain ⟨who, text, stamp, A, n, c, l⟩ := x
  have C := Lib.hid (fun W h => cloneC_any A n c l W h hn)
  have HA := Lib.hid hA
  clear hA
  go_enter Tryz.func24, Tryz.ntmps24
  go_wp2_with (go_at_call 52; refine (C.out _ ((HA.out.alloc (.cells #[S who, S text, I stamp, .slice A n c] 37)).alloc (.cells #[S [], S [], I 0, .slice none 0 0] 37))).mono ?_; rintro e w1 ⟨A', c', rfl, hO⟩; have b1 := hO.2; have r0 := (((Blk.new w 37 #[S who, S text, I stamp, .slice A n c]).alloc (.cells #[S [], S [], I 0, .slice none 0 0] 37)).step b1); have r1 := ((Blk.new (w.alloc (.cells #[S who, S text, I stamp, .slice A n c] 37)) 37 #[S [], S [], I 0, .slice none 0 0]).step b1); rw [World.size_alloc] at r1; have c0 := r0.cell; have f0 := r0.frozen; have c1 := r1.cell; have f1 := r1.frozen)
  refine bodyPost_ret (v := txV who text stamp A' n c') ?_ rfl ⟨A', c', rfl, ?_, ?_⟩
  · simp [results, Tryz.results24, go_sem, c1]
  · have hf : Fr (fun k => k = w.heap.size ∨ k = w.heap.size + 1) w1 _ := (((((Fr.refl _ w1).setCell (p := ⟨w.heap.size, 3, none⟩) (.inl rfl) (.slice A' n c')).setCell (p := ⟨w.heap.size + 1, 0, none⟩) (.inr rfl) (S who)).setCell (p := ⟨w.heap.size + 1, 1, none⟩) (.inr rfl) (S text)).setCell (p := ⟨w.heap.size + 1, 2, none⟩) (.inr rfl) (I stamp)).setCell (p := ⟨w.heap.size + 1, 3, none⟩) (.inr rfl) (.slice A' n c')
    refine (hO.slT.weak ?_).keep (KeepT.of_fr hf ?_)
    · intro k hk h
      simp at h
      exact ⟨by omega, by simp; omega⟩
    · rintro k cs fr (rfl | rfl)
      · exact r0.type (by decide) cs fr
      · exact r1.type (by decide) cs fr
  · have q : Below w.heap.size w w1 := bstep (balloc (balloc (Below.refl _ w) _) _) b1
    exact ((((q.setCell (Nat.le_refl _) _).setCell (Nat.le_succ _) _).setCell (Nat.le_succ _) _).setCell (Nat.le_succ _) _).setCell (Nat.le_succ _) _
end Go.Proofs.YtegehaokfcamfaaGreatDoor
