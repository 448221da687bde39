/-
  dolmenref11: copied. Condition: the changes read as a list of at most 4096.
-/
import Derived.Test.YtegehaokfcamfaaGreatDoorRrBook
namespace Go.Proofs.YtegehaokfcamfaaGreatDoor
open Go.RowKit
open RefsLaw (Val Chg)

set_option maxHeartbeats 2000000 in
set_option maxRecDepth 100000 in
theorem rcopied_any (x : TxG) (w : World) (hA : Sl w 5 x.A x.n (chs x.chs)) (hn : x.n ≤ 4096) :
    Calls Tryz.prog 67 #[txV x.who x.text x.stamp x.A x.n x.c] w fun e w' => ∃ A' c', e = .returned (txV x.who x.text x.stamp A' x.n c') ∧ SlT (fun k => w.heap.size ≤ k ∧ k < w'.heap.size) 48 w' 5 A' x.n (chs x.chs) ∧ Below w.heap.size w w' := by
  obtain ⟨who, text, stamp, A, n, c, l⟩ := x
  obtain ⟨i0, hi0, hz0, hz1, hz2⟩ := info_parts Tryz.infoRChg
  have HA := Lib.hid hA
  have hn : n ≤ 4096 := hn
  have q1 : 0 + n ≤ maxLen := by simp only [maxLen]; omega
  have q2 : (0 + n) * 80 ≤ 140737488355328 := by omega
  have b1 := balloc (Below.refl _ w) (.cells #[S who, S text, I stamp, .slice A n c] 25)
  have b2 := balloc b1 (.cells #[S [], S [], I 0, .slice none 0 0] 25)
  have b3 := balloc b2 (.cells #[] 48)
  have hs := HA.out.below b3
  have ho : Ow w (((w.alloc (.cells #[S who, S text, I stamp, .slice A n c] 25)).alloc (.cells #[S [], S [], I 0, .slice none 0 0] 25)).alloc (.cells #[] 48)) 48 5 (some ⟨w.heap.size + 1 + 1, 0, none⟩) 0 0 [] := by
    refine ⟨?_, b3⟩
    have := World.ownsRow_made (((w.alloc (.cells #[S who, S text, I stamp, .slice A n c] 25)).alloc (.cells #[S [], S [], I 0, .slice none 0 0] 25))) (e := 48) (size := 5) (base := w.heap.size) #[] 0 (by simp; omega) (Nat.zero_le _) rfl
    simpa using this
  clear hA b1 b2 b3
  go_enter Tryz.func67, Tryz.ntmps67
  go_wp2_with (at_builtin; refine wpList_append_sl _ rfl (.tmp 3) (.tmp 5) _ rfl w 48 i0 _ 5 80 Tryz.uRChg hi0 hz0 hz1 hz2 rfl (by decide) _ _ _ _ rfl ho A n c (chs l) rfl hs (one_chs l) q1 q2 ?_; intro A' c' w1 hO hg1 hat1; have r0 := (((Blk.new w 25 #[S who, S text, I stamp, .slice A n c]).alloc (.cells #[S [], S [], I 0, .slice none 0 0] 25)).alloc (.cells #[] 48)).grown hg1 (by simp [Value.ownBlock]; omega); have r1 := ((Blk.new (w.alloc (.cells #[S who, S text, I stamp, .slice A n c] 25)) 25 #[S [], S [], I 0, .slice none 0 0]).alloc (.cells #[] 48)).grown hg1 (by simp [Value.ownBlock]); rw [World.size_alloc] at r1; have c0 := r0.cell; have f0 := r0.frozen; have c1 := r1.cell; have f1 := r1.frozen)
  rw [Nat.zero_add, List.nil_append] at hO
  refine bodyPost_ret (v := txV who text stamp A' n c') ?_ rfl ⟨A', ⟨c', rfl⟩, ?_, ?_⟩
  · simp [results, Tryz.results67, go_sem, c1]
  · have hf : Fr (fun k => k = w.heap.size ∨ k = w.heap.size + 1) w1 _ := (((((Fr.refl _ w1).setCell (p := ⟨w.heap.size, 3, none⟩) (.inl rfl) (.slice A' n c')).setCell (p := ⟨w.heap.size + 1, 0, none⟩) (.inr rfl) (S who)).setCell (p := ⟨w.heap.size + 1, 1, none⟩) (.inr rfl) (S text)).setCell (p := ⟨w.heap.size + 1, 2, none⟩) (.inr rfl) (I stamp)).setCell (p := ⟨w.heap.size + 1, 3, none⟩) (.inr rfl) (.slice A' n c')
    refine (hO.slT.weak ?_).keep (KeepT.of_fr hf ?_)
    · intro k hk h
      exact ⟨h.1, by simp ; exact h.2⟩
    · rintro k cs fr (rfl | rfl)
      · exact r0.type (by decide) cs fr
      · exact r1.type (by decide) cs fr
  · exact ((((hO.2.setCell (Nat.le_refl _) _).setCell (Nat.le_succ _) _).setCell (Nat.le_succ _) _).setCell (Nat.le_succ _) _).setCell (Nat.le_succ _) _
end Go.Proofs.YtegehaokfcamfaaGreatDoor
