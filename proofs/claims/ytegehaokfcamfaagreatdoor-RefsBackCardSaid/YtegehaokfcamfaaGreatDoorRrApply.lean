/-
  dolmenref11.Book.Apply: it answers, and turns its book alone. Condition: the book lies in its home, the changes read as a list.
-/
import Derived.Test.YtegehaokfcamfaaGreatDoorRrTheirs
namespace Go.Proofs.YtegehaokfcamfaaGreatDoor
open Go.RowKit
open RefsLaw (Val Chg)

set_option maxHeartbeats 4000000 in
set_option maxRecDepth 100000 in
theorem rapply_any (w : World) (q : Nat) (G : Nat → Prop) (z y : Nat) (x : TxG) (hB : RBookAt w q G z y) (hz : z + 4096 ≤ 10000000) (hy : y ≤ 1000000) (hA : SlF (fun g => g = q) w 5 x.A x.n (chs x.chs)) (hn : x.n ≤ 1759218604390) :
    Calls Tryz.prog 51 #[.pointer (some ⟨q, 0, none⟩), txV x.who x.text x.stamp x.A x.n x.c] w fun e w' => AnyI e ∧ RBookAt w' q (ext G w w') (z + 4096) (y + 1) ∧ Fr (fun k => k = q) w w' := by
  obtain ⟨who, text, stamp, A, n, c, l⟩ := x
  have b0 := balloc (Below.refl _ w) (.cells #[S who, S text, I stamp, .slice A n c] 25)
  have C := Lib.hid (rright_any who text stamp A n c l _ (hA.1.below b0) hn)
  have HB := Lib.hid hB
  have HT := Lib.hid hA
  have kN := neq_rval
  have kG := guard_rval
  clear hB hA b0
  have hback : ∀ w', Below w.heap.size w w' → RBookAt w' q (ext G w w') (z + 4096) (y + 1) ∧ Fr (fun k => k = q) w w' := fun w' h => ⟨(HB.out.step h).weak (fun _ _ h => .inl h) (by omega) (by omega), Fr.of_below h⟩
  go_enter Tryz.func51, Tryz.ntmps51
  go_wp2_with (go_at_call 68; refine C.out.mono ?_; rintro e w1 ⟨⟨bb, rfl, hb4⟩, b1⟩; have q1 := Lib.hid (bstep (balloc (Below.refl _ w) _) b1); have R1 := Lib.hid ((Blk.new w 25 #[S who, S text, I stamp, .slice A n c]).step b1); have r1 := R1.out.cell; clear b1)
  · go_ret
    exact ⟨AnyI.mk 1, hback _ q1.out⟩
  cases bb
  · exact absurd ‹(!false) = false› (by decide)
  simp only [Bool.not_true]
  have hn4 : n ≤ 4096 := hb4 rfl
  clear hb4
  go_loopw [5] (fun i wr => ∃ k : Nat, i = .int .i64 k ∧ Hid (k ≤ n) ∧ Hid (Below w1.heap.size w1 wr)) (fun i _ => n - (intOf i).toNat)
  case atStart => exact ⟨0, rfl, Lib.hid (Nat.zero_le _), Lib.hid (Below.refl _ _)⟩
  case round =>
    obtain ⟨k, rfl, hk, hb⟩ := hrel
    have qr := Lib.hid (bstep q1.out hb.out)
    have RR := Lib.hid (R1.out.step hb.out)
    have r2 := RR.out.cell
    clear r1
    by_cases hlt : k < n
    · obtain ⟨b, off, u, rfl, hbz, hx, x0, x1, x2, x3, x4⟩ := (HT.out.step qr.out).1.chg hlt
      have C2 := Lib.hid (rvalue_any wr.drew q G z y u.ref (HB.out.step qr.out.drew) (by omega))
      clear hx x3 x4
      go_wp2
      go_region_law (go_simp; go_at_call_of 22 (Value.pointer (some ⟨q, 0, none⟩)); refine C2.out.mono ?_; rintro e w2 ⟨⟨id, name⟩, rfl, b2⟩; have rc2 := (RR.out.drew.step b2).cell; have y1 := (b2.cell (p := ⟨b, off + k * 5 + 1, none⟩) hbz).trans x1; have y2 := (b2.cell (p := ⟨b, off + k * 5 + 2, none⟩) hbz).trans x2)
      all_goals go_wp2
      all_goals first
        | (go_ret
           exact ⟨AnyI.mk 8, hback _ (bstep qr.out.drew b2)⟩)
        | (go_roundw
           case rel => exact ⟨k + 1, by go_num, Lib.hid hlt, Lib.hid (bstep hb.out.drew b2)⟩
           case measure => simp [intOf]; omega)
    · obtain rfl : k = n := by have := hk.out; omega
      obtain ⟨wo, hwo⟩ : ∃ wo, wo = wr := ⟨_, rfl⟩
      subst hwo
      have HBo := Lib.hid (HB.out.step qr.out)
      have HTo := Lib.hid (HT.out.step qr.out)
      have hqo : ∃ cs, Blk wo q 66 cs := by
        obtain ⟨A', n', c', rs', B', m', d', xs', h⟩ := HBo.out
        exact ⟨_, h.blk⟩
      have hne : w.heap.size ≠ q := by
        rintro rfl
        obtain ⟨cs, h⟩ := hqo
        exact RR.out.type (by decide) cs (0, 0) h
      clear hb hqo
      go_wp2
      go_loopw [6] (fun i wr => ∃ j : Nat, i = .int .i64 j ∧ Hid (j ≤ k) ∧ Hid (RBookAt wr q (ext G wo wr) (z + j) y) ∧ Hid (Fr (fun g => g = q) wo wr)) (fun i _ => k - (intOf i).toNat)
      case atStart => exact ⟨0, rfl, Lib.hid (Nat.zero_le _), Lib.hid (HBo.out.weak (fun _ _ h => .inl h) (Nat.le_refl _) (Nat.le_refl _)), Lib.hid (Fr.refl _ _)⟩
      case round =>
        obtain ⟨j, rfl, hj, hBj, hfj⟩ := hrel
        have hRj := Lib.hid (hfj.out.blk RR.out hne)
        have hTj := HTo.out.fr hfj.out
        have r3 := hRj.out.cell
        clear r2
        by_cases hjk : j < k
        · obtain ⟨b, off, u, rfl, hbz, hx, x0, x1, x2, x3, x4⟩ := hTj.1.chg hjk
          have C3 := Lib.hid (rset_any wr.drew q (ext G wo wr) (z + j) y u.ref u.new (hBj.out.step (Below.refl _ wr).drew) (by omega))
          clear hx x1 x2 hTj
          go_wp2
          go_region_law (go_simp; go_at_call 69; refine C3.out.mono ?_; rintro e w2 ⟨rfl, hB2, hF2⟩)
          all_goals go_wp2
          all_goals
            go_roundw
            case rel => exact ⟨j + 1, by go_num, Lib.hid hjk, Lib.hid (hB2.weak (fun g hg h => by
              rcases h with (h | h) | h
              · exact .inl h
              · exact .inr ⟨h.1, hg⟩
              · exact .inr ⟨Nat.le_trans hfj.out.size h.1, hg⟩) (Nat.le_refl _) (Nat.le_refl _)), Lib.hid (hfj.out.drew.trans hF2)⟩
            case measure => simp [intOf]; omega
        · obtain rfl : j = k := by have := hj.out; omega
          obtain ⟨A1, n1, c1, rs1, B1, m1, d1, xs1, hI⟩ := hBj.out
          have HI := Lib.hid hI
          have rb := hI.blk.cell
          have hm1 : m1 ≤ 1000000 := Nat.le_trans hI.cap.2.1 hy
          obtain ⟨i0, hi0, hz0, hz1, hz2⟩ := info_parts Tryz.infoRTxn
          have q0 : 0 + m1 ≤ 1000000 := by omega
          have q1 : 0 + m1 ≤ maxLen := Nat.le_trans q0 (by decide)
          have q2 : (0 + m1) * 64 ≤ 140737488355328 := Nat.le_trans (Nat.mul_le_mul_right _ q0) (by decide)
          have HTj := Lib.hid hTj
          have C5 : Hid (∀ W, Below wr.heap.size wr W → Calls Tryz.prog 67 #[txV who text stamp A j c] W fun e w' => ∃ A' c', e = .returned (txV who text stamp A' j c') ∧ SlT (fun k => W.heap.size ≤ k ∧ k < w'.heap.size) 48 w' 5 A' j (chs l) ∧ Below W.heap.size W w') := Lib.hid (fun W h => rcopied_any ⟨who, text, stamp, A, j, c, l⟩ W (HTj.out.1.below h) hn4)
          have rbE := (HI.out.step (balloc (Below.refl _ wr) (.cells #[] 25))).blk.cell
          have rrE := (hRj.out.step (balloc (Below.refl _ wr) (.cells #[] 25))).cell
          clear hI hTj q0
          go_wp2
          have q3 : m1 + 1 ≤ maxLen := Nat.le_trans (show m1 + 1 ≤ 1000001 by omega) (by decide)
          have q4 : (m1 + 1) * 64 ≤ 140737488355328 := Nat.le_trans (Nat.mul_le_mul_right _ (show m1 + 1 ≤ 1000001 by omega)) (by decide)
          have hoE : (wr.alloc (.cells #[] 25)).drew.ownsRow wr.heap.size 25 4 (.slice (some ⟨wr.heap.size, 0, none⟩) 0 0) 0 [] := World.ownsRow_made wr #[] 0 (Nat.le_refl _) (Nat.zero_le _) rfl
          have hsE : Sl (wr.alloc (.cells #[] 25)).drew 4 B1 m1 (txs xs1) := HI.out.txns.sl.alloc (.cells #[] 25)
          have hzE : wr.heap.size ≤ (wr.alloc (.cells #[] 25)).drew.heap.size := by simp
          go_region_law (first
            | (go_simp; go_at_call 67; refine (C5.out _ B7.out).mono ?_; rintro e w5 ⟨A5, c5, rfl, hS5, b5⟩; have B5 : Hid (Below wr.heap.size wr w5) := Lib.hid (bstep B7.out b5); have rb5 := (HI.out.step B5.out).blk.cell; have hrow6 := own_step (own_step hO7 b5) (balloc (Below.refl _ w5) (.cells #[S who, S text, I stamp, .slice A5 j c5] 25)); have hSx := sl_tx w5 25 ⟨who, text, stamp, A5, j, c5, l⟩; have hS6 := Lib.hid (hS5.step (balloc (Below.refl _ w5) (.cells #[S who, S text, I stamp, .slice A5 j c5] 25))); have B6 : Hid (Below wr.heap.size wr (w5.alloc (.cells #[S who, S text, I stamp, .slice A5 j c5] 25))) := Lib.hid (balloc B5.out _); have z6 := B6.out.size)
            | (refine step_append_at _ (by rfl) (.tmp 54) (.tmp 58) _ (by rfl) wr.heap.size 25 i0 _ 4 64 Tryz.uRTxn hi0 hz0 hz1 hz2 rfl (by decide) _ 0 0 [] (by rfl) hoE hzE B1 m1 d1 (txs xs1) (by rfl) hsE (one_txs _) q1 q2 ?_; intro A7 c7 w7 hO7 hg7 hr7; rw [Nat.zero_add, List.nil_append] at hO7; have B7 : Hid (Below wr.heap.size wr w7) := Lib.hid ((balloc (Below.refl _ wr) (.cells #[] 25)).drew.grown hg7 hzE (fun k hk => by simp [Value.ownBlock] at hk; omega)); have rb7 := (HI.out.step B7.out).blk.cell; have rr7 := (hRj.out.step B7.out).cell)
            | (refine step_append_at _ (by rfl) (.tmp 59) (.tmp 62) _ (by rfl) wr.heap.size 25 i0 _ 4 64 Tryz.uRTxn hi0 hz0 hz1 hz2 rfl (by decide) A7 m1 c7 _ (by rfl) hrow6 z6 _ 1 1 (txs [⟨who, text, stamp, A5, j, c5, l⟩]) (by rfl) hSx (one_txs _) q3 q4 ?_; intro A9 c9 w9 hO9 hg9 hr9; have B9 : Hid (Below wr.heap.size wr w9) := Lib.hid (B6.out.grown hg9 z6 (fun k hk => (hrow6.lt k hk).1)); have hB9 := (HI.out.step B9.out).blk; have rb9 := hB9.cell; have fb9 := hB9.frozen))
          all_goals go_wp2
          all_goals
            go_ret
            have hI9 := HI.out.step B9.out
            have hs : (w9.setCell ⟨q, 1, none⟩ (.slice A9 (m1 + 1) c9)).heap.size = w9.heap.size := setCell_size _ _ _
            have kk : ∀ e, 66 ≠ e → KeepT e w9 (w9.setCell ⟨q, 1, none⟩ (.slice A9 (m1 + 1) c9)) := fun e he => (KeepT.refl e w9).setCell hI9.blk he rfl _
            have s1 := qr.out.size
            have s2 := hfj.out.size
            have s3 := B9.out.size
            have hw : ∀ g, g < w9.heap.size → ext G wo wr g → ext G w (w9.setCell ⟨q, 1, none⟩ (.slice A9 (m1 + 1) c9)) g := fun g hg h => by
              rcases h with h | h
              · exact .inl h
              · exact .inr ⟨by omega, by omega⟩
            have hO9' : Ow wr w9 25 4 A9 (m1 + 1) c9 (txs (xs1 ++ [⟨who, text, stamp, A5, j, c5, l⟩])) := ⟨by rw [txs_append]; simpa using hO9, B9.out⟩
            have kn : KeepT 48 (w5.alloc (.cells #[S who, S text, I stamp, .slice A5 j c5] 25)) w9 := (KeepT.refl _ _).grown hg9 (own_type hrow6 (by decide))
            refine ⟨AnyI.mk 0, ⟨A1, n1, c1, rs1, A9, m1 + 1, c9, xs1 ++ [⟨who, text, stamp, A5, j, c5, l⟩], hI9.blk.set_ 1 _, (hI9.refs.weak hw).keep (kk _ (by decide)), (hO9'.slT.weak (fun g _ h => .inr ⟨by omega, by omega⟩)).keep (kk _ (by decide)), fun y hy => ?_, hw q hI9.blk.lt hI9.hq, ?_⟩, ?_⟩
            · rcases List.mem_append.1 hy with hy | hy
              · exact ⟨((hI9.chg y hy).1.weak hw).keep (kk _ (by decide)), (hI9.chg y hy).2⟩
              · rw [List.mem_singleton] at hy
                subst hy
                have s7 := B7.out.size
                exact ⟨((hS6.out.keep kn).weak (fun g hg h => .inr ⟨by have := h.1; omega, by omega⟩)).keep (kk _ (by decide)), hn4⟩
            · have := HI.out.cap
              exact ⟨by omega, by omega, own_cap hO9⟩
            · exact Fr.setCell (E := fun k => k = q) (((Fr.of_below qr.out).trans hfj.out).trans (Fr.of_below B9.out)) (p := ⟨q, 1, none⟩) rfl _
end Go.Proofs.YtegehaokfcamfaaGreatDoor
