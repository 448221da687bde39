/-
  The references' Decode of a plan. Conditions: the bytes read as a list, within the form's reach.
-/
import Derived.Test.YtgcbolijdgecgaaPlanDec
import Derived.Test.YtgcbolijdgecgaaPlanDecLaw2
import Derived.Test.YtgcbolijdgecgaaPlanRef2
namespace Go.Proofs.Ytgcbolijdgecgaa
open Go.RowKit

set_option maxHeartbeats 400000 in
theorem refEncode_no (kind : Int) (A : Option Addr) (n c : Nat) (at_ : Int) (orig who : List UInt8) (stamp : Int) (ss : List (List UInt8)) (w : World) (hA : Sl w 1 A n (strs ss)) (h : ¬ PlanOk ⟨kind, ss, at_, orig, who, stamp⟩) :
    Calls Try.prog 11 #[plV kind A n c at_ orig who stamp] w fun e w' => e = .returned (.tuple #[.slice none 0 0, I 1]) ∧ Below w.heap.size w w' := by
  have HA := Lib.hid hA
  clear hA
  go_enter Try.func11, Try.ntmps11
  go_wp2_with fail
  refine (refCheck_no _ _ _ _ _ _ _ _ ss _ (HA.out.alloc _) h).mono ?_
  rintro e w1 ⟨rfl, b1⟩
  go_wp2
  go_ret2
  exact ⟨rfl, bstep (balloc (Below.refl _ w) _) b1⟩

theorem Ow.grown_far {w0 w w' : World} {e e2 : TypeId} {sz n c sz2 n2 c2 : Nat} {A A2 : Option Addr} {xs xs2 : List Value} (h : Ow w0 w e sz A n c xs) (h2 : Ow w0 w e2 sz2 A2 n2 c2 xs2) (hg : w.grownBy w' (Value.slice A2 n2 c2).ownBlock) (hne : e ≠ e2) : Ow w0 w' e sz A n c xs := by
  refine ⟨h.1.kept hg ?_, h.2.grown hg h.2.size (fun k hk => (h2.1.lt k hk).1)⟩
  rcases h.1.2 with ⟨hv, _⟩ | ⟨g, cap, cur, hv, _, hh, _⟩
  · rw [hv]; exact .inl rfl
  · right
    rw [hv]
    exact BlkT.ne_own (g := g) ⟨cur, _, hh⟩ h2 hne
theorem Ow.set_far {w0 w : World} {e t : TypeId} {sz n c : Nat} {A : Option Addr} {xs : List Value} {cs : Array Value} (h : Ow w0 w e sz A n c xs) {p : Addr} (hp : Blk w p.block t cs) (hne : e ≠ t) (hlo : w0.heap.size ≤ p.block) (u : Value) : Ow w0 (w.setCell p u) e sz A n c xs :=
  ⟨own_far h.1 (fun h' => own_ne h hp hne h'.symm) u, h.2.setCell hlo u⟩

abbrev zC : Array Value := #[I 0, .slice none 0 0, I 0, S [], S [], I 0]

theorem not_dec {b : List UInt8} (h : (gotOf b).bad = true) : ¬ DecOk b := fun h' => by rw [h'.1] at h; cases h

set_option maxHeartbeats 4000000 in
set_option maxRecDepth 100000 in
theorem refDecode_any (A : Option Addr) (n c : Nat) (b : List UInt8) (w : World) (hA : Sl w 1 A n (u8s b)) (hc : n ≤ c) (hn : n ≤ 140737488351232) :
    Calls Try.prog 13 #[.slice A n c] w (RetDec w b) := by
  have hl := Lib.hid (u8s_len hA)
  obtain ⟨i0, hi0, hz0, hz1, hz2⟩ := info_parts Try.infoStr
  have HA := Lib.hid hA
  clear hA
  go_enter Try.func13, Try.ntmps13
  go_wp2_with fail
  refine (refTakeNum_any A n c b _ ((HA.out.alloc _).alloc _) hc (by omega)).mono ?_
  rintro e w1 (⟨kind, l1, A1, m1, c1, t1, rfl, ho1⟩ | ⟨t1, rfl, hb1⟩)
  rotate_left
  · have hZ := ((Blk.new w 24 zC).alloc _).step hb1
    have hN0 := Blk.new (w.alloc (.cells zC 24)) 24 zC
    rw [World.size_alloc] at hN0
    have hN := hN0.step hb1
    have q1 := Lib.hid (bstep (balloc (balloc (Below.refl _ w) _) _) hb1)
    have hnot := Lib.hid (not_dec (got_bad1 t1))
    have rZ := hZ.cell
    have fZ := hZ.frozen
    have rN := hN.cell
    clear t1 hb1 hZ hN hN0
    go_wp2
    refine bodyPost_ret (v := .tuple #[zeroPl, I 2]) (by simp [results, Try.results13, go_sem, rZ]) rfl (.inr ⟨hnot.out, rfl, ?_⟩)
    repeat with_reducible refine Below.setCell ?_ (by simp) _
    exact q1.out
  have hN0 := Blk.new (w.alloc (.cells zC 24)) 24 zC
  rw [World.size_alloc] at hN0
  have HN1 := Lib.hid (hN0.step ho1.2)
  have HZ1 := Lib.hid (((Blk.new w 24 zC).alloc _).step ho1.2)
  have q1 := Lib.hid (bstep (balloc (balloc (Below.refl _ w) _) _) ho1.2)
  have T1 := Lib.hid t1
  have HO1 := Lib.hid ho1
  have hm1 : m1 ≤ n := by
    have h1 := ow_len ho1
    have h2 := takeNum_len t1
    have h3 := hl.out
    omega
  clear t1 ho1 hN0
  go_wp2_with fail
  refine (refTakeNum_any A1 m1 c1 l1 _ HO1.out.sl HO1.out.cap.1 (by omega)).mono ?_
  rintro e w2 (⟨v2, l2, A2, m2, c2, t2, rfl, ho2⟩ | ⟨t2, rfl, hb2⟩)
  rotate_left
  · have hZ := HZ1.out.step hb2
    have hN := HN1.out.step hb2
    have q2 := Lib.hid (bstep q1.out hb2)
    have hnot := Lib.hid (not_dec (got_bad2 T1.out t2))
    have rZ := hZ.cell
    have fZ := hZ.frozen
    have rN := hN.cell
    clear t2 hb2 hZ hN
    go_wp2
    refine bodyPost_ret (v := .tuple #[zeroPl, I 2]) (by simp [results, Try.results13, go_sem, rZ]) rfl (.inr ⟨hnot.out, rfl, ?_⟩)
    repeat with_reducible refine Below.setCell ?_ (by simp) _
    exact q2.out
  have HN2 := Lib.hid (HN1.out.step ho2.2)
  have HZ2 := Lib.hid (HZ1.out.step ho2.2)
  have q2 := Lib.hid (bstep q1.out ho2.2)
  have T2 := Lib.hid t2
  have HO2 := Lib.hid (ho2.since q1.out)
  have hm2 : m2 ≤ m1 := by
    have h1 := ow_len ho2
    have h2 := takeNum_len t2
    have h3 := ow_len HO1.out
    omega
  have hl2 := Lib.hid (ow_len ho2)
  clear t2 ho2 HN1 HZ1 q1 HO1
  by_cases hbig : m2 / 32 < v2
  · have d1 : decide ((m2 : Int) / 32 < (v2 : Int)) = true := by simp; omega
    have rZ := HZ2.out.cell
    have fZ := HZ2.out.frozen
    have rN := HN2.out.cell
    have hnot := Lib.hid (not_dec (got_bad3 T1.out T2.out (by rw [hl2.out]; omega)))
    go_wp2
    refine bodyPost_ret (v := .tuple #[zeroPl, I 2]) (by simp [results, Try.results13, go_sem, rZ]) rfl (.inr ⟨hnot.out, rfl, ?_⟩)
    repeat with_reducible refine Below.setCell ?_ (by simp) _
    exact q2.out
  have d1 : decide ((m2 : Int) / 32 < (v2 : Int)) = false := by simp; omega
  have h32 : 32 * v2 ≤ m2 := by omega
  have HP2 := Lib.hid (Blk.new w2 24 #[I kind, .slice none 0 0, I 0, S [], S [], I 0])
  clear hbig
  have HO2' := Lib.hid (HO2.out.alloc (.cells #[I kind, .slice none 0 0, I 0, S [], S [], I 0] 24))
  have HZ2' := Lib.hid (HZ2.out.alloc (.cells #[I kind, .slice none 0 0, I 0, S [], S [], I 0] 24))
  have HN2' := Lib.hid (HN2.out.alloc (.cells #[I kind, .slice none 0 0, I 0, S [], S [], I 0] 24))
  have q2' := Lib.hid (balloc q2.out (.cells #[I kind, .slice none 0 0, I 0, S [], S [], I 0] 24))
  have hcap2 := HO2.out.cap
  have hzw2 : w.heap.size + 1 < w2.heap.size := HN2.out.lt
  obtain ⟨hc2, hc2m⟩ := hcap2
  clear HO2 HZ2 HN2 q2
  go_wp2_with fail
  go_loopw [10] (fun i wr => ∃ (j m : Nat) (As : Option Addr) (cs : Nat), j ≤ v2 ∧ i = .int .i64 j ∧ Blk wr w2.heap.size 24 #[I kind, .slice As m cs, I 0, S [], S [], I 0] ∧ Blk wr w.heap.size 24 zC ∧ Blk wr (w.heap.size + 1) 24 zC ∧ Ow w wr 9 1 As m cs (strs (chunks l2 j)) ∧ Ow w wr 5 1 A2 m2 c2 (u8s l2)) (fun i _ => v2 - (intOf i).toNat)
  case atStart => exact ⟨0, 0, none, 0, Nat.zero_le _, rfl, HP2.out, HZ2'.out, HN2'.out, Ow.nil_ q2'.out, HO2'.out⟩
  case round =>
    obtain ⟨j, m, As, cs, hj, rfl, hP, hZ, hN, hO, hOb⟩ := hrel
    clear HP2 HZ2' HN2' HO2' q2'
    have hmj : m = j := (strs_len hO.sl).symm.trans (chunks_len _ _)
    by_cases hlt : j < v2
    · have hcut := fun W => run_cut_lh (P := Try.prog) W Try.underlying34 Try.sizeU8 A2 m2 c2 .i64 .i64 (32 * j) (32 * j + 32) (by omega) (by omega)
      rw [show ((32 * j : Nat) : Int) = 32 * (j : Int) by omega, show ((32 * j + 32 : Nat) : Int) = 32 * (j : Int) + 32 by omega, show 32 * j + 32 - 32 * j = 32 by omega] at hcut
      have hM := hOb.sl.mid_ (j := 32 * j) (k := 32 * j + 32) (c := c2) (by omega) (by omega) hc2
      rw [show 32 * j + 32 - 32 * j = 32 by omega] at hM
      have hcv1 := run_conv_str (P := Try.prog) wr.drew 34 9 5 _ 32 (c2 - 32 * j) _ Try.underlying34 Try.underlying5 Try.underlying9 hM.drew
      have hw1 : IntKind.i64.wrap (32 * (j : Int)) = 32 * (j : Int) := IntWalk.i64_in _ (by omega)
      have hw2 : IntKind.i64.wrap (32 * (j : Int) + 32) = 32 * (j : Int) + 32 := IntWalk.i64_in _ (by omega)
      have HP := Lib.hid hP
      have HZ := Lib.hid hZ
      have HN := Lib.hid hN
      have HO := Lib.hid hO
      have HOb := Lib.hid hOb
      have rP := hP.cell
      have fP := hP.frozen
      have hltP := hP.lt
      have hmm : m + 1 ≤ maxLen := by simp only [maxLen]; omega
      have hnn : (m + 1) * 16 ≤ 140737488355328 := by omega
      have Hmj := Lib.hid hmj
      obtain ⟨ch, hch⟩ : ∃ ch, ch = (l2.drop (32 * j)).take 32 := ⟨_, rfl⟩
      rw [← hch] at hcv1
      have Hch := Lib.hid hch
      clear hP hZ hN hO hOb hM hmj hch
      go_wp2_with fail
      go_region_law (first
          | (refine step_append_sl _ (by rfl) (.tmp 52) (.tmp 61) _ (by rfl) w 9 i0 _ 1 16 Try.underlying22 hi0 hz0 hz1 hz2 rfl Nat.one_pos As m cs _ (by rfl) (HO.out.drew.alloc _) _ 1 1 [S ch] (by rfl) (sl_one _ _ _) (one_one rfl) hmm hnn ?_; intro A4 c4 w4 hO4 hg4 hat4; have hP4 := (HP.out.drew.alloc (.cells #[S ch] 9)).grown hg4 (own_ne (HO.out.drew.alloc (.cells #[S ch] 9)) (HP.out.drew.alloc _) (by decide)); have k2 := hP4.cell; have f2 := hP4.frozen))
      all_goals
        have hOx := HO.out.drew.alloc (.cells #[S ch] 9)
        have hPf := Lib.hid (hP4.set_ 1 (.slice A4 (m + 1) c4))
        have hZ4 := (HZ.out.drew.alloc (.cells #[S ch] 9)).grown hg4 (own_ne hOx (HZ.out.drew.alloc _) (by decide))
        have hN4 := (HN.out.drew.alloc (.cells #[S ch] 9)).grown hg4 (own_ne hOx (HN.out.drew.alloc _) (by decide))
        have hZf := Lib.hid (hZ4.far (p := ⟨w2.heap.size, 1, none⟩) (by simp; omega) (.slice A4 (m + 1) c4))
        have hNf := Lib.hid (hN4.far (p := ⟨w2.heap.size, 1, none⟩) (by simp; omega) (.slice A4 (m + 1) c4))
        have hOf := Lib.hid (show Ow w (w4.setCell ⟨w2.heap.size, 1, none⟩ (.slice A4 (m + 1) c4)) 9 1 A4 (m + 1) c4 (strs (chunks l2 (j + 1))) by
          rw [chunks_succ, ← Hch.out, strs, List.map_append]
          exact hO4.set_far (p := ⟨w2.heap.size, 1, none⟩) hP4 (by decide) (by simp; omega) _)
        have hBf := Lib.hid (((HOb.out.drew.alloc (.cells #[S ch] 9)).grown_far hOx hg4 (by decide)).set_far (p := ⟨w2.heap.size, 1, none⟩) hP4 (by decide) (by simp; omega) (.slice A4 (m + 1) c4))
        clear hOx hZ4 hN4 hP4 hO4 hg4 hat4 k2 f2 rP fP hw1 hw2 hcv1 hcut
        go_wp2
        go_roundw
        case rel => exact ⟨j + 1, m + 1, A4, c4, by omega, by go_num, hPf.out, hZf.out, hNf.out, hOf.out, hBf.out⟩
        case measure => simp [intOf]; omega
    · obtain rfl : j = v2 := by omega
      have hcut := fun W => run_cut_l (P := Try.prog) W Try.underlying34 Try.sizeU8 A2 m2 c2 .i64 (32 * j) (by omega)
      rw [show ((32 * j : Nat) : Int) = 32 * (j : Int) by omega] at hcut
      have hT := Lib.hid (hOb.sl.tail_ (k := 32 * j) (c := c2) (by omega) hc2)
      have HP := Lib.hid hP
      have HZ := Lib.hid hZ
      have HN := Lib.hid hN
      have HO := Lib.hid hO
      have hltP := hP.lt
      have Hmj := Lib.hid hmj
      have q3 := Lib.hid hO.2
      clear hP hZ hN hO hOb hmj
      go_wp2_with fail
      refine (refTakeNum_any _ (m2 - 32 * j) (c2 - 32 * j) _ _ hT.out (by omega) (by omega)).mono ?_
      rintro e w3 (⟨v4, l4, A4, m4, c4, t4, rfl, ho4⟩ | ⟨t4, rfl, hb4⟩)
      rotate_left
      · have hZ3 := HZ.out.step hb4
        have hN3 := HN.out.step hb4
        have q4 := Lib.hid (bstep q3.out hb4)
        have rZ := hZ3.cell
        have fZ := hZ3.frozen
        have rN := hN3.cell
        have hnot := Lib.hid (not_dec (got_bad4 T1.out T2.out (by rw [hl2.out]; omega) t4))
        clear t4 hb4 hZ3 hN3
        go_wp2
        refine bodyPost_ret (v := .tuple #[zeroPl, I 2]) (by simp [results, Try.results13, go_sem, rZ]) rfl (.inr ⟨hnot.out, rfl, ?_⟩)
        repeat with_reducible refine Below.setCell ?_ (by simp) _
        exact q4.out
      have T4 := Lib.hid t4
      have HZ3 := Lib.hid (HZ.out.step ho4.2)
      have HN3 := Lib.hid (HN.out.step ho4.2)
      have HP3 := Lib.hid (HP.out.step ho4.2)
      have HO3 := Lib.hid (HO.out.keep ho4.2)
      have HO4 := Lib.hid (ho4.since q3.out)
      have hl4 := Lib.hid (ow_len ho4)
      have hltP3 := HP3.out.lt
      have hm4 : m4 ≤ n := by
        have h1 := ow_len ho4
        have h2 := takeNum_len t4
        simp only [List.length_drop] at h2
        have h3 := hl2.out
        omega
      obtain ⟨hc4, _⟩ := ho4.cap
      clear t4 ho4 HZ HN HP HO hT hcut q3
      by_cases hsh : m4 < 32
      · have d2 : decide ((m4 : Int) < 32) = true := by simp; omega
        have rZ := HZ3.out.cell
        have fZ := HZ3.out.frozen
        have rN := HN3.out.cell
        have hnot := Lib.hid (not_dec (got_bad5 T1.out T2.out (by rw [hl2.out]; omega) T4.out (by rw [hl4.out]; exact hsh)))
        go_wp2
        refine bodyPost_ret (v := .tuple #[zeroPl, I 2]) (by simp [results, Try.results13, go_sem, rZ]) rfl (.inr ⟨hnot.out, rfl, ?_⟩)
        repeat with_reducible refine Below.setCell ?_ (by simp) _
        exact HO4.out.2
      have d2 : decide ((m4 : Int) < 32) = false := by simp; omega
      have rP3 := HP3.out.cell
      have fP3 := HP3.out.frozen
      have HO4a := HO4.out.set_far (p := ⟨w2.heap.size, 2, none⟩) HP3.out (by decide) (by simp; omega) (I v4)
      have hpre := HO4a.sl.pre_ (k := 32) (by omega)
      have hcvA := run_conv_str (P := Try.prog) _ 34 9 5 _ 32 c4 _ Try.underlying34 Try.underlying5 Try.underlying9 hpre
      have hcut := fun W => run_cut_l (P := Try.prog) W Try.underlying34 Try.sizeU8 A4 m4 c4 .i64 32 (by omega)
      rw [show ((32 : Nat) : Int) = 32 from rfl] at hcut
      obtain ⟨v5, hv5⟩ : ∃ v5, v5 = l4.take 32 := ⟨_, rfl⟩
      rw [← hv5] at hcvA
      have Hv5 := Lib.hid hv5
      clear hpre hv5
      have HO4b := HO4a.set_far (p := ⟨w2.heap.size, 3, none⟩) (HP3.out.set_ 2 (I v4)) (by decide) (by simp; omega) (S v5)
      have hT := Lib.hid (HO4b.sl.tail_ (k := 32) (c := c4) (by omega) hc4)
      have q4 := Lib.hid HO4b.2
      have HO4b' := Lib.hid HO4b
      have HPb := Lib.hid ((HP3.out.set_ 2 (I v4)).set_ 3 (S v5))
      have HZb := Lib.hid ((HZ3.out.far (p := ⟨w2.heap.size, 2, none⟩) (by simp; omega) (I v4)).far (p := ⟨w2.heap.size, 3, none⟩) (by simp; omega) (S v5))
      have HNb := Lib.hid ((HN3.out.far (p := ⟨w2.heap.size, 2, none⟩) (by simp; omega) (I v4)).far (p := ⟨w2.heap.size, 3, none⟩) (by simp; omega) (S v5))
      have HOb := Lib.hid ((HO3.out.set_far (p := ⟨w2.heap.size, 2, none⟩) HP3.out (by decide) (by simp; omega) (I v4)).set_far (p := ⟨w2.heap.size, 3, none⟩) (HP3.out.set_ 2 (I v4)) (by decide) (by simp; omega) (S v5))
      clear HO4a HO4b
      go_wp2_with fail
      clear hcvA rP3 fP3
      refine (refTakeText_any _ (m4 - 32) (c4 - 32) 1000 _ _ hT.out (by omega) (by omega)).mono ?_
      rintro e w5 (⟨v6, l5, A6, m6, c6, t6, rfl, hS6, hc6, hblk6, hb6⟩ | ⟨t6, rfl, hb6⟩)
      rotate_left
      · have hZ5 := HZb.out.step hb6
        have hN5 := HNb.out.step hb6
        have q5 := Lib.hid (bstep q4.out hb6)
        have rZ := hZ5.cell
        have fZ := hZ5.frozen
        have rN := hN5.cell
        have hnot := Lib.hid (not_dec (got_bad6 T1.out T2.out (by rw [hl2.out]; omega) T4.out (by rw [hl4.out]; exact hsh) t6))
        clear t6 hb6 hZ5 hN5
        go_wp2
        refine bodyPost_ret (v := .tuple #[zeroPl, I 2]) (by simp [results, Try.results13, go_sem, rZ]) rfl (.inr ⟨hnot.out, rfl, ?_⟩)
        repeat with_reducible refine Below.setCell ?_ (by simp) _
        exact q5.out
      have T6 := Lib.hid t6
      have HZ5 := Lib.hid (HZb.out.step hb6)
      have HN5 := Lib.hid (HNb.out.step hb6)
      have HP5 := Lib.hid (HPb.out.step hb6)
      have HO5 := Lib.hid (HOb.out.keep hb6)
      have rP5 := HP5.out.cell
      have fP5 := HP5.out.frozen
      have hltP5 := HP5.out.lt
      have hm6 : m6 ≤ n := by
        have h1 := u8s_len hS6
        have h2 := takeText_len t6
        simp only [List.length_drop] at h2
        have h3 := hl4.out
        omega
      have hS6' := Lib.hid (hS6.far (p := ⟨w2.heap.size, 4, none⟩) (fun _ a ha => (hblk6 a ha).ne_ HP5.out (by decide)) (S v6))
      clear t6 hb6 hS6 HZb HNb HPb HOb HZ3 HN3 HP3 HO3 HO4 HO4b' hT q4 hblk6
      go_wp2_with fail
      have HP6 := Lib.hid (HP5.out.set_ 4 (S v6))
      have HZ6 := Lib.hid (HZ5.out.far (p := ⟨w2.heap.size, 4, none⟩) (by simp; omega) (S v6))
      have HO6 := Lib.hid (HO5.out.set_far (p := ⟨w2.heap.size, 4, none⟩) HP5.out (by decide) (by simp; omega) (S v6))
      have HN6 := Lib.hid (HN5.out.far (p := ⟨w2.heap.size, 4, none⟩) (by simp; omega) (S v6))
      clear rP5 fP5
      refine (refTakeNum_any A6 m6 c6 l5 _ hS6'.out hc6 (by omega)).mono ?_
      rintro e w7 (⟨v7, l7, A7, m7, c7, t7, rfl, ho7⟩ | ⟨t7, rfl, hb7⟩)
      · have hgot := Lib.hid (show gotOf b = ⟨kind, chunks l2 j, v4, v5, v6, v7, false⟩ by
          rw [got_good T1.out T2.out (by rw [hl2.out]; omega) T4.out (by rw [hl4.out]; exact hsh) T6.out (num_some t7), Hv5.out])
        have HP7 := HP6.out.step ho7.2
        have HZ7 := HZ6.out.step ho7.2
        have HN7 := HN6.out.step ho7.2
        have HO7 := HO6.out.keep ho7.2
        have r7 := HP7.cell
        have f7 := HP7.frozen
        have HP8 := Lib.hid (HP7.set_ 5 (I v7))
        have HZ8 := Lib.hid (HZ7.far (p := ⟨w2.heap.size, 5, none⟩) (by simp; omega) (I v7))
        have HN8 := Lib.hid (HN7.far (p := ⟨w2.heap.size, 5, none⟩) (by simp; omega) (I v7))
        have HO8 := Lib.hid (HO7.set_far (p := ⟨w2.heap.size, 5, none⟩) HP7 (by decide) (by simp; omega) (I v7))
        clear t7 ho7 HP7 HZ7 HN7 HO7
        go_wp2_with fail
        obtain ⟨W, hW⟩ : ∃ W, W = w7.setCell ⟨w2.heap.size, 5, none⟩ (I v7) := ⟨_, rfl⟩
        rw [← hW] at HP8 HZ8 HN8 HO8 ⊢
        clear hW r7 f7
        by_cases hok : PlanOk ⟨kind, chunks l2 j, v4, v5, v6, v7⟩
        · refine (refEncode_ok kind v4 v7 As m cs v5 v6 _ W HO8.out.sl hok).mono ?_
          rintro e w9 ⟨A9, m9, c9, rfl, ho9⟩
          have hP9 := HP8.out.step ho9.2
          have hZ9 := HZ8.out.step ho9.2
          have hN9 := HN8.out.step ho9.2
          have HOw9 := Lib.hid (HO8.out.keep ho9.2)
          have q9 := Lib.hid (HO8.out.keep ho9.2).2
          have hnZ := Lib.hid (show (Value.slice As m cs).ownBlock ≠ some w.heap.size from fun h => own_ne HOw9.out hZ9 (by decide) h.symm)
          have HO9 := Lib.hid ho9
          have hA9 := Lib.hid (HA.out.below q9.out)
          have rP9 := hP9.cell
          have rZ9 := hZ9.cell
          have fZ9 := hZ9.frozen
          have rN9 := hN9.cell
          clear hP9 hZ9 hN9 ho9
          by_cases heq : encP kind (chunks l2 j) v4 v5 v6 v7 = b
          · have hdec : decide (encP kind (chunks l2 j) v4 v5 v6 v7 = b) = true := decide_eq_true heq
            have Heq := Lib.hid heq
            clear heq
            go_wp2_with fail
            refine (sameB_any A9 A m9 n c9 c _ b _ HO9.out.sl hA9.out).mono ?_
            rintro e w10 ⟨rfl, rfl⟩
            go_wp2
            refine bodyPost_ret (v := .tuple #[plV kind As m cs v4 v5 v6 v7, I 0]) (by simp [results, Try.results13, go_sem, rZ9]) rfl (.inl ⟨?_, As, m, cs, ?_, ?_, ?_, ?_⟩)
            · unfold DecOk; rw [hgot.out]; exact ⟨rfl, hok, Heq.out⟩
            · rw [hgot.out]
            · rw [hgot.out]
              refine Sl.of_own (base := w.heap.size) (e := 9) (c := cs) ?_
              repeat with_reducible refine own_far ?_ hnZ.out _
              exact HOw9.out.1
            · have h1 := hok.1.2.1
              have h2 := strs_len HOw9.out.sl
              simp only at h1
              omega
            · repeat with_reducible refine Below.setCell ?_ (by simp) _
              exact q9.out
          · have hdec : decide (encP kind (chunks l2 j) v4 v5 v6 v7 = b) = false := decide_eq_false heq
            have Heq := Lib.hid heq
            clear heq
            go_wp2_with fail
            refine (sameB_any A9 A m9 n c9 c _ b _ HO9.out.sl hA9.out).mono ?_
            rintro e w10 ⟨rfl, rfl⟩
            go_wp2
            refine bodyPost_ret (v := .tuple #[zeroPl, I 2]) (by simp [results, Try.results13, go_sem, rZ9]) rfl (.inr ⟨?_, rfl, ?_⟩)
            · unfold DecOk; rw [hgot.out]; exact fun h => Heq.out h.2.2
            · repeat with_reducible refine Below.setCell ?_ (by simp) _
              exact q9.out
        · refine (refEncode_no kind As m cs v4 v5 v6 v7 _ W HO8.out.sl hok).mono ?_
          rintro e w9 ⟨rfl, hb9⟩
          have hZ9 := HZ8.out.step hb9
          have hN9 := HN8.out.step hb9
          have q9 := Lib.hid (bstep HO8.out.2 hb9)
          have rZ9 := hZ9.cell
          have fZ9 := hZ9.frozen
          have rN9 := hN9.cell
          have hnot := Lib.hid (show ¬ DecOk b by unfold DecOk; rw [hgot.out]; exact fun h => hok h.2.1)
          clear hZ9 hN9 hb9
          go_wp2
          refine bodyPost_ret (v := .tuple #[zeroPl, I 2]) (by simp [results, Try.results13, go_sem, rZ9]) rfl (.inr ⟨hnot.out, rfl, ?_⟩)
          repeat with_reducible refine Below.setCell ?_ (by simp) _
          exact q9.out
      · have hnot := Lib.hid (show ¬ DecOk b by
          unfold DecOk
          rw [got_good T1.out T2.out (by rw [hl2.out]; omega) T4.out (by rw [hl4.out]; exact hsh) T6.out (num_none t7)]
          exact fun h => by cases h.1)
        have HP7 := HP6.out.step hb7
        have HZ7 := HZ6.out.step hb7
        have HN7 := HN6.out.step hb7
        have HO7 := HO6.out.keep hb7
        have r7 := HP7.cell
        have f7 := HP7.frozen
        have HP8 := Lib.hid (HP7.set_ 5 (I 0))
        have HZ8 := Lib.hid (HZ7.far (p := ⟨w2.heap.size, 5, none⟩) (by simp; omega) (I 0))
        have HN8 := Lib.hid (HN7.far (p := ⟨w2.heap.size, 5, none⟩) (by simp; omega) (I 0))
        have HO8 := Lib.hid (HO7.set_far (p := ⟨w2.heap.size, 5, none⟩) HP7 (by decide) (by simp; omega) (I 0))
        clear t7 hb7 HP7 HZ7 HN7 HO7
        go_wp2_with fail
        obtain ⟨W, hW⟩ : ∃ W, W = w7.setCell ⟨w2.heap.size, 5, none⟩ (I 0) := ⟨_, rfl⟩
        rw [← hW] at HP8 HZ8 HN8 HO8 ⊢
        clear hW r7 f7
        by_cases hok : PlanOk ⟨kind, chunks l2 j, v4, v5, v6, (0 : Nat)⟩
        · refine (refEncode_ok kind v4 0 As m cs v5 v6 _ W HO8.out.sl hok).mono ?_
          rintro e w9 ⟨A9, m9, c9, rfl, ho9⟩
          have hZ9 := HZ8.out.step ho9.2
          have hN9 := HN8.out.step ho9.2
          have q9 := Lib.hid (bstep HO8.out.2 ho9.2)
          have rZ9 := hZ9.cell
          have fZ9 := hZ9.frozen
          have rN9 := hN9.cell
          clear hZ9 hN9 ho9
          go_wp2
          refine bodyPost_ret (v := .tuple #[zeroPl, I 2]) (by simp [results, Try.results13, go_sem, rZ9]) rfl (.inr ⟨hnot.out, rfl, ?_⟩)
          repeat with_reducible refine Below.setCell ?_ (by simp) _
          exact q9.out
        · refine (refEncode_no kind As m cs v4 v5 v6 (0 : Nat) _ W HO8.out.sl hok).mono ?_
          rintro e w9 ⟨rfl, hb9⟩
          have hZ9 := HZ8.out.step hb9
          have hN9 := HN8.out.step hb9
          have q9 := Lib.hid (bstep HO8.out.2 hb9)
          have rZ9 := hZ9.cell
          have fZ9 := hZ9.frozen
          have rN9 := hN9.cell
          clear hZ9 hN9 hb9
          go_wp2
          refine bodyPost_ret (v := .tuple #[zeroPl, I 2]) (by simp [results, Try.results13, go_sem, rZ9]) rfl (.inr ⟨hnot.out, rfl, ?_⟩)
          repeat with_reducible refine Below.setCell ?_ (by simp) _
          exact q9.out
end Go.Proofs.Ytgcbolijdgecgaa
