/-
  The references' Encode and Next of a plan. Conditions: the plan's steps read as a list.
-/
import Derived.Test.YtgcbolijdgecgaaPlanRef
namespace Go.Proofs.Ytgcbolijdgecgaa
open Go.RowKit

set_option maxHeartbeats 4000000 in
set_option maxRecDepth 100000 in
theorem refEncode_ok (kind k stamp : Nat) (A : Option Addr) (n c : Nat) (orig who : List UInt8) (ss : List (List UInt8)) (w : World) (hA : Sl w 1 A n (strs ss)) (h : PlanOk ⟨kind, ss, k, orig, who, stamp⟩) :
    Calls Try.prog 11 #[plV kind A n c k orig who stamp] w (RetEnc w (encP kind ss k orig who stamp)) := by
  obtain ⟨i0, hi0, hz0, hz1, hz2⟩ := info_parts Try.infoU8
  have hl := Lib.hid (strs_len hA)
  obtain ⟨⟨_, hn, _, _, ho32, hw1000, _, hstamp⟩, hk1, hk3, hs32⟩ := id h
  simp only [hl.out] at hn hw1000 hstamp hk3
  have hkind : kind ≤ 3 := by omega
  have hst : stamp ≤ 1099511627776 := by omega
  have hkn : k < 4096 := by have := h.1.2.2.2.1; rw [hl.out] at this; simp only at this; omega
  have Ho32 := Lib.hid ho32
  have Hs32 := Lib.hid hs32
  have HA := Lib.hid hA
  have Hok := Lib.hid h
  clear hA h ho32 hs32 hk1 hk3 hstamp
  go_enter Try.func11, Try.ntmps11
  go_wp2_with fail
  refine (refCheck_ok kind A n c k orig who stamp ss _ (HA.out.alloc _) Hok.out).mono ?_
  rintro e w1 ⟨rfl, b1⟩
  have hP := (Blk.new w 24 (#[I kind, .slice A n c, I k, S orig, S who, I stamp])).step b1
  have q1 := Lib.hid (bstep (balloc (Below.refl _ w) _) b1)
  have HP := Lib.hid hP
  have r1 := hP.cell
  have hzP := hP.lt
  clear b1 hP
  go_wp2_with fail
  go_region_held3 (fun w' => w'.cell? ⟨w.heap.size, 0, none⟩ = some (I kind) ∧ w'.cell? ⟨w.heap.size, 1, none⟩ = some (.slice A n c)) (first | go_keep | (exact ⟨k0, k1⟩) | (exact ⟨j0, j1⟩))
    (first
      | (go_at_call_of 27 (Value.slice none 0 0); refine (refPutNum_nat none 0 0 kind [] _ Sl.nil_ (by omega) (by omega)).mono ?_; rintro e w2 ⟨A2, m2, c2, rfl, ho2⟩; have k0 := (ho2.2.cell (p := ⟨w.heap.size, 0, none⟩) hzP).trans (r1 0); have k1 := (ho2.2.cell (p := ⟨w.heap.size, 1, none⟩) hzP).trans (r1 1); have hz2' := Nat.lt_of_lt_of_le hzP ho2.2.size; have hm2 : m2 ≤ 9 := (by have h1 := ow_len ho2; have h2 := putNum_len_le (n := kind) (by unfold top62; omega); rw [List.nil_append] at h1; omega))
      | (go_at_call 27; refine (refPutNum_nat A2 m2 c2 n _ _ ho2.sl (by omega) (by omega)).mono ?_; rintro e w3 ⟨A3, m3, c3, rfl, ho3⟩; have j0 := (ho3.2.cell (p := ⟨w.heap.size, 0, none⟩) hz2').trans k0; have j1 := (ho3.2.cell (p := ⟨w.heap.size, 1, none⟩) hz2').trans k1))
  have hb13 : Below w1.heap.size w1 w3 := bstep (bstep (Below.refl _ w1).drew ho2.2) ho3.2
  have HP3 := HP.out.step hb13
  have hO3 : Ow w w3 5 1 A3 m3 c3 (u8s (putNum kind ++ putNum n)) := (ho3.since ho2.2).since q1.out.drew
  have HO3 := Lib.hid hO3
  have HP3' := Lib.hid HP3
  have r3 := HP3.cell
  clear ho2 ho3 k0 k1 j0 j1 r1 HP q1 hb13 HP3 hO3 hm2 hz2'
  go_wp2
  go_loopw [4, 5] (fun v i wr => ∃ (j m : Nat) (A' : Option Addr) (c' : Nat), j ≤ n ∧ i = .int .i64 j ∧ v = .slice A' m c' ∧ Ow w wr 5 1 A' m c' (u8s ((putNum kind ++ putNum n) ++ (ss.take j).flatten)) ∧ Blk wr w.heap.size 24 #[I kind, .slice A n c, I k, S orig, S who, I stamp]) (fun _ i _ => n - (intOf i).toNat)
  case atStart => exact ⟨0, m3, A3, c3, Nat.zero_le _, rfl, rfl, by simpa using HO3.out, HP3'.out⟩
  case round =>
    obtain ⟨j, m, A', c', hj, rfl, rfl, hO, hP⟩ := hrel
    clear r3 HO3 HP3'
    have hm : m ≤ 18 + 32 * j := by
      have h1 := ow_len hO
      rw [List.length_append, List.length_append] at h1
      have h2 := putNum_len_le (n := kind) (by unfold top62; omega)
      have h3 := putNum_len_le (n := n) (by unfold top62; omega)
      have h4 := flatten_len Hs32.out j
      omega
    by_cases hlt : j < n
    · obtain ⟨b, off, s, rfl, hs, hc⟩ := (HA.out.below hO.2).str hlt
      have hs32 : s.length = 32 := Hs32.out s (List.mem_of_getElem? hs)
      have Hs := Lib.hid hs
      have hbytes : m + s.length ≤ 140737488355328 := by omega
      have HP := Lib.hid hP
      have rP := hP.cell
      have hne := Lib.hid (own_ne hO hP (by decide))
      clear hs hs32 hP
      go_wp2_with (at_builtin; refine wpList_append_text _ rfl (.tmp 23) (.tmp 28) _ _ rfl w 5 i0 Try.underlying34 Try.underlying9 hi0 hz0 hz1 hz2 _ _ _ _ rfl hO s rfl hbytes ?_; intro A2 c2 w2 hown2 hg2)
      go_roundw
      case rel =>
        refine ⟨j + 1, m + s.length, A2, c2, by omega, by go_num, rfl, ?_, HP.out.grown hg2 hne.out⟩
        rw [flatten_step Hs.out, ← List.append_assoc, u8s, List.map_append]
        exact hown2
      case measure => simp [intOf]; omega
    · obtain rfl : j = n := by omega
      have e1 : (ss.take j).flatten = ss.flatten := by rw [List.take_of_length_le (by rw [hl.out]; omega)]
      rw [e1] at hO
      have HO := Lib.hid hO
      have HP := Lib.hid hP
      have rP := hP.cell
      have hzP' := hP.lt
      clear hO hP e1
      go_wp2_with fail
      go_region_held3 (fun w' => w'.cell? ⟨w.heap.size, 2, none⟩ = some (I k) ∧ w'.cell? ⟨w.heap.size, 3, none⟩ = some (S orig)) (first | go_keep | (exact ⟨k0, k1⟩) | (exact ⟨j0, j1⟩))
        (first
          | (go_at_call 27; refine (refPutNum_nat A' m c' k _ _ HO.out.sl.drew (by omega) (by omega)).mono ?_; rintro e w5 ⟨A5, m5, c5, rfl, ho5⟩; have k0 := (ho5.2.cell (p := ⟨w.heap.size, 2, none⟩) hzP').trans (rP 2); have k1 := (ho5.2.cell (p := ⟨w.heap.size, 3, none⟩) hzP').trans (rP 3); have hm5 : m5 ≤ m + 9 := (by have h1 := ow_len ho5; have h0 := ow_len HO.out; have h2 := putNum_len_le (n := k) (by unfold top62; omega); rw [List.length_append] at h1; omega); have hP5 := HP.out.drew.step ho5.2; have ho5' := ho5.since HO.out.2.drew; have hne5 := own_ne ho5' hP5 (by decide); have hb5 : m5 + orig.length ≤ 140737488355328 := (by have := Ho32.out; omega))
          | (refine step_append_text _ (by rfl) (.tmp 33) (.tmp 35) _ _ (by rfl) w 5 i0 Try.underlying34 Try.underlying9 hi0 hz0 hz1 hz2 A5 m5 c5 _ (by rfl) ho5' orig (by rfl) hb5 ?_; intro A6 c6 w6 hown6 hg6; have hP6 := hP5.grown hg6 hne5; have j0 := hP6.cell 2; have j1 := hP6.cell 3))
      rw [← List.map_append] at hown6
      have HO6 := Lib.hid hown6
      have HP6 := Lib.hid hP6
      have r6 := hP6.cell
      have hz6 := hP6.lt
      have hm6 : m5 + orig.length ≤ m + 9 + 32 := by have := Ho32.out; omega
      clear ho5 ho5' hown6 hP6 hP5 k0 k1 j0 j1 rP hg6 hne5 hb5
      go_wp2_with fail
      go_region_held3 (fun w' => w'.cell? ⟨w.heap.size, 4, none⟩ = some (S who) ∧ w'.cell? ⟨w.heap.size, 5, none⟩ = some (I stamp)) (first | go_keep | (exact ⟨k0, k1⟩) | (exact ⟨j0, j1⟩))
        (first
          | (go_at_call 28; refine (refPutText_any A6 (m5 + orig.length) c6 _ who _ HO6.out.sl.drew (by omega)).mono ?_; rintro e w7 ⟨A7, m7, c7, rfl, ho7⟩; have k0 := (ho7.2.cell (p := ⟨w.heap.size, 4, none⟩) hz6).trans (r6 4); have k1 := (ho7.2.cell (p := ⟨w.heap.size, 5, none⟩) hz6).trans (r6 5); have hz7 := Nat.lt_of_lt_of_le hz6 ho7.2.size; have hm7 : m7 ≤ m + 9 + 32 + 9 + 1000 := (by have h1 := ow_len ho7; have h0 := ow_len HO6.out; have h2 := putNum_len_le (n := who.length) (by unfold top62; omega); simp only [List.length_append] at h1 h0; omega))
          | (go_at_call 27; refine (refPutNum_nat A7 m7 c7 stamp _ _ ho7.sl (by omega) (by omega)).mono ?_; rintro e w8 ⟨A8, m8, c8, rfl, ho8⟩; have j0 := (ho8.2.cell (p := ⟨w.heap.size, 4, none⟩) hz7).trans k0; have j1 := (ho8.2.cell (p := ⟨w.heap.size, 5, none⟩) hz7).trans k1))
      have hfin : Ow w w8 5 1 A8 m8 c8 (u8s (encP kind ss k orig who stamp)) := by
        have := (ho8.since ho7.2).since HO6.out.2.drew
        unfold encP
        rw [hl.out]
        exact this
      have Hfin := Lib.hid hfin
      clear hfin ho7 ho8 k0 k1 j0 j1
      go_wp2
      go_ret2
      exact ⟨A8, m8, c8, rfl, Hfin.out⟩
set_option maxHeartbeats 1000000 in
set_option maxRecDepth 100000 in
theorem refNext_no (kind : Int) (A : Option Addr) (n c : Nat) (at_ : Int) (orig who : List UInt8) (stamp : Int) (ss : List (List UInt8)) (w : World) (hA : Sl w 1 A n (strs ss)) (h : ¬ PlanOk ⟨kind, ss, at_, orig, who, stamp⟩) :
    Calls Try.prog 14 #[plV kind A n c at_ orig who stamp] w fun e w' => e = .returned (.tuple #[S [], zeroPl, .bool false]) ∧ Below w.heap.size w w' := by
  have HA := Lib.hid hA
  clear hA
  go_enter Try.func14, Try.ntmps14
  go_wp2_with fail
  refine (refCheck_no kind A n c at_ orig who stamp ss _ ((HA.out.alloc _).alloc _) h).mono ?_
  rintro e w1 ⟨rfl, hb⟩
  obtain ⟨hc, hf⟩ := bcell w.heap.size hb
  have hb' := Lib.hid ((((Below.refl _ w).alloc (Nat.le_refl _) _).alloc (by simp) _).trans (hb.mono (by simp; omega)))
  have hz : w.heap.size + 1 < w1.heap.size := by have := hb.size; simp at this; omega
  clear hb
  go_wp2
  refine bodyPost_ret (v := .tuple #[S [], zeroPl, .bool false]) (by simp [results, Try.results14, go_sem, hc]) rfl ⟨rfl, ?_⟩
  repeat refine Below.setCell ?_ (by simp) _
  exact hb'.out

set_option maxHeartbeats 1000000 in
set_option maxRecDepth 100000 in
theorem refNext_last (kind : Int) (A : Option Addr) (n c k : Nat) (orig who : List UInt8) (stamp : Int) (ss : List (List UInt8)) (s : List UInt8) (w : World) (hA : Sl w 1 A n (strs ss)) (h : PlanOk ⟨kind, ss, k, orig, who, stamp⟩) (hk : k + 1 = n) (hs : ss[k]? = some s) :
    Calls Try.prog 14 #[plV kind A n c k orig who stamp] w fun e w' => e = .returned (.tuple #[S s, zeroPl, .bool false]) ∧ Below w.heap.size w w' := by
  have HA := Lib.hid hA
  have hn : n ≤ 4096 := by have := h.1.2.1; rw [strs_len hA] at this; exact this
  obtain ⟨b, off, s', rfl, hs', hc0⟩ := hA.str (k := k) (by omega)
  obtain rfl : s' = s := Option.some.inj (hs'.symm.trans hs)
  have hblt : b < w.heap.size := by
    obtain ⟨b', off', e, hb, _⟩ := hA.2 (by omega)
    cases e; exact hb
  have Hk := Lib.hid hk
  have hk1 : ((k : Int) + 1 == (n : Int)) = true := by simp; omega
  have hlt : k < n := by omega
  clear hA hk hs hs'
  go_enter Try.func14, Try.ntmps14
  go_wp2_with fail
  refine (refCheck_ok kind _ n c k orig who stamp ss _ ((HA.out.alloc _).alloc _) h).mono ?_
  rintro e w1 ⟨rfl, hb⟩
  have hB0 := ((Blk.new w 24 _).alloc _).below hb (by simp; omega)
  have hB1 := (Blk.new (w.alloc (Obj.cells #[I kind, Value.slice (some ⟨b, off, none⟩) n c, I k, S orig, S who, I stamp] 24)) 24 _).below hb (by simp)
  rw [World.size_alloc] at hB1
  have hb' := Lib.hid ((((Below.refl _ w).alloc (Nat.le_refl _) _).alloc (by simp) _).trans (hb.mono (by simp; omega)))
  have hz : w.heap.size + 1 < w1.heap.size := by have := hb.size; simp at this; omega
  have hc1 : w1.cell? ⟨b, off + k, none⟩ = some (S s') := (hb'.out.cell (p := ⟨b, off + k, none⟩) hblt).trans hc0
  have HB0 := Lib.hid hB0
  have HB1 := Lib.hid hB1
  have r0 := hB0.cell
  have r1 := hB0.frozen
  clear hb hB0 hB1
  have s2 := HB1.out.cell
  have s3 := HB1.out.frozen
  go_wp2
  refine bodyPost_ret (v := .tuple #[S s', zeroPl, .bool false]) (by simp [results, Try.results14, go_sem, s2]) rfl ⟨rfl, ?_⟩
  repeat with_reducible refine Below.setCell ?_ (by simp) _
  exact hb'.out

set_option maxHeartbeats 1000000 in
set_option maxRecDepth 100000 in
theorem refNext_more (kind : Int) (A : Option Addr) (n c k : Nat) (orig who : List UInt8) (stamp : Int) (ss : List (List UInt8)) (s : List UInt8) (w : World) (hA : Sl w 1 A n (strs ss)) (h : PlanOk ⟨kind, ss, k, orig, who, stamp⟩) (hk : k + 1 < n) (hs : ss[k]? = some s) :
    Calls Try.prog 14 #[plV kind A n c k orig who stamp] w fun e w' => ∃ A' c', e = .returned (.tuple #[S s, plV kind A' n c' (k + 1 : Nat) orig who stamp, .bool true]) ∧ Ow w w' 9 1 A' n c' (strs ss) := by
  have HA := Lib.hid hA
  have hn : n ≤ 4096 := by have := h.1.2.1; rw [strs_len hA] at this; exact this
  obtain ⟨b, off, s', rfl, hs', hc0⟩ := hA.str (k := k) (by omega)
  obtain rfl : s' = s := Option.some.inj (hs'.symm.trans hs)
  have hblt : b < w.heap.size := by
    obtain ⟨b', off', e, hb, _⟩ := hA.2 (by omega)
    cases e; exact hb
  have Hk := Lib.hid hk
  have hk1 : ((k : Int) + 1 == (n : Int)) = false := by simp; omega
  have hlt : k < n := by omega
  clear hA hk hs hs'
  go_enter Try.func14, Try.ntmps14
  go_wp2_with fail
  refine (refCheck_ok kind _ n c k orig who stamp ss _ ((HA.out.alloc _).alloc _) h).mono ?_
  rintro e w1 ⟨rfl, hb⟩
  have hB0 := ((Blk.new w 24 _).alloc _).below hb (by simp; omega)
  have hB1 := (Blk.new (w.alloc (Obj.cells #[I kind, Value.slice (some ⟨b, off, none⟩) n c, I k, S orig, S who, I stamp] 24)) 24 _).below hb (by simp)
  rw [World.size_alloc] at hB1
  have hb' := Lib.hid ((((Below.refl _ w).alloc (Nat.le_refl _) _).alloc (by simp) _).trans (hb.mono (by simp; omega)))
  have hz : w.heap.size + 1 < w1.heap.size := by have := hb.size; simp at this; omega
  have hc1 : w1.cell? ⟨b, off + k, none⟩ = some (S s') := (hb'.out.cell (p := ⟨b, off + k, none⟩) hblt).trans hc0
  have HB0 := Lib.hid hB0
  have HB1 := Lib.hid hB1
  have r0 := hB0.cell
  have r1 := hB0.frozen
  clear hb hB0 hB1
  have s2 := HB1.out.cell
  have s3 := HB1.out.frozen
  obtain ⟨i0, hi0, hz0, hz1, hz2⟩ := info_parts Try.infoStr
  have ho : Ow (w1.setCell ⟨w.heap.size, 2, none⟩ (I (↑k + 1))) ((w1.setCell ⟨w.heap.size, 2, none⟩ (I (↑k + 1))).alloc (.cells #[] 9)) 9 1 (some ⟨w1.heap.size, 0, none⟩) 0 0 [] := by
    have := World.ownsRow_made (e := 9) (size := 1) (w1.setCell ⟨w.heap.size, 2, none⟩ (I (↑k + 1))) #[] 0 (Nat.le_refl _) (Nat.zero_le _) rfl
    rw [setCell_size] at this
    exact ⟨by rw [setCell_size]; exact this, (Below.refl _ _).alloc (Nat.le_refl _) _⟩
  have hS2 := (HA.out.below (hb'.out.setCell (p := ⟨w.heap.size, 2, none⟩) (by simp) (I (↑k + 1)))).alloc (.cells #[] 9)
  have hzz : w.heap.size < w1.heap.size := by omega
  have hmm : 0 + n ≤ maxLen := by simp only [maxLen]; omega
  have hnn : (0 + n) * 16 ≤ 140737488355328 := by omega
  go_wp2_with (at_builtin; refine wpList_append_sl _ rfl (.tmp 29) (.tmp 31) _ rfl _ 9 i0 _ 1 16 Try.underlying22 hi0 hz0 hz1 hz2 rfl Nat.one_pos _ _ _ _ rfl ho _ n c (strs ss) rfl hS2 (one_strs ss) hmm hnn ?_; intro A2 c2 w2 hown2 hg2 hat2; rw [Nat.zero_add] at hown2 hat2; have hb2 := below_set hown2.2; have hB0 := (HB0.out.set_ 2 (I (↑k + 1))).below hb2 (by omega); have hB1 := (HB1.out.far (p := ⟨w.heap.size, 2, none⟩) (by simp) (I (↑k + 1))).below hb2 (by omega); have u0 := hB0.cell; have u1 := hB0.frozen; have u2 := hB1.cell; have u3 := hB1.frozen; clear s2 s3 r0 r1)
  have hb2' := Lib.hid ((hb'.out.setCell (p := ⟨w.heap.size, 2, none⟩) (by simp) (I (↑k + 1))).trans (hb2.mono (by omega)))
  have HO2 := Lib.hid hown2.1
  clear hB0 hB1 hown2 hb2 hg2 hat2 hc0 hc1 ho hS2
  go_region
  go_wp2
  refine bodyPost_ret (v := .tuple #[S s', plV kind A2 n c2 (k + 1 : Nat) orig who stamp, .bool true]) (by simp [results, Try.results14, go_sem, u2]) rfl ⟨A2, c2, rfl, ?_, ?_⟩
  · rw [setCell_size] at HO2
    refine own_mono (base := w1.heap.size) ?_ (by omega)
    repeat (first | with_reducible refine World.ownsRow.drew ?_ | with_reducible refine ownsRow_setCell_below ?_ (by simp; omega) _)
    exact HO2.out
  · repeat (first | with_reducible refine Below.drew ?_ | with_reducible refine Below.setCell ?_ (by simp) _)
    exact hb2'.out
end Go.Proofs.Ytgcbolijdgecgaa
