/-
  plan.Decode: the plan of bytes. Conditions: the bytes read as a list, within the form's reach.
-/
import Derived.Test.YtgcbolijdgecgaaPlanRd
import Derived.Test.YtgcbolijdgecgaaPlanLaw
import Derived.Deep.RegionLaw
namespace Go.Proofs.Ytgcbolijdgecgaa
open Go.RowKit

/-- are bytes a plan's? -/
def DecOk (b : List UInt8) : Prop := (gotOf b).bad = false ∧ PlanOk ⟨(gotOf b).kind, (gotOf b).ss, (gotOf b).at_, (gotOf b).orig, (gotOf b).who, (gotOf b).stamp⟩ ∧
  encP (gotOf b).kind (gotOf b).ss (gotOf b).at_ (gotOf b).orig (gotOf b).who (gotOf b).stamp = b

/-- what Decode returns -/
def RetDec (w : World) (b : List UInt8) (e : Ending) (w' : World) : Prop :=
  (DecOk b ∧ ∃ A n c, e = .returned (.tuple #[plV (gotOf b).kind A n c (gotOf b).at_ (gotOf b).orig (gotOf b).who (gotOf b).stamp, I 0]) ∧ Sl w' 1 A n (strs (gotOf b).ss) ∧ n ≤ 4096 ∧ Below w.heap.size w w') ∨
  (¬ DecOk b ∧ e = .returned (.tuple #[zeroPl, I 2]) ∧ Below w.heap.size w w')

set_option maxHeartbeats 400000 in
theorem encode_no (kind : Int) (A : Option Addr) (n c : Nat) (at_ : Int) (orig who : List UInt8) (stamp : Int) (ss : List (List UInt8)) (w : World) (hA : Sl w 1 A n (strs ss)) (h : ¬ PlanOk ⟨kind, ss, at_, orig, who, stamp⟩) :
    Calls Try.prog 10 #[plV kind A n c at_ orig who stamp] w fun e w' => e = .returned (.tuple #[.slice none 0 0, I 1]) ∧ Below w.heap.size w w' := by
  have HA := Lib.hid hA
  clear hA
  go_enter Try.func10, Try.ntmps10
  go_wp2_with fail
  refine (check_no _ _ _ _ _ _ _ _ ss _ (HA.out.alloc _) h).mono ?_
  rintro e w1 ⟨rfl, b1⟩
  go_wp2
  go_ret2
  exact ⟨rfl, bstep (balloc (Below.refl _ w) _) b1⟩

theorem dec_keep {w wr wr' : World} {R P Z : Nat} {r : Rd} {csP csZ : Array Value} {As : Option Addr} {m cs : Nat} {xs : List Value} {W0 : Nat} (hR : RdAt wr R W0 r) (hg : wr.grownBy wr' (some R)) (hw : w.heap.size ≤ R) (hPR : P ≠ R) (hZR : Z ≠ R)
    (hP : Blk wr P 26 csP) (hZ : Blk wr Z 26 csZ) (hO : Ow w wr 9 1 As m cs xs) : Blk wr' P 26 csP ∧ Blk wr' Z 26 csZ ∧ Ow w wr' 9 1 As m cs xs := by
  obtain ⟨A, n, c, hB, _⟩ := hR
  have hne := own_ne hO hB (by decide)
  exact ⟨hP.grown hg (by simpa using hPR), hZ.grown hg (by simpa using hZR), hO.1.kept hg (.inr (fun h => hne h.symm)), hO.2.grown hg hO.2.size (fun k hk => by cases hk; exact hw)⟩

theorem takeGo_lt : ∀ (b : List UInt8) (k acc v : Nat) (r : List UInt8), takeGo k acc b = some (v, r) → v < top62
  | [], _, _, _, _, h => by simp [takeGo] at h
  | c :: b, k, acc, v, r, h => by
    rw [takeGo] at h
    split at h
    · cases h
    · split at h
      · cases h
      · split at h
        · split at h
          · rename_i hlt; cases h; exact hlt
          · cases h
        · exact takeGo_lt b _ _ _ _ h
theorem num_lt {r r' : Rd} {v : Nat} (h : r.num = (v, r')) : v ≤ 4611686018427387903 := by
  unfold Rd.num at h
  split at h
  · rename_i n rest ht
    cases h
    have := takeGo_lt _ _ _ _ _ ht
    unfold top62 at this
    omega
  · cases h; omega
theorem num_len {r r' : Rd} {v : Nat} (h : r.num = (v, r')) (hb : r'.bad = false) : r.bad = false ∧ r'.b.length ≤ r.b.length := by
  unfold Rd.num at h
  split at h
  · rename_i n rest ht
    cases h
    exact ⟨hb, by have := takeNum_len ht; simp only; omega⟩
  · cases h; cases hb

theorem own_drewQ {w : World} {base sz n : Nat} {e : TypeId} {v : Value} {xs : List Value} (h : w.ownsRow base e sz v n xs) (k : Nat) : (w.drewN k).ownsRow base e sz v n xs := h
theorem id_len {r r' : Rd} {v : List UInt8} (h : r.id_ = (v, r')) (_hb : r.bad = false) : (32 + r'.b.length = r.b.length) ∨ (r'.bad = true ∧ r'.b.length = r.b.length) := by
  unfold Rd.id_ at h
  split at h
  · cases h; exact .inr ⟨rfl, rfl⟩
  · cases h; left; simp; omega
theorem own_far {w : World} {base sz n c : Nat} {e : TypeId} {A : Option Addr} {xs : List Value} (h : w.ownsRow base e sz (.slice A n c) n xs) {p : Addr} (hp : (Value.slice A n c).ownBlock ≠ some p.block) (u : Value) : (w.setCell p u).ownsRow base e sz (.slice A n c) n xs := by
  refine ⟨h.1, ?_⟩
  rcases h.2 with h2 | ⟨g, cap, cur, hv, hg, hh, r⟩
  · exact .inl h2
  · have hne : g ≠ p.block := fun e => hp (by rw [hv]; simp [Value.ownBlock, e])
    exact .inr ⟨g, cap, cur, hv, hg, (Below.heap_setCell w p u g hne).trans hh, r⟩

/-- between two ids -/
def DecAt (w wr : World) (R P Z : Nat) (kind : Nat) (b : List UInt8) (acc : List (List UInt8)) (r : Rd) : Prop :=
  RdAt wr R w.heap.size r ∧ Blk wr Z 26 #[I 0, .slice none 0 0, I 0, S [], S [], I 0] ∧
  (∃ As m cs, Blk wr P 26 #[I kind, .slice As m cs, I 0, S [], S [], I 0] ∧ Ow w wr 9 1 As m cs (strs acc)) ∧ (r.bad = false → acc.length * 32 + r.b.length ≤ b.length) ∧ acc.length * 32 ≤ b.length + 32

set_option maxHeartbeats 4000000 in
set_option maxRecDepth 100000 in
theorem decode_any (A : Option Addr) (n c : Nat) (b : List UInt8) (w : World) (hA : Sl w 1 A n (u8s b)) (hc : n ≤ c) (hn : n ≤ 140737488351232) :
    Calls Try.prog 12 #[.slice A n c] w (RetDec w b) := by
  have hl := Lib.hid (u8s_len hA)
  obtain ⟨i0, hi0, hz0, hz1', hz2⟩ := info_parts Try.infoStr
  have HA := Lib.hid hA
  clear hA
  obtain ⟨kind, q1, h1⟩ : ∃ v q, Rd.num ⟨b, false⟩ = (v, q) := ⟨_, _, rfl⟩
  obtain ⟨n0, q2, h2⟩ : ∃ v q, q1.num = (v, q) := ⟨_, _, rfl⟩
  have hn0 : n0 ≤ 4611686018427387903 := num_lt h2
  have H1 := Lib.hid h1
  have H2 := Lib.hid h2
  clear h1 h2
  go_enter Try.func12, Try.ntmps12
  go_wp2_with fail
  have hR0 : RdAt ((w.alloc (.cells #[I 0, .slice none 0 0, I 0, S [], S [], I 0] 26)).alloc (.cells #[.slice A n c, I 0] 59)) (w.heap.size + 1) w.heap.size ⟨b, false⟩ := by
    refine ⟨A, n, c, ?_, (HA.out.alloc _).alloc _, hc, by omega, fun h0 a ha => .inl ?_, by omega⟩
    · have := Blk.new (w.alloc (.cells #[I 0, .slice none 0 0, I 0, S [], S [], I 0] 26)) 59 #[.slice A n c, I 0]
      rwa [World.size_alloc] at this
    · obtain ⟨b', off', e, hb', _⟩ := HA.out.2 h0
      rw [e] at ha; cases ha; exact hb'
  refine (rdNum_at hR0 H1.out).mono ?_
  rintro e w1 ⟨rfl, hR1, hg1⟩
  have hZ1 : Blk w1 w.heap.size 26 #[I 0, .slice none 0 0, I 0, S [], S [], I 0] := ((Blk.new w _ _).alloc _).grown hg1 (by simp)
  have b1 : Below w.heap.size w w1 := (balloc (balloc (Below.refl _ w) _) _).grown hg1 (by simp; omega) (fun k hk => by cases hk; omega)
  have HR1 := Lib.hid hR1
  have HZ1 := Lib.hid hZ1
  have HB1 := Lib.hid b1
  clear hR0 hR1 hZ1 hg1 b1
  go_wp2_with fail
  refine (rdNum_at (HR1.out.step ((Below.refl _ w1).alloc (Nat.le_refl _) _)) H2.out).mono ?_
  rintro e w2 ⟨rfl, hR2, hg2⟩
  have hz1 : w.heap.size + 1 < w1.heap.size := HR1.out.lt
  have hP2 : Blk w2 w1.heap.size 26 #[I kind, .slice none 0 0, I 0, S [], S [], I 0] := (Blk.new w1 _ _).grown hg2 (by simp; omega)
  have hZ2 := (HZ1.out.alloc (.cells #[I kind, .slice none 0 0, I 0, S [], S [], I 0] 26)).grown hg2 (by simp)
  have b2 : Below w.heap.size w w2 := (balloc HB1.out _).grown hg2 (by simp; omega) (fun k hk => by cases hk; omega)
  have hlen2 : q2.bad = false → q2.b.length ≤ b.length := fun h => by
    have h3 := num_len H2.out h
    have h4 := num_len H1.out h3.1
    simp only at h4
    omega
  have HD := Lib.hid (show DecAt w w2 (w.heap.size + 1) w1.heap.size w.heap.size kind b [] q2 from ⟨hR2, hZ2, ⟨none, 0, 0, hP2, Ow.nil_ b2⟩, fun h => by simpa using hlen2 h, by simp⟩)
  clear HR1 HZ1 HB1 hR2 hP2 hZ2 b2 hg2 hlen2
  go_wp2_with fail
  go_loopw [6] (fun i wr => ∃ (j : Nat) (acc : List (List UInt8)) (r : Rd), i = .int .i64 j ∧ j ≤ n0 ∧ DecAt w wr (w.heap.size + 1) w1.heap.size w.heap.size kind b acc r ∧ Rd.ids j acc r = Rd.ids n0 [] q2) (fun i _ => (intOf i).toNat)
  case atStart => exact ⟨n0, [], q2, rfl, Nat.le_refl _, HD.out, rfl⟩
  case round =>
    obtain ⟨j, acc, r, rfl, hj, hD, hids⟩ := hrel
    obtain ⟨hR, hZ, ⟨As, m, cs, hP, hO⟩, hlen, hlen2⟩ := hD
    have Hids := Lib.hid hids
    have HR := Lib.hid hR
    have HZ := Lib.hid hZ
    have HP := Lib.hid hP
    have HO := Lib.hid hO
    have hzR := hR.lt
    have hzP := hP.lt
    obtain ⟨Ab, nb, cb, hB, _⟩ := id hR
    have rR := hB.cell
    clear hids HD hR hZ hB
    by_cases hgo : 0 < j ∧ r.bad = false
    · obtain ⟨hj0, hbad⟩ := hgo
      rw [hbad] at rR
      simp only [Bool.false_eq_true, if_false] at rR
      obtain ⟨s5, q5, h5⟩ : ∃ v q, r.id_ = (v, q) := ⟨_, _, rfl⟩
      have H5 := Lib.hid h5
      have Hbad := Lib.hid hbad
      have rP := hP.cell
      have fP := hP.frozen
      clear h5 hbad hP hO
      have hmb : m = acc.length := (strs_len HO.out.sl).symm
      have hmm : m + 1 ≤ maxLen := by simp only [maxLen]; have := hl.out; omega
      have hnn : (m + 1) * 16 ≤ 140737488355328 := by have := hl.out; omega
      have Hmb := Lib.hid hmb
      clear hmb
      have HRd := Lib.hid (HR.out.step (Below.refl _ wr).drew)
      have hPR : w1.heap.size ≠ w.heap.size + 1 := by omega
      go_wp2_with fail
      go_region_law (first
          | (refine step_append_sl _ (by rfl) (.tmp 29) (.tmp 32) _ (by rfl) w 9 i0 _ 1 16 Try.underlying22 hi0 hz0 hz1' hz2 rfl Nat.one_pos As m cs _ (by rfl) (hO3.alloc _) _ 1 1 [S s5] (by rfl) (sl_one _ _ _) (one_one rfl) hmm hnn ?_; intro A4 c4 w4 hO4 hg4 hat4; have hP4 := (hP3.alloc (.cells #[S s5] 9)).grown hg4 (own_ne (hO3.alloc (.cells #[S s5] 9)) (hP3.alloc _) (by decide)); have k2 := hP4.cell; have f2 := hP4.frozen)
          | (go_simp; go_at_call 30; refine (rdId_at HRd.out H5.out).mono ?_; rintro e w3 ⟨rfl, hR3, hg3⟩; obtain ⟨hP3, hZ3, hO3⟩ := dec_keep (w := w) HRd.out hg3 (by omega) hPR (by omega) HP.out.drew HZ.out.drew HO.out.drew; have k1 := hP3.cell; have hlt3 := hP3.lt))
      all_goals
        have hRn := ((hR3.step ((Below.refl _ w3).alloc (Nat.le_refl _) (.cells #[S s5] 9))).grown (hO3.alloc _) hg4 (by decide) (by decide))
        have hRf := Lib.hid (hRn.set_ (p := ⟨w1.heap.size, 1, none⟩) hP4 (by decide) (by decide) (by simp; omega) (.slice A4 (m + 1) c4))
        have hPf := Lib.hid (hP4.set_ 1 (.slice A4 (m + 1) c4))
        have hZf := Lib.hid (((hZ3.alloc (.cells #[S s5] 9)).grown hg4 (own_ne (hO3.alloc (.cells #[S s5] 9)) (hZ3.alloc _) (by decide))).far (p := ⟨w1.heap.size, 1, none⟩) (by simp; omega) (.slice A4 (m + 1) c4))
        have hOf := Lib.hid (show Ow w (w4.setCell ⟨w1.heap.size, 1, none⟩ (.slice A4 (m + 1) c4)) 9 1 A4 (m + 1) c4 (strs (acc ++ [s5])) by
          rw [strs, List.map_append]
          refine ⟨own_far hO4.1 (fun h => own_ne hO4 hP4 (by decide) h.symm) _, hO4.2.setCell (by simp; omega) _⟩)
        have hlf := Lib.hid (id_len H5.out Hbad.out)
        have hstep := Lib.hid (show Rd.ids (j - 1) (acc ++ [s5]) q5 = Rd.ids n0 [] q2 by
          rw [← Hids.out]
          obtain ⟨j', rfl⟩ : ∃ j', j = j' + 1 := ⟨j - 1, by omega⟩
          rw [Rd.ids, if_neg (by simp [Hbad.out]), H5.out]
          rfl)
        clear hR3 hRn hP3 hZ3 hO3 hP4 hO4 hg3 hg4 hat4 k1 k2 f2 rR rP fP hlt3
        go_wp2
        go_roundw
        case rel =>
          refine ⟨j - 1, acc ++ [s5], q5, by go_num, by omega, ⟨hRf.out, hZf.out, ⟨A4, m + 1, c4, hPf.out, hOf.out⟩, fun hq => ?_, ?_⟩, hstep.out⟩
          · have h1 := hlf.out
            have h2 := hlen Hbad.out
            rcases h1 with h1 | h1
            · simp; omega
            · rw [hq] at h1; cases h1.1
          · have h1 := hlf.out
            have h2 := hlen Hbad.out
            simp
            omega
        case measure => simp [intOf]; omega
    · have hfin := Lib.hid (show Rd.ids n0 [] q2 = (acc, r) by
        rw [← Hids.out]
        cases j with
        | zero => rfl
        | succ j' =>
          have hb : r.bad = true := by
            cases h : r.bad
            · exact absurd ⟨by omega, h⟩ hgo
            · rfl
          rw [Rd.ids, if_pos hb])
      obtain ⟨v4, q4, h4⟩ : ∃ v q, r.num = (v, q) := ⟨_, _, rfl⟩
      obtain ⟨v5, q5, h5⟩ : ∃ v q, q4.id_ = (v, q) := ⟨_, _, rfl⟩
      obtain ⟨v6, q6, h6⟩ : ∃ v q, q5.text = (v, q) := ⟨_, _, rfl⟩
      obtain ⟨v7, q7, h7⟩ : ∃ v q, q6.num = (v, q) := ⟨_, _, rfl⟩
      have hgot := Lib.hid (show gotOf b = ⟨kind, acc, v4, v5, v6, v7, q7.bad⟩ by
        simp only [gotOf, H1.out, H2.out, hfin.out, h4, h5, h6, h7])
      have H4 := Lib.hid h4
      have H5 := Lib.hid h5
      have H6 := Lib.hid h6
      have H7 := Lib.hid h7
      have hmle : m * 32 ≤ n + 32 := by have h1 := strs_len hO.sl; have h2 := hl.out; omega
      have hPR : w1.heap.size ≠ w.heap.size + 1 := by omega
      have hcase : (j = 0) ∨ (0 < j ∧ r.bad = true) := by
        rcases Nat.eq_zero_or_pos j with h0 | h0
        · exact .inl h0
        · right
          refine ⟨h0, ?_⟩
          cases h : r.bad
          · exact absurd ⟨h0, h⟩ hgo
          · rfl
      clear h4 h5 h6 h7 hgo hP hO hlen hlen2 Hids hfin
      rcases hcase with rfl | ⟨hj0, hbad⟩
      all_goals
        try (rw [hbad] at rR; simp only [if_true] at rR; clear hbad)
        go_wp2_with fail
        refine (rdNum_at HR.out H4.out).mono ?_
        rintro e w3 ⟨rfl, hR3, hg3⟩
        obtain ⟨hP3, hZ3, hO3⟩ := dec_keep (w := w) HR.out hg3 (by omega) hPR (by omega) HP.out HZ.out HO.out
        have HR3 := Lib.hid hR3
        have HP3 := Lib.hid hP3
        have HZ3 := Lib.hid hZ3
        have HO3 := Lib.hid hO3
        clear hR3 hP3 hZ3 hO3 hg3 rR
        go_wp2_with fail
        refine (rdId_at HR3.out H5.out).mono ?_
        rintro e w4 ⟨rfl, hR4, hg4⟩
        obtain ⟨hP4, hZ4, hO4⟩ := dec_keep (w := w) HR3.out hg4 (by omega) hPR (by omega) HP3.out HZ3.out HO3.out
        have HR4 := Lib.hid hR4
        have HP4 := Lib.hid hP4
        have HZ4 := Lib.hid hZ4
        have HO4 := Lib.hid hO4
        clear hR4 hP4 hZ4 hO4 hg4 HR3 HP3 HZ3 HO3
        go_wp2_with fail
        refine (rdText_at HR4.out H6.out).mono ?_
        rintro e w5 ⟨rfl, hR5, hg5⟩
        obtain ⟨hP5, hZ5, hO5⟩ := dec_keep (w := w) HR4.out hg5 (by omega) hPR (by omega) HP4.out HZ4.out HO4.out
        have HR5 := Lib.hid hR5
        have HP5 := Lib.hid hP5
        have HZ5 := Lib.hid hZ5
        have HO5 := Lib.hid hO5
        clear hR5 hP5 hZ5 hO5 hg5 HR4 HP4 HZ4 HO4
        go_wp2_with fail
        refine (rdNum_at HR5.out H7.out).mono ?_
        rintro e w6 ⟨rfl, hR6, hg6⟩
        obtain ⟨hP6, hZ6, hO6⟩ := dec_keep (w := w) HR5.out hg6 (by omega) hPR (by omega) HP5.out HZ5.out HO5.out
        have r6 := hP6.cell
        have f6 := hP6.frozen
        have HR6 := Lib.hid hR6
        have HP6 := Lib.hid hP6
        have HZ6 := Lib.hid hZ6
        have HO6 := Lib.hid hO6
        clear hR6 hP6 hZ6 hO6 hg6 HR5 HP5 HZ5 HO5
        go_wp2_with fail
        obtain ⟨W, hW⟩ : ∃ W, W = (((w6.setCell ⟨w1.heap.size, 2, none⟩ (I v4)).setCell ⟨w1.heap.size, 3, none⟩ (S v5)).setCell ⟨w1.heap.size, 4, none⟩ (S v6)).setCell ⟨w1.heap.size, 5, none⟩ (I v7) := ⟨_, rfl⟩
        have hPW : Blk W w1.heap.size 26 #[I kind, .slice As m cs, I v4, S v5, S v6, I v7] := by
          rw [hW]; exact (((HP6.out.set_ 2 _).set_ 3 _).set_ 4 _).set_ 5 _
        have hne : w.heap.size ≠ w1.heap.size := by omega
        have hZW : Blk W w.heap.size 26 #[I 0, .slice none 0 0, I 0, S [], S [], I 0] := by
          rw [hW]; exact (((HZ6.out.far (p := ⟨w1.heap.size, 2, none⟩) hne _).far (p := ⟨w1.heap.size, 3, none⟩) hne _).far (p := ⟨w1.heap.size, 4, none⟩) hne _).far (p := ⟨w1.heap.size, 5, none⟩) hne _
        have hRW : RdAt W (w.heap.size + 1) w.heap.size q7 := by
          rw [hW]
          exact (((HR6.out.set_ (p := ⟨w1.heap.size, 2, none⟩) HP6.out (by decide) (by decide) (by simp; omega) _).set_ (p := ⟨w1.heap.size, 3, none⟩) (HP6.out.set_ 2 _) (by decide) (by decide) (by simp; omega) _).set_ (p := ⟨w1.heap.size, 4, none⟩) ((HP6.out.set_ 2 _).set_ 3 _) (by decide) (by decide) (by simp; omega) _).set_ (p := ⟨w1.heap.size, 5, none⟩) (((HP6.out.set_ 2 _).set_ 3 _).set_ 4 _) (by decide) (by decide) (by simp; omega) _
        have hOW : Ow w W 9 1 As m cs (strs acc) := by
          have hn6 : (Value.slice As m cs).ownBlock ≠ some w1.heap.size := fun h => own_ne HO6.out HP6.out (by decide) h.symm
          rw [hW]
          refine ⟨own_far (p := ⟨w1.heap.size, 5, none⟩) (own_far (p := ⟨w1.heap.size, 4, none⟩) (own_far (p := ⟨w1.heap.size, 3, none⟩) (own_far (p := ⟨w1.heap.size, 2, none⟩) HO6.out.1 hn6 _) hn6 _) hn6 _) hn6 _, ?_⟩
          exact (((HO6.out.2.setCell (p := ⟨w1.heap.size, 2, none⟩) (by simp; omega) _).setCell (p := ⟨w1.heap.size, 3, none⟩) (by simp; omega) _).setCell (p := ⟨w1.heap.size, 4, none⟩) (by simp; omega) _).setCell (p := ⟨w1.heap.size, 5, none⟩) (by simp; omega) _
        rw [← hW]
        clear hW r6 f6 HR6 HP6 HZ6 HO6
        have HPW := Lib.hid hPW
        have HZW := Lib.hid hZW
        have HRW := Lib.hid hRW
        have HOW := Lib.hid hOW
        clear hPW hZW hRW hOW
        by_cases hok : PlanOk ⟨kind, acc, v4, v5, v6, v7⟩
        · refine (encode_ok kind v4 v7 As m cs v5 v6 acc W HOW.out.sl hok).mono ?_
          rintro e w8 ⟨A8, m8, c8, rfl, ho8⟩
          have hP8 := HPW.out.step ho8.2
          have hZ8 := HZW.out.step ho8.2
          obtain ⟨A9, n9, c9, hB9, _⟩ := HRW.out.step ho8.2
          have b8 := Lib.hid (bstep HOW.out.2 ho8.2)
          have HOw8 := Lib.hid (HOW.out.keep ho8.2)
          have hnZ := Lib.hid (show (Value.slice As m cs).ownBlock ≠ some w.heap.size from fun h => own_ne HOw8.out hZ8 (by decide) h.symm)
          have HO8 := Lib.hid ho8
          have hA8 := Lib.hid (HA.out.below b8.out)
          have rP8 := hP8.cell
          have rZ8 := hZ8.cell
          have fZ8 := hZ8.frozen
          have rB9 := hB9.cell
          have hm8 : m8 ≤ 9223372036854775807 := by
            have := ho8.cap
            simp only [maxLen] at this
            omega
          cases hb7 : q7.bad
          · rw [hb7] at rB9
            simp only [Bool.false_eq_true, if_false] at rB9
            have hgot' := Lib.hid (show gotOf b = ⟨kind, acc, v4, v5, v6, v7, false⟩ by rw [hgot.out, hb7])
            clear hP8 hZ8 hB9 ho8 hb7
            by_cases heq : encP kind acc v4 v5 v6 v7 = b
            · have hdec : decide (encP kind acc v4 v5 v6 v7 = b) = true := decide_eq_true heq
              have Heq := Lib.hid heq
              clear heq
              go_wp2_with fail
              refine (equalB_any A8 A m8 n c8 c _ b _ HO8.out.sl hA8.out hm8).mono ?_
              rintro e w9 ⟨rfl, k9, rfl⟩
              go_wp2
              refine bodyPost_ret (v := .tuple #[plV kind As m cs v4 v5 v6 v7, I 0]) (by simp [results, Try.results12, go_sem, rZ8]) rfl (.inl ⟨?_, As, m, cs, ?_, ?_, ?_, ?_⟩)
              · unfold DecOk; rw [hgot'.out]; exact ⟨rfl, hok, Heq.out⟩
              · rw [hgot'.out]
              · rw [hgot'.out]
                refine Sl.of_own (base := w.heap.size) (e := 9) (c := cs) ?_
                repeat with_reducible refine own_far ?_ hnZ.out _
                exact own_drewQ HOw8.out.1 _
              · have h1 := hok.1.2.1
                have h2 := strs_len HOw8.out.sl
                simp only at h1
                omega
              · repeat with_reducible refine Below.setCell ?_ (by simp) _
                exact below_drewN b8.out _
            · have hdec : decide (encP kind acc v4 v5 v6 v7 = b) = false := decide_eq_false heq
              have Heq := Lib.hid heq
              clear heq
              go_wp2_with fail
              refine (equalB_any A8 A m8 n c8 c _ b _ HO8.out.sl hA8.out hm8).mono ?_
              rintro e w9 ⟨rfl, k9, rfl⟩
              go_wp2
              refine bodyPost_ret (v := .tuple #[zeroPl, I 2]) (by simp [results, Try.results12, go_sem, rZ8]) rfl (.inr ⟨?_, rfl, ?_⟩)
              · unfold DecOk; rw [hgot'.out]; exact fun h => Heq.out h.2.2
              · repeat with_reducible refine Below.setCell ?_ (by simp) _
                exact below_drewN b8.out _
          · rw [hb7] at rB9
            simp only [if_true] at rB9
            have hgot' := Lib.hid (show gotOf b = ⟨kind, acc, v4, v5, v6, v7, true⟩ by rw [hgot.out, hb7])
            clear hP8 hZ8 hB9 ho8 hb7
            go_wp2
            refine bodyPost_ret (v := .tuple #[zeroPl, I 2]) (by simp [results, Try.results12, go_sem, rZ8]) rfl (.inr ⟨?_, rfl, ?_⟩)
            · unfold DecOk; rw [hgot'.out]; exact fun h => by cases h.1
            · repeat with_reducible refine Below.setCell ?_ (by simp) _
              exact b8.out
        · refine (encode_no kind As m cs v4 v5 v6 v7 acc W HOW.out.sl hok).mono ?_
          rintro e w8 ⟨rfl, hb8⟩
          have hZ8 := HZW.out.step hb8
          obtain ⟨A9, n9, c9, hB9, _⟩ := HRW.out.step hb8
          have b8 := Lib.hid (bstep HOW.out.2 hb8)
          have rZ8 := hZ8.cell
          have fZ8 := hZ8.frozen
          have rB9 := hB9.cell
          have hnot := Lib.hid (show ¬ DecOk b by
            unfold DecOk; rw [hgot.out]; exact fun h => hok h.2.1)
          cases hb7 : q7.bad
          all_goals
            rw [hb7] at rB9
            simp only [Bool.false_eq_true, if_false, if_true] at rB9
            clear hb7
            go_wp2
            refine bodyPost_ret (v := .tuple #[zeroPl, I 2]) (by simp [results, Try.results12, go_sem, rZ8]) rfl (.inr ⟨hnot.out, rfl, ?_⟩)
            repeat with_reducible refine Below.setCell ?_ (by simp) _
            exact b8.out
end Go.Proofs.Ytgcbolijdgecgaa
