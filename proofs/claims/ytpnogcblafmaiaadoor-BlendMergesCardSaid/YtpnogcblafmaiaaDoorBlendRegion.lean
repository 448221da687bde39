/-
  (*merger).region: the next part of base that turned. Conditions: the merger's and the sides' blocks as told.
-/
import Derived.Test.YtpnogcblafmaiaaDoorBlendRG
import Derived.IntWalk
import Derived.StillTailTactics
namespace Go.Proofs.YtpnogcblafmaiaaDoor
open Go.RowKit
open LineLaw (Hk)
open BlendLaw (grow firstHk beyond dl)

/-- what (*merger).region hands back -/
def RegPost (w : World) (gm g0 g1 : Nat) (s0 s1 : Sd) (v0 v3 v4 : Value) (R0 R1 : List Hk) (lo : Nat) (GG : Nat × List Hk × List Hk) (P0 P1 : Nat) (e : Ending) (w' : World) : Prop :=
  e = .returned (.tuple #[.agg #[I lo, I GG.1, .slice (cutA s0.A s0.c P0 1) (BlendLaw.pos s0.hs GG.2.1 GG.1 - P0) (s0.c - P0), .slice (cutA s1.A s1.c P1 1) (BlendLaw.pos s1.hs GG.2.2 GG.1 - P1) (s1.c - P1), .bool (decide (GG.2.1.length < R0.length)), .bool (decide (GG.2.2.length < R1.length))], .bool true]) ∧
    Nx w' g0 s0 GG.2.1 ∧ Nx w' g1 s1 GG.2.2 ∧ Blk w' gm 64 #[v0, ptr g0, ptr g1, v3, v4] ∧ Fr (EE w g0 g1) w w'

set_option maxHeartbeats 16000000 in
set_option maxRecDepth 100000 in
theorem region_yes (gm g0 g1 : Nat) (s0 s1 : Sd) (v0 v3 v4 : Value) (R0 R1 : List Hk) (h : Hk) (w : World) (hM : Blk w gm 64 #[v0, ptr g0, ptr g1, v3, v4]) (h0 : Nx w g0 s0 R0) (h1 : Nx w g1 s1 R1) (hf : firstHk R0 R1 = some h)
    (x : BlendLaw.Ls) (i0 j0 i1 j1 : Nat) (hA0 : BlendLaw.At x s0.l s0.hs R0 i0 j0) (hA1 : BlendLaw.At x s1.l s1.hs R1 i1 j1) (hi0 : i0 ≤ h.a0) (hi1 : i1 ≤ h.a0) (hne : g0 ≠ g1) (hlx : x.length ≤ 1000000000) (hl0 : s0.l.length ≤ 1000000000) (hl1 : s1.l.length ≤ 1000000000)
    (hn0 : s0.l.length ≤ s0.c) (hn1 : s1.l.length ≤ s1.c) (GG : Nat × List Hk × List Hk) (hGG : grow h.a1 R0 R1 = GG) (P0 P1 : Nat) (hP0 : BlendLaw.pos s0.hs R0 h.a0 = P0) (hP1 : BlendLaw.pos s1.hs R1 h.a0 = P1) :
    Calls Tryd.prog 43 #[ptr gm] w (RegPost w gm g0 g1 s0 s1 v0 v3 v4 R0 R1 h.a0 GG P0 P1) := by
  have hh : h.a0 ≤ h.a1 ∧ h.a1 ≤ x.length := by
    match R0, R1, hf with
    | a :: t, [], hf => obtain rfl : a = h := by simpa [firstHk] using hf
                        exact ⟨hA0.hunk.2.2.1, hA0.hunk.2.2.2.2.1⟩
    | [], b :: s, hf => obtain rfl : b = h := by simpa [firstHk] using hf
                        exact ⟨hA1.hunk.2.2.1, hA1.hunk.2.2.2.2.1⟩
    | a :: t, b :: s, hf =>
      simp only [firstHk] at hf
      split at hf
      · obtain rfl : b = h := by simpa using hf
        exact ⟨hA1.hunk.2.2.1, hA1.hunk.2.2.2.2.1⟩
      · obtain rfl : a = h := by simpa using hf
        exact ⟨hA0.hunk.2.2.1, hA0.hunk.2.2.2.2.1⟩
  have b0 := balloc (Below.refl _ w) (.cells #[I 0, I 0, .slice none 0 0, .slice none 0 0, .bool false, .bool false] 71)
  obtain ⟨gz, hF, hN⟩ := first_any (hM.step b0) (h0.step b0) (h1.step b0) hf
  have HF := Lib.hid hF
  have HN := Lib.hid hN
  have HM := Lib.hid hM
  clear hM hF hN
  obtain ⟨lo, hlo⟩ : ∃ n, h.a0 = n := ⟨_, rfl⟩
  obtain ⟨hi, hhi⟩ : ∃ n, h.a1 = n := ⟨_, rfl⟩
  obtain ⟨x2, hx2⟩ : ∃ x : Int, (h.b0 : Int) = x := ⟨_, rfl⟩
  obtain ⟨x3, hx3⟩ : ∃ x : Int, (h.b1 : Int) = x := ⟨_, rfl⟩
  rw [hlo, hhi, hx2, hx3] at HN
  rw [hlo] at hi0 hi1 hP0 hP1
  rw [hhi] at hGG
  rw [hlo]
  have hup := BlendLaw.first_le hf
  rw [hlo] at hup
  have Hup0 := Lib.hid (hA0.up hup.1)
  have Hup1 := Lib.hid (hA1.up hup.2)
  have po0 := hA0.pos_eq hi0
  have po1 := hA1.pos_eq hi1
  rw [hP0] at po0
  rw [hP1] at po1
  have of0 := hA0.off
  have of1 := hA1.off
  have le0 := hA0.le
  have le1 := hA1.le
  rw [hlo, hhi] at hh
  clear hx2 hx3
  have HA0 := Lib.hid hA0
  have HA1 := Lib.hid hA1
  have Hf := Lib.hid hf
  have Hlo := Lib.hid hlo
  have Hhi := Lib.hid hhi
  clear hA0 hA1 hf hlo hhi
  go_enter Tryd.func43, Tryd.ntmps43
  go_wp2_with fail
  refine HF.out.mono ?_
  rintro e w1 ⟨rfl, b1⟩
  go_wp2_with fail
  refine (HN.out _ b1).mono ?_
  rintro e w2 ⟨rfl, b2⟩
  have b3 := bstep b0 (bstep b1 b2)
  have HE := Lib.hid ((Blk.new w 71 #[I 0, I 0, .slice none 0 0, .slice none 0 0, .bool false, .bool false]).step (bstep b1 b2))
  have HM2 := Lib.hid (HM.out.step b3)
  have H02 := Lib.hid (h0.step b3)
  have H12 := Lib.hid (h1.step b3)
  have B3 := Lib.hid b3
  have hzE : w.heap.size < w2.heap.size := HE.out.lt
  clear HF HN HM b0 b1 b2 h0 h1 b3
  obtain ⟨m0, hm0⟩ : ∃ m, dl s0.hs - dl R0 = m := ⟨_, rfl⟩
  obtain ⟨m1, hm1⟩ : ∃ m, dl s1.hs - dl R1 = m := ⟨_, rfl⟩
  rw [hm0] at of0
  rw [hm1] at of1
  have hp0 : (lo : Int) + m0 = (P0 : Int) := by omega
  have hp1 : (lo : Int) + m1 = (P1 : Int) := by omega
  have hpb : P0 ≤ 2000000000 ∧ P1 ≤ 2000000000 := by omega
  have Hp0 := Lib.hid hp0
  have Hp1 := Lib.hid hp1
  have Hpo := Lib.hid (show P0 ≤ j0 + (lo - i0) ∧ P1 ≤ j1 + (lo - i1) by omega)
  clear of0 of1 po0 po1 hp0 hp1 hP0 hP1 le0 le1 hup
  go_wp2
  have hb3 := balloc (balloc (Below.refl _ w2) (.cells #[I lo, I hi, I x2, I x3] 33)) (.cells #[I lo, I hi, .slice none 0 0, .slice none 0 0, .bool false, .bool false] 71)
  have HM3 := Lib.hid (HM2.out.step hb3)
  have H03 := Lib.hid (H02.out.step hb3)
  have H13 := Lib.hid (H12.out.step hb3)
  have HE3 := Lib.hid (HE.out.step hb3)
  have hR3 := Blk.new (w2.alloc (.cells #[I lo, I hi, I x2, I x3] 33)) 71 #[I lo, I hi, .slice none 0 0, .slice none 0 0, .bool false, .bool false]
  rw [World.size_alloc] at hR3
  have HR3 := Lib.hid hR3
  have B33 := Lib.hid (bstep B3.out hb3)
  clear HM2 H02 H12 HE hR3 hb3 B3
  generalize (w2.alloc (.cells #[I lo, I hi, I x2, I x3] 33)).alloc (.cells #[I lo, I hi, .slice none 0 0, .slice none 0 0, .bool false, .bool false] 71) = w3 at *
  have rM := HM3.out.cell
  have zM := HM3.out.lt
  have r0 := H03.out.blk.cell
  have z0 := H03.out.blk.lt
  have r1 := H13.out.blk.cell
  have z1 := H13.out.blk.lt
  simp only [Sd.cells, hm0, hm1] at r0 r1
  clear hm0 hm1
  go_region
  go_wp2
  have hb4 := (balloc (Below.refl _ w3) (.cells #[I m0, I m1] 99)).drew
  have HP4 := Lib.hid (Blk.new w3 99 #[I m0, I m1]).drew
  have HG := Lib.hid (show RG w gm g0 g1 (w2.heap.size + 1) w3.heap.size w.heap.size s0 s1 #[v0, ptr g0, ptr g1, v3, v4] x lo R0 R1 m0 m1 P0 P1 (w3.alloc (.cells #[I m0, I m1] 99)).drew hi R0 R1 i0 j0 i1 j1 from
    ⟨HM3.out.step hb4, H03.out.step hb4, H13.out.step hb4, by simpa using HR3.out.step hb4, HP4.out, HE3.out.step hb4, .of_below (bstep B33.out hb4), HA0.out, HA1.out, by omega, by omega, hh.1, hh.2, ⟨by omega, by omega⟩, Nat.le_refl _, Nat.le_refl _, hne, Hup0.out, Hup1.out, Hpo.out.1, Hpo.out.2⟩)
  clear HM3 H03 H13 HR3 HP4 HE3 B33 hb4 rM zM r0 z0 r1 z1 Hup0 Hup1 Hpo
  generalize (w3.alloc (.cells #[I m0, I m1] 99)).drew = w4 at *
  generalize w2.heap.size + 1 = gr at *
  generalize w3.heap.size = gp at *
  generalize w2.heap.size = gh at *
  have hix0 := idx0 g0 g1
  have hix1 := idx1 g0 g1
  have HGG := Lib.hid hGG
  clear hGG hzE
  go_loopg [10] (R0.length + R1.length + 1) (fun n gv wr => ∃ (gb : Bool) (hi : Nat) (r0 r1 : List Hk) (i0 j0 i1 j1 : Nat), gv = .bool gb ∧ Hid (RG w gm g0 g1 gr gp w.heap.size s0 s1 #[v0, ptr g0, ptr g1, v3, v4] x lo R0 R1 m0 m1 P0 P1 wr hi r0 r1 i0 j0 i1 j1) ∧ Hid (grow hi r0 r1 = GG) ∧ Hid (gb = false → beyond hi r0 ∧ beyond hi r1) ∧ r0.length + r1.length + gb.toNat ≤ n)
  case atStart => exact ⟨true, hi, R0, R1, i0, j0, i1, j1, rfl, HG, HGG, Lib.hid (fun h => by cases h), by simp⟩
  case round =>
    clear HG HGG HA0 HA1 hi0 hi1 hh i0 j0 i1 j1
    obtain ⟨gb, hi, r0, r1, i0, j0, i1, j1, rfl, HG, HGG, Hb, hn⟩ := hrel
    cases gb with
    | false =>
      obtain ⟨hb0, hb1⟩ := Hb.out rfl
      have hp0 := Hp0.out
      have hp1 := Hp1.out
      have hG := HGG.out
      rw [BlendLaw.grow_stop hb0 hb1] at hG
      subst hG
      clear HGG Hb
      have e0 := HG.out.a0.off
      have e1 := HG.out.a1.off
      have k0 := HG.out.a0.room HG.out.le0 HG.out.hx hb0
      have k1 := HG.out.a1.room HG.out.le1 HG.out.hx hb1
      have l0 := HG.out.lw0
      have l1 := HG.out.lw1
      have d0 := HG.out.le0
      have d1 := HG.out.le1
      have d2 := HG.out.lohi
      have d3 := HG.out.hx
      have b0 := HG.out.a0.le
      have b1 := HG.out.a1.le
      obtain ⟨mm0, hmm0⟩ : ∃ m, dl s0.hs - dl r0 = m := ⟨_, rfl⟩
      obtain ⟨mm1, hmm1⟩ : ∃ m, dl s1.hs - dl r1 = m := ⟨_, rfl⟩
      obtain ⟨q0, hq0⟩ : ∃ q, BlendLaw.pos s0.hs r0 hi = q := ⟨_, rfl⟩
      obtain ⟨q1, hq1⟩ : ∃ q, BlendLaw.pos s1.hs r1 hi = q := ⟨_, rfl⟩
      have f0 := HG.out.a0.pos_eq d0
      have f1 := HG.out.a1.pos_eq d1
      rw [hq0] at f0
      rw [hq1] at f1
      rw [hmm0] at e0
      rw [hmm1] at e1
      have t0 : (hi : Int) + mm0 = (q0 : Int) := by omega
      have t1 : (hi : Int) + mm1 = (q1 : Int) := by omega
      have u0 : P0 ≤ q0 ∧ q0 ≤ s0.c := by omega
      have u1 : P1 ≤ q1 ∧ q1 ≤ s1.c := by omega
      have hlob : lo ≤ 1000000000 := by omega
      have hhib : hi ≤ 1000000000 := by omega
      have hmmb : (-1000000000 ≤ mm0 ∧ mm0 ≤ 1000000000) ∧ (-1000000000 ≤ mm1 ∧ mm1 ≤ 1000000000) := by omega
      obtain ⟨⟨mb1, mb2⟩, mb3, mb4⟩ := hmmb
      have kc0 := fun W : World => run_cut_lh (P := Tryd.prog) W Tryd.underlying22 Tryd.sizeStr s0.A s0.n s0.c .i64 .i64 P0 q0 u0.1 u0.2
      have kc1 := fun W : World => run_cut_lh (P := Tryd.prog) W Tryd.underlying22 Tryd.sizeStr s1.A s1.n s1.c .i64 .i64 P1 q1 u1.1 u1.2
      have rM := HG.out.m.cell
      have rR := HG.out.r.cell
      have fR := HG.out.r.frozen
      have rP := HG.out.p.cell
      have r0c := HG.out.n0.blk.cell
      have r1c := HG.out.n1.blk.cell
      have hne0 : ¬ g0 = gr := HG.out.n0.blk.tne HG.out.r (by decide)
      have hne1 : ¬ g1 = gr := HG.out.n1.blk.tne HG.out.r (by decide)
      have hne2 : ¬ gp = gr := HG.out.p.tne HG.out.r (by decide)
      have hne3 : ¬ gr = g1 := fun h => hne1 h.symm
      have hne4 : ¬ gr = gp := fun h => hne2 h.symm
      have hne5 : ¬ gm = gr := HG.out.m.tne HG.out.r (by decide)
      have zR := HG.out.r.lt
      simp only [Sd.cells, hmm0, hmm1] at r0c r1c
      have Hq0 := Lib.hid hq0
      have Hq1 := Lib.hid hq1
      have Hmm1 := Lib.hid hmm1
      have HB := Lib.hid HG.out.blocks
      have Hnew := Lib.hid HG.out.new
      have W1 : IntKind.i64.wrap ((lo : Int) + m0) = (P0 : Int) := by rw [hp0]; exact IntWalk.i64_in _ (by omega)
      have W2 : IntKind.i64.wrap ((lo : Int) + m1) = (P1 : Int) := by rw [hp1]; exact IntWalk.i64_in _ (by omega)
      have W3 : IntKind.i64.wrap ((hi : Int) + mm0) = (q0 : Int) := by rw [t0]; exact IntWalk.i64_in _ (by omega)
      have W4 : IntKind.i64.wrap ((hi : Int) + mm1) = (q1 : Int) := by rw [t1]; exact IntWalk.i64_in _ (by omega)
      clear hq0 hq1 hmm0 hmm1 e0 e1 f0 f1 t0 t1 k0 k1 l0 l1 d0 d1 b0 b1 hb0 hb1 HG hn u0 u1 hp0 hp1
      go_wp2
      refine wp_loop_rounds 3 ?_
      rw [rounds_succ]
      go_wp2
      go_still_tail 21, (by kernel_rfl)
      go_wp2
      clear kc0 W1 W3 r0c rP rR fR
      have HB1 := Lib.hid ((HB.out.setR Hnew.out 2 (.slice (cutA s0.A s0.c P0 1) (q0 - P0) (s0.c - P0))).step (Below.refl _ _).drew)
      rw [rounds_succ]
      have es : (rgc lo hi (decide (r0.length < R0.length)) (decide (r1.length < R1.length))).setIfInBounds 2 (.slice (cutA s0.A s0.c P0 1) (q0 - P0) (s0.c - P0)) = #[I lo, I hi, .slice (cutA s0.A s0.c P0 1) (q0 - P0) (s0.c - P0), .slice none 0 0, .bool (decide (r0.length < R0.length)), .bool (decide (r1.length < R1.length))] := rfl
      rw [es] at HB1
      clear es r1c
      generalize (wr.setCell ⟨gr, 2, none⟩ (.slice (cutA s0.A s0.c P0 1) (q0 - P0) (s0.c - P0))).drew = w7 at *
      have rR := HB1.out.r.cell
      have fR := HB1.out.r.frozen
      have rP := HB1.out.p.cell
      have r1c := HB1.out.n1.blk.cell
      have Hmm1' := Hmm1.out
      simp only [Sd.cells, Hmm1'] at r1c
      clear Hmm1'
      go_wp2
      go_still_tail 21, (by kernel_rfl)
      go_wp2
      clear kc1 W2 W4 r1c rP rR fR
      have HB2 := Lib.hid ((HB1.out.setR Hnew.out 3 (.slice (cutA s1.A s1.c P1 1) (q1 - P1) (s1.c - P1))).step (Below.refl _ _).drew)
      rw [rounds_succ]
      have es : (#[I lo, I hi, .slice (cutA s0.A s0.c P0 1) (q0 - P0) (s0.c - P0), .slice none 0 0, .bool (decide (r0.length < R0.length)), .bool (decide (r1.length < R1.length))] : Array Value).setIfInBounds 3 (.slice (cutA s1.A s1.c P1 1) (q1 - P1) (s1.c - P1)) = #[I lo, I hi, .slice (cutA s0.A s0.c P0 1) (q0 - P0) (s0.c - P0), .slice (cutA s1.A s1.c P1 1) (q1 - P1) (s1.c - P1), .bool (decide (r0.length < R0.length)), .bool (decide (r1.length < R1.length))] := rfl
      rw [es] at HB2
      clear es HB1
      generalize (w7.setCell ⟨gr, 3, none⟩ (.slice (cutA s1.A s1.c P1 1) (q1 - P1) (s1.c - P1))).drew = w8 at *
      have rR := HB2.out.r.cell
      have rE := HB2.out.e.cell
      have fE := HB2.out.e.frozen
      have hz8 : w.heap.size ≤ w.heap.size := Nat.le_refl _
      clear rM
      obtain ⟨T0, hT0⟩ : ∃ b, decide (r0.length < R0.length) = b := ⟨_, rfl⟩
      obtain ⟨T1, hT1⟩ : ∃ b, decide (r1.length < R1.length) = b := ⟨_, rfl⟩
      rw [hT0, hT1] at rR
      have HT0 := Lib.hid hT0
      have HT1 := Lib.hid hT1
      clear hT0 hT1
      go_wp2
      refine bodyPost_ret (v := .tuple #[.agg #[I lo, I hi, .slice (cutA s0.A s0.c P0 1) (q0 - P0) (s0.c - P0), .slice (cutA s1.A s1.c P1 1) (q1 - P1) (s1.c - P1), .bool T0, .bool T1], .bool true]) (by simp [results, Tryd.results43, go_sem, rE]) rfl ?_
      have hfin := ((((((HB2.out.fin.set_ hz8 0 (I lo)).set_ hz8 1 (I hi)).set_ hz8 2 (.slice (cutA s0.A s0.c P0 1) (q0 - P0) (s0.c - P0))).set_ hz8 3 (.slice (cutA s1.A s1.c P1 1) (q1 - P1) (s1.c - P1))).set_ hz8 4 (.bool T0)).set_ hz8 5 (.bool T1))
      refine ⟨?_, hfin.1, hfin.2.1, hfin.2.2.1, hfin.2.2.2.1⟩
      show Ending.returned _ = Ending.returned _
      rw [← HT0.out, ← HT1.out, ← Hq0.out, ← Hq1.out]
    | true =>
      clear Hb
      have rM := HG.out.m.cell
      have zM := HG.out.m.lt
      obtain ⟨wo, rfl⟩ : ∃ wo : World, wo = wr := ⟨_, rfl⟩
      obtain ⟨K1, rfl⟩ : ∃ n : Nat, n = gk := ⟨_, rfl⟩
      go_wp2
      clear rM zM
      go_loopg [10, 57] 2 (fun n gv iv wr => ∃ (k : Nat) (gb : Bool) (hi : Nat) (r0 r1 : List Hk) (i0 j0 i1 j1 : Nat), iv = .int .i64 k ∧ k + n = 2 ∧ gv = .bool gb ∧ Hid (RG w gm g0 g1 gr gp w.heap.size s0 s1 #[v0, ptr g0, ptr g1, v3, v4] x lo R0 R1 m0 m1 P0 P1 wr hi r0 r1 i0 j0 i1 j1) ∧ Hid (grow hi r0 r1 = GG) ∧ Hid (gb = false → (1 ≤ k → beyond hi r0) ∧ (2 ≤ k → beyond hi r1)) ∧ r0.length + r1.length + gb.toNat + 1 ≤ K1)
      case atStart => exact ⟨0, false, hi, r0, r1, i0, j0, i1, j1, rfl, rfl, rfl, HG, HGG, Lib.hid (fun _ => ⟨fun h => absurd h (by omega), fun h => absurd h (by omega)⟩), by simp at hn ⊢; omega⟩
      case round =>
        clear HG HGG hn i0 j0 i1 j1
        obtain ⟨k, gb, hi, r0, r1, i0, j0, i1, j1, rfl, hk, rfl, HG, HGG, Hb, hn⟩ := hrel
        have hk3 : k = 0 ∨ k = 1 ∨ k = 2 := by omega
        rcases hk3 with rfl | rfl | rfl
        · obtain ⟨yy, hyy⟩ : ∃ yy, r0 = yy := ⟨_, rfl⟩
          cases r0 with
          | nil =>
            clear hyy
            have Hcall := Lib.hid HG.out.n0.no
            go_wp2_with fail
            refine Hcall.out.mono ?_
            rintro e w5 ⟨rfl, b5⟩
            have HG5 := Lib.hid (HG.out.step (bstep b5 (balloc (Below.refl _ _) (.cells #[I 0, I 0, I 0, I 0] 33))))
            clear b5 Hcall
            go_wp2
            go_roundg (gk - 1)
            case measure => omega
            case rel => exact ⟨1, gb, hi, [], r1, i0, j0, i1, j1, rfl, by omega, rfl, HG5, HGG, Lib.hid (fun _ => ⟨fun _ => trivial, fun h2 => absurd h2 (by omega)⟩), hn⟩
          | cons a t =>
            clear hyy
            have Hcall := Lib.hid HG.out.n0.yes
            obtain ⟨hu1, hu2, hu3, hu4, hu5, hu6, hu7⟩ := HG.out.a0.hunk
            by_cases hle : a.a0 ≤ hi
            · obtain ⟨mm, hmm⟩ : ∃ m, dl s0.hs - dl (a :: t) = m := ⟨_, rfl⟩
              obtain ⟨q, hq⟩ : ∃ q, s0.hs.length - (a :: t).length = q := ⟨_, rfl⟩
              have hfw := HG.out.n0.few
              have hqq : ((s0.hs.length : Int) - ((a :: t).length : Nat)) = (q : Int) := by omega
              have hmb : -1000000000 ≤ mm ∧ mm ≤ 1000000000 := by
                have h1 := HG.out.a0.off
                have h2 := HG.out.a0.le
                rw [hmm] at h1
                omega
              have hqb : q ≤ 1000000000000 := by have h1 := HG.out.n0.lim; have h2 := hks_count HG.out.n0.row; omega
              go_wp2_with fail
              refine Hcall.out.mono ?_
              rintro e w5 ⟨rfl, b5⟩
              have G5 := HG.out.step b5
              have rR := G5.r.cell
              have fR := G5.r.frozen
              have zR := G5.r.lt
              have rS := G5.n0.blk.cell
              have fS := G5.n0.blk.frozen
              have zS := G5.n0.blk.lt
              have ne1 : ¬ g0 = gr := G5.n0.blk.tne G5.r (by decide)
              have ne2 : ¬ gr = g0 := fun h => ne1 h.symm
              simp only [Sd.cells, hmm, hqq] at rS
              have HB5 := Lib.hid b5
              have Hmm := Lib.hid hmm
              have Hqq := Lib.hid hqq
              clear b5 Hcall G5 hmm hqq hq hfw
              obtain ⟨hi2, hhi2⟩ : ∃ n, max hi a.a1 = n := ⟨_, rfl⟩
              have hmx : max (hi : Int) (a.a1 : Int) = (hi2 : Int) := by omega
              have hh2 : hi2 ≤ 1000000000 := by have h1 := HG.out.hx; omega
              have Hhi2 := Lib.hid hhi2
              clear hhi2
              go_wp2
              have hZ := Blk.new ((w5.setCell ⟨gr, 1, none⟩ (I hi2)).setCell ⟨gr, 4, none⟩ (.bool true)) 33 #[I a.a0, I a.a1, I a.b0, I a.b1]
              rw [setCell_size, setCell_size] at hZ
              obtain ⟨w6, hw6⟩ : ∃ w6, ((w5.setCell ⟨gr, 1, none⟩ (I hi2)).setCell ⟨gr, 4, none⟩ (.bool true)).alloc (.cells #[I a.a0, I a.a1, I a.b0, I a.b1] 33) = w6 := ⟨_, rfl⟩
              have HQ := Lib.hid (HG.out.absorb0 HB5.out _ Hhi2.out.symm hw6)
              rw [hw6] at hZ
              clear rR fR zR rS fS zS hmx
              rw [hw6]
              clear hw6
              have rS := HQ.out.n0.blk.cell
              have fS := HQ.out.n0.blk.frozen
              have zS := HQ.out.n0.blk.lt
              simp only [Sd.cells, Hmm.out, Hqq.out] at rS
              have rZ := hZ.cell
              have zZ := hZ.lt
              clear hZ
              go_region
              go_wp2
              go_roundg (gk - 1)
              case measure => omega
              case rel =>
                refine ⟨1, true, hi2, t, r1, a.a1, a.b1, i1, j1, rfl, by omega, rfl, Lib.hid (HG.out.taken0 Hhi2.out.symm HQ.out 1 ?_ ?_), Lib.hid (by rw [← HGG.out, BlendLaw.grow_left hle, Hhi2.out]), Lib.hid (fun h => by cases h), by simp at hn ⊢; omega⟩
                · have h1 := Hmm.out
                  simp only [dl] at h1
                  omega
                · have h1 := Hqq.out
                  simp only [List.length_cons] at h1
                  omega
            · have hd : decide (a.a0 ≤ hi) = false := by simpa using hle
              go_wp2_with fail
              refine Hcall.out.mono ?_
              rintro e w5 ⟨rfl, b5⟩
              have rR := (HG.out.step b5).r.cell
              have zR := (HG.out.step b5).r.lt
              have HG5 := Lib.hid (HG.out.step (bstep b5 (balloc (Below.refl _ _) (.cells #[I a.a0, I a.a1, I a.b0, I a.b1] 33))))
              clear b5 Hcall
              go_wp2
              go_roundg (gk - 1)
              case measure => omega
              case rel => exact ⟨1, gb, hi, (a :: t), r1, i0, j0, i1, j1, rfl, by omega, rfl, HG5, HGG, Lib.hid (fun _ => ⟨fun _ => by simp only [beyond]; omega, fun h2 => absurd h2 (by omega)⟩), hn⟩
        · obtain ⟨yy, hyy⟩ : ∃ yy, r1 = yy := ⟨_, rfl⟩
          cases r1 with
          | nil =>
            clear hyy
            have Hcall := Lib.hid HG.out.n1.no
            go_wp2_with fail
            refine Hcall.out.mono ?_
            rintro e w5 ⟨rfl, b5⟩
            have HG5 := Lib.hid (HG.out.step (bstep b5 (balloc (Below.refl _ _) (.cells #[I 0, I 0, I 0, I 0] 33))))
            clear b5 Hcall
            go_wp2
            go_roundg (gk - 1)
            case measure => omega
            case rel => exact ⟨2, gb, hi, r0, [], i0, j0, i1, j1, rfl, by omega, rfl, HG5, HGG, Lib.hid (fun h => ⟨fun _ => (Hb.out h).1 (by omega), fun _ => trivial⟩), hn⟩
          | cons a t =>
            clear hyy
            have Hcall := Lib.hid HG.out.n1.yes
            obtain ⟨hu1, hu2, hu3, hu4, hu5, hu6, hu7⟩ := HG.out.a1.hunk
            by_cases hle : a.a0 ≤ hi
            · obtain ⟨mm, hmm⟩ : ∃ m, dl s1.hs - dl (a :: t) = m := ⟨_, rfl⟩
              obtain ⟨q, hq⟩ : ∃ q, s1.hs.length - (a :: t).length = q := ⟨_, rfl⟩
              have hfw := HG.out.n1.few
              have hqq : ((s1.hs.length : Int) - ((a :: t).length : Nat)) = (q : Int) := by omega
              have hmb : -1000000000 ≤ mm ∧ mm ≤ 1000000000 := by
                have h1 := HG.out.a1.off
                have h2 := HG.out.a1.le
                rw [hmm] at h1
                omega
              have hqb : q ≤ 1000000000000 := by have h1 := HG.out.n1.lim; have h2 := hks_count HG.out.n1.row; omega
              go_wp2_with fail
              refine Hcall.out.mono ?_
              rintro e w5 ⟨rfl, b5⟩
              have G5 := HG.out.step b5
              have rR := G5.r.cell
              have fR := G5.r.frozen
              have zR := G5.r.lt
              have rS := G5.n1.blk.cell
              have fS := G5.n1.blk.frozen
              have zS := G5.n1.blk.lt
              have ne1 : ¬ g1 = gr := G5.n1.blk.tne G5.r (by decide)
              have ne2 : ¬ gr = g1 := fun h => ne1 h.symm
              simp only [Sd.cells, hmm, hqq] at rS
              have HB5 := Lib.hid b5
              have Hmm := Lib.hid hmm
              have Hqq := Lib.hid hqq
              clear b5 Hcall G5 hmm hqq hq hfw
              obtain ⟨hi2, hhi2⟩ : ∃ n, max hi a.a1 = n := ⟨_, rfl⟩
              have hmx : max (hi : Int) (a.a1 : Int) = (hi2 : Int) := by omega
              have hh2 : hi2 ≤ 1000000000 := by have h1 := HG.out.hx; omega
              have Hhi2 := Lib.hid hhi2
              clear hhi2
              go_wp2
              have hZ := Blk.new ((w5.setCell ⟨gr, 1, none⟩ (I hi2)).setCell ⟨gr, 5, none⟩ (.bool true)) 33 #[I a.a0, I a.a1, I a.b0, I a.b1]
              rw [setCell_size, setCell_size] at hZ
              obtain ⟨w6, hw6⟩ : ∃ w6, ((w5.setCell ⟨gr, 1, none⟩ (I hi2)).setCell ⟨gr, 5, none⟩ (.bool true)).alloc (.cells #[I a.a0, I a.a1, I a.b0, I a.b1] 33) = w6 := ⟨_, rfl⟩
              have HQ := Lib.hid (HG.out.absorb1 HB5.out _ Hhi2.out.symm hw6)
              rw [hw6] at hZ
              clear rR fR zR rS fS zS hmx
              rw [hw6]
              clear hw6
              have rS := HQ.out.n1.blk.cell
              have fS := HQ.out.n1.blk.frozen
              have zS := HQ.out.n1.blk.lt
              simp only [Sd.cells, Hmm.out, Hqq.out] at rS
              have rZ := hZ.cell
              have zZ := hZ.lt
              clear hZ
              go_region
              go_wp2
              go_roundg (gk - 1)
              case measure => omega
              case rel =>
                refine ⟨2, true, hi2, r0, t, i0, j0, a.a1, a.b1, rfl, by omega, rfl, Lib.hid (HG.out.taken1 Hhi2.out.symm HQ.out 1 ?_ ?_), Lib.hid (by rw [← HGG.out, BlendLaw.grow_right hle, Hhi2.out]), Lib.hid (fun h => by cases h), by simp at hn ⊢; omega⟩
                · have h1 := Hmm.out
                  simp only [dl] at h1
                  omega
                · have h1 := Hqq.out
                  simp only [List.length_cons] at h1
                  omega
            · have hd : decide (a.a0 ≤ hi) = false := by simpa using hle
              go_wp2_with fail
              refine Hcall.out.mono ?_
              rintro e w5 ⟨rfl, b5⟩
              have rR := (HG.out.step b5).r.cell
              have zR := (HG.out.step b5).r.lt
              have HG5 := Lib.hid (HG.out.step (bstep b5 (balloc (Below.refl _ _) (.cells #[I a.a0, I a.a1, I a.b0, I a.b1] 33))))
              clear b5 Hcall
              go_wp2
              go_roundg (gk - 1)
              case measure => omega
              case rel => exact ⟨2, gb, hi, r0, (a :: t), i0, j0, i1, j1, rfl, by omega, rfl, HG5, HGG, Lib.hid (fun h => ⟨fun _ => (Hb.out h).1 (by omega), fun _ => by simp only [beyond]; omega⟩), hn⟩
        · go_wp2
          go_roundg (K1 - 1)
          case measure => omega
          case rel => exact ⟨gb, hi, r0, r1, i0, j0, i1, j1, rfl, HG, HGG, Lib.hid (fun h => ⟨(Hb.out h).1 (by omega), (Hb.out h).2 (by omega)⟩), by omega⟩
end Go.Proofs.YtpnogcblafmaiaaDoor
