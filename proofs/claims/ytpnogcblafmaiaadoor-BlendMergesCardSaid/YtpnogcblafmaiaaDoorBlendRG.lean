/-
  (*merger).first, whichever; what holds while a region grows; (*merger).region where there is none. Conditions: the merger's and the sides' blocks as told.
-/
import Derived.Test.YtpnogcblafmaiaaDoorBlendFirst
import Derived.Deep.RegionLaw
namespace Go.Proofs.YtpnogcblafmaiaaDoor
open Go.RowKit
open LineLaw (Hk)
open BlendLaw (grow firstHk beyond dl)

/-- (*merger).first, whichever it is: r is what is left of the side that it gives -/
theorem first_any {gm g0 g1 : Nat} {s0 s1 : Sd} {v0 v3 v4 : Value} {R0 R1 : List Hk} {h : Hk} {w : World} (hM : Blk w gm 64 #[v0, ptr g0, ptr g1, v3, v4]) (h0 : Nx w g0 s0 R0) (h1 : Nx w g1 s1 R1) (hf : firstHk R0 R1 = some h) :
    ∃ gz, Calls Tryd.prog 54 #[ptr gm] w (fun e w' => e = .returned (.tuple #[ptr gz, .bool true]) ∧ Below w.heap.size w w') ∧
      ∀ w', Below w.heap.size w w' → Calls Tryd.prog 55 #[ptr gz] w' fun e w'' => e = .returned (.tuple #[hkV h.a0 h.a1 h.b0 h.b1, .bool true]) ∧ Below w'.heap.size w' w'' := by
  match R0, R1, hf with
  | a :: t, [], hf =>
    obtain rfl : a = h := by simpa [firstHk] using hf
    exact ⟨g0, first_l gm g0 g1 s0 s1 v0 v3 v4 a t w hM h0 h1, fun w' hb => (h0.step hb).yes⟩
  | [], b :: s, hf =>
    obtain rfl : b = h := by simpa [firstHk] using hf
    exact ⟨g1, first_r gm g0 g1 s0 s1 v0 v3 v4 b s w hM h0 h1, fun w' hb => (h1.step hb).yes⟩
  | a :: t, b :: s, hf =>
    have hc := first_both gm g0 g1 s0 s1 v0 v3 v4 a t b s w hM h0 h1
    simp only [firstHk] at hf
    split at hf
    · rename_i hlt
      obtain rfl : b = h := by simpa using hf
      rw [if_pos hlt] at hc
      exact ⟨g1, hc, fun w' hb => (h1.step hb).yes⟩
    · rename_i hlt
      obtain rfl : a = h := by simpa using hf
      rw [if_neg hlt] at hc
      exact ⟨g0, hc, fun w' hb => (h0.step hb).yes⟩

/-- a region's cells while it grows -/
abbrev rgc (lo hi : Nat) (t0 t1 : Bool) : Array Value := #[I lo, I hi, .slice none 0 0, .slice none 0 0, .bool t0, .bool t1]
/-- what may turn below the end of w: the two sides -/
abbrev EE (w : World) (g0 g1 : Nat) : Nat → Prop := fun k => k = g0 ∨ k = g1 ∨ w.heap.size ≤ k

theorem Nx.setFar {w : World} {g : Nat} {s : Sd} {r : List Hk} {p : Addr} {t : TypeId} {cs : Array Value} (h : Nx w g s r) (hp : Blk w p.block t cs) (ht : 33 ≠ t) (hne : g ≠ p.block) (u : Value) : Nx (w.setCell p u) g s r := by
  refine ⟨h.blk.far hne u, ⟨h.row.1, fun hn => ?_⟩, h.few, h.suf, h.lim, fun b off hk he => (h.typ b off hk he).set_ p u⟩
  obtain ⟨b, off, e, hb, hc⟩ := h.row.2 hn
  have hbn := (h.typ b off hn e).ne_ hp ht
  exact ⟨b, off, e, by rw [setCell_size]; exact hb, fun k hk => (World.cell?_of_block (Below.heap_setCell w p u b hbn)).trans (hc k hk)⟩
/-- a hunk of a side is taken -/
theorem Nx.take_ {w : World} {g : Nat} {s : Sd} {a : Hk} {t : List Hk} (h : Nx w g s (a :: t)) {m d : Int} (hm : m = dl s.hs - dl t) (hd : d = (s.hs.length : Int) - t.length) : Nx ((w.setCell ⟨g, 2, none⟩ (I m)).setCell ⟨g, 3, none⟩ (I d)) g s t := by
  have hb := (h.blk.set_ 2 (I m)).set_ 3 (I d)
  have e : ((s.cells (a :: t)).setIfInBounds 2 (I m)).setIfInBounds 3 (I d) = s.cells t := by rw [hm, hd]; rfl
  rw [e] at hb
  have hf := h.few
  have hs := h.suf
  refine ⟨hb, ⟨h.row.1, fun hn => ?_⟩, by simp at hf; omega, ?_, h.lim, fun b off hk he => ((h.typ b off hk he).set_ _ _).set_ _ _⟩
  · obtain ⟨b, off, e, hb', hc⟩ := h.row.2 hn
    have hbn := (h.typ b off hn e).ne_ h.blk (by decide)
    refine ⟨b, off, e, by rw [setCell_size, setCell_size]; exact hb', fun k hk => ?_⟩
    rw [World.cell?_of_block (Below.heap_setCell _ ⟨g, 3, none⟩ (I d) b hbn), World.cell?_of_block (Below.heap_setCell w ⟨g, 2, none⟩ (I m) b hbn)]
    exact hc k hk
  · have h1 := congrArg List.tail hs
    rw [List.tail_drop] at h1
    simp only [List.length_cons, List.tail_cons] at h1 hf
    rw [← show s.hs.length - (t.length + 1) + 1 = s.hs.length - t.length by omega]
    exact h1

/-- what holds while a region grows -/
structure RG (w : World) (gm g0 g1 gr gp ge : Nat) (s0 s1 : Sd) (mc : Array Value) (x : BlendLaw.Ls) (lo : Nat) (R0 R1 : List Hk) (b0 b1 : Int) (P0 P1 : Nat) (wr : World) (hi : Nat) (r0 r1 : List Hk) (i0 j0 i1 j1 : Nat) : Prop where
  m : Blk wr gm 64 mc
  n0 : Nx wr g0 s0 r0
  n1 : Nx wr g1 s1 r1
  r : Blk wr gr 71 (rgc lo hi (decide (r0.length < R0.length)) (decide (r1.length < R1.length)))
  p : Blk wr gp 99 #[I b0, I b1]
  e : Blk wr ge 71 (rgc 0 0 false false)
  fr : Fr (EE w g0 g1) w wr
  a0 : BlendLaw.At x s0.l s0.hs r0 i0 j0
  a1 : BlendLaw.At x s1.l s1.hs r1 i1 j1
  le0 : i0 ≤ hi
  le1 : i1 ≤ hi
  lohi : lo ≤ hi
  hx : hi ≤ x.length
  new : w.heap.size ≤ gr ∧ gr ≠ ge
  few0 : r0.length ≤ R0.length
  few1 : r1.length ≤ R1.length
  ne : g0 ≠ g1
  up0 : ∀ a ∈ r0, lo ≤ a.a0
  up1 : ∀ a ∈ r1, lo ≤ a.a0
  lw0 : P0 ≤ j0 + (lo - i0)
  lw1 : P1 ≤ j1 + (lo - i1)

theorem Blk.tne {w : World} {g g' : Nat} {t t' : TypeId} {cs cs' : Array Value} (h : Blk w g t cs) (h' : Blk w g' t' cs') (hne : t ≠ t') : g ≠ g' := by
  rintro rfl
  unfold Blk at h h'
  rw [h] at h'
  injection h' with h'
  injection h' with _ ht
  exact hne ht
section
variable {w : World} {gm g0 g1 gr gp ge : Nat} {s0 s1 : Sd} {mc : Array Value} {x : BlendLaw.Ls} {lo : Nat} {R0 R1 : List Hk} {b0 b1 : Int} {P0 P1 : Nat} {wr wr' : World} {hi : Nat} {r0 r1 : List Hk} {i0 j0 i1 j1 : Nat}
theorem RG.step (h : RG w gm g0 g1 gr gp ge s0 s1 mc x lo R0 R1 b0 b1 P0 P1 wr hi r0 r1 i0 j0 i1 j1) (hb : Below wr.heap.size wr wr') : RG w gm g0 g1 gr gp ge s0 s1 mc x lo R0 R1 b0 b1 P0 P1 wr' hi r0 r1 i0 j0 i1 j1 :=
  ⟨h.m.step hb, h.n0.step hb, h.n1.step hb, h.r.step hb, h.p.step hb, h.e.step hb, h.fr.step hb, h.a0, h.a1, h.le0, h.le1, h.lohi, h.hx, h.new, h.few0, h.few1, h.ne, h.up0, h.up1, h.lw0, h.lw1⟩
/-- the blocks alone -/
structure RGB (w : World) (gm g0 g1 gr gp ge : Nat) (s0 s1 : Sd) (mc : Array Value) (b0 b1 : Int) (wr : World) (rc : Array Value) (r0 r1 : List Hk) : Prop where
  m : Blk wr gm 64 mc
  n0 : Nx wr g0 s0 r0
  n1 : Nx wr g1 s1 r1
  r : Blk wr gr 71 rc
  p : Blk wr gp 99 #[I b0, I b1]
  e : Blk wr ge 71 (rgc 0 0 false false)
  fr : Fr (EE w g0 g1) w wr
theorem RGB.setR {rc : Array Value} (h : RGB w gm g0 g1 gr gp ge s0 s1 mc b0 b1 wr rc r0 r1) (hn : w.heap.size ≤ gr ∧ gr ≠ ge) (i : Nat) (u : Value) : RGB w gm g0 g1 gr gp ge s0 s1 mc b0 b1 (wr.setCell ⟨gr, i, none⟩ u) (rc.setIfInBounds i u) r0 r1 :=
  ⟨h.m.far (h.m.tne h.r (by decide)) u, h.n0.setFar h.r (by decide) (h.n0.blk.tne h.r (by decide)) u, h.n1.setFar h.r (by decide) (h.n1.blk.tne h.r (by decide)) u, h.r.set_ i u, h.p.far (h.p.tne h.r (by decide)) u, h.e.far (Ne.symm hn.2) u, h.fr.setCell (p := ⟨gr, i, none⟩) (Or.inr (Or.inr hn.1)) u⟩
theorem RG.blocks (h : RG w gm g0 g1 gr gp ge s0 s1 mc x lo R0 R1 b0 b1 P0 P1 wr hi r0 r1 i0 j0 i1 j1) : RGB w gm g0 g1 gr gp ge s0 s1 mc b0 b1 wr (rgc lo hi (decide (r0.length < R0.length)) (decide (r1.length < R1.length))) r0 r1 := ⟨h.m, h.n0, h.n1, h.r, h.p, h.e, h.fr⟩

theorem RGB.step {rc : Array Value} (h : RGB w gm g0 g1 gr gp ge s0 s1 mc b0 b1 wr rc r0 r1) (hb : Below wr.heap.size wr wr') : RGB w gm g0 g1 gr gp ge s0 s1 mc b0 b1 wr' rc r0 r1 :=
  ⟨h.m.step hb, h.n0.step hb, h.n1.step hb, h.r.step hb, h.p.step hb, h.e.step hb, h.fr.step hb⟩

/-- what is left when the result's block is written -/
def RGF (w : World) (gm g0 g1 ge : Nat) (s0 s1 : Sd) (mc : Array Value) (wr : World) (r0 r1 : List Hk) : Prop :=
  Nx wr g0 s0 r0 ∧ Nx wr g1 s1 r1 ∧ Blk wr gm 64 mc ∧ Fr (EE w g0 g1) w wr ∧ ∃ cs, Blk wr ge 71 cs
theorem RGF.set_ (h : RGF w gm g0 g1 ge s0 s1 mc wr r0 r1) (hge : w.heap.size ≤ ge) (i : Nat) (u : Value) : RGF w gm g0 g1 ge s0 s1 mc (wr.setCell ⟨ge, i, none⟩ u) r0 r1 := by
  obtain ⟨h0, h1, hm, hf, cs, he⟩ := h
  exact ⟨h0.setFar he (by decide) (h0.blk.tne he (by decide)) u, h1.setFar he (by decide) (h1.blk.tne he (by decide)) u, hm.far (hm.tne he (by decide)) u, hf.setCell (p := ⟨ge, i, none⟩) (Or.inr (Or.inr hge)) u, _, he.set_ i u⟩
theorem RGB.fin {rc : Array Value} (q : RGB w gm g0 g1 gr gp ge s0 s1 mc b0 b1 wr rc r0 r1) : RGF w gm g0 g1 ge s0 s1 mc wr r0 r1 := ⟨q.n0, q.n1, q.m, q.fr, _, q.e⟩

theorem RG.absorb0 {a : Hk} {t : List Hk} {w5 w6 : World} (h : RG w gm g0 g1 gr gp ge s0 s1 mc x lo R0 R1 b0 b1 P0 P1 wr hi (a :: t) r1 i0 j0 i1 j1) (hb : Below wr.heap.size wr w5) (o : Obj) {hi' : Nat} (_hhi : hi' = max hi a.a1) (hw : ((w5.setCell ⟨gr, 1, none⟩ (I hi')).setCell ⟨gr, 4, none⟩ (.bool true)).alloc o = w6) :
    RGB w gm g0 g1 gr gp ge s0 s1 mc b0 b1 w6 (rgc lo hi' (decide (t.length < R0.length)) (decide (r1.length < R1.length))) (a :: t) r1 := by
  have q2 := (((h.step hb).blocks.setR h.new 1 (I hi')).setR h.new 4 (.bool true)).step (balloc (Below.refl _ _) o)
  rw [hw] at q2
  have hf := h.few0
  have e : decide (t.length < R0.length) = true := by simp at hf; simp; omega
  rw [e]
  exact q2
theorem RG.taken0 {a : Hk} {t : List Hk} {w6 : World} (h : RG w gm g0 g1 gr gp ge s0 s1 mc x lo R0 R1 b0 b1 P0 P1 wr hi (a :: t) r1 i0 j0 i1 j1) {hi' : Nat} (hhi : hi' = max hi a.a1) (q : RGB w gm g0 g1 gr gp ge s0 s1 mc b0 b1 w6 (rgc lo hi' (decide (t.length < R0.length)) (decide (r1.length < R1.length))) (a :: t) r1) (n : Nat) {m' d' : Int} (hm : m' = dl s0.hs - dl t) (hd : d' = (s0.hs.length : Int) - t.length) :
    RG w gm g0 g1 gr gp ge s0 s1 mc x lo R0 R1 b0 b1 P0 P1 (((w6.setCell ⟨g0, 2, none⟩ (I m')).setCell ⟨g0, 3, none⟩ (I d')).drewN n) hi' t r1 a.a1 a.b1 i1 j1 := by
  refine RG.step ?_ (below_drewN (Below.refl _ _) n)
  have nb := q.n0.blk
  have hN := Nx.take_ q.n0 hm hd
  have b1 := ((q.m.far (p := ⟨g0, 2, none⟩) (q.m.tne nb (by decide)) (I m')).far (p := ⟨g0, 3, none⟩) (q.m.tne nb (by decide)) (I d'))
  have b2 := ((q.r.far (p := ⟨g0, 2, none⟩) (q.r.tne nb (by decide)) (I m')).far (p := ⟨g0, 3, none⟩) (q.r.tne nb (by decide)) (I d'))
  have b3 := ((q.p.far (p := ⟨g0, 2, none⟩) (q.p.tne nb (by decide)) (I m')).far (p := ⟨g0, 3, none⟩) (q.p.tne nb (by decide)) (I d'))
  have b4 := ((q.e.far (p := ⟨g0, 2, none⟩) (q.e.tne nb (by decide)) (I m')).far (p := ⟨g0, 3, none⟩) (q.e.tne nb (by decide)) (I d'))
  have c1 := (q.n1.setFar (p := ⟨g0, 2, none⟩) nb (by decide) h.ne.symm (I m')).setFar (p := ⟨g0, 3, none⟩) (nb.set_ 2 (I m')) (by decide) h.ne.symm (I d')
  have f1 := (q.fr.setCell (p := ⟨g0, 2, none⟩) (Or.inl rfl) (I m')).setCell (p := ⟨g0, 3, none⟩) (Or.inl rfl) (I d')
  have hu := h.a0.hunk
  have hlx := h.hx
  have hf := h.few0
  exact ⟨b1, hN, c1, b2, b3, b4, f1, h.a0.step, h.a1, by omega, by have := h.le1; omega, by have := h.lohi; omega, by omega, h.new, by simp at hf; omega, h.few1, h.ne, fun b hb => h.up0 b (by simp [hb]), h.up1, by have h1 := h.up0 a (by simp); have h2 := h.lw0; omega, h.lw1⟩

theorem RG.absorb1 {a : Hk} {t : List Hk} {w5 w6 : World} (h : RG w gm g0 g1 gr gp ge s0 s1 mc x lo R0 R1 b0 b1 P0 P1 wr hi r0 (a :: t) i0 j0 i1 j1) (hb : Below wr.heap.size wr w5) (o : Obj) {hi' : Nat} (_hhi : hi' = max hi a.a1) (hw : ((w5.setCell ⟨gr, 1, none⟩ (I hi')).setCell ⟨gr, 5, none⟩ (.bool true)).alloc o = w6) :
    RGB w gm g0 g1 gr gp ge s0 s1 mc b0 b1 w6 (rgc lo hi' (decide (r0.length < R0.length)) (decide (t.length < R1.length))) r0 (a :: t) := by
  have q2 := (((h.step hb).blocks.setR h.new 1 (I hi')).setR h.new 5 (.bool true)).step (balloc (Below.refl _ _) o)
  rw [hw] at q2
  have hf := h.few1
  have e : decide (t.length < R1.length) = true := by simp at hf; simp; omega
  rw [e]
  exact q2
theorem RG.taken1 {a : Hk} {t : List Hk} {w6 : World} (h : RG w gm g0 g1 gr gp ge s0 s1 mc x lo R0 R1 b0 b1 P0 P1 wr hi r0 (a :: t) i0 j0 i1 j1) {hi' : Nat} (hhi : hi' = max hi a.a1) (q : RGB w gm g0 g1 gr gp ge s0 s1 mc b0 b1 w6 (rgc lo hi' (decide (r0.length < R0.length)) (decide (t.length < R1.length))) r0 (a :: t)) (n : Nat) {m' d' : Int} (hm : m' = dl s1.hs - dl t) (hd : d' = (s1.hs.length : Int) - t.length) :
    RG w gm g0 g1 gr gp ge s0 s1 mc x lo R0 R1 b0 b1 P0 P1 (((w6.setCell ⟨g1, 2, none⟩ (I m')).setCell ⟨g1, 3, none⟩ (I d')).drewN n) hi' r0 t i0 j0 a.a1 a.b1 := by
  refine RG.step ?_ (below_drewN (Below.refl _ _) n)
  have nb := q.n1.blk
  have hN := Nx.take_ q.n1 hm hd
  have b1 := ((q.m.far (p := ⟨g1, 2, none⟩) (q.m.tne nb (by decide)) (I m')).far (p := ⟨g1, 3, none⟩) (q.m.tne nb (by decide)) (I d'))
  have b2 := ((q.r.far (p := ⟨g1, 2, none⟩) (q.r.tne nb (by decide)) (I m')).far (p := ⟨g1, 3, none⟩) (q.r.tne nb (by decide)) (I d'))
  have b3 := ((q.p.far (p := ⟨g1, 2, none⟩) (q.p.tne nb (by decide)) (I m')).far (p := ⟨g1, 3, none⟩) (q.p.tne nb (by decide)) (I d'))
  have b4 := ((q.e.far (p := ⟨g1, 2, none⟩) (q.e.tne nb (by decide)) (I m')).far (p := ⟨g1, 3, none⟩) (q.e.tne nb (by decide)) (I d'))
  have c1 := (q.n0.setFar (p := ⟨g1, 2, none⟩) nb (by decide) h.ne (I m')).setFar (p := ⟨g1, 3, none⟩) (nb.set_ 2 (I m')) (by decide) h.ne (I d')
  have f1 := (q.fr.setCell (p := ⟨g1, 2, none⟩) (Or.inr (Or.inl rfl)) (I m')).setCell (p := ⟨g1, 3, none⟩) (Or.inr (Or.inl rfl)) (I d')
  have hu := h.a1.hunk
  have hlx := h.hx
  have hf := h.few1
  exact ⟨b1, c1, hN, b2, b3, b4, f1, h.a0, h.a1.step, by have := h.le0; omega, by omega, by have := h.lohi; omega, by omega, h.new, h.few0, by simp at hf; omega, h.ne, h.up0, fun b hb => h.up1 b (by simp [hb]), h.lw0, by have h1 := h.up1 a (by simp); have h2 := h.lw1; omega⟩
end

set_option maxHeartbeats 4000000 in
set_option maxRecDepth 100000 in
theorem region_no (gm g0 g1 : Nat) (s0 s1 : Sd) (v0 v3 v4 : Value) (w : World) (hM : Blk w gm 64 #[v0, ptr g0, ptr g1, v3, v4]) (h0 : Nx w g0 s0 []) (h1 : Nx w g1 s1 []) :
    Calls Tryd.prog 43 #[ptr gm] w fun e w' => ∃ v, e = .returned (.tuple #[v, .bool false]) ∧ Below w.heap.size w w' := by
  have b0 := balloc (Below.refl _ w) (.cells #[I 0, I 0, .slice none 0 0, .slice none 0 0, .bool false, .bool false] 71)
  have H := Lib.hid (first_no gm g0 g1 s0 s1 v0 v3 v4 _ (hM.step b0) (h0.step b0) (h1.step b0))
  clear h0 h1 hM
  go_enter Tryd.func43, Tryd.ntmps43
  go_wp2_with fail
  refine H.out.mono ?_
  rintro e w1 ⟨rfl, b1⟩
  have hE := (Blk.new w 71 #[I 0, I 0, .slice none 0 0, .slice none 0 0, .bool false, .bool false]).step b1
  have rE := hE.cell
  have fE := hE.frozen
  have B1 := Lib.hid (bstep b0 b1)
  clear hE b1 H b0
  go_wp2
  refine bodyPost_ret (v := .tuple #[.agg #[I 0, I 0, .slice none 0 0, .slice none 0 0, .bool false, .bool false], .bool false]) (by simp [results, Tryd.results43, go_sem, rE]) rfl ⟨_, rfl, ?_⟩
  exact (((((B1.out.setCell (Nat.le_refl _) _).setCell (Nat.le_refl _) _).setCell (Nat.le_refl _) _).setCell (Nat.le_refl _) _).setCell (Nat.le_refl _) _).setCell (Nat.le_refl _) _

end Go.Proofs.YtpnogcblafmaiaaDoor
