/-
  blend.Merge: two contents that came of one, as one again. Conditions: slices read as lists, of few bytes; line.Diff as told; internal/bytealg.MaxLen holds an int.
-/
import Derived.Test.YtpnogcblafmaiaaDoorBlendRound
import Derived.Test.YtpnogcblafmaiaaDoorLineJoin
namespace Go.Proofs.YtpnogcblafmaiaaDoor
open Go.RowKit
open LineLaw (Hk)
open BlendLaw (grow firstHk beyond dl)

/-- line.Diff, from x to l -/
def DiffC (x l : List (List UInt8)) : Prop := ∀ (A A' : Option Addr) (n n' c c' : Nat) (w : World), Sl w 1 A n (strs x) → Sl w 1 A' n' (strs l) → n ≤ c → n' ≤ c' →
  Calls Tryd.prog 17 #[.slice A n c, .slice A' n' c'] w fun e w' => ∃ A2 m2 c2, e = .returned (.slice A2 m2 c2) ∧ Ow w w' 33 4 A2 m2 c2 (hks (LineLaw.diff x l))

theorem Sd.start (A : Option Addr) (n c : Nat) (l : List (List UInt8)) (H : Option Addr) (k d : Nat) (hs : List Hk) : (Sd.mk A n c l H k d hs).cells hs = #[.slice A n c, .slice H k d, I 0, I 0] := by
  simp [Sd.cells]
/-- a side that was just made -/
theorem Nx.start {w : World} {A : Option Addr} {n c : Nat} {l : List (List UInt8)} {H : Option Addr} {k d : Nat} {hs : List Hk} (hS : Sl w 4 H k (hks hs)) (hT : ∀ b off, 0 < k → H = some ⟨b, off, none⟩ → BlkT w b 33) (hk : k ≤ 1000000000000) :
    Nx (w.alloc (.cells #[.slice A n c, .slice H k d, I 0, I 0] 67)) w.heap.size ⟨A, n, c, l, H, k, d, hs⟩ hs := by
  have hb := balloc (Below.refl _ w) (.cells #[.slice A n c, .slice H k d, I 0, I 0] 67)
  refine ⟨?_, hS.below hb, Nat.le_refl _, by simp, hk, fun b off hk he => (hT b off hk he).step hb⟩
  rw [Sd.start]
  exact Blk.new w 67 _
/-- the same, where the merger's block was written just before -/
theorem Nx.made {w0 w : World} {A : Option Addr} {n c : Nat} {l : List (List UInt8)} {H : Option Addr} {k d : Nat} {hs : List Hk} {p : Addr} {cs : Array Value} (hO : Ow w0 w 33 4 H k d (hks hs)) (hp : Blk w p.block 64 cs) (u : Value) (hk : k ≤ 1000000000000) :
    Nx ((w.setCell p u).alloc (.cells #[.slice A n c, .slice H k d, I 0, I 0] 67)) w.heap.size ⟨A, n, c, l, H, k, d, hs⟩ hs := by
  have hT : ∀ b off, 0 < k → H = some ⟨b, off, none⟩ → BlkT w b 33 := fun b off _ he => hO.blkT (a := ⟨b, off, none⟩) he
  have h := Nx.start (w := w.setCell p u) (A := A) (n := n) (c := c) (l := l) (H := H) (k := k) (d := d) (hs := hs) ⟨hO.sl.1, fun hn => by
    obtain ⟨b, off, e, hb, hc⟩ := hO.sl.2 hn
    have hbn := (hT b off hn e).ne_ hp (by decide)
    exact ⟨b, off, e, by rw [setCell_size]; exact hb, fun q hq => (World.cell?_of_block (Below.heap_setCell w p u b hbn)).trans (hc q hq)⟩⟩ (fun b off hk he => (hT b off hk he).set_ p u) hk
  rw [setCell_size] at h
  exact h
theorem no_str_m (v0 v1 v2 v3 v4 : Value) (h : ∀ v ∈ [v0, v1, v2, v3, v4], ∀ s, v ≠ S s) : ∀ (i : Nat) (s : List UInt8), (#[v0, v1, v2, v3, v4] : Array Value)[i]? ≠ some (S s) := by
  intro i s he
  have hm : S s ∈ [v0, v1, v2, v3, v4] := by simpa using Array.mem_of_getElem? he
  exact h _ hm s rfl
theorem no_str_s (s : Sd) (r : List Hk) : ∀ (i : Nat) (q : List UInt8), (s.cells r)[i]? ≠ some (S q) := by
  intro i q he
  have hm : S q ∈ (s.cells r).toList := by simpa using Array.mem_of_getElem? he
  simp [Sd.cells] at hm

/-- what blend.Merge hands back -/
def MergePost (w : World) (r : List UInt8 × Bool) (e : Ending) (w' : World) : Prop :=
  ∃ A c, e = .returned (.tuple #[.slice A r.1.length c, .bool r.2]) ∧ r.1.length ≤ c ∧ Sl w' 1 A r.1.length (u8s r.1) ∧ Below w.heap.size w w'
theorem MaxL.keep {w w' : World} {E : Nat → Prop} {B : Nat} (h : MaxL w) (hB : 0 < B) (hf : Fr E w w') (hE : ∀ k, E k → B ≤ k) : MaxL w' := by
  have hl := h.lt
  obtain ⟨m, hm⟩ := h
  exact ⟨m, (hf.cell (p := ⟨0, 0, none⟩) hl (fun e => by have h1 : B ≤ 0 := hE _ e; omega)).trans hm⟩

set_option maxHeartbeats 8000000 in
set_option maxRecDepth 100000 in
theorem merge_any (Ab : Option Addr) (nb cb : Nat) (b : List UInt8) (Ao : Option Addr) (no co : Nat) (o : List UInt8) (At : Option Addr) (nt ct : Nat) (t : List UInt8) (w : World) (hAb : Sl w 1 Ab nb (u8s b)) (hAo : Sl w 1 Ao no (u8s o)) (hAt : Sl w 1 At nt (u8s t))
    (hnb : nb ≤ 4000) (hno : no ≤ 4000) (hnt : nt ≤ 4000) (hM : MaxL w) (hD0 : DiffC (LinesLaw.lns b) (LinesLaw.lns o)) (hD1 : DiffC (LinesLaw.lns b) (LinesLaw.lns t)) :
    Calls Tryd.prog 29 #[.slice Ab nb cb, .slice Ao no co, .slice At nt ct] w (MergePost w (BlendLaw.merge b o t)) := by
  obtain ⟨x, hx⟩ : ∃ x, LinesLaw.lns b = x := ⟨_, rfl⟩
  obtain ⟨l0, hl0⟩ : ∃ x, LinesLaw.lns o = x := ⟨_, rfl⟩
  obtain ⟨l1, hl1⟩ : ∃ x, LinesLaw.lns t = x := ⟨_, rfl⟩
  rw [hx, hl0] at hD0
  rw [hx, hl1] at hD1
  have HlB := Lib.hid (show b.length = nb by simpa using hAb.len)
  have HlO := Lib.hid (show o.length = no by simpa using hAo.len)
  have HlT := Lib.hid (show t.length = nt by simpa using hAt.len)
  have HAo := Lib.hid hAo
  have HAt := Lib.hid hAt
  have Hx := Lib.hid hx
  have Hl0 := Lib.hid hl0
  have Hl1 := Lib.hid hl1
  have HD0 := Lib.hid hD0
  have HD1 := Lib.hid hD1
  have HC := Lib.hid (split_any Ab nb cb b w hAb (by omega) hM)
  rw [hx] at HC
  clear hAb hAo hAt hx hl0 hl1 hD0 hD1
  have ix0 : ∀ W : World, (Instr.index 65 (.agg #[.slice Ao no co, .slice At nt ct]) (.int .i64 0)).run Tryd.prog W = .ok (.slice Ao no co) W := fun _ => by kernel_rfl
  have ix1 : ∀ W : World, (Instr.index 65 (.agg #[.slice Ao no co, .slice At nt ct]) (.int .i64 1)).run Tryd.prog W = .ok (.slice At nt ct) W := fun _ => by kernel_rfl
  go_enter Tryd.func29, Tryd.ntmps29
  go_wp2_with fail
  refine HC.out.mono ?_
  rintro e1 w1 ⟨Ax, nx, cx, rfl, hcx, hnx, hSx, b1⟩
  have B1 := Lib.hid b1
  have hM1 := hM.step b1
  have HAo1 := Lib.hid (HAo.out.below b1)
  have HAt1 := Lib.hid (HAt.out.below b1)
  have HSx := Lib.hid hSx
  have hgl : 0 < w1.heap.size := hM1.lt
  clear b1 hSx HAo HC hM
  go_wp2
  refine wp_loop_rounds 3 ?_
  rw [rounds_succ]
  have hbm := balloc (Below.refl _ w1) (.cells #[.slice Ax nx cx, .pointer none, .pointer none, .slice none 0 0, .bool false] 64)
  have HMg := Lib.hid (Blk.new w1 64 #[.slice Ax nx cx, .pointer none, .pointer none, .slice none 0 0, .bool false])
  go_wp2_with fail
  refine (split_any Ao no co o _ (HAo1.out.below hbm) (by omega) (hM1.step hbm)).mono ?_
  rintro e2 w2 ⟨A0, n0, c0, rfl, hc0, hn0, hS0, b2⟩
  rw [Hl0.out] at hS0
  have hb12 := bstep hbm b2
  have HM2 := Lib.hid (HMg.out.step b2)
  have HSx2 := Lib.hid (HSx.out.below hb12)
  have hB12 := Lib.hid hb12
  have HS0 := Lib.hid hS0
  have B2 := Lib.hid (bstep B1.out hb12)
  have hgm : w1.heap.size < w2.heap.size := HM2.out.lt
  have hM2 := hM1.step hb12
  have HAt2 := Lib.hid (HAt1.out.below hb12)
  clear hbm HMg hS0 hM1 HAt1 HAo1 b2 hb12
  go_wp2
  have rM := HM2.out.cell
  have fM := HM2.out.frozen
  go_region_law (first
    | (go_simp; go_at_call 17; refine (HD0.out Ax A0 nx n0 cx c0 _ HSx2.out.drew HS0.out.drew hcx hc0).mono ?_; rintro e3 w3 ⟨H0, k0, d0, rfl, hO3⟩; have r3 := (HM2.out.drew.step hO3.2).cell; have f3 := (HM2.out.drew.step hO3.2).frozen; have z3 := (HM2.out.drew.step hO3.2).lt))
  go_wp2
  rw [rounds_succ]
  have hfewk : k0 ≤ 1000000000000 := by
    have h1 := BlendLaw.diff_few x l0
    have h2 := hks_count hO3.sl
    have h3 := strs_len HSx2.out
    have h4 := strs_len HS0.out
    omega
  have hMz := HM2.out.drew.step hO3.2
  have HK0 := Lib.hid (show ∀ b off, 0 < k0 → H0 = some ⟨b, off, none⟩ → w2.heap.size ≤ b ∧ b < w3.heap.size from fun b off hk he => ⟨hO3.blk (a := ⟨b, off, none⟩) he, hO3.sl.lt_ b off hk he⟩)
  have f4 := ((Fr.of_below (E := fun k => k = w1.heap.size ∨ w2.heap.size ≤ k) (bstep (Below.refl _ w2).drew hO3.2)).setCell (p := ⟨w1.heap.size, 1, none⟩) (Or.inl rfl) (ptr w3.heap.size)).alloc (.cells #[.slice A0 n0 c0, .slice H0 k0 d0, I 0, I 0] 67)
  have HM4 := Lib.hid ((hMz.set_ 1 (ptr w3.heap.size)).step (balloc (Below.refl _ _) (.cells #[.slice A0 n0 c0, .slice H0 k0 d0, I 0, I 0] 67)))
  have HN4 := Lib.hid (Nx.made (A := A0) (n := n0) (c := c0) (l := l0) (p := ⟨w1.heap.size, 1, none⟩) hO3 hMz (ptr w3.heap.size) hfewk)
  have S0F : SlF (fun k => k = w1.heap.size ∨ w2.heap.size ≤ k) w2 1 A0 n0 (strs l0) := ⟨HS0.out, fun b off hn e hb => by
    have h1 := HS0.out.lt_ b off hn e
    have h2 := HS0.out.not_in HM2.out (no_str_m _ _ _ _ _ (by simp)) b off hn e
    rcases hb with rfl | hb
    · exact h2 rfl
    · omega⟩
  have HS4 := Lib.hid (S0F.fr f4)
  have B4 := Lib.hid (B2.out.trans (f4.below (B := w.heap.size) (by have := B2.out.size; omega) (fun k hk => by have h1 := B1.out.size; rcases hk with rfl | hk <;> omega)))
  have X4 := Lib.hid (hB12.out.trans (f4.below (B := w1.heap.size) (by omega) (fun k hk => by rcases hk with rfl | hk <;> omega)))
  have hw23 : w2.heap.size ≤ w3.heap.size := hO3.2.size
  have hM4 := MaxL.keep hM2 hgl f4 (fun k hk => by rcases hk with rfl | hk <;> omega)
  have HAt4 := Lib.hid (HAt.out.below B4.out)
  clear rM fM r3 f3 z3 hO3 hMz S0F f4 HM2 HS0 HSx2 B2 hM2 HAt2 hfewk
  generalize (w3.setCell ⟨w1.heap.size, 1, none⟩ (.pointer (some ⟨w3.heap.size, 0, none⟩))).alloc (.cells #[.slice A0 n0 c0, .slice H0 k0 d0, .int .i64 0, .int .i64 0] 67) = w4 at *
  go_wp2_with fail
  refine (split_any At nt ct t _ HAt4.out (by omega) hM4).mono ?_
  rintro e5 w5 ⟨A1, n1, c1, rfl, hc1, hn1, hS1, b5⟩
  rw [Hl1.out] at hS1
  have HM5 := Lib.hid (HM4.out.step b5)
  have HN5 := Lib.hid (HN4.out.step b5)
  have HS05 := Lib.hid (HS4.out.step b5)
  have HS1 := Lib.hid hS1
  have hw34 : w3.heap.size < w5.heap.size := HN5.out.blk.lt
  have B5 := Lib.hid (bstep B4.out b5)
  have X5 := Lib.hid (X4.out.trans (b5.mono (by have := X4.out.size; omega)))
  have HSx5 := Lib.hid (HSx.out.below X5.out)
  clear hS1 b5 HM4 HN4 HS4 HAt4 hM4 B4 X4
  go_wp2
  have rM := HM5.out.cell
  have fM := HM5.out.frozen
  have zM := HM5.out.lt
  go_region_law (first
    | (go_simp; go_at_call 17; refine (HD1.out Ax A1 nx n1 cx c1 _ HSx5.out.drew HS1.out.drew hcx hc1).mono ?_; rintro e6 w6 ⟨H1, k1, d1, rfl, hO6⟩; have r6 := (HM5.out.drew.step hO6.2).cell; have f6 := (HM5.out.drew.step hO6.2).frozen; have z6 := (HM5.out.drew.step hO6.2).lt))
  go_wp2
  rw [rounds_succ]
  have hfewk : k1 ≤ 1000000000000 := by
    have h1 := BlendLaw.diff_few x l1
    have h2 := hks_count hO6.sl
    have h3 := strs_len HSx5.out
    have h4 := strs_len HS1.out
    omega
  have hMz := HM5.out.drew.step hO6.2
  have HK1 := Lib.hid (show ∀ b off, 0 < k1 → H1 = some ⟨b, off, none⟩ → w5.heap.size ≤ b ∧ b < w6.heap.size from fun b off hk he => ⟨hO6.blk (a := ⟨b, off, none⟩) he, hO6.sl.lt_ b off hk he⟩)
  have hNz := HN5.out.step (bstep (Below.refl _ w5).drew hO6.2)
  have f7 := ((Fr.of_below (E := fun k => k = w1.heap.size ∨ w5.heap.size ≤ k) (bstep (Below.refl _ w5).drew hO6.2)).setCell (p := ⟨w1.heap.size, 2, none⟩) (Or.inl rfl) (ptr w6.heap.size)).alloc (.cells #[.slice A1 n1 c1, .slice H1 k1 d1, I 0, I 0] 67)
  have HM7 := Lib.hid ((hMz.set_ 2 (ptr w6.heap.size)).step (balloc (Below.refl _ _) (.cells #[.slice A1 n1 c1, .slice H1 k1 d1, I 0, I 0] 67)))
  have HN07 := Lib.hid ((hNz.setFar (p := ⟨w1.heap.size, 2, none⟩) hMz (by decide) (hNz.blk.tne hMz (by decide)) (ptr w6.heap.size)).step (balloc (Below.refl _ _) (.cells #[.slice A1 n1 c1, .slice H1 k1 d1, I 0, I 0] 67)))
  have HN17 := Lib.hid (Nx.made (A := A1) (n := n1) (c := c1) (l := l1) (p := ⟨w1.heap.size, 2, none⟩) hO6 hMz (ptr w6.heap.size) hfewk)
  have hw56 : w5.heap.size ≤ w6.heap.size := hO6.2.size
  have hw6 : w6.heap.size < ((w6.setCell ⟨w1.heap.size, 2, none⟩ (ptr w6.heap.size)).alloc (.cells #[.slice A1 n1 c1, .slice H1 k1 d1, I 0, I 0] 67)).heap.size := by rw [World.size_alloc, setCell_size]; omega
  have B7 := Lib.hid (B5.out.trans (f7.below (B := w.heap.size) (by have := B5.out.size; omega) (fun k hk => by have h1 := B1.out.size; rcases hk with rfl | hk <;> omega)))
  have X7 := X5.out.trans (f7.below (B := w1.heap.size) (by omega) (fun k hk => by rcases hk with rfl | hk <;> omega))
  obtain ⟨E, hE⟩ : ∃ E : Nat → Prop, E = (fun k => k = w1.heap.size ∨ k = w3.heap.size ∨ k = w6.heap.size ∨ ((w6.setCell ⟨w1.heap.size, 2, none⟩ (ptr w6.heap.size)).alloc (.cells #[.slice A1 n1 c1, .slice H1 k1 d1, I 0, I 0] 67)).heap.size ≤ k) := ⟨_, rfl⟩
  have HSx7 := Lib.hid (show SlF E ((w6.setCell ⟨w1.heap.size, 2, none⟩ (ptr w6.heap.size)).alloc (.cells #[.slice A1 n1 c1, .slice H1 k1 d1, I 0, I 0] 67)) 1 Ax nx (strs x) from
    ⟨HSx.out.below X7, fun b off hn e hb => by
      have h1 := HSx.out.lt_ b off hn e
      rw [hE] at hb
      rcases hb with rfl | rfl | rfl | hb <;> omega⟩)
  have HS07 := Lib.hid (show SlF E ((w6.setCell ⟨w1.heap.size, 2, none⟩ (ptr w6.heap.size)).alloc (.cells #[.slice A1 n1 c1, .slice H1 k1 d1, I 0, I 0] 67)) 1 A0 n0 (strs l0) from
    ⟨((HS05.out.fr (Fr.of_below (bstep (Below.refl _ w5).drew hO6.2))).fr (((Fr.refl _ w6).setCell (p := ⟨w1.heap.size, 2, none⟩) (Or.inl rfl) (ptr w6.heap.size)).alloc _)).1, fun b off hn e hb => by
      have h1 := HS05.out.2 b off hn e
      rw [hE] at hb
      apply h1
      rcases hb with rfl | rfl | rfl | hb
      · exact Or.inl rfl
      · exact Or.inr (by omega)
      · exact Or.inr (by omega)
      · exact Or.inr (by omega)⟩)
  have HS17 := Lib.hid (show SlF E ((w6.setCell ⟨w1.heap.size, 2, none⟩ (ptr w6.heap.size)).alloc (.cells #[.slice A1 n1 c1, .slice H1 k1 d1, I 0, I 0] 67)) 1 A1 n1 (strs l1) from by
    have q : SlF (fun k => k = w1.heap.size ∨ w5.heap.size ≤ k) w5 1 A1 n1 (strs l1) := ⟨HS1.out, fun b off hn e hb => by
      have h1 := HS1.out.lt_ b off hn e
      have h2 := HS1.out.not_in HM5.out (no_str_m _ _ _ _ _ (by simp)) b off hn e
      rcases hb with rfl | hb
      · exact h2 rfl
      · omega⟩
    refine ⟨(q.fr f7).1, fun b off hn e hb => ?_⟩
    have h1 := HS1.out.lt_ b off hn e
    have h2 := HS1.out.not_in HM5.out (no_str_m _ _ _ _ _ (by simp)) b off hn e
    have h3 := HS1.out.not_in HN5.out.blk (no_str_s _ _) b off hn e
    rw [hE] at hb
    rcases hb with rfl | rfl | rfl | hb
    · exact h2 rfl
    · exact h3 rfl
    · omega
    · omega)
  clear rM fM zM r6 f6 z6 hO6 hMz hNz f7 HM5 HN5 HS05 HS1 HSx5 B5 X5 X7 hfewk hB12 HSx
  have HE := Lib.hid hE
  clear hE
  generalize (w6.setCell ⟨w1.heap.size, 2, none⟩ (.pointer (some ⟨w6.heap.size, 0, none⟩))).alloc (.cells #[.slice A1 n1 c1, .slice H1 k1 d1, .int .i64 0, .int .i64 0] 67) = w7 at *
  have hxs := strs_len HSx7.out.1
  have h0s := strs_len HS07.out.1
  have h1s := strs_len HS17.out.1
  have hd0 := BlendLaw.diff_few x l0
  have hd1 := BlendLaw.diff_few x l1
  obtain ⟨K, hKgm, hok, hST, hPI, hres, hKW, hKres, hKx⟩ : ∃ K : MK, K.gm = w1.heap.size ∧ MKok K ∧ ST K w7 none 0 0 [] false K.s0.hs K.s1.hs ∧ PI K.x K.s0 K.s1 K.T K.s0.hs K.s1.hs 0 [] ∧
      K.res = ([] ++ (BlendLaw.go K.x K.s0.l K.s1.l K.s0.hs K.s1.hs (K.s0.hs.length + K.s1.hs.length) 0 K.s0.hs K.s1.hs).1, false || (BlendLaw.go K.x K.s0.l K.s1.l K.s0.hs K.s1.hs (K.s0.hs.length + K.s1.hs.length) 0 K.s0.hs K.s1.hs).2) ∧ K.W0 = w ∧ K.res = BlendLaw.mergeL x l0 l1 ∧ K.x = x := by
    have hszx := B1.out.size
    refine ⟨⟨w, w1.heap.size, w3.heap.size, w6.heap.size, w7.heap.size, ⟨A0, n0, c0, l0, H0, k0, d0, LineLaw.diff x l0⟩, ⟨A1, n1, c1, l1, H1, k1, d1, LineLaw.diff x l1⟩, Ax, nx, cx, x, (LineLaw.diff x l0).length + (LineLaw.diff x l1).length, BlendLaw.mergeL x l0 l1⟩, rfl, ⟨⟨?_, ?_⟩, ⟨?_, ?_⟩, ⟨?_, ?_⟩, ⟨h0s, hc0⟩, ⟨h1s, hc1⟩, ⟨hxs, hcx⟩, ?_, ?_⟩, ⟨HM7.out, World.ownsRow_nil _ _ _ _, ⟨HN07.out, HN17.out, ?_, ?_, ?_, ?_, ?_, ?_, ?_⟩, B7.out⟩, ⟨⟨0, 0, BlendLaw.At.start x l0, Nat.le_refl _⟩, ⟨0, 0, BlendLaw.At.start x l1, Nat.le_refl _⟩, Nat.zero_le _, fun _ _ => Nat.zero_le _, ?_, fun s hs => by cases hs⟩, ?_, rfl, rfl, rfl⟩
    · show x.length ≤ 4000; omega
    · intro s hs; rw [← Hx.out] at hs; have h1 := BlendLaw.line_len hs; have h2 := HlB.out; omega
    · show l0.length ≤ 4000; omega
    · intro s hs
      have hs' : s ∈ l0 := hs
      rw [← Hl0.out] at hs'; have h1 := BlendLaw.line_len hs'; have h2 := HlO.out; omega
    · show l1.length ≤ 4000; omega
    · intro s hs
      have hs' : s ∈ l1 := hs
      rw [← Hl1.out] at hs'; have h1 := BlendLaw.line_len hs'; have h2 := HlT.out; omega
    · show (LineLaw.diff x l0).length + (LineLaw.diff x l1).length ≤ 20000; omega
    · exact ⟨hszx, by show w.heap.size ≤ w3.heap.size; omega, by show w.heap.size ≤ w6.heap.size; omega, by show w.heap.size ≤ w7.heap.size; omega⟩
    · have h := HSx7.out; rw [HE.out] at h; exact h
    · have h := HS07.out; rw [HE.out] at h; exact h
    · have h := HS17.out; rw [HE.out] at h; exact h
    · intro b off hk he
      have h := HK0.out b off hk he
      exact ⟨by show b < w7.heap.size; omega, by show b ≠ w1.heap.size; omega⟩
    · intro b off hk he
      have h := HK1.out b off hk he
      exact ⟨by show b < w7.heap.size; omega, by show b ≠ w1.heap.size; omega⟩
    · exact ⟨⟨by show w1.heap.size < w7.heap.size; omega, by show w3.heap.size < w7.heap.size; omega, by show w6.heap.size < w7.heap.size; omega⟩, by show w1.heap.size ≠ w3.heap.size; omega, by show w1.heap.size ≠ w6.heap.size; omega, by show w3.heap.size ≠ w6.heap.size; omega⟩
    · exact Nat.le_refl _
    · show 0 + ((LineLaw.diff x l0).length + (LineLaw.diff x l1).length) * 10000 ≤ 0 + ((LineLaw.diff x l0).length + (LineLaw.diff x l1).length) * 10000
      exact Nat.le_refl _
    · simp [BlendLaw.mergeL]
  have hmerge : (BlendLaw.merge b o t).1 = K.res.1.flatten ∧ (BlendLaw.merge b o t).2 = K.res.2 := by
    rw [hKres]
    simp only [BlendLaw.merge, Hx.out, Hl0.out, Hl1.out]
    exact ⟨trivial, trivial⟩
  have Hmerge := Lib.hid hmerge
  clear hmerge
  have HST := Lib.hid hST
  have HPI := Lib.hid hPI
  have Hres := Lib.hid hres
  have HKW := Lib.hid hKW
  have Hok := Lib.hid hok
  clear hST hPI hres hKW hKres hKx hok HM7 HN07 HN17 HSx7 HS07 HS17 B7 HE hxs h0s h1s hd0 hd1 HK0 HK1 Hx Hl0 Hl1 HD0 HD1 B1 HlB HlO HlT ix0 ix1 hgl hw23 hw34 hw56 hw6 hgm HAt
  generalize w1.heap.size = gm at *
  subst hKgm
  go_wp2_with fail
  refine (region_step Hok.out HST.out HPI.out (Nat.le_refl _) Hres.out).mono ?_
  rintro e8 w8 ⟨z0, z1, Z0, y0, x0, Z1, y1, x1, t0, t1, more, rfl, hLR, hsz8, hfr8⟩
  have B8 : K.B ≤ w8.heap.size := Nat.le_trans HST.out.mc.big hsz8
  have HLB := Lib.hid (show LB K (K.s0.hs.length + K.s1.hs.length) (w8.alloc (.cells #[I z0, I z1, .slice Z0 y0 x0, .slice Z1 y1 x1, .bool t0, .bool t1] 71)) w8.heap.size #[I z0, I z1, .slice Z0 y0 x0, .slice Z1 y1 x1, .bool t0, .bool t1] more 0 none 0 0 [] false from
    ⟨Blk.new w8 71 _, B8, hLR.step Hok.out (balloc (Below.refl _ _) _)⟩)
  obtain ⟨i0, hi0, hz0, hz1, hz2⟩ := info_parts Tryd.infoStr
  obtain ⟨ff, hff⟩ : ∃ ff, K.s0.hs.length + K.s1.hs.length = ff := ⟨_, rfl⟩
  rw [hff] at HLB
  clear hLR hfr8 HST HPI Hres hsz8 hff
  go_wp2
  clear B8
  generalize w8.alloc (.cells #[.int .i64 z0, .int .i64 z1, .slice Z0 y0 x0, .slice Z1 y1 x1, .bool t0, .bool t1] 71) = w9 at *
  generalize w8.heap.size = g9 at *
  go_loopg [12, 13, 14] (ff + 1) (fun n s12 s13 s14 wr => ∃ (k at_ g z0 z1 : Nat) (Z0 : Option Addr) (y0 x0 : Nat) (Z1 : Option Addr) (y1 x1 : Nat) (t0 t1 more : Bool) (Ao : Option Addr) (no co : Nat) (out : List (List UInt8)) (cf : Bool), s12 = .int .i64 at_ ∧ s13 = .pointer (some ⟨g, 0, none⟩) ∧ s14 = .bool more ∧ Hid (LB K k wr g #[I z0, I z1, .slice Z0 y0 x0, .slice Z1 y1 x1, .bool t0, .bool t1] more at_ Ao no co out cf) ∧ k + more.toNat ≤ n)
  case atStart => exact ⟨ff, 0, _, _, _, _, _, _, _, _, _, _, _, _, _, _, _, _, _, rfl, rfl, rfl, HLB, by cases more <;> simp⟩
  case round =>
    clear HLB
    obtain ⟨k, at_, g, z0, z1, Z0, y0, x0, Z1, y1, x1, t0, t1, more, Ao, no, co, out, cf, rfl, rfl, rfl, HL, hn⟩ := hrel
    obtain ⟨hBg, hgB, hLR⟩ := HL.out
    clear HL
    cases more with
    | true =>
      rcases hLR with ⟨_, h0, h1, h, hf, hfu, hPI, hST, hcells, hres⟩ | ⟨hm, _⟩
      · have hz0e : z0 = h.a0 := by have h9 := congrArg (fun a => a[0]?) hcells; simp [regCells] at h9; omega
        have hz1e : z1 = (grow h.a1 h0 h1).1 := by have h9 := congrArg (fun a => a[1]?) hcells; simp [regCells] at h9; omega
        obtain ⟨ia, ja, At0, ea⟩ := hPI.at0
        obtain ⟨ib, jb, At1, eb⟩ := hPI.at1
        have hh := BlendLaw.first_hunk hf At0 At1
        have hless := BlendLaw.grow_less hf hh.1
        obtain ⟨k, rfl⟩ : ∃ k', k = k' + 1 := ⟨k - 1, by omega⟩
        have hat := hPI.ahead h hf
        have hnx1 := Hok.out.nx
        have hx1 := Hok.out.x.1
        have hT := Hok.out.T
        have hfew := hPI.few
        have hmade := hPI.next hf Hok.out.x Hok.out.l0 Hok.out.l1
        have hfew2 := hmade.few
        have hle2 := hmade.le
        have hlen : out.length = no := by have := hST.own.1; simpa using this
        have kX := fun W : World => run_cut_lh (P := Tryd.prog) W Tryd.underlying22 Tryd.sizeStr K.Ax K.nx K.cx .i64 .i64 at_ z0 (by omega) (by omega)
        have sX := hST.mc.sx.1.mid_ (j := at_) (k := z0) (c := K.cx) (by omega) (by omega) hnx1.2
        obtain ⟨X, hX⟩ : ∃ X, cutA K.Ax K.cx at_ 1 = X := ⟨_, rfl⟩
        obtain ⟨nX, hnX⟩ : ∃ nX, z0 - at_ = nX := ⟨_, rfl⟩
        obtain ⟨seg, hseg⟩ : ∃ seg, (K.x.drop at_).take nX = seg := ⟨_, rfl⟩
        have hnX2 : nX ≤ 4000 := by omega
        rw [hX, hnX] at kX sX
        rw [hseg] at sX
        have hseg2 : seg.length = nX := strs_len sX
        have q1 : no + nX ≤ maxLen := by simp only [maxLen]; omega
        have q2 : (no + nX) * 16 ≤ 140737488355328 := by omega
        have hbig : (out ++ seg).length ≤ 500000000 := by rw [List.length_append]; omega
        have hres2 : K.res = ((out ++ seg ++ (madeOf K.x K.s0 K.s1 h0 h1 at_ h).1) ++ (BlendLaw.go K.x K.s0.l K.s1.l K.s0.hs K.s1.hs k (grow h.a1 h0 h1).1 (grow h.a1 h0 h1).2.1 (grow h.a1 h0 h1).2.2).1, (cf || (madeOf K.x K.s0 K.s1 h0 h1 at_ h).2) || (BlendLaw.go K.x K.s0.l K.s1.l K.s0.hs K.s1.hs k (grow h.a1 h0 h1).1 (grow h.a1 h0 h1).2.1 (grow h.a1 h0 h1).2.2).2) := by
          rw [hres, BlendLaw.go_some hf, ← hz0e, hnX, hseg]
          simp only [madeOf, List.append_assoc, Bool.or_assoc, hz0e]
        rw [← hz0e, hnX, hseg] at hmade
        have hfu2 : (grow h.a1 h0 h1).2.1.length + (grow h.a1 h0 h1).2.2.length ≤ k := by omega
        have rM := hST.m.cell
        have fM := hST.m.frozen
        have zM := hST.m.lt
        have rG := hBg.cell
        have zG := hBg.lt
        have Hd := Lib.hid (hST.fr Hok.out (Below.refl _ wr).drew)
        have hBd : K.B ≤ wr.drew.heap.size := Hd.out.mc.big
        have HBg := Lib.hid hBg.drew
        have SX := Lib.hid sX.drew
        have Hres2 := Lib.hid hres2
        have Hmade := Lib.hid hmade
        have Hcells := Lib.hid hcells
        have Hf := Lib.hid hf
        have HPI := Lib.hid hPI
        have Hz1e := Lib.hid hz1e
        clear hres2 hmade hcells hf hPI hz1e hz0e hres hX hnX hseg sX hST hBg At0 At1 hh hless hfu ea eb hat hfew hfew2 hle2 hlen hx1 hT hnX2 hseg2
        go_wp2
        go_region_law ((refine step_append_row _ (by rfl) (.tmp 58) (.tmp 66) _ (by rfl) K.B 9 i0 _ 1 16 Tryd.underlying22 hi0 hz0 hz1 hz2 rfl Nat.one_pos Ao no co _ (by rfl) Hd.out.own hBd X nX _ (strs seg) (by rfl) SX.out (one_strs _) q1 q2 ?_; intro A3 c3 w3 hO3 hg3 hr3; have k3 := (Hd.out.m.grown hg3 (own_blk Hd.out.own Hd.out.m (by decide))).cell; have f3 := (Hd.out.m.grown hg3 (own_blk Hd.out.own Hd.out.m (by decide))).frozen))
        all_goals
          have hS4 := ST.app Hok.out Hd.out (seg := seg) (by rw [strs, List.map_append]; exact hO3) hg3
          have HB4 := Lib.hid (Hd.out.blk HBg.out hS4.2)
          have HS4 := Lib.hid hS4.1
          clear k3 f3 rM fM zM rG zG hS4 hO3 hg3 hr3 hBd q1 q2 kX SX
          generalize w3.setCell ⟨K.gm, 3, none⟩ (.slice A3 (no + nX) c3) = w4 at *
          have rG4 := HB4.out.cell
          have zG4 := HB4.out.lt
          go_wp2_with fail
          have hT := take_region Hok.out HS4.out Hf.out HPI.out hbig
          rw [← Hcells.out] at hT
          refine hT.mono ?_
          rintro e5 w5 ⟨rfl, ⟨A5, n5, c5, hS5⟩, hf5⟩
          have HB5 := Lib.hid (HS4.out.blk HB4.out hf5)
          have HS5 := Lib.hid hS5
          clear hT hf5 hS5 rG4 zG4
          have rG5 := HB5.out.cell
          have zG5 := HB5.out.lt
          go_wp2_with fail
          have hb6 := balloc (Below.refl _ w5) (.cells #[I z0, I z1, .slice Z0 y0 x0, .slice Z1 y1 x1, .bool t0, .bool t1] 71)
          have hS6 := HS5.out.fr Hok.out hb6
          have hN6 := Blk.new w5 71 #[I z0, I z1, .slice Z0 y0 x0, .slice Z1 y1 x1, .bool t0, .bool t1]
          have hG6 := hS6.mc.g
          have hB6 : K.B ≤ w5.heap.size := HS5.out.mc.big
          refine (region_step Hok.out hS6 Hmade.out hfu2 Hres2.out).mono ?_
          rintro e7 w7 ⟨z0', z1', Z0', y0', x0', Z1', y1', x1', t0', t1', more', rfl, hL7, hsz7, hf7⟩
          have hN7 := hf7.blk hN6 (fun e => by
            have h9 := hN6.lt
            rcases e with e | e | e <;> omega)
          have HLB := Lib.hid (hL7.laid Hok.out hN7 hB6)
          have rN7 := hN7.cell
          have fN7 := hN7.frozen
          have zN7 := hN7.lt
          rw [← Hz1e.out] at HLB
          clear hb6 hS6 hN6 hG6 hB6 hL7 hsz7 hf7 hN7 rG5 zG5 Hres2 Hmade
          go_wp2
          go_roundg (gk - 1)
          case measure => omega
          case rel => exact ⟨k, z1, _, z0', z1', Z0', y0', x0', Z1', y1', x1', t0', t1', more', A5, n5, c5, _, _, rfl, rfl, rfl, HLB, by cases more' <;> simp at hn ⊢ <;> omega⟩
      · cases hm
    | false =>
      rcases hLR with ⟨hm, _⟩ | ⟨_, hPI, hST, hres⟩
      · cases hm
      · have hnx1 := Hok.out.nx
        have hx1 := Hok.out.x.1
        have hT := Hok.out.T
        have hfew := hPI.few
        have hshort := hPI.short
        have hle := hPI.le
        have hlen : out.length = no := by have := hST.own.1; simpa using this
        have kX := fun W : World => run_cut_l (P := Tryd.prog) W Tryd.underlying22 Tryd.sizeStr K.Ax K.nx K.cx .i64 at_ (by omega)
        have sX := hST.mc.sx.1.tail_ (k := at_) (c := K.cx) (by omega) hnx1.2
        obtain ⟨X, hX⟩ : ∃ X, cutA K.Ax K.cx at_ 1 = X := ⟨_, rfl⟩
        obtain ⟨nX, hnX⟩ : ∃ nX, K.nx - at_ = nX := ⟨_, rfl⟩
        obtain ⟨seg, hseg⟩ : ∃ seg, K.x.drop at_ = seg := ⟨_, rfl⟩
        rw [hX, hnX] at kX sX
        rw [hseg] at sX hres
        have hseg2 : seg.length = nX := strs_len sX
        have hnX2 : nX ≤ 4000 := by omega
        have q1 : no + nX ≤ maxLen := by simp only [maxLen]; omega
        have q2 : (no + nX) * 16 ≤ 140737488355328 := by omega
        have hflat : (out ++ seg).flatten.length ≤ 140737488355328 := by
          have h9 := BlendLaw.flat_len (l := out ++ seg) (M := 4002) (fun s hs => by
            rcases List.mem_append.1 hs with hs | hs
            · exact hshort s hs
            · have := Hok.out.x.2 s (List.mem_of_mem_drop (hseg ▸ hs)); omega)
          rw [List.length_append] at h9
          have h10 : (out.length + seg.length) * 4002 ≤ 200100000 * 4002 := Nat.mul_le_mul_right _ (by simp at hfew; omega)
          omega
        obtain ⟨fl, hfl⟩ : ∃ fl, (out ++ seg).flatten = fl := ⟨_, rfl⟩
        obtain ⟨nf, hnf⟩ : ∃ nf, fl.length = nf := ⟨_, rfl⟩
        rw [hfl, hnf] at hflat
        have Hfl := Lib.hid hfl
        have Hnf := Lib.hid hnf
        have rM := hST.m.cell
        have fM := hST.m.frozen
        have zM := hST.m.lt
        have Hd := Lib.hid (hST.fr Hok.out (Below.refl _ wr).drew)
        have hBd : K.B ≤ wr.drew.heap.size := Hd.out.mc.big
        have SX := Lib.hid sX.drew
        have Hres := Lib.hid hres
        have Hflat := Lib.hid hflat
        have hWW := Hok.out.W
        clear hres hX hnX hseg sX hPI hST hfew hshort hle hx1 hT hnX2 hflat hfl hnf
        go_wp2
        go_region_law (first
          | (refine step_append_row _ (by rfl) (.tmp 79) (.tmp 85) _ (by rfl) K.B 9 i0 _ 1 16 Tryd.underlying22 hi0 hz0 hz1 hz2 rfl Nat.one_pos Ao no co _ (by rfl) Hd.out.own hBd X nX _ (strs seg) (by rfl) SX.out (one_strs _) q1 q2 ?_; intro A3 c3 w3 hO3 hg3 hr3; have hM3 := Hd.out.m.grown hg3 (own_blk Hd.out.own Hd.out.m (by decide)); have k3 := hM3.cell; have hS3 : Sl w3 1 A3 (no + nX) (strs (out ++ seg)) := by rw [strs, List.map_append]; exact Sl.of_own hO3)
          | (go_simp; go_at_call 25; refine (lineJoin_any A3 (no + nX) c3 (out ++ seg) fl _ hS3 Hfl.out (own_cap hO3) (by omega) (by rw [Hnf.out]; exact Hflat.out)).mono ?_; rintro e4 w4 ⟨A4, c4, rfl, hc4, hS4, hb4⟩; rw [Hnf.out] at hc4 hS4; rw [Hnf.out]; have k4 := (hM3.step hb4).cell))
        all_goals
          have hB3 := Hd.out.below.grown hg3 Hd.out.below.size (fun k hk => Nat.le_trans hWW.2.2.2 (hr3 k hk))
          have HB4 := Lib.hid (hB3.trans (hb4.mono hB3.size))
          have HS4 := Lib.hid hS4
          clear k4 k3 rM fM zM hM3 hS3 hO3 hg3 hr3 hb4 hS4 hB3
          go_wp2
          go_ret2
          have e1 : (BlendLaw.merge b o t).1 = fl := by rw [Hmerge.out.1, Hres.out, ← Hfl.out]
          have e2 : (BlendLaw.merge b o t).2 = cf := by rw [Hmerge.out.2, Hres.out]
          refine ⟨A4, c4, ?_, ?_, ?_, ?_⟩
          · rw [e1, e2, Hnf.out]; rfl
          · rw [e1, Hnf.out]; exact hc4
          · rw [e1, Hnf.out]; exact HS4.out
          · have h9 := HB4.out
            rw [HKW.out] at h9
            exact h9
end Go.Proofs.YtpnogcblafmaiaaDoor
