/-
  (*merger).first: the side whose next hunk begins first. Conditions: the merger's and the sides' blocks as told.
-/
import Derived.Test.YtpnogcblafmaiaaDoorBlendNext
import Derived.Test.YtpnogcblafmaiaaDoorShelf
import Derived.Outline
namespace Go.Proofs.YtpnogcblafmaiaaDoor
open Go.RowKit
open LineLaw (Hk)

abbrev ptr (g : Nat) : Value := .pointer (some ⟨g, 0, none⟩)
/-- block g is side s, of whose hunks r are left -/
structure Nx (w : World) (g : Nat) (s : Sd) (r : List Hk) : Prop where
  blk : Blk w g 67 (s.cells r)
  row : Sl w 4 s.H s.k (hks s.hs)
  few : r.length ≤ s.hs.length
  suf : s.hs.drop (s.hs.length - r.length) = r
  lim : s.k ≤ 1000000000000
  typ : ∀ b off, 0 < s.k → s.H = some ⟨b, off, none⟩ → BlkT w b 33
theorem Nx.step {w w' : World} {g : Nat} {s : Sd} {r : List Hk} (h : Nx w g s r) (hb : Below w.heap.size w w') : Nx w' g s r := ⟨h.blk.step hb, h.row.below hb, h.few, h.suf, h.lim, fun b off hk he => (h.typ b off hk he).step hb⟩
theorem Nx.no {w : World} {g : Nat} {s : Sd} (h : Nx w g s []) :
    Calls Tryd.prog 55 #[ptr g] w fun e w' => e = .returned (.tuple #[hkV 0 0 0 0, .bool false]) ∧ Below w.heap.size w w' := next_no g s w h.blk h.row
theorem Nx.yes {w : World} {g : Nat} {s : Sd} {a : Hk} {t : List Hk} (h : Nx w g s (a :: t)) :
    Calls Tryd.prog 55 #[ptr g] w fun e w' => e = .returned (.tuple #[hkV a.a0 a.a1 a.b0 a.b1, .bool true]) ∧ Below w.heap.size w w' :=
  next_yes g s a t w h.blk h.row h.few (by have h1 := congrArg (·[0]?) h.suf; simpa using h1) h.lim

set_option maxHeartbeats 1000000 in
theorem first1_any (ga gb : Nat) (sa sb : Sd) (a b : Hk) (ta tb : List Hk) (w : World) (hA : Nx w ga sa (a :: ta)) (hB : Nx w gb sb (b :: tb)) :
    Calls Tryd.prog 67 #[ptr ga, ptr gb] w fun e w' => e = .returned (I (Lib.compareInt a.a0 b.a0)) ∧ Below w.heap.size w w' := by
  have HA := Lib.hid hA
  have HB := Lib.hid hB
  clear hA hB
  obtain ⟨x0, hx0⟩ : ∃ x0 : Int, (a.a0 : Int) = x0 := ⟨_, rfl⟩
  obtain ⟨y0, hy0⟩ : ∃ y0 : Int, (b.a0 : Int) = y0 := ⟨_, rfl⟩
  rw [hx0, hy0]
  have hcmp := Lib.hid (fun W : World => Tryd.cmp_Compare_int x0 y0 W)
  go_enter Tryd.func67, Tryd.ntmps67
  go_wp2_with fail
  refine HA.out.yes.mono ?_
  rintro e w1 ⟨rfl, b1⟩
  have B1 := Lib.hid b1
  have HB1 := Lib.hid (HB.out.step b1)
  clear b1
  rw [hx0]
  obtain ⟨x1, hx1⟩ : ∃ x1 : Int, (a.a1 : Int) = x1 := ⟨_, rfl⟩
  obtain ⟨x2, hx2⟩ : ∃ x2 : Int, (a.b0 : Int) = x2 := ⟨_, rfl⟩
  obtain ⟨x3, hx3⟩ : ∃ x3 : Int, (a.b1 : Int) = x3 := ⟨_, rfl⟩
  rw [hx1, hx2, hx3]
  clear hx1 hx2 hx3 hx0
  have HX := Lib.hid (Blk.new w1 33 #[I x0, I x1, I x2, I x3])
  have HB2 := Lib.hid (HB1.out.step (balloc (Below.refl _ _) (.cells #[I x0, I x1, I x2, I x3] 33)))
  go_wp2_with fail
  refine HB2.out.yes.mono ?_
  rintro e w2 ⟨rfl, b2⟩
  have rX := (HX.out.step b2).cell
  have zX := (HX.out.step b2).lt
  have B2 := Lib.hid (bstep (balloc B1.out (.cells #[I x0, I x1, I x2, I x3] 33)) b2)
  rw [hy0]
  obtain ⟨y1, hy1⟩ : ∃ x1 : Int, (b.a1 : Int) = x1 := ⟨_, rfl⟩
  obtain ⟨y2, hy2⟩ : ∃ x2 : Int, (b.b0 : Int) = x2 := ⟨_, rfl⟩
  obtain ⟨y3, hy3⟩ : ∃ x3 : Int, (b.b1 : Int) = x3 := ⟨_, rfl⟩
  rw [hy1, hy2, hy3]
  clear hy1 hy2 hy3 hy0 b2 HX HB2 HB1 HB HA
  go_wp2_with fail
  refine (hcmp.out _).mono ?_
  rintro e w3 ⟨rfl, hw3⟩
  rw [hw3]
  clear rX hw3
  go_wp2
  go_ret
  exact ⟨rfl, balloc B2.out _⟩

abbrev minArgs (A : Option Addr) (n c : Nat) : Array Value := #[.slice A n c, .func (.func 67) #[] #[]]
set_option maxHeartbeats 1000000 in
theorem min_one (A : Option Addr) (c g : Nat) (w : World) (hA : Sl w 1 A 1 [ptr g]) :
    Calls Tryd.prog 66 (minArgs A 1 c) w fun e w' => e = .returned (ptr g) ∧ Below w.heap.size w w' := by
  obtain ⟨b, off, u, rfl, hu, hc⟩ := hA.at_ (k := 0) (by omega)
  obtain rfl : ptr g = u := by simpa using hu
  rw [Nat.add_zero] at hc
  clear hu hA
  go_enter Tryd.func66, Tryd.ntmps66
  go_wp2
  refine wp_loop_rounds 1 ?_
  rw [rounds_succ]
  go_wp2
  go_ret
  exact ⟨rfl, Below.refl _ _⟩

theorem cmp_neg (x y : Nat) : decide (Lib.compareInt (x : Int) y < 0) = decide (x < y) := by
  unfold Lib.compareInt
  split
  · simp; omega
  · split <;> simp <;> omega

set_option maxHeartbeats 2000000 in
theorem min_two (A : Option Addr) (c ga gb : Nat) (sa sb : Sd) (a b : Hk) (ta tb : List Hk) (w : World) (hA : Sl w 1 A 2 [ptr ga, ptr gb]) (ha : Nx w ga sa (a :: ta)) (hb : Nx w gb sb (b :: tb)) :
    Calls Tryd.prog 66 (minArgs A 2 c) w fun e w' => e = .returned (ptr (if b.a0 < a.a0 then gb else ga)) ∧ Below w.heap.size w w' := by
  obtain ⟨bb, off, hA', hz, hcell⟩ := hA.2 (by omega)
  subst hA'
  have c0 := hcell 0 (by omega)
  have c1 := hcell 1 (by omega)
  rw [Nat.add_zero] at c0
  simp only [List.getElem?_cons_zero, List.getElem?_cons_succ] at c0 c1
  have HC := Lib.hid (first1_any gb ga sb sa b a tb ta w hb ha)
  have hneg := cmp_neg b.a0 a.a0
  obtain ⟨z, hzz⟩ : ∃ z, Lib.compareInt (b.a0 : Int) a.a0 = z := ⟨_, rfl⟩
  rw [hzz] at HC hneg
  clear hA hcell ha hb hzz
  by_cases hlt : b.a0 < a.a0
  · have hzn : z < 0 := by simpa [hlt] using hneg
    rw [if_pos hlt]
    clear hneg hlt
    go_enter Tryd.func66, Tryd.ntmps66
    go_wp2
    refine wp_loop_rounds 2 ?_
    rw [rounds_succ]
    go_wp2_with fail
    refine HC.out.mono ?_
    rintro e w1 ⟨rfl, b1⟩
    have d1 := (b1.cell (p := ⟨bb, off + 1, none⟩) hz).trans c1
    have B1 := Lib.hid b1
    clear b1 c0 c1
    go_wp2
    rw [rounds_succ]
    go_wp2
    go_ret
    exact ⟨rfl, B1.out⟩
  · have hzn : ¬ z < 0 := by simpa [hlt] using hneg
    rw [if_neg hlt]
    clear hneg hlt
    go_enter Tryd.func66, Tryd.ntmps66
    go_wp2
    refine wp_loop_rounds 2 ?_
    rw [rounds_succ]
    go_wp2_with fail
    refine HC.out.mono ?_
    rintro e w1 ⟨rfl, b1⟩
    have B1 := Lib.hid b1
    clear b1 c0 c1
    go_wp2
    rw [rounds_succ]
    go_wp2
    go_ret
    exact ⟨rfl, B1.out⟩

theorem idx0 (g0 g1 : Nat) (w : World) : (Instr.index 62 (.agg #[ptr g0, ptr g1]) (.int .i64 0)).run Tryd.prog w = .ok (ptr g0) w := by kernel_rfl
theorem idx1 (g0 g1 : Nat) (w : World) : (Instr.index 62 (.agg #[ptr g0, ptr g1]) (.int .i64 1)).run Tryd.prog w = .ok (ptr g1) w := by kernel_rfl
theorem Tryd.infoSide : (Tryd.prog.info? 61).map (fun i => (i.zero, i.size, i.bytes)) = some (some (.pointer none), 1, 8) := by kernel_rfl
/-- a row of pointers is no side, and no row of hunks -/
theorem side_ne {w0 w : World} {g n c : Nat} {s : Sd} {r : List Hk} {A : Option Addr} {xs : List Value} (h : Ow w0 w 61 1 A n c xs) (k : Nx w g s r) : some g ≠ (Value.slice A n c).ownBlock := row_ne h k.blk (by decide)
theorem side_row {w0 w : World} {g n c : Nat} {s : Sd} {r : List Hk} {A : Option Addr} {xs : List Value} (h : Ow w0 w 61 1 A n c xs) (k : Nx w g s r) : ∀ b off, 0 < s.k → s.H = some ⟨b, off, none⟩ → some b ≠ (Value.slice A n c).ownBlock :=
  fun b off hk he => (k.typ b off hk he).ne_own h (by decide)
theorem Nx.grown {w w' : World} {g : Nat} {s : Sd} {r : List Hk} {row : Option Nat} (h : Nx w g s r) (hg : w.grownBy w' row) (h1 : some g ≠ row) (h2 : ∀ b off, 0 < s.k → s.H = some ⟨b, off, none⟩ → some b ≠ row) : Nx w' g s r := by
  refine ⟨h.blk.grown hg h1, ⟨h.row.1, fun hn => ?_⟩, h.few, h.suf, h.lim, fun b off hk he => (h.typ b off hk he).grown hg (h2 b off hk he)⟩
  obtain ⟨b, off, e, hb, hc⟩ := h.row.2 hn
  exact ⟨b, off, e, Nat.lt_of_lt_of_le hb hg.size, fun k hk => (World.cell?_of_block (hg.block _ hb (h2 b off hn e))).trans (hc k hk)⟩

set_option maxHeartbeats 4000000 in
set_option maxRecDepth 100000 in
theorem first_no (gm g0 g1 : Nat) (s0 s1 : Sd) (v0 v3 v4 : Value) (w : World) (hM : Blk w gm 64 #[v0, ptr g0, ptr g1, v3, v4]) (h0 : Nx w g0 s0 []) (h1 : Nx w g1 s1 []) :
    Calls Tryd.prog 54 #[ptr gm] w fun e w' => e = .returned (.tuple #[.pointer none, .bool false]) ∧ Below w.heap.size w w' := by
  have H0 := Lib.hid h0
  have H1 := Lib.hid h1
  have rM := hM.cell
  have zM := hM.lt
  have hi0 := idx0 g0 g1
  have hi1 := idx1 g0 g1
  obtain ⟨i0, hq0, hz0, hz1, hz2⟩ := info_parts Tryd.infoSide
  clear h0 h1 hM
  go_enter Tryd.func54, Tryd.ntmps54
  go_wp2
  refine wp_loop_rounds 3 ?_
  rw [rounds_succ]
  go_wp2_with fail
  refine H0.out.no.mono ?_
  rintro e1 w1 ⟨rfl, b1⟩
  have B1 := Lib.hid b1
  have K1 := Lib.hid (H1.out.step b1)
  have K0 := Lib.hid (H0.out.step b1)
  clear b1 rM zM hi0 H0 H1
  have BA := Lib.hid (balloc B1.out (.cells #[I 0, I 0, I 0, I 0] 33))
  have K1 := Lib.hid (K1.out.step (balloc (Below.refl _ _) (.cells #[I 0, I 0, I 0, I 0] 33)))
  have K0 := Lib.hid (K0.out.step (balloc (Below.refl _ _) (.cells #[I 0, I 0, I 0, I 0] 33)))
  clear B1
  go_wp2
  rw [rounds_succ]
  go_wp2_with fail
  refine K1.out.no.mono ?_
  rintro e3 w3 ⟨rfl, b3⟩
  have B3 := Lib.hid (bstep BA.out b3)
  clear BA
  have L1 := Lib.hid (K1.out.step b3)
  have L0 := Lib.hid (K0.out.step b3)
  clear b3 K0 K1 hi1
  have B4 := Lib.hid (balloc B3.out (.cells #[I 0, I 0, I 0, I 0] 33))
  clear B3
  go_wp2
  rw [rounds_succ]
  go_wp2
  go_ret2
  exact ⟨rfl, B4.out⟩

set_option maxHeartbeats 4000000 in
set_option maxRecDepth 100000 in
theorem first_l (gm g0 g1 : Nat) (s0 s1 : Sd) (v0 v3 v4 : Value) (a : Hk) (t : List Hk) (w : World) (hM : Blk w gm 64 #[v0, ptr g0, ptr g1, v3, v4]) (h0 : Nx w g0 s0 (a :: t)) (h1 : Nx w g1 s1 []) :
    Calls Tryd.prog 54 #[ptr gm] w fun e w' => e = .returned (.tuple #[ptr g0, .bool true]) ∧ Below w.heap.size w w' := by
  have H0 := Lib.hid h0
  have H1 := Lib.hid h1
  have rM := hM.cell
  have zM := hM.lt
  have hi0 := idx0 g0 g1
  have hi1 := idx1 g0 g1
  obtain ⟨i0, hq0, hz0, hz1, hz2⟩ := info_parts Tryd.infoSide
  have hmx := Lib.hid (show 1 ≤ maxLen by simp only [maxLen]; omega)
  have hmb := Lib.hid (show 1 * 8 ≤ 140737488355328 by omega)
  clear h0 h1 hM
  go_enter Tryd.func54, Tryd.ntmps54
  go_wp2
  refine wp_loop_rounds 3 ?_
  rw [rounds_succ]
  go_wp2_with fail
  refine H0.out.yes.mono ?_
  rintro e1 w1 ⟨rfl, b1⟩
  have B1 := Lib.hid b1
  have K1 := Lib.hid (H1.out.step b1)
  have K0 := Lib.hid (H0.out.step b1)
  clear b1 rM zM hi0 H0 H1
  obtain ⟨x0, hx0⟩ : ∃ x : Int, (a.a0 : Int) = x := ⟨_, rfl⟩
  obtain ⟨x1, hx1⟩ : ∃ x : Int, (a.a1 : Int) = x := ⟨_, rfl⟩
  obtain ⟨x2, hx2⟩ : ∃ x : Int, (a.b0 : Int) = x := ⟨_, rfl⟩
  obtain ⟨x3, hx3⟩ : ∃ x : Int, (a.b1 : Int) = x := ⟨_, rfl⟩
  rw [hx0, hx1, hx2, hx3]
  clear hx0 hx1 hx2 hx3
  have BA := Lib.hid (balloc (balloc B1.out (.cells #[I x0, I x1, I x2, I x3] 33)) (.cells #[ptr g0] 61))
  have hone := sl_one (w1.alloc (.cells #[I x0, I x1, I x2, I x3] 33)) 61 (ptr g0)
  rw [World.size_alloc] at hone
  go_wp2_with (at_builtin; refine wpList_append_first _ rfl (.tmp 22) (.tmp 24) _ rfl w 61 i0 _ 1 8 Tryd.underlying106 hq0 hz0 hz1 hz2 rfl Nat.one_pos rfl BA.out (some ⟨w1.heap.size + 1, 0, none⟩) 1 1 [ptr g0] rfl hone (one_one rfl) hmx.out hmb.out ?_; intro A2 c2 w2 hO2 hg2; have G2 : Below w1.heap.size w1 w2 := (balloc (balloc (Below.refl _ w1) (.cells #[I x0, I x1, I x2, I x3] 33)) (.cells #[ptr g0] 61)).grown hg2 (by simp; omega) (fun k hk => by cases hk); have K1 := Lib.hid (K1.out.step G2); have K0 := Lib.hid (K0.out.step G2); clear BA hone hg2 B1)
  rw [rounds_succ]
  go_wp2_with fail
  refine K1.out.no.mono ?_
  rintro e3 w3 ⟨rfl, b3⟩
  have HO3 := Lib.hid (hO2.keep b3)
  clear hO2
  have L1 := Lib.hid (K1.out.step b3)
  have L0 := Lib.hid (K0.out.step b3)
  clear b3 K0 K1 hi1
  have hO4 := HO3.out.alloc (.cells #[I 0, I 0, I 0, I 0] 33)
  clear HO3
  go_wp2
  rw [rounds_succ]
  go_wp2_with fail
  refine (min_one A2 c2 g0 _ hO4.sl).mono ?_
  rintro e5 w5 ⟨rfl, b5⟩
  have B5 := Lib.hid (bstep hO4.2 b5)
  clear b5 hO4
  go_wp2
  go_ret2
  exact ⟨rfl, B5.out⟩

set_option maxHeartbeats 4000000 in
set_option maxRecDepth 100000 in
theorem first_r (gm g0 g1 : Nat) (s0 s1 : Sd) (v0 v3 v4 : Value) (b : Hk) (s : List Hk) (w : World) (hM : Blk w gm 64 #[v0, ptr g0, ptr g1, v3, v4]) (h0 : Nx w g0 s0 []) (h1 : Nx w g1 s1 (b :: s)) :
    Calls Tryd.prog 54 #[ptr gm] w fun e w' => e = .returned (.tuple #[ptr g1, .bool true]) ∧ Below w.heap.size w w' := by
  have H0 := Lib.hid h0
  have H1 := Lib.hid h1
  have rM := hM.cell
  have zM := hM.lt
  have hi0 := idx0 g0 g1
  have hi1 := idx1 g0 g1
  obtain ⟨i0, hq0, hz0, hz1, hz2⟩ := info_parts Tryd.infoSide
  have hmx := Lib.hid (show 1 ≤ maxLen by simp only [maxLen]; omega)
  have hmb := Lib.hid (show 1 * 8 ≤ 140737488355328 by omega)
  clear h0 h1 hM
  go_enter Tryd.func54, Tryd.ntmps54
  go_wp2
  refine wp_loop_rounds 3 ?_
  rw [rounds_succ]
  go_wp2_with fail
  refine H0.out.no.mono ?_
  rintro e1 w1 ⟨rfl, b1⟩
  have B1 := Lib.hid b1
  have K1 := Lib.hid (H1.out.step b1)
  have K0 := Lib.hid (H0.out.step b1)
  clear b1 rM zM hi0 H0 H1
  have BA := Lib.hid (balloc B1.out (.cells #[I 0, I 0, I 0, I 0] 33))
  have K1 := Lib.hid (K1.out.step (balloc (Below.refl _ _) (.cells #[I 0, I 0, I 0, I 0] 33)))
  have K0 := Lib.hid (K0.out.step (balloc (Below.refl _ _) (.cells #[I 0, I 0, I 0, I 0] 33)))
  clear B1
  go_wp2
  rw [rounds_succ]
  go_wp2_with fail
  refine K1.out.yes.mono ?_
  rintro e3 w3 ⟨rfl, b3⟩
  have B3 := Lib.hid (bstep BA.out b3)
  clear BA
  have L1 := Lib.hid (K1.out.step b3)
  have L0 := Lib.hid (K0.out.step b3)
  clear b3 K0 K1 hi1
  obtain ⟨y0, hy0⟩ : ∃ x : Int, (b.a0 : Int) = x := ⟨_, rfl⟩
  obtain ⟨y1, hy1⟩ : ∃ x : Int, (b.a1 : Int) = x := ⟨_, rfl⟩
  obtain ⟨y2, hy2⟩ : ∃ x : Int, (b.b0 : Int) = x := ⟨_, rfl⟩
  obtain ⟨y3, hy3⟩ : ∃ x : Int, (b.b1 : Int) = x := ⟨_, rfl⟩
  rw [hy0, hy1, hy2, hy3]
  clear hy0 hy1 hy2 hy3
  have hone := sl_one (w3.alloc (.cells #[I y0, I y1, I y2, I y3] 33)) 61 (ptr g1)
  rw [World.size_alloc] at hone
  have BA := Lib.hid (balloc (balloc B3.out (.cells #[I y0, I y1, I y2, I y3] 33)) (.cells #[ptr g1] 61))
  go_wp2_with (at_builtin; refine wpList_append_first _ rfl (.tmp 22) (.tmp 24) _ rfl w 61 i0 _ 1 8 Tryd.underlying106 hq0 hz0 hz1 hz2 rfl Nat.one_pos rfl BA.out (some ⟨w3.heap.size + 1, 0, none⟩) 1 1 [ptr g1] rfl hone (one_one rfl) hmx.out hmb.out ?_; intro A4 c4 w4 hO4 hg4; clear hone hg4 BA B3)
  rw [rounds_succ]
  go_wp2_with fail
  refine (min_one A4 c4 g1 _ hO4.sl).mono ?_
  rintro e5 w5 ⟨rfl, b5⟩
  have B5 := Lib.hid (bstep hO4.2 b5)
  clear b5 hO4
  go_wp2
  go_ret2
  exact ⟨rfl, B5.out⟩

set_option maxHeartbeats 4000000 in
set_option maxRecDepth 100000 in
theorem first_both (gm g0 g1 : Nat) (s0 s1 : Sd) (v0 v3 v4 : Value) (a : Hk) (t : List Hk) (b : Hk) (s : List Hk) (w : World) (hM : Blk w gm 64 #[v0, ptr g0, ptr g1, v3, v4]) (h0 : Nx w g0 s0 (a :: t)) (h1 : Nx w g1 s1 (b :: s)) :
    Calls Tryd.prog 54 #[ptr gm] w fun e w' => e = .returned (.tuple #[ptr (if b.a0 < a.a0 then g1 else g0), .bool true]) ∧ Below w.heap.size w w' := by
  obtain ⟨gz, hgz⟩ : ∃ gz, (if b.a0 < a.a0 then g1 else g0) = gz := ⟨_, rfl⟩
  rw [hgz]
  have HGZ := Lib.hid hgz
  clear hgz
  have H0 := Lib.hid h0
  have H1 := Lib.hid h1
  have rM := hM.cell
  have zM := hM.lt
  have hi0 := idx0 g0 g1
  have hi1 := idx1 g0 g1
  obtain ⟨i0, hq0, hz0, hz1, hz2⟩ := info_parts Tryd.infoSide
  have hmx := Lib.hid (show 1 ≤ maxLen by simp only [maxLen]; omega)
  have hmb := Lib.hid (show 1 * 8 ≤ 140737488355328 by omega)
  have hmx2 := Lib.hid (show 1 + 1 ≤ maxLen by simp only [maxLen]; omega)
  have hmb2 := Lib.hid (show (1 + 1) * 8 ≤ 140737488355328 by omega)
  clear h0 h1 hM
  go_enter Tryd.func54, Tryd.ntmps54
  go_wp2
  refine wp_loop_rounds 3 ?_
  rw [rounds_succ]
  go_wp2_with fail
  refine H0.out.yes.mono ?_
  rintro e1 w1 ⟨rfl, b1⟩
  have B1 := Lib.hid b1
  have K1 := Lib.hid (H1.out.step b1)
  have K0 := Lib.hid (H0.out.step b1)
  clear b1 rM zM hi0 H0 H1
  obtain ⟨x0, hx0⟩ : ∃ x : Int, (a.a0 : Int) = x := ⟨_, rfl⟩
  obtain ⟨x1, hx1⟩ : ∃ x : Int, (a.a1 : Int) = x := ⟨_, rfl⟩
  obtain ⟨x2, hx2⟩ : ∃ x : Int, (a.b0 : Int) = x := ⟨_, rfl⟩
  obtain ⟨x3, hx3⟩ : ∃ x : Int, (a.b1 : Int) = x := ⟨_, rfl⟩
  rw [hx0, hx1, hx2, hx3]
  clear hx0 hx1 hx2 hx3
  have BA := Lib.hid (balloc (balloc B1.out (.cells #[I x0, I x1, I x2, I x3] 33)) (.cells #[ptr g0] 61))
  have hone := sl_one (w1.alloc (.cells #[I x0, I x1, I x2, I x3] 33)) 61 (ptr g0)
  rw [World.size_alloc] at hone
  go_wp2_with (at_builtin; refine wpList_append_first _ rfl (.tmp 22) (.tmp 24) _ rfl w 61 i0 _ 1 8 Tryd.underlying106 hq0 hz0 hz1 hz2 rfl Nat.one_pos rfl BA.out (some ⟨w1.heap.size + 1, 0, none⟩) 1 1 [ptr g0] rfl hone (one_one rfl) hmx.out hmb.out ?_; intro A2 c2 w2 hO2 hg2; have G2 : Below w1.heap.size w1 w2 := (balloc (balloc (Below.refl _ w1) (.cells #[I x0, I x1, I x2, I x3] 33)) (.cells #[ptr g0] 61)).grown hg2 (by simp; omega) (fun k hk => by cases hk); have K1 := Lib.hid (K1.out.step G2); have K0 := Lib.hid (K0.out.step G2); clear BA hone hg2 B1)
  rw [rounds_succ]
  go_wp2_with fail
  refine K1.out.yes.mono ?_
  rintro e3 w3 ⟨rfl, b3⟩
  have HO3 := Lib.hid (hO2.keep b3)
  clear hO2
  have L1 := Lib.hid (K1.out.step b3)
  have L0 := Lib.hid (K0.out.step b3)
  clear b3 K0 K1 hi1
  obtain ⟨y0, hy0⟩ : ∃ x : Int, (b.a0 : Int) = x := ⟨_, rfl⟩
  obtain ⟨y1, hy1⟩ : ∃ x : Int, (b.a1 : Int) = x := ⟨_, rfl⟩
  obtain ⟨y2, hy2⟩ : ∃ x : Int, (b.b0 : Int) = x := ⟨_, rfl⟩
  obtain ⟨y3, hy3⟩ : ∃ x : Int, (b.b1 : Int) = x := ⟨_, rfl⟩
  rw [hy0, hy1, hy2, hy3]
  clear hy0 hy1 hy2 hy3
  have hone := sl_one (w3.alloc (.cells #[I y0, I y1, I y2, I y3] 33)) 61 (ptr g1)
  rw [World.size_alloc] at hone
  have HOA := Lib.hid ((HO3.out.alloc (.cells #[I y0, I y1, I y2, I y3] 33)).alloc (.cells #[ptr g1] 61))
  have L0' := Lib.hid (L0.out.step (balloc (balloc (Below.refl _ w3) (.cells #[I y0, I y1, I y2, I y3] 33)) (.cells #[ptr g1] 61)))
  have L1' := Lib.hid (L1.out.step (balloc (balloc (Below.refl _ w3) (.cells #[I y0, I y1, I y2, I y3] 33)) (.cells #[ptr g1] 61)))
  go_wp2_with (at_builtin; refine wpList_append_sl _ rfl (.tmp 22) (.tmp 24) _ rfl w 61 i0 _ 1 8 Tryd.underlying106 hq0 hz0 hz1 hz2 rfl Nat.one_pos A2 1 c2 [ptr g0] rfl HOA.out (some ⟨w3.heap.size + 1, 0, none⟩) 1 1 [ptr g1] rfl hone (one_one rfl) hmx2.out hmb2.out ?_; intro A4 c4 w4 hO4 hg4 ha4; have L0 := Lib.hid (L0'.out.grown hg4 (side_ne HOA.out L0'.out) (side_row HOA.out L0'.out)); have L1 := Lib.hid (L1'.out.grown hg4 (side_ne HOA.out L1'.out) (side_row HOA.out L1'.out)); clear hone hg4 ha4 HOA HO3 L0' L1')
  rw [rounds_succ]
  go_wp2_with fail
  refine (min_two A4 c4 g0 g1 s0 s1 a b t s _ hO4.sl L0.out L1.out).mono ?_
  rintro e5 w5 ⟨rfl, b5⟩
  have B5 := Lib.hid (bstep hO4.2 b5)
  clear b5 hO4 L0 L1
  rw [HGZ.out]
  go_wp2
  go_ret2
  exact ⟨rfl, B5.out⟩
end Go.Proofs.YtpnogcblafmaiaaDoor
