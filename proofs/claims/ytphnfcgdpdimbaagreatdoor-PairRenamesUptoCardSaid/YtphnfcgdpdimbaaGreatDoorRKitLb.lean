/-
  Texts merged: LineTurn, LineDiff, LineDiffC, LineSim, LineSimC. What each law says and asks stands at its head.
-/
import Derived.Test.YtphnfcgdpdimbaaGreatDoorRLineTable
import Derived.Test.YtphnfcgdpdimbaaGreatDoorRKitW
import Derived.Deep.RegionLaw
import Derived.Outline
import Derived.Test.YtphnfcgdpdimbaaGreatDoorRKitLa
namespace Go.Proofs.YtphnfcgdpdimbaaGreatDoor
open Go.RowKit
open LineLaw (Hk)
def hkc (h : Hk) : List Value := [I h.a0, I h.a1, I h.b0, I h.b1]
def hks (l : List Hk) : List Value := l.flatMap hkc
theorem hks_len (l : List Hk) : (hks l).length = l.length * 4 := by
 induction l with
 | nil => rfl
 | cons h l ih => rw [hks, List.flatMap_cons, List.length_append, ← hks, ih]; simp [hkc]; omega
theorem hks_append (l k : List Hk) : hks (l ++ k) = hks l ++ hks k := by simp [hks]
theorem hks_one (h : Hk) : hks [h] = hkc h := by simp [hks]
theorem one_hks (l : List Hk) : ∀ u ∈ hks l, u.oneCell' = true := by
 intro u hu
 obtain ⟨h, _, hu⟩ := List.mem_flatMap.1 hu
 simp [hkc] at hu
 rcases hu with rfl | rfl | rfl | rfl <;> rfl
theorem hks_set (done : List Hk) (h : Hk) (a b : Nat) : ((hks (done ++ [h])).set (done.length * 4 + 1) (I a)).set (done.length * 4 + 3) (I b) = hks (done ++ [{ h with a1 := a, b1 := b }]) := by
 rw [hks_append, hks_append, hks_one, hks_one, ← hks_len]
 simp [hkc]
set_option maxHeartbeats 1000000 in
theorem longest1_any (b n n' N i j : Nat) (ss ss' : List (List UInt8)) (cs : Array Value) (w : World) (hT : Tabs w b n' N cs) (hG : Tab ss ss' n n' 0 cs) (hN : (n + 1) * (n' + 1) = N) (hb : N ≤ 17592186044416) (hi : i ≤ n) (hj : j ≤ n') :
  Calls Tryz.prog 319 #[I i, I j, .pointer (some ⟨b + 1 + 1, 0, none⟩), .pointer (some ⟨b, 0, none⟩)] w fun e w' => e = .returned (I (LineLaw.L (ss.drop i) (ss'.drop j) : Nat)) ∧ w = w' := by
 obtain ⟨P, hP⟩ : ∃ P, i * (n' + 1) = P := ⟨_, rfl⟩
 have hPm : (i : Int) * ((n' : Int) + 1) = (P : Int) := by rw [← hP]; simp
 have hbd : P + j < N := by have := tab_lt hi hj; rw [hP, hN] at this; exact this
 have t := hG.val i j hi hj (.inl (Nat.zero_le _))
 rw [hP] at t
 have c0 := (hT.cells.cell _).trans t
 have r0 := hT.wide.cell 0
 have r2 := hT.row.cell 0
 simp at r0 r2
 have HP := Lib.hid hP
 clear hT hG hN hP t
 go_enter Tryz.func319, Tryz.ntmps319
 go_wp2
 go_ret
 exact ⟨rfl, rfl⟩
abbrev hkV (a0 a1 b0 b1 : Int) : Value := .agg #[I a0, I a1, I b0, I b1]
set_option maxHeartbeats 1000000 in
theorem diff1_any (pb : Nat) (p i j : Nat) (w : World) (hp : w.cell? ⟨pb, 0, none⟩ = some (I p)) (hb : p + i ≤ 9223372036854775807) (hb' : p + j ≤ 9223372036854775807) :
  Calls Tryz.prog 278 #[I i, I j, .pointer (some ⟨pb, 0, none⟩)] w fun e w' => e = .returned (hkV (p + i : Nat) (p + i : Nat) (p + j : Nat) (p + j : Nat)) ∧ Below w.heap.size w w' := by
 have hlt : pb < w.heap.size := World.block_lt_of_cell? _ _ hp
 go_enter Tryz.func278, Tryz.ntmps278
 go_wp2
 exact bodyPost_ret (v := hkV (p + i : Nat) (p + i : Nat) (p + j : Nat) (p + j : Nat)) (by simp [results, Tryz.results278, go_sem]) rfl ⟨rfl, balloc (Below.refl _ _) _⟩
theorem Tryz.infoHk : (Tryz.prog.info? 306).map (fun i => (i.zero, i.size, i.bytes)) = some (some (.agg #[I 0, I 0, I 0, I 0]), 4, 32) := by kernel_rfl
set_option maxHeartbeats 2000000 in
set_option maxRecDepth 100000 in
theorem turn_open (w0 w : World) (wb : Nat) (A : Option Addr) (c : Nat) (done : List Hk) (h : Hk) (i' j' : Nat) (f0 f1 f2 f3 t0 t2 : Int)
  (hW : Blk w wb 373 #[.slice A (done.length + 1) c, .bool true]) (hO : Ow w0 w 306 4 A (done.length + 1) c (hks (done ++ [h]))) (_h0 : w0.heap.size ≤ wb) (hb : done.length + 1 ≤ 1099511627776) :
  Calls Tryz.prog 279 #[.pointer (some ⟨wb, 0, none⟩), hkV f0 f1 f2 f3, hkV t0 i' t2 j'] w fun e w' => e = .returned (.tuple #[]) ∧
   Blk w' wb 373 #[.slice A (done.length + 1) c, .bool true] ∧ Ow w0 w' 306 4 A (done.length + 1) c (hks (done ++ [{ h with a1 := i', b1 := j' }])) := by
 obtain ⟨g, rfl, hg0, hg1⟩ := hO.form (by omega)
 have hne := row_ne hO hW (by decide)
 have hne' : ¬ wb = g := fun e => hne (by simp [Value.ownBlock, e])
 obtain ⟨m, hm⟩ : ∃ m, done.length = m := ⟨_, rfl⟩
 rw [hm] at hW hO hb ⊢
 have cA := (hO.1.cellAt (m * 4 + 1) (by omega)).trans (show _ = some (I h.a1) by rw [hks_append, ← hm, ← hks_len, hks_one]; simp [hkc])
 have cB := (hO.1.cellAt (m * 4 + 3) (by omega)).trans (show _ = some (I h.b1) by rw [hks_append, ← hm, ← hks_len, hks_one]; simp [hkc])
 have fA := hO.1.frozenAt
 have HW := Lib.hid hW
 have HO := Lib.hid hO
 have Hm := Lib.hid hm
 clear hm
 have r := hW.cell
 have hz := hW.lt
 clear hW hO hne
 go_enter Tryz.func279, Tryz.ntmps279
 go_wp2
 go_quiet (fail)
 go_wp2
 go_region
 go_wp2
 go_end0
 refine ⟨rfl, (((((HW.out.alloc _).alloc _).drewN _).far hne' _).far hne' _), ?_⟩
 rw [← hks_set, Hm.out]
 exact ((((HO.out.alloc _).alloc _).drewN _).set_ _ _).set_ _ _
theorem sl_hk (w : World) (t : TypeId) (h : Hk) (k : Nat) (hk : w.heap.size = k) : Sl (w.alloc (.cells #[I h.a0, I h.a1, I h.b0, I h.b1] t)) 4 (some ⟨k, 0, none⟩) 1 (hks [h]) := by
 subst hk
 refine ⟨by simp [hks_one, hkc], fun _ => ⟨_, _, rfl, by simp, fun k hk => ?_⟩⟩
 rw [Nat.zero_add, hks_one]
 simp [hkc]
set_option maxHeartbeats 2000000 in
set_option maxRecDepth 100000 in
theorem turn_shut (w0 w : World) (wb : Nat) (A : Option Addr) (n c : Nat) (done : List Hk) (h : Hk) (i' j' : Nat) (t0 t2 : Int)
  (hW : Blk w wb 373 #[.slice A n c, .bool false]) (hO : Ow w0 w 306 4 A n c (hks done)) (h0 : w0.heap.size ≤ wb) (hb : n + 1 ≤ 1099511627776) :
  Calls Tryz.prog 279 #[.pointer (some ⟨wb, 0, none⟩), hkV h.a0 h.a1 h.b0 h.b1, hkV t0 i' t2 j'] w fun e w' => e = .returned (.tuple #[]) ∧
   ∃ A' c', Blk w' wb 373 #[.slice A' (n + 1) c', .bool true] ∧ Ow w0 w' 306 4 A' (n + 1) c' (hks (done ++ [{ h with a1 := i', b1 := j' }])) := by
 obtain ⟨i0, hi0, hi1, hi2, hi3⟩ := info_parts Tryz.infoHk
 have hdl : done.length = n := by have := hO.len; rw [hks_len] at this; omega
 have hmm : n + 1 ≤ maxLen := by simp only [maxLen]; omega
 have hnn : (n + 1) * 32 ≤ 140737488355328 := by omega
 have HW := Lib.hid hW
 have HO := Lib.hid hO
 have Hdl := Lib.hid hdl
 have r := hW.cell
 have hz := hW.lt
 have hz1 : wb < w.heap.size + 1 := by omega
 have hz2 : wb < w.heap.size + 1 + 1 := by omega
 have f := hW.frozen
 clear hW hO hdl
 go_enter Tryz.func279, Tryz.ntmps279
 go_wp2_with fail
 have hOx := Lib.hid ((((HO.out.alloc (.cells #[I h.a0, I h.a1, I h.b0, I h.b1] 306)).alloc (.cells #[I t0, I i', I t2, I j'] 306)).alloc (.cells #[I h.a0, I h.a1, I h.b0, I h.b1] 306)).drew)
 have hWx := Lib.hid ((((HW.out.alloc (.cells #[I h.a0, I h.a1, I h.b0, I h.b1] 306)).alloc (.cells #[I t0, I i', I t2, I j'] 306)).alloc (.cells #[I h.a0, I h.a1, I h.b0, I h.b1] 306)).drew)
 have hSx := Lib.hid ((sl_hk ((w.alloc (.cells #[I h.a0, I h.a1, I h.b0, I h.b1] 306)).alloc (.cells #[I t0, I i', I t2, I j'] 306)) 306 h (w.heap.size + 1 + 1) (by simp)).drew)
 go_region_law ((refine step_append_sl _ (by rfl) (.tmp 16) (.tmp 18) _ (by rfl) w0 306 i0 _ 4 32 Tryz.underlying303 hi0 hi1 hi2 hi3 rfl (by decide) A n c _ (by rfl) hOx.out _ 1 1 (hks [h]) (by rfl) hSx.out (one_hks _) hmm hnn ?_; intro A1 c1 w1 hO1 hg1 hat1; have hW1 := hWx.out.grown hg1 (row_ne hOx.out hWx.out (by decide)); have k1 := hW1.cell; have f1 := hW1.frozen))
 all_goals
  obtain ⟨g, rfl, hg0, hg2⟩ := hO1.form (by omega)
  have hown : ∀ k, (Value.slice A n c).ownBlock = some k → k < w.heap.size := fun k hk => (HO.out.1.lt k hk).2
  have hgne : ¬ g = w.heap.size + 1 := by
   rintro rfl
   rcases hat1 with h1 | h1
   ·have h2 : w.heap.size + 1 < w.heap.size := hown _ (h1.symm.trans rfl)
    omega
   ·simp [Value.ownBlock] at h1
  have hT1 : Blk w1 (w.heap.size + 1) 306 #[I t0, I i', I t2, I j'] := by
   have hb0 := Blk.new (w.alloc (.cells #[I h.a0, I h.a1, I h.b0, I h.b1] 306)) 306 #[I t0, I i', I t2, I j']
   rw [World.size_alloc] at hb0
   exact ((hb0.alloc (.cells #[I h.a0, I h.a1, I h.b0, I h.b1] 306)).drew).grown hg1 (fun e => by have := hown _ e.symm; omega)
  have hWg : ¬ wb = g := fun e => row_ne hO1 hW1 (by decide) (by simp [Value.ownBlock, e])
  have hxs : hks done ++ hks [h] = hks (done ++ [h]) := (hks_append _ _).symm
  rw [hxs] at hO1
  have cA := (hO1.1.cellAt (n * 4 + 1) (by omega)).trans (show _ = some (I h.a1) by rw [hks_append, ← Hdl.out, ← hks_len, hks_one]; simp [hkc])
  have cB := (hO1.1.cellAt (n * 4 + 3) (by omega)).trans (show _ = some (I h.b1) by rw [hks_append, ← Hdl.out, ← hks_len, hks_one]; simp [hkc])
  have fA := hO1.1.frozenAt
  have rT := hT1.cell
  have hzT := hT1.lt
  have hzW := hW1.lt
  have HO1 := Lib.hid hO1
  have HW1 := Lib.hid hW1
  have hwT : ¬ wb = w.heap.size + 1 := by omega
  clear hO1 hW1 hT1 hat1 hg1 hown hxs r f hOx hWx hSx
  go_wp2
  go_quiet (fail)
  go_wp2
  go_region
  go_wp2
  go_end0
  refine ⟨rfl, _, _, (((((HW1.out.set_ 0 _).set_ 1 _).drewN _).far hWg _).far hWg _), ?_⟩
  rw [← hks_set, Hdl.out]
  exact ((((HO1.out.far (p := ⟨wb, 0, none⟩) (row_ne HO1.out HW1.out (by decide)) h0 _).far (p := ⟨wb, 1, none⟩) (row_ne HO1.out HW1.out (by decide)) h0 _).drewN _).set_ _ _).set_ _ _
theorem turn_any (w0 w : World) (wb : Nat) (A : Option Addr) (m c : Nat) (done : List Hk) (cur : Option Hk) (i j i' j' : Nat) (t0 t2 : Int)
  (hW : Blk w wb 373 #[.slice A m c, .bool cur.isSome]) (hO : Ow w0 w 306 4 A m c (hks (done ++ cur.toList))) (h0 : w0.heap.size ≤ wb) (hb : m + 1 ≤ 1099511627776) :
  Calls Tryz.prog 279 #[.pointer (some ⟨wb, 0, none⟩), hkV i i j j, hkV t0 i' t2 j'] w fun e w' => e = .returned (.tuple #[]) ∧
   ∃ A' m' c', m' ≤ m + 1 ∧ Blk w' wb 373 #[.slice A' m' c', .bool true] ∧ Ow w0 w' 306 4 A' m' c' (hks (done ++ [LineLaw.ext cur i j i' j'])) := by
 cases cur with
 | none =>
  simp only [Option.toList_none, List.append_nil, Option.isSome_none] at hW hO
  refine (turn_shut w0 w wb A m c done ⟨i, i, j, j⟩ i' j' t0 t2 hW hO h0 hb).mono ?_
  rintro e w' ⟨rfl, A', c', h1, h2⟩
  exact ⟨rfl, A', m + 1, c', Nat.le_refl _, h1, h2⟩
 | some h =>
  simp only [Option.toList_some, Option.isSome_some] at hW hO
  have hm : m = done.length + 1 := by have := hO.len; rw [hks_len] at this; simp at this; omega
  subst hm
  refine (turn_open w0 w wb A c done h i' j' i i j j t0 t2 hW hO h0 (by omega)).mono ?_
  rintro e w' ⟨rfl, h1, h2⟩
  exact ⟨rfl, A, done.length + 1, c, by omega, h1, h2⟩
theorem Tabs.below {w w' : World} {b n' N : Nat} {cs : Array Value} (h : Tabs w b n' N cs) {B : Nat} (hb : Below B w w') (hB : b + 1 + 1 < B) : Tabs w' b n' N cs :=
 ⟨h.wide.below hb (by omega), h.cells.below hb (by omega), h.row.below hb (by omega)⟩
theorem at_any {w : World} {pb p i j P Q : Nat} {zi zj : Int} (hp : w.cell? ⟨pb, 0, none⟩ = some (I p)) (hzi : zi = (i : Int)) (hzj : zj = (j : Int)) (hP : p + i = P) (hQ : p + j = Q) (hb : P ≤ 9223372036854775807) (hb' : Q ≤ 9223372036854775807) :
  Calls Tryz.prog 278 #[I zi, I zj, .pointer (some ⟨pb, 0, none⟩)] w fun e w' => e = .returned (hkV P P Q Q) ∧ Below w.heap.size w w' := by
 subst hP hQ hzi hzj
 exact diff1_any pb p i j w hp hb hb'
theorem ask_any {b n n' N i j v : Nat} {zi zj : Int} {ss ss' : List (List UInt8)} {cs : Array Value} {w : World} (hT : Tabs w b n' N cs) (hG : Tab ss ss' n n' 0 cs) (hN : (n + 1) * (n' + 1) = N) (hb : N ≤ 17592186044416) (hi : i ≤ n) (hj : j ≤ n') (hzi : zi = (i : Int)) (hzj : zj = (j : Int)) (hv : LineLaw.L (ss.drop i) (ss'.drop j) = v) :
  Calls Tryz.prog 319 #[I zi, I zj, .pointer (some ⟨b + 1 + 1, 0, none⟩), .pointer (some ⟨b, 0, none⟩)] w fun e w' => e = .returned (I v) ∧ w = w' := by
 subst hzi hzj hv
 exact longest1_any b n n' N i j ss ss' cs w hT hG hN hb hi hj
structure DAt (w3 wr : World) (x y : List (List UInt8)) (p i j : Nat) (A : Option Addr) (m c : Nat) (done : List Hk) (cur : Option Hk) : Prop where
 blk : Blk wr w3.heap.size 373 #[.slice A m c, .bool cur.isSome]
 own : Ow w3 wr 306 4 A m c (hks (done ++ cur.toList))
 law : LineLaw.walk none x y p p = done ++ LineLaw.walk cur (x.drop i) (y.drop j) (p + i) (p + j)
 few : m ≤ i + j
theorem drop_at {l : List (List UInt8)} {i : Nat} {s : List UInt8} (h : l[i]? = some s) : l.drop i = s :: l.drop (i + 1) := by
 obtain ⟨h1, e1⟩ := List.getElem?_eq_some_iff.1 h
 rw [List.drop_eq_getElem_cons h1, e1]
theorem DAt.same {w3 wr w4 : World} {x y : List (List UInt8)} {p i j : Nat} {A : Option Addr} {m c : Nat} {done : List Hk} {cur : Option Hk} {s : List UInt8} (h : DAt w3 wr x y p i j A m c done cur) (b4 : Below wr.heap.size wr w4) (hs : x[i]? = some s) (hs' : y[j]? = some s) (o : Obj) (q : Nat) :
  DAt w3 (((w4.alloc o).drewN q).setCell ⟨w3.heap.size, 1, none⟩ (.bool false)) x y p (i + 1) (j + 1) A m c (done ++ cur.toList) none := by
 have b := (((h.blk.step b4).alloc o).drewN q)
 have o4 := (((h.own.keep b4).alloc o).drewN q)
 refine ⟨b.set_ 1 (.bool false), ?_, ?_, by have := h.few; omega⟩
 ·rw [Option.toList_none, List.append_nil]
  exact o4.far (row_ne o4 b (by decide)) (Nat.le_refl _) _
 ·rw [h.law, drop_at hs, drop_at hs', LineLaw.walk_same, List.append_assoc, Nat.add_assoc, Nat.add_assoc]
theorem DAt.turned {w3 wr w6 : World} {x y : List (List UInt8)} {p i j i' j' : Nat} {A A6 : Option Addr} {m c m6 c6 : Nat} {done : List Hk} {cur : Option Hk} (h : DAt w3 wr x y p i j A m c done cur)
  (hW : Blk w6 w3.heap.size 373 #[.slice A6 m6 c6, .bool true]) (hO : Ow w3 w6 306 4 A6 m6 c6 (hks (done ++ [LineLaw.ext cur (p + i) (p + j) (p + i') (p + j')]))) (hm : m6 ≤ m + 1) (hij : i + j < i' + j')
  (hw : LineLaw.walk cur (x.drop i) (y.drop j) (p + i) (p + j) = LineLaw.walk (some (LineLaw.ext cur (p + i) (p + j) (p + i') (p + j'))) (x.drop i') (y.drop j') (p + i') (p + j')) :
  DAt w3 w6 x y p i' j' A6 m6 c6 done (some (LineLaw.ext cur (p + i) (p + j) (p + i') (p + j'))) :=
 ⟨hW, hO, by rw [h.law, hw], by have := h.few; omega⟩
set_option maxHeartbeats 8000000 in
set_option maxRecDepth 100000 in
theorem diff_strip (A A' : Option Addr) (n n' c c' : Nat) (ss ss' : List (List UInt8)) (w : World) (hA : Sl w 1 A n (strs ss)) (hA' : Sl w 1 A' n' (strs ss')) (hc : n ≤ c) (hc' : n' ≤ c') (hmul : (n - LineLaw.suf (ss.drop (LineLaw.pre ss ss')) (ss'.drop (LineLaw.pre ss ss')) - LineLaw.pre ss ss') * (n' - LineLaw.suf (ss.drop (LineLaw.pre ss ss')) (ss'.drop (LineLaw.pre ss ss')) - LineLaw.pre ss ss') ≤ 1048576) (hn : n ≤ 274877906944) (hn' : n' ≤ 274877906944) :
  Calls Tryz.prog 217 #[.slice A n c, .slice A' n' c'] w fun e w' => ∃ A2 m2 c2, e = .returned (.slice A2 m2 c2) ∧ Ow w w' 306 4 A2 m2 c2 (hks (LineLaw.diff ss ss')) := by
 have hl := Lib.hid (strs_len hA)
 have hl' := Lib.hid (strs_len hA')
 obtain ⟨p, hp⟩ : ∃ p, LineLaw.pre ss ss' = p := ⟨_, rfl⟩
 have hpn : p ≤ n := by have := LineLaw.pre_le_left ss ss'; rw [hp, hl.out] at this; exact this
 have hpn' : p ≤ n' := by have := LineLaw.pre_le_right ss ss'; rw [hp, hl'.out] at this; exact this
 obtain ⟨e, he⟩ : ∃ e, LineLaw.suf (ss.drop p) (ss'.drop p) = e := ⟨_, rfl⟩
 have hen : p + e ≤ n := by have := LineLaw.suf_le_left (ss.drop p) (ss'.drop p); rw [he, List.length_drop, hl.out] at this; omega
 have hen' : p + e ≤ n' := by have := LineLaw.suf_le_right (ss.drop p) (ss'.drop p); rw [he, List.length_drop, hl'.out] at this; omega
 obtain ⟨h1, hh1⟩ : ∃ h1, n - e = h1 := ⟨_, rfl⟩
 obtain ⟨h2, hh2⟩ : ∃ h2, n' - e = h2 := ⟨_, rfl⟩
 have i1 : (n : Int) - (e : Int) = (h1 : Int) := by omega
 have i2 : (n' : Int) - (e : Int) = (h2 : Int) := by omega
 obtain ⟨nx, hnx⟩ : ∃ nx, h1 - p = nx := ⟨_, rfl⟩
 obtain ⟨ny, hny⟩ : ∃ ny, h2 - p = ny := ⟨_, rfl⟩
 have k1 := fun W : World => run_cut_l (P := Tryz.prog) W Tryz.underlying52 Tryz.sizeStr A n c .i64 p hpn
 have k2 := fun W : World => run_cut_l (P := Tryz.prog) W Tryz.underlying52 Tryz.sizeStr A' n' c' .i64 p hpn'
 have k3 := fun W : World => run_cut_lh (P := Tryz.prog) W Tryz.underlying52 Tryz.sizeStr A n c .i64 .i64 p h1 (by omega) (by omega)
 have k4 := fun W : World => run_cut_lh (P := Tryz.prog) W Tryz.underlying52 Tryz.sizeStr A' n' c' .i64 .i64 p h2 (by omega) (by omega)
 have sX := hA.mid_ (j := p) (k := h1) (c := c) (by omega) (by omega) hc
 have sY := hA'.mid_ (j := p) (k := h2) (c := c') (by omega) (by omega) hc'
 have sE := hA.tail_ hpn hc
 have sE' := hA'.tail_ hpn' hc'
 rw [hnx] at k3 sX
 rw [hny] at k4 sY
 obtain ⟨X, hX⟩ : ∃ X, cutA A c p 1 = X := ⟨_, rfl⟩
 obtain ⟨Y, hY⟩ : ∃ Y, cutA A' c' p 1 = Y := ⟨_, rfl⟩
 rw [hX] at k1 k3 sX sE
 rw [hY] at k2 k4 sY sE'
 obtain ⟨x, hx⟩ : ∃ x, (ss.drop p).take nx = x := ⟨_, rfl⟩
 obtain ⟨y, hy⟩ : ∃ y, (ss'.drop p).take ny = y := ⟨_, rfl⟩
 rw [hx] at sX
 rw [hy] at sY
 have hdiff := Lib.hid (show LineLaw.diff ss ss' = LineLaw.walk none x y p p by
  unfold LineLaw.diff
  simp only [hp, he, hl.out, hl'.out, hh1, hh2, hnx, hny, hx, hy])
 have hmul2 : nx * ny ≤ 1048576 := by rwa [hp, he, hh1, hh2, hnx, hny] at hmul
 have SX := Lib.hid sX
 have SY := Lib.hid sY
 have SE := Lib.hid sE
 have SE' := Lib.hid sE'
 have HA := Lib.hid hA
 have HA' := Lib.hid hA'
 have Hp := Lib.hid hp
 have He := Lib.hid he
 have hnxn : nx ≤ n := by omega
 have hnyn : ny ≤ n' := by omega
 have hh1n : h1 ≤ n := by omega
 have hh2n : h2 ≤ n' := by omega
 clear sX sY sE sE' hA hA' hp he hh1 hh2 hnx hny hX hY hx hy hmul
 go_enter Tryz.func217, Tryz.ntmps217
 go_wp2_with fail
 refine (begin_any A A' n n' c c' ss ss' w HA.out HA'.out (by omega) (by omega)).mono ?_
 rintro e1 w1 ⟨rfl, m1, hw1⟩
 rw [Hp.out]
 have B1 := Lib.hid (show Below w.heap.size w w1 by rw [hw1]; exact below_drewN (Below.refl _ _) _)
 clear hw1
 go_wp2_with fail
 go_quiet ((go_at_call 276; exact Calls.quiet_of (end_any X Y (n - p) (n' - p) _ _ _ _ _ (((SE.out.below B1.out).alloc _).drewN _) (((SE'.out.below B1.out).alloc _).drewN _) (by omega) (by omega))))
 rw [He.out]
 go_wp2
 go_quiet (fail)
 rename_i nq2
 by_cases hxy : nx + ny = 0
 ·have hz : ((nx : Int) + ny == 0) = true := by simp; omega
  go_wp2
  go_ret
  have ex : x = [] := List.eq_nil_of_length_eq_zero (by have := strs_len SX.out; omega)
  have ey : y = [] := List.eq_nil_of_length_eq_zero (by have := strs_len SY.out; omega)
  refine ⟨none, 0, 0, rfl, ?_⟩
  rw [hdiff.out, ex, ey, LineLaw.walk_nil_nil]
  exact Ow.nil_ (below_drewN (balloc B1.out _) _)
 ·have hz : ((nx : Int) + ny == 0) = false := by simp; omega
  have hN2 : (nx + 1) * (ny + 1) ≤ 17592186044416 := by rw [Nat.add_mul, Nat.mul_add]; omega
  have hdec : decide (1048576 < (nx : Int) * (ny : Int)) = false := by
   have : ((nx * ny : Nat) : Int) ≤ 1048576 := by omega
   rw [Int.natCast_mul] at this
   simp; omega
  go_wp2_with fail
  refine (longestL_any X Y nx ny _ _ x y _ (((SX.out.below B1.out).alloc _).drewN _) (((SY.out.below B1.out).alloc _).drewN _) hN2).mono ?_
  rintro e2 w2 ⟨rfl, ⟨cs, hT0, hG⟩, hB⟩
  obtain ⟨NN, hNN⟩ : ∃ NN, (nx + 1) * (ny + 1) = NN := ⟨_, rfl⟩
  have HT := Lib.hid (show Tabs w2 (w1.heap.size + 1) ny NN cs by rw [← hNN]; simpa using hT0)
  have HG := Lib.hid hG
  have HP := Lib.hid (show Blk w2 w1.heap.size 3 #[I p] from ((Blk.new w1 _ _).drewN _).step hB)
  have B2 := Lib.hid (bstep (below_drewN (balloc B1.out _) _) hB)
  have HNN := Lib.hid hNN
  rw [hNN] at hN2
  have hz2 : w1.heap.size + 1 + 1 + 1 < w2.heap.size := HT.out.row.lt
  have SX2 := Lib.hid (SX.out.below B2.out)
  have SY2 := Lib.hid (SY.out.below B2.out)
  clear hT0 hG hB hNN
  go_wp2
  go_loopw [12, 13] (fun s12 s13 wr => ∃ (i j : Nat) (A : Option Addr) (m c : Nat) (done : List Hk) (cur : Option Hk), i ≤ nx ∧ j ≤ ny ∧ s12 = .int .i64 i ∧ s13 = .int .i64 j ∧ DAt w2 wr x y p i j A m c done cur) (fun s12 s13 _ => nx + ny - (intOf s12).toNat - (intOf s13).toNat)
  case atStart => exact ⟨0, 0, none, 0, 0, [], none, Nat.zero_le _, Nat.zero_le _, rfl, rfl, ⟨Blk.new _ _ _, Ow.nil_ (balloc (Below.refl _ _) _), by simp, Nat.le_refl _⟩⟩
  case round =>
   obtain ⟨i, j, Ar, m, cr, done, cur, hi, hj, rfl, rfl, hD⟩ := hrel
   have HD := Lib.hid hD
   have rP : wr.cell? ⟨w1.heap.size, 0, none⟩ = some (I p) := by rw [(HP.out.below hD.own.2 (by omega)).cell]; rfl
   have rW := hD.blk.cell
   have fW := hD.blk.frozen
   have hzW := hD.blk.lt
   have sXr := Lib.hid (SX2.out.below hD.own.2)
   have sYr := Lib.hid (SY2.out.below hD.own.2)
   have HTr := Lib.hid (HT.out.below hD.own.2 (by omega))
   have hm : m ≤ i + j := hD.few
   clear hD
   obtain ⟨P, hP⟩ : ∃ P, p + i = P := ⟨_, rfl⟩
   obtain ⟨Q, hQ⟩ : ∃ Q, p + j = Q := ⟨_, rfl⟩
   have hPb : P ≤ 9223372036854775807 := by omega
   have hQb : Q ≤ 9223372036854775807 := by omega
   have HPP := Lib.hid hP
   have HQQ := Lib.hid hQ
   clear hP hQ
   by_cases hlt : i < nx
   ·by_cases hlt' : j < ny
    ·obtain ⟨b, off, s, rfl, hs, hc0⟩ := sXr.out.str hlt
     obtain ⟨b', off', s', rfl, hs', hc0'⟩ := sYr.out.str hlt'
     have hblt : b < wr.heap.size := by obtain ⟨_, _, e, hb, _⟩ := sXr.out.2 (by omega); cases e; exact hb
     have hblt' : b' < wr.heap.size := by obtain ⟨_, _, e, hb, _⟩ := sYr.out.2 (by omega); cases e; exact hb
     have Hs := Lib.hid hs
     have Hs' := Lib.hid hs'
     clear hs hs'
     go_wp2_with fail
     refine (at_any rP rfl rfl HPP.out HQQ.out hPb hQb).mono ?_
     rintro e4 w4 ⟨rfl, hb4⟩
     have c4 : w4.cell? ⟨b, off + i, none⟩ = some (S s) := (hb4.cell (p := ⟨b, off + i, none⟩) hblt).trans hc0
     have c4' : w4.cell? ⟨b', off' + j, none⟩ = some (S s') := (hb4.cell (p := ⟨b', off' + j, none⟩) hblt').trans hc0'
     have hz4 := hb4.size
     have hx4 : b < w4.heap.size := Nat.lt_of_lt_of_le hblt hz4
     have hx4' : b' < w4.heap.size := Nat.lt_of_lt_of_le hblt' hz4
     have hzW4 : w2.heap.size < w4.heap.size := Nat.lt_of_lt_of_le hzW hz4
     have rW4 := (HD.out.blk.step hb4).cell
     have fW4 := (HD.out.blk.step hb4).frozen
     have HB4 := Lib.hid hb4
     clear hb4 rW fW hc0 hc0'
     by_cases hss : s = s'
     ·subst hss
      go_wp2_with fail
      go_quiet (fail)
      go_wp2
      go_roundw
      case rel => exact ⟨i + 1, j + 1, Ar, m, cr, _, none, by omega, by omega, by go_num, by go_num, HD.out.same HB4.out Hs.out Hs'.out _ _⟩
      case measure => simp [intOf]; omega
     ·obtain ⟨L1, hL1⟩ : ∃ L1, LineLaw.L (x.drop (i + 1)) (y.drop j) = L1 := ⟨_, rfl⟩
      obtain ⟨L2, hL2⟩ : ∃ L2, LineLaw.L (x.drop i) (y.drop (j + 1)) = L2 := ⟨_, rfl⟩
      have HL1 := Lib.hid hL1
      have HL2 := Lib.hid hL2
      have Hss := Lib.hid hss
      have hse : (s == s') = false := by simpa using hss
      have HT4 := fun (o : Obj) (q : Nat) => Lib.hid (HTr.out.below (below_drewN (HB4.out.alloc hz4 o) q) (by omega))
      clear hL1 hL2 hss
      by_cases hle : L2 ≤ L1
      ·have hd : decide (L2 ≤ L1) = true := by simpa using hle
       go_wp2_with fail
       go_quiet (fail)
       go_wp2_with fail
       refine (ask_any (i := i + 1) (j := j) ((HT4 _ _).out) HG.out HNN.out hN2 (by omega) (by omega) (by go_num) rfl HL1.out).mono ?_
       rintro e5 w5 ⟨rfl, rfl⟩
       go_wp2_with fail
       refine (ask_any (i := i) (j := j + 1) ((HT4 _ _).out) HG.out HNN.out hN2 (by omega) (by omega) rfl (by go_num) HL2.out).mono ?_
       rintro e5 w5 ⟨rfl, rfl⟩
       go_wp2_with fail
       have b5 : Below wr.heap.size wr ((w4.alloc (Obj.cells #[I P, I P, I Q, I Q] 306)).drewN nq) := below_drewN (HB4.out.alloc hz4 _) nq
       have F5 : Blk ((w4.alloc (Obj.cells #[I P, I P, I Q, I Q] 306)).drewN nq) w4.heap.size 306 #[I P, I P, I Q, I Q] := (Blk.new w4 _ _).drewN nq
       generalize (w4.alloc (Obj.cells #[I P, I P, I Q, I Q] 306)).drewN nq = W5 at b5 F5 ⊢
       have B5 := Lib.hid b5
       have rF5 := F5.cell
       have FF5 := Lib.hid F5
       have rP5 : W5.drew.cell? ⟨w1.heap.size, 0, none⟩ = some (I p) := (b5.cell (p := ⟨w1.heap.size, 0, none⟩) (show w1.heap.size < wr.heap.size by omega)).trans rP
       have hO5 := Lib.hid ((HD.out.own.keep b5).drew)
       have hW5 := Lib.hid ((HD.out.blk.step b5).drew)
       clear b5 F5 rW4 fW4 HB4 HT4
       go_region_law (first
         | (go_simp; go_at_call 278; refine (at_any (i := i + 1) (j := j) rP5 (by omega) (by omega) rfl rfl (by omega) (by omega)).mono ?_; rintro e6 w6 ⟨rfl, hb6⟩; have rF6 := (FF5.out.drew.step hb6).cell; have hz6 := (FF5.out.drew.step hb6).lt; have hO6 := Lib.hid (hO5.out.keep hb6); have hW6 := Lib.hid (hW5.out.step hb6); clear hb6)
         | (go_simp; go_at_call 279; refine (turn_any w2 _ w2.heap.size Ar m cr done cur P Q (p + (i + 1)) (p + (j)) _ _ hW6.out hO6.out (Nat.le_refl _) (by omega)).mono ?_; rintro e7 w7 ⟨rfl, A7, m7, c7, hm7, hW7, hO7⟩))
       all_goals
        have HD7 := Lib.hid (show DAt w2 w7 x y p (i + 1) (j) A7 m7 c7 done (some (LineLaw.ext cur (p + i) (p + j) (p + (i + 1)) (p + (j)))) from HD.out.turned hW7 (by have h8 := hO7; rw [← HPP.out, ← HQQ.out] at h8; exact h8) hm7 (by omega) (by
         have d1 := drop_at Hs.out; have d2 := drop_at Hs'.out; rw [d1, d2, LineLaw.walk_gone _ _ _ _ _ Hss.out (by rw [← d1, ← d2, HL1.out, HL2.out]; exact hle), ← d2, Nat.add_assoc]))
        clear hW7 hO7 hW6 hO6 hm7 rF6 hz6
        go_wp2
        go_roundw
        case rel => exact ⟨i + 1, j, A7, m7, c7, done, _, by omega, by omega, by go_num, by go_num, HD7.out⟩
        case measure => simp [intOf]; omega
      ·have hd : decide (L2 ≤ L1) = false := by simpa using hle
       go_wp2_with fail
       go_quiet (fail)
       go_wp2_with fail
       refine (ask_any (i := i + 1) (j := j) ((HT4 _ _).out) HG.out HNN.out hN2 (by omega) (by omega) (by go_num) rfl HL1.out).mono ?_
       rintro e5 w5 ⟨rfl, rfl⟩
       go_wp2_with fail
       refine (ask_any (i := i) (j := j + 1) ((HT4 _ _).out) HG.out HNN.out hN2 (by omega) (by omega) rfl (by go_num) HL2.out).mono ?_
       rintro e5 w5 ⟨rfl, rfl⟩
       go_wp2_with fail
       have b5 : Below wr.heap.size wr ((w4.alloc (Obj.cells #[I P, I P, I Q, I Q] 306)).drewN nq) := below_drewN (HB4.out.alloc hz4 _) nq
       have F5 : Blk ((w4.alloc (Obj.cells #[I P, I P, I Q, I Q] 306)).drewN nq) w4.heap.size 306 #[I P, I P, I Q, I Q] := (Blk.new w4 _ _).drewN nq
       generalize (w4.alloc (Obj.cells #[I P, I P, I Q, I Q] 306)).drewN nq = W5 at b5 F5 ⊢
       have B5 := Lib.hid b5
       have rF5 := F5.cell
       have FF5 := Lib.hid F5
       have rP5 : W5.drew.cell? ⟨w1.heap.size, 0, none⟩ = some (I p) := (b5.cell (p := ⟨w1.heap.size, 0, none⟩) (show w1.heap.size < wr.heap.size by omega)).trans rP
       have hO5 := Lib.hid ((HD.out.own.keep b5).drew)
       have hW5 := Lib.hid ((HD.out.blk.step b5).drew)
       clear b5 F5 rW4 fW4 HB4 HT4
       go_region_law (first
         | (go_simp; go_at_call 278; refine (at_any (i := i) (j := j + 1) rP5 (by omega) (by omega) rfl rfl (by omega) (by omega)).mono ?_; rintro e6 w6 ⟨rfl, hb6⟩; have rF6 := (FF5.out.drew.step hb6).cell; have hz6 := (FF5.out.drew.step hb6).lt; have hO6 := Lib.hid (hO5.out.keep hb6); have hW6 := Lib.hid (hW5.out.step hb6); clear hb6)
         | (go_simp; go_at_call 279; refine (turn_any w2 _ w2.heap.size Ar m cr done cur P Q (p + (i)) (p + (j + 1)) _ _ hW6.out hO6.out (Nat.le_refl _) (by omega)).mono ?_; rintro e7 w7 ⟨rfl, A7, m7, c7, hm7, hW7, hO7⟩))
       all_goals
        have HD7 := Lib.hid (show DAt w2 w7 x y p (i) (j + 1) A7 m7 c7 done (some (LineLaw.ext cur (p + i) (p + j) (p + (i)) (p + (j + 1)))) from HD.out.turned hW7 (by have h8 := hO7; rw [← HPP.out, ← HQQ.out] at h8; exact h8) hm7 (by omega) (by
         have d1 := drop_at Hs.out; have d2 := drop_at Hs'.out; rw [d1, d2, LineLaw.walk_new _ _ _ _ _ Hss.out (by rw [← d1, ← d2, HL1.out, HL2.out]; exact hle), ← d1, Nat.add_assoc]))
        clear hW7 hO7 hW6 hO6 hm7 rF6 hz6
        go_wp2
        go_roundw
        case rel => exact ⟨i, j + 1, A7, m7, c7, done, _, by omega, by omega, by go_num, by go_num, HD7.out⟩
        case measure => simp [intOf]; omega
    ·obtain rfl : j = ny := by omega
     obtain ⟨b, off, s, rfl, hs, hc0⟩ := sXr.out.str hlt
     have Hs := Lib.hid hs
     clear hs
     go_wp2_with fail
     refine (at_any rP rfl rfl HPP.out HQQ.out hPb hQb).mono ?_
     rintro e4 w4 ⟨rfl, hb4⟩
     have hz4 := hb4.size
     have rW4 := (HD.out.blk.step hb4).cell
     have fW4 := (HD.out.blk.step hb4).frozen
     have HB4 := Lib.hid hb4
     have hyl := Lib.hid (show y.drop j = [] from List.drop_eq_nil_of_le (by have := strs_len SY.out; omega))
     have hdj : decide ((j : Int) < (j : Int)) = false := by simp
     clear hb4 rW fW hc0
     go_wp2_with fail
     go_quiet (fail)
     go_wp2_with fail
     have b5 : Below wr.heap.size wr ((w4.alloc (Obj.cells #[I P, I P, I Q, I Q] 306)).drewN nq) := below_drewN (HB4.out.alloc hz4 _) nq
     have F5 : Blk ((w4.alloc (Obj.cells #[I P, I P, I Q, I Q] 306)).drewN nq) w4.heap.size 306 #[I P, I P, I Q, I Q] := (Blk.new w4 _ _).drewN nq
     generalize (w4.alloc (Obj.cells #[I P, I P, I Q, I Q] 306)).drewN nq = W5 at b5 F5 ⊢
     have B5 := Lib.hid b5
     have rF5 := F5.cell
     have FF5 := Lib.hid F5
     have rP5 : W5.drew.cell? ⟨w1.heap.size, 0, none⟩ = some (I p) := (b5.cell (p := ⟨w1.heap.size, 0, none⟩) (show w1.heap.size < wr.heap.size by omega)).trans rP
     have hO5 := Lib.hid ((HD.out.own.keep b5).drew)
     have hW5 := Lib.hid ((HD.out.blk.step b5).drew)
     clear b5 F5 rW4 fW4 HB4 
     go_region_law (first
       | (go_simp; go_at_call 278; refine (at_any (i := i + 1) (j := j) rP5 (by omega) (by omega) rfl rfl (by omega) (by omega)).mono ?_; rintro e6 w6 ⟨rfl, hb6⟩; have rF6 := (FF5.out.drew.step hb6).cell; have hz6 := (FF5.out.drew.step hb6).lt; have hO6 := Lib.hid (hO5.out.keep hb6); have hW6 := Lib.hid (hW5.out.step hb6); clear hb6)
       | (go_simp; go_at_call 279; refine (turn_any w2 _ w2.heap.size Ar m cr done cur P Q (p + (i + 1)) (p + (j)) _ _ hW6.out hO6.out (Nat.le_refl _) (by omega)).mono ?_; rintro e7 w7 ⟨rfl, A7, m7, c7, hm7, hW7, hO7⟩))
     all_goals
      have HD7 := Lib.hid (show DAt w2 w7 x y p (i + 1) (j) A7 m7 c7 done (some (LineLaw.ext cur (p + i) (p + j) (p + (i + 1)) (p + (j)))) from HD.out.turned hW7 (by have h8 := hO7; rw [← HPP.out, ← HQQ.out] at h8; exact h8) hm7 (by omega) (by
       have d1 := drop_at Hs.out; rw [d1, hyl.out, LineLaw.walk_cons_nil, Nat.add_assoc]))
      clear hW7 hO7 hW6 hO6 hm7 rF6 hz6
      go_wp2
      go_roundw
      case rel => exact ⟨i + 1, j, A7, m7, c7, done, _, by omega, by omega, by go_num, by go_num, HD7.out⟩
      case measure => simp [intOf]; omega
   ·obtain rfl : i = nx := by omega
    by_cases hlt' : j < ny
    ·obtain ⟨b', off', s', rfl, hs', hc0'⟩ := sYr.out.str hlt'
     have Hs' := Lib.hid hs'
     clear hs'
     go_wp2_with fail
     refine (at_any rP rfl rfl HPP.out HQQ.out hPb hQb).mono ?_
     rintro e4 w4 ⟨rfl, hb4⟩
     have hz4 := hb4.size
     have rW4 := (HD.out.blk.step hb4).cell
     have fW4 := (HD.out.blk.step hb4).frozen
     have HB4 := Lib.hid hb4
     have hxl := Lib.hid (show x.drop i = [] from List.drop_eq_nil_of_le (by have := strs_len SX.out; omega))
     have hdi : decide ((i : Int) < (i : Int)) = false := by simp
     clear hb4 rW fW hc0'
     go_wp2_with fail
     go_quiet (fail)
     go_wp2_with fail
     have b5 : Below wr.heap.size wr ((w4.alloc (Obj.cells #[I P, I P, I Q, I Q] 306)).drewN nq) := below_drewN (HB4.out.alloc hz4 _) nq
     have F5 : Blk ((w4.alloc (Obj.cells #[I P, I P, I Q, I Q] 306)).drewN nq) w4.heap.size 306 #[I P, I P, I Q, I Q] := (Blk.new w4 _ _).drewN nq
     generalize (w4.alloc (Obj.cells #[I P, I P, I Q, I Q] 306)).drewN nq = W5 at b5 F5 ⊢
     have B5 := Lib.hid b5
     have rF5 := F5.cell
     have FF5 := Lib.hid F5
     have rP5 : W5.drew.cell? ⟨w1.heap.size, 0, none⟩ = some (I p) := (b5.cell (p := ⟨w1.heap.size, 0, none⟩) (show w1.heap.size < wr.heap.size by omega)).trans rP
     have hO5 := Lib.hid ((HD.out.own.keep b5).drew)
     have hW5 := Lib.hid ((HD.out.blk.step b5).drew)
     clear b5 F5 rW4 fW4 HB4 
     go_region_law (first
       | (go_simp; go_at_call 278; refine (at_any (i := i) (j := j + 1) rP5 (by omega) (by omega) rfl rfl (by omega) (by omega)).mono ?_; rintro e6 w6 ⟨rfl, hb6⟩; have rF6 := (FF5.out.drew.step hb6).cell; have hz6 := (FF5.out.drew.step hb6).lt; have hO6 := Lib.hid (hO5.out.keep hb6); have hW6 := Lib.hid (hW5.out.step hb6); clear hb6)
       | (go_simp; go_at_call 279; refine (turn_any w2 _ w2.heap.size Ar m cr done cur P Q (p + (i)) (p + (j + 1)) _ _ hW6.out hO6.out (Nat.le_refl _) (by omega)).mono ?_; rintro e7 w7 ⟨rfl, A7, m7, c7, hm7, hW7, hO7⟩))
     all_goals
      have HD7 := Lib.hid (show DAt w2 w7 x y p (i) (j + 1) A7 m7 c7 done (some (LineLaw.ext cur (p + i) (p + j) (p + (i)) (p + (j + 1)))) from HD.out.turned hW7 (by have h8 := hO7; rw [← HPP.out, ← HQQ.out] at h8; exact h8) hm7 (by omega) (by
       have d2 := drop_at Hs'.out; rw [d2, hxl.out, LineLaw.walk_nil_cons, Nat.add_assoc]))
      clear hW7 hO7 hW6 hO6 hm7 rF6 hz6
      go_wp2
      go_roundw
      case rel => exact ⟨i, j + 1, A7, m7, c7, done, _, by omega, by omega, by go_num, by go_num, HD7.out⟩
      case measure => simp [intOf]; omega
    ·obtain rfl : j = ny := by omega
     go_wp2
     go_ret
     have hxl : x.drop i = [] := List.drop_eq_nil_of_le (by have := strs_len SX.out; omega)
     have hyl : y.drop j = [] := List.drop_eq_nil_of_le (by have := strs_len SY.out; omega)
     refine ⟨Ar, m, cr, rfl, ?_⟩
     have hlaw := HD.out.law
     rw [hxl, hyl, LineLaw.walk_nil_nil] at hlaw
     rw [hdiff.out, hlaw]
     exact HD.out.own.since B2.out
set_option maxHeartbeats 8000000 in
set_option maxRecDepth 100000 in
theorem diffC_big (A A' : Option Addr) (n n' c c' : Nat) (ss ss' : List (List UInt8)) (w : World) (hA : Sl w 1 A n (strs ss)) (hA' : Sl w 1 A' n' (strs ss')) (hc : n ≤ c) (hc' : n' ≤ c') (hbig : LineLaw.big ss ss') (hn : n ≤ 2147483648) (hn' : n' ≤ 2147483648) :
  Calls Tryz.prog 217 #[.slice A n c, .slice A' n' c'] w fun e w' => ∃ A2 m2 c2, e = .returned (.slice A2 m2 c2) ∧ m2 ≤ 9223372036854775807 ∧ Sl w' 4 A2 m2 (hks (LineLaw.diffC ss ss')) ∧ Below w.heap.size w w' := by
 have hl := Lib.hid (strs_len hA)
 have hl' := Lib.hid (strs_len hA')
 obtain ⟨p, hp⟩ : ∃ p, LineLaw.pre ss ss' = p := ⟨_, rfl⟩
 have hpn : p ≤ n := by have := LineLaw.pre_le_left ss ss'; rw [hp, hl.out] at this; exact this
 have hpn' : p ≤ n' := by have := LineLaw.pre_le_right ss ss'; rw [hp, hl'.out] at this; exact this
 obtain ⟨e, he⟩ : ∃ e, LineLaw.suf (ss.drop p) (ss'.drop p) = e := ⟨_, rfl⟩
 have hen : p + e ≤ n := by have := LineLaw.suf_le_left (ss.drop p) (ss'.drop p); rw [he, List.length_drop, hl.out] at this; omega
 have hen' : p + e ≤ n' := by have := LineLaw.suf_le_right (ss.drop p) (ss'.drop p); rw [he, List.length_drop, hl'.out] at this; omega
 obtain ⟨h1, hh1⟩ : ∃ h1, n - e = h1 := ⟨_, rfl⟩
 obtain ⟨h2, hh2⟩ : ∃ h2, n' - e = h2 := ⟨_, rfl⟩
 have i1 : (n : Int) - (e : Int) = (h1 : Int) := by omega
 have i2 : (n' : Int) - (e : Int) = (h2 : Int) := by omega
 obtain ⟨nx, hnx⟩ : ∃ nx, h1 - p = nx := ⟨_, rfl⟩
 obtain ⟨ny, hny⟩ : ∃ ny, h2 - p = ny := ⟨_, rfl⟩
 have k1 := fun W : World => run_cut_l (P := Tryz.prog) W Tryz.underlying52 Tryz.sizeStr A n c .i64 p hpn
 have k2 := fun W : World => run_cut_l (P := Tryz.prog) W Tryz.underlying52 Tryz.sizeStr A' n' c' .i64 p hpn'
 have k3 := fun W : World => run_cut_lh (P := Tryz.prog) W Tryz.underlying52 Tryz.sizeStr A n c .i64 .i64 p h1 (by omega) (by omega)
 have k4 := fun W : World => run_cut_lh (P := Tryz.prog) W Tryz.underlying52 Tryz.sizeStr A' n' c' .i64 .i64 p h2 (by omega) (by omega)
 have sX := hA.mid_ (j := p) (k := h1) (c := c) (by omega) (by omega) hc
 have sY := hA'.mid_ (j := p) (k := h2) (c := c') (by omega) (by omega) hc'
 have sE := hA.tail_ hpn hc
 have sE' := hA'.tail_ hpn' hc'
 rw [hnx] at k3 sX
 rw [hny] at k4 sY
 obtain ⟨X, hX⟩ : ∃ X, cutA A c p 1 = X := ⟨_, rfl⟩
 obtain ⟨Y, hY⟩ : ∃ Y, cutA A' c' p 1 = Y := ⟨_, rfl⟩
 rw [hX] at k1 k3 sX sE
 rw [hY] at k2 k4 sY sE'
 obtain ⟨x, hx⟩ : ∃ x, (ss.drop p).take nx = x := ⟨_, rfl⟩
 obtain ⟨y, hy⟩ : ∃ y, (ss'.drop p).take ny = y := ⟨_, rfl⟩
 rw [hx] at sX
 rw [hy] at sY
 have hbg : 1048576 < nx * ny := by
  have h := hbig
  unfold LineLaw.big LineLaw.sufP at h
  rwa [hp, he, hl.out, hl'.out, hh1, hh2, hnx, hny] at h
 have hdiff := Lib.hid (show LineLaw.diffC ss ss' = [⟨p, h1, p, h2⟩] by
  unfold LineLaw.diffC
  rw [if_pos hbig]
  unfold LineLaw.sufP
  rw [hp, he, hl.out, hl'.out, hh1, hh2])
 have SX := Lib.hid sX
 have SY := Lib.hid sY
 have SE := Lib.hid sE
 have SE' := Lib.hid sE'
 have HA := Lib.hid hA
 have HA' := Lib.hid hA'
 have Hp := Lib.hid hp
 have He := Lib.hid he
 have hnxn : nx ≤ n := by omega
 have hnyn : ny ≤ n' := by omega
 have hh1n : h1 ≤ n := by omega
 have hh2n : h2 ≤ n' := by omega
 clear sX sY sE sE' hA hA' hp he hh1 hh2 hnx hny hX hY hx hy hbig
 go_enter Tryz.func217, Tryz.ntmps217
 go_wp2_with fail
 refine (begin_any A A' n n' c c' ss ss' w HA.out HA'.out (by omega) (by omega)).mono ?_
 rintro e1 w1 ⟨rfl, m1, hw1⟩
 rw [Hp.out]
 have B1 := Lib.hid (show Below w.heap.size w w1 by rw [hw1]; exact below_drewN (Below.refl _ _) _)
 clear hw1
 go_wp2_with fail
 go_quiet ((go_at_call 276; exact Calls.quiet_of (end_any X Y (n - p) (n' - p) _ _ _ _ _ (((SE.out.below B1.out).alloc _).drewN _) (((SE'.out.below B1.out).alloc _).drewN _) (by omega) (by omega))))
 rw [He.out]
 go_wp2
 go_quiet (fail)
 rename_i nq2
 have hz : ((nx : Int) + ny == 0) = false := by
  have : 0 < nx * ny := by omega
  have : nx ≠ 0 := fun e => by rw [e] at hbg; omega
  simp; omega
 have hpr : nx * ny ≤ 2147483648 * 2147483648 := Nat.mul_le_mul (by omega) (by omega)
 have hdec : decide (1048576 < (nx : Int) * (ny : Int)) = true := by
  have : ((nx * ny : Nat) : Int) > 1048576 := by omega
  rw [Int.natCast_mul] at this
  simp; omega
 have hwr : IntKind.i64.wrap ((nx : Int) * (ny : Int)) = (nx : Int) * (ny : Int) := IntWalk.i64_in _ (by
  have h1 : ((nx * ny : Nat) : Int) ≤ 4611686018427387904 := by omega
  have h0 : (0 : Int) ≤ ((nx * ny : Nat) : Int) := by omega
  rw [Int.natCast_mul] at h1 h0
  omega)
 go_wp2
 go_ret
 refine ⟨_, 1, 1, rfl, by omega, ?_, balloc (below_drewN (balloc B1.out _) _) _⟩
 rw [hdiff.out]
 exact sl_hk _ _ ⟨p, h1, p, h2⟩ _ (by simp)
theorem diffC_any (A A' : Option Addr) (n n' c c' : Nat) (ss ss' : List (List UInt8)) (w : World) (hA : Sl w 1 A n (strs ss)) (hA' : Sl w 1 A' n' (strs ss')) (hc : n ≤ c) (hc' : n' ≤ c') (hn : n ≤ 2147483648) (hn' : n' ≤ 2147483648) :
  Calls Tryz.prog 217 #[.slice A n c, .slice A' n' c'] w fun e w' => ∃ A2 m2 c2, e = .returned (.slice A2 m2 c2) ∧ m2 ≤ 9223372036854775807 ∧ Sl w' 4 A2 m2 (hks (LineLaw.diffC ss ss')) ∧ Below w.heap.size w w' := by
 by_cases hb : LineLaw.big ss ss'
 ·exact diffC_big A A' n n' c c' ss ss' w hA hA' hc hc' hb hn hn'
 ·refine (diff_strip A A' n n' c c' ss ss' w hA hA' hc hc' ?_ (by omega) (by omega)).mono ?_
  ·unfold LineLaw.big LineLaw.sufP at hb
   rw [strs_len hA, strs_len hA'] at hb
   omega
  rintro e w' ⟨A2, m2, c2, rfl, hO⟩
  have hcap := hO.cap
  simp only [maxLen] at hcap
  refine ⟨A2, m2, c2, rfl, by omega, ?_, hO.2⟩
  unfold LineLaw.diffC
  rw [if_neg hb]
  exact hO.sl
theorem hks_at {l : List Hk} {k : Nat} {h : Hk} (hk : l[k]? = some h) (i : Nat) (hi : i < 4) : (hks l)[k * 4 + i]? = (hkc h)[i]? := by
 induction l generalizing k with
 | nil => simp at hk
 | cons a l ih =>
  rw [hks, List.flatMap_cons, ← hks]
  have e4 : (hkc a).length = 4 := rfl
  cases k with
  | zero =>
   simp at hk; subst hk
   rw [List.getElem?_append_left (by omega)]; simp
  | succ k =>
   rw [List.getElem?_append_right (by omega), e4, show (k + 1) * 4 + i - 4 = k * 4 + i by omega]
   exact ih (by simpa using hk)
theorem Sl.hunk {w : World} {A : Option Addr} {m k : Nat} {l : List Hk} (h : Sl w 4 A m (hks l)) (hk : k < m) : ∃ b off x, A = some ⟨b, off, none⟩ ∧ b < w.heap.size ∧ l[k]? = some x ∧
  w.cell? ⟨b, off + k * 4, none⟩ = some (I x.a0) ∧ w.cell? ⟨b, off + k * 4 + 1, none⟩ = some (I x.a1) ∧ w.cell? ⟨b, off + k * 4 + 2, none⟩ = some (I x.b0) ∧ w.cell? ⟨b, off + k * 4 + 3, none⟩ = some (I x.b1) := by
 obtain ⟨b, off, rfl, hb, hc⟩ := h.2 (by omega)
 have hl : l.length = m := by have := h.1; rw [hks_len] at this; omega
 obtain ⟨x, hx⟩ : ∃ x, l[k]? = some x := ⟨l[k]'(by omega), List.getElem?_eq_getElem _⟩
 refine ⟨b, off, x, rfl, hb, hx, ?_, ?_, ?_, ?_⟩
 ·have := (hc (k * 4 + 0) (by omega)).trans (hks_at hx 0 (by omega)); simpa [hkc] using this
 ·have := (hc (k * 4 + 1) (by omega)).trans (hks_at hx 1 (by omega)); simpa [hkc, Nat.add_assoc] using this
 ·have := (hc (k * 4 + 2) (by omega)).trans (hks_at hx 2 (by omega)); simpa [hkc, Nat.add_assoc] using this
 ·have := (hc (k * 4 + 3) (by omega)).trans (hks_at hx 3 (by omega)); simpa [hkc, Nat.add_assoc] using this
theorem hks_count {w : World} {A : Option Addr} {m : Nat} {l : List Hk} (h : Sl w 4 A m (hks l)) : l.length = m := by have := h.1; rw [hks_len] at this; omega
namespace LineLaw
theorem ok_mem {α : Type} {a b : List α} : ∀ {l : List Hk} {i j : Nat} {f : Bool}, Ok a b i j f l → ∀ h ∈ l, h.a0 ≤ h.a1 ∧ h.a1 ≤ a.length ∧ h.b0 ≤ h.b1 ∧ h.b1 ≤ b.length
 | [], _, _, _, _, _, hm => by cases hm
 | x :: l, i, j, f, ho, h, hm => by
  obtain ⟨_, _, h3, h4, h5, h6, _, _, _, _, h7⟩ := ho
  rcases List.mem_cons.1 hm with rfl | hm
  ·exact ⟨h3, h5, h4, h6⟩
  ·exact ok_mem h7 h hm
theorem gone_take {l : List Hk} (h : ∀ x ∈ l, x.a0 ≤ x.a1) (k : Nat) : 0 ≤ gone (l.take k) ∧ gone (l.take k) ≤ gone l := by
 induction l generalizing k with
 | nil => simp [gone]
 | cons x l ih =>
  have hx := h x (by simp)
  have hl := fun k => ih (fun y hy => h y (by simp [hy])) k
  cases k with
  | zero =>
   have := hl l.length
   rw [List.take_length] at this
   simp [gone]; omega
  | succ k => have := hl k; simp [gone]; omega
theorem gone_step {l : List Hk} {k : Nat} {x : Hk} (hx : l[k]? = some x) : gone (l.take (k + 1)) = gone (l.take k) + ((x.a1 : Int) - x.a0) := by
 rw [List.take_add_one, hx, gone_append]; simp [gone]
end LineLaw
namespace LineLaw
theorem diffC_mem {α : Type} [DecidableEq α] (a b : List α) : ∀ h ∈ diffC a b, h.a0 ≤ h.a1 ∧ h.a1 ≤ a.length ∧ h.b0 ≤ h.b1 ∧ h.b1 ≤ b.length := by
 unfold diffC
 split
 ·intro h hm
  have h1 := sufP_left a b
  have h2 := sufP_right a b
  obtain rfl := List.mem_singleton.1 hm
  exact ⟨by simp only; omega, by simp only; omega, by simp only; omega, by simp only; omega⟩
 ·exact ok_mem (diff_ok a b)
end LineLaw
set_option maxHeartbeats 2000000 in
set_option maxRecDepth 100000 in
theorem similarC_any (A A' : Option Addr) (n n' c c' : Nat) (ss ss' : List (List UInt8)) (w : World) (hA : Sl w 1 A n (strs ss)) (hA' : Sl w 1 A' n' (strs ss')) (hc : n ≤ c) (hc' : n' ≤ c') (hn : n ≤ 2147483648) (hn' : n' ≤ 2147483648) :
  Calls Tryz.prog 136 #[.slice A n c, .slice A' n' c'] w fun e w' => e = .returned (I (LineLaw.simC ss ss')) ∧ Below w.heap.size w w' := by
 have hl := Lib.hid (strs_len hA)
 have hl' := Lib.hid (strs_len hA')
 by_cases h0 : n + n' = 0
 ·have hz : ((n : Int) + n' == 0) = true := by simp; omega
  have HR := Lib.hid (show LineLaw.simC ss ss' = 100 by unfold LineLaw.simC; rw [if_pos (by rw [hl.out, hl'.out]; exact h0)])
  go_enter Tryz.func136, Tryz.ntmps136
  go_wp2
  go_ret
  exact ⟨ret_int HR.out.symm, Below.refl _ _⟩
 ·have hz : ((n : Int) + n' == 0) = false := by simp; omega
  have hd := LineLaw.diffC_gone ss ss'
  have hm := LineLaw.diffC_mem ss ss'
  have hL := LineLaw.keptC_left ss ss'
  rw [hl.out] at hd hL
  rw [hl.out, hl'.out] at hm
  have HR := Lib.hid (show LineLaw.simC ss ss' = 200 * (LineLaw.keptC ss ss' : Int) / ((n : Int) + n') by unfold LineLaw.simC; rw [if_neg (by rw [hl.out, hl'.out]; exact h0), hl.out, hl'.out])
  obtain ⟨LL, hLL⟩ : ∃ LL, LineLaw.keptC ss ss' = LL := ⟨_, rfl⟩
  rw [hLL] at hd hL HR
  obtain ⟨l, hll⟩ : ∃ l, LineLaw.diffC ss ss' = l := ⟨_, rfl⟩
  have hD := Lib.hid (diffC_any A A' n n' c c' ss ss' w hA hA' hc hc' hn hn')
  rw [hll] at hd hm hD
  have Hd := Lib.hid hd
  have Hm := Lib.hid hm
  have Hgt := Lib.hid (fun k => LineLaw.gone_take (l := l) (fun x hx => (hm x hx).1) k)
  clear hLL hll hd hm hA hA'
  go_enter Tryz.func136, Tryz.ntmps136
  go_wp2_with fail
  refine hD.out.mono ?_
  rintro e1 w1 ⟨A1, m1, c1, rfl, hcap, hO, hO2⟩
  have hS := Lib.hid hO
  have hB := Lib.hid hO2
  have hlm := Lib.hid (hks_count hO)
  clear hO hO2 hD
  go_wp2_with fail
  go_loopw [5, 20] (fun s5 s20 wr => ∃ (k : Nat), k ≤ m1 ∧ s20 = .int .i64 k ∧ s5 = .int .i64 ((n : Int) - LineLaw.gone (l.take k)) ∧ Below w1.heap.size w1 wr) (fun _ s20 _ => m1 - (intOf s20).toNat)
  case atStart => exact ⟨0, Nat.zero_le _, rfl, by simp [LineLaw.gone], Below.refl _ _⟩
  case round =>
   obtain ⟨k, hk, rfl, rfl, hBr⟩ := hrel
   have HBr := Lib.hid hBr
   by_cases hlt : k < m1
   ·obtain ⟨b, off, x, rfl, hb, hx, c0, c1', c2, c3⟩ := (hS.out.below hBr).hunk hlt
    have hxm := Hm.out x (List.mem_of_getElem? hx)
    have hst := LineLaw.gone_step hx
    have hg1 := Hgt.out k
    have hg2 := Hgt.out (k + 1)
    have hdd := Hd.out
    obtain ⟨G, hG⟩ : ∃ G, LineLaw.gone (l.take k) = G := ⟨_, rfl⟩
    rw [hG] at hst hg1 ⊢
    rw [hst] at hg2
    have Hst := Lib.hid hst
    have q1 : 0 ≤ (n : Int) - G := by omega
    have q2 : 0 ≤ (x.a1 : Int) - x.a0 := by omega
    have q3 : (x.a1 : Int) - x.a0 ≤ n := by omega
    have q4 : 0 ≤ (n : Int) - G - ((x.a1 : Int) - x.a0) := by omega
    have q5 : (n : Int) - G ≤ n := by omega
    clear hBr hx hst hG hdd hg1 hg2
    go_wp2
    go_roundw
    case rel => exact ⟨k + 1, by omega, by go_num, by rw [Hst.out]; congr 1; omega, balloc HBr.out _⟩
    case measure => simp [intOf]; omega
   ·have hkm : k = m1 := by omega
    have hall : l.take k = l := List.take_of_length_le (by rw [hlm.out]; omega)
    have hdd := Hd.out
    rw [hall, hdd]
    have q1 : (n : Int) - ((n : Int) - LL) = LL := by omega
    rw [q1]
    have q2 : (0 : Int) ≤ 200 * LL := by omega
    have q3 : 200 * (LL : Int) ≤ 9223372036854775807 := by omega
    have q4 : (1 : Int) ≤ (n : Int) + n' := by omega
    clear hkm hall hdd q1 hBr
    go_wp2
    go_ret
    exact ⟨ret_int HR.out.symm, bstep hB.out HBr.out⟩
end Go.Proofs.YtphnfcgdpdimbaaGreatDoor
