/-
  line.Diff: what turned. Conditions: slices read as lists, and are short enough that the table is made.
-/
import Derived.Test.YtpnogcblafmaiaaDoorLineTurn
namespace Go.Proofs.YtpnogcblafmaiaaDoor
open Go.RowKit
open LineLaw (Hk)

/-- turn, whether a hunk is open or not -/
theorem turn_any (w0 w : World) (wb : Nat) (A : Option Addr) (m c : Nat) (done : List Hk) (cur : Option Hk) (i j i' j' : Nat) (t0 t2 : Int)
    (hW : Blk w wb 50 #[.slice A m c, .bool cur.isSome]) (hO : Ow w0 w 33 4 A m c (hks (done ++ cur.toList))) (h0 : w0.heap.size ≤ wb) (hb : m + 1 ≤ 1099511627776) :
    Calls Tryd.prog 37 #[.pointer (some ⟨wb, 0, none⟩), hkV i i j j, hkV t0 i' t2 j'] w fun e w' => e = .returned (.tuple #[]) ∧
      ∃ A' m' c', m' ≤ m + 1 ∧ Blk w' wb 50 #[.slice A' m' c', .bool true] ∧ Ow w0 w' 33 4 A' m' c' (hks (done ++ [LineLaw.ext cur i j i' j'])) := by
  cases cur with
  | none =>
    simp only [Option.toList_none, List.append_nil, Option.isSome_none] at hW hO
    refine (turn_shut w0 w wb A m c done ⟨i, i, j, j⟩ i' j' t0 t2 hW hO h0 hb).mono ?_
    rintro e w' ⟨rfl, A', c', h1, h2⟩
    exact ⟨rfl, A', m + 1, c', Nat.le_refl _, h1, h2⟩
  | some h =>
    simp only [Option.toList_some, Option.isSome_some] at hW hO
    have hm : m = done.length + 1 := by have := hO.len; rw [hks_len] at this; simp at this; omega
    subst hm
    refine (turn_open w0 w wb A c done h i' j' i i j j t0 t2 hW hO h0 (by omega)).mono ?_
    rintro e w' ⟨rfl, h1, h2⟩
    exact ⟨rfl, A, done.length + 1, c, by omega, h1, h2⟩

theorem Tabs.below {w w' : World} {b n' N : Nat} {cs : Array Value} (h : Tabs w b n' N cs) {B : Nat} (hb : Below B w w') (hB : b + 1 + 1 < B) : Tabs w' b n' N cs :=
  ⟨h.wide.below hb (by omega), h.cells.below hb (by omega), h.row.below hb (by omega)⟩

theorem at_any {w : World} {pb p i j P Q : Nat} {zi zj : Int} (hp : w.cell? ⟨pb, 0, none⟩ = some (I p)) (hzi : zi = (i : Int)) (hzj : zj = (j : Int)) (hP : p + i = P) (hQ : p + j = Q) (hb : P ≤ 9223372036854775807) (hb' : Q ≤ 9223372036854775807) :
    Calls Tryd.prog 36 #[I zi, I zj, .pointer (some ⟨pb, 0, none⟩)] w fun e w' => e = .returned (hkV P P Q Q) ∧ Below w.heap.size w w' := by
  subst hP hQ hzi hzj
  exact diff1_any pb p i j w hp hb hb'
theorem ask_any {b n n' N i j v : Nat} {zi zj : Int} {ss ss' : List (List UInt8)} {cs : Array Value} {w : World} (hT : Tabs w b n' N cs) (hG : Tab ss ss' n n' 0 cs) (hN : (n + 1) * (n' + 1) = N) (hb : N ≤ 17592186044416) (hi : i ≤ n) (hj : j ≤ n') (hzi : zi = (i : Int)) (hzj : zj = (j : Int)) (hv : LineLaw.L (ss.drop i) (ss'.drop j) = v) :
    Calls Tryd.prog 49 #[I zi, I zj, .pointer (some ⟨b + 1 + 1, 0, none⟩), .pointer (some ⟨b, 0, none⟩)] w fun e w' => e = .returned (I v) ∧ w = w' := by
  subst hzi hzj hv
  exact longest1_any b n n' N i j ss ss' cs w hT hG hN hb hi hj

/-- the walk's state between two lines -/
structure DAt (w3 wr : World) (x y : List (List UInt8)) (p i j : Nat) (A : Option Addr) (m c : Nat) (done : List Hk) (cur : Option Hk) : Prop where
  blk : Blk wr w3.heap.size 50 #[.slice A m c, .bool cur.isSome]
  own : Ow w3 wr 33 4 A m c (hks (done ++ cur.toList))
  law : LineLaw.walk none x y p p = done ++ LineLaw.walk cur (x.drop i) (y.drop j) (p + i) (p + j)
  few : m ≤ i + j

theorem drop_at {l : List (List UInt8)} {i : Nat} {s : List UInt8} (h : l[i]? = some s) : l.drop i = s :: l.drop (i + 1) := by
  obtain ⟨h1, e1⟩ := List.getElem?_eq_some_iff.1 h
  rw [List.drop_eq_getElem_cons h1, e1]

theorem DAt.same {w3 wr w4 : World} {x y : List (List UInt8)} {p i j : Nat} {A : Option Addr} {m c : Nat} {done : List Hk} {cur : Option Hk} {s : List UInt8} (h : DAt w3 wr x y p i j A m c done cur) (b4 : Below wr.heap.size wr w4) (hs : x[i]? = some s) (hs' : y[j]? = some s) (o : Obj) (q : Nat) :
    DAt w3 (((w4.alloc o).drewN q).setCell ⟨w3.heap.size, 1, none⟩ (.bool false)) x y p (i + 1) (j + 1) A m c (done ++ cur.toList) none := by
  have b := (((h.blk.step b4).alloc o).drewN q)
  have o4 := (((h.own.keep b4).alloc o).drewN q)
  refine ⟨b.set_ 1 (.bool false), ?_, ?_, by have := h.few; omega⟩
  · rw [Option.toList_none, List.append_nil]
    exact o4.far (row_ne o4 b (by decide)) (Nat.le_refl _) _
  · rw [h.law, drop_at hs, drop_at hs', LineLaw.walk_same, List.append_assoc, Nat.add_assoc, Nat.add_assoc]
theorem DAt.turned {w3 wr w6 : World} {x y : List (List UInt8)} {p i j i' j' : Nat} {A A6 : Option Addr} {m c m6 c6 : Nat} {done : List Hk} {cur : Option Hk} (h : DAt w3 wr x y p i j A m c done cur)
    (hW : Blk w6 w3.heap.size 50 #[.slice A6 m6 c6, .bool true]) (hO : Ow w3 w6 33 4 A6 m6 c6 (hks (done ++ [LineLaw.ext cur (p + i) (p + j) (p + i') (p + j')]))) (hm : m6 ≤ m + 1) (hij : i + j < i' + j')
    (hw : LineLaw.walk cur (x.drop i) (y.drop j) (p + i) (p + j) = LineLaw.walk (some (LineLaw.ext cur (p + i) (p + j) (p + i') (p + j'))) (x.drop i') (y.drop j') (p + i') (p + j')) :
    DAt w3 w6 x y p i' j' A6 m6 c6 done (some (LineLaw.ext cur (p + i) (p + j) (p + i') (p + j'))) :=
  ⟨hW, hO, by rw [h.law, hw], by have := h.few; omega⟩

set_option maxHeartbeats 8000000 in
set_option maxRecDepth 100000 in
theorem diff_strip (A A' : Option Addr) (n n' c c' : Nat) (ss ss' : List (List UInt8)) (w : World) (hA : Sl w 1 A n (strs ss)) (hA' : Sl w 1 A' n' (strs ss')) (hc : n ≤ c) (hc' : n' ≤ c') (hmul : (n - LineLaw.suf (ss.drop (LineLaw.pre ss ss')) (ss'.drop (LineLaw.pre ss ss')) - LineLaw.pre ss ss') * (n' - LineLaw.suf (ss.drop (LineLaw.pre ss ss')) (ss'.drop (LineLaw.pre ss ss')) - LineLaw.pre ss ss') ≤ 1048576) (hn : n ≤ 274877906944) (hn' : n' ≤ 274877906944) :
    Calls Tryd.prog 17 #[.slice A n c, .slice A' n' c'] w fun e w' => ∃ A2 m2 c2, e = .returned (.slice A2 m2 c2) ∧ Ow w w' 33 4 A2 m2 c2 (hks (LineLaw.diff ss ss')) := by
  have hl := Lib.hid (strs_len hA)
  have hl' := Lib.hid (strs_len hA')
  obtain ⟨p, hp⟩ : ∃ p, LineLaw.pre ss ss' = p := ⟨_, rfl⟩
  have hpn : p ≤ n := by have := LineLaw.pre_le_left ss ss'; rw [hp, hl.out] at this; exact this
  have hpn' : p ≤ n' := by have := LineLaw.pre_le_right ss ss'; rw [hp, hl'.out] at this; exact this
  obtain ⟨e, he⟩ : ∃ e, LineLaw.suf (ss.drop p) (ss'.drop p) = e := ⟨_, rfl⟩
  have hen : p + e ≤ n := by have := LineLaw.suf_le_left (ss.drop p) (ss'.drop p); rw [he, List.length_drop, hl.out] at this; omega
  have hen' : p + e ≤ n' := by have := LineLaw.suf_le_right (ss.drop p) (ss'.drop p); rw [he, List.length_drop, hl'.out] at this; omega
  obtain ⟨h1, hh1⟩ : ∃ h1, n - e = h1 := ⟨_, rfl⟩
  obtain ⟨h2, hh2⟩ : ∃ h2, n' - e = h2 := ⟨_, rfl⟩
  have i1 : (n : Int) - (e : Int) = (h1 : Int) := by omega
  have i2 : (n' : Int) - (e : Int) = (h2 : Int) := by omega
  obtain ⟨nx, hnx⟩ : ∃ nx, h1 - p = nx := ⟨_, rfl⟩
  obtain ⟨ny, hny⟩ : ∃ ny, h2 - p = ny := ⟨_, rfl⟩
  have k1 := fun W : World => run_cut_l (P := Tryd.prog) W Tryd.underlying22 Tryd.sizeStr A n c .i64 p hpn
  have k2 := fun W : World => run_cut_l (P := Tryd.prog) W Tryd.underlying22 Tryd.sizeStr A' n' c' .i64 p hpn'
  have k3 := fun W : World => run_cut_lh (P := Tryd.prog) W Tryd.underlying22 Tryd.sizeStr A n c .i64 .i64 p h1 (by omega) (by omega)
  have k4 := fun W : World => run_cut_lh (P := Tryd.prog) W Tryd.underlying22 Tryd.sizeStr A' n' c' .i64 .i64 p h2 (by omega) (by omega)
  have sX := hA.mid_ (j := p) (k := h1) (c := c) (by omega) (by omega) hc
  have sY := hA'.mid_ (j := p) (k := h2) (c := c') (by omega) (by omega) hc'
  have sE := hA.tail_ hpn hc
  have sE' := hA'.tail_ hpn' hc'
  rw [hnx] at k3 sX
  rw [hny] at k4 sY
  obtain ⟨X, hX⟩ : ∃ X, cutA A c p 1 = X := ⟨_, rfl⟩
  obtain ⟨Y, hY⟩ : ∃ Y, cutA A' c' p 1 = Y := ⟨_, rfl⟩
  rw [hX] at k1 k3 sX sE
  rw [hY] at k2 k4 sY sE'
  obtain ⟨x, hx⟩ : ∃ x, (ss.drop p).take nx = x := ⟨_, rfl⟩
  obtain ⟨y, hy⟩ : ∃ y, (ss'.drop p).take ny = y := ⟨_, rfl⟩
  rw [hx] at sX
  rw [hy] at sY
  have hdiff := Lib.hid (show LineLaw.diff ss ss' = LineLaw.walk none x y p p by
    unfold LineLaw.diff
    simp only [hp, he, hl.out, hl'.out, hh1, hh2, hnx, hny, hx, hy])
  have hmul2 : nx * ny ≤ 1048576 := by rwa [hp, he, hh1, hh2, hnx, hny] at hmul
  have SX := Lib.hid sX
  have SY := Lib.hid sY
  have SE := Lib.hid sE
  have SE' := Lib.hid sE'
  have HA := Lib.hid hA
  have HA' := Lib.hid hA'
  have Hp := Lib.hid hp
  have He := Lib.hid he
  have hnxn : nx ≤ n := by omega
  have hnyn : ny ≤ n' := by omega
  have hh1n : h1 ≤ n := by omega
  have hh2n : h2 ≤ n' := by omega
  clear sX sY sE sE' hA hA' hp he hh1 hh2 hnx hny hX hY hx hy hmul
  go_enter Tryd.func17, Tryd.ntmps17
  go_wp2_with fail
  refine (begin_any A A' n n' c c' ss ss' w HA.out HA'.out (by omega) (by omega)).mono ?_
  rintro e1 w1 ⟨rfl, m1, hw1⟩
  rw [Hp.out]
  have B1 := Lib.hid (show Below w.heap.size w w1 by rw [hw1]; exact below_drewN (Below.refl _ _) _)
  clear hw1
  go_wp2_with fail
  go_quiet ((go_at_call 34; exact Calls.quiet_of (end_any X Y (n - p) (n' - p) _ _ _ _ _ (((SE.out.below B1.out).alloc _).drewN _) (((SE'.out.below B1.out).alloc _).drewN _) (by omega) (by omega))))
  rw [He.out]
  go_wp2
  go_quiet (fail)
  rename_i nq2
  by_cases hxy : nx + ny = 0
  · have hz : ((nx : Int) + ny == 0) = true := by simp; omega
    go_wp2
    go_ret
    have ex : x = [] := List.eq_nil_of_length_eq_zero (by have := strs_len SX.out; omega)
    have ey : y = [] := List.eq_nil_of_length_eq_zero (by have := strs_len SY.out; omega)
    refine ⟨none, 0, 0, rfl, ?_⟩
    rw [hdiff.out, ex, ey, LineLaw.walk_nil_nil]
    exact Ow.nil_ (below_drewN (balloc B1.out _) _)
  · have hz : ((nx : Int) + ny == 0) = false := by simp; omega
    have hN2 : (nx + 1) * (ny + 1) ≤ 17592186044416 := by rw [Nat.add_mul, Nat.mul_add]; omega
    have hdec : decide (1048576 < (nx : Int) * (ny : Int)) = false := by
      have : ((nx * ny : Nat) : Int) ≤ 1048576 := by omega
      rw [Int.natCast_mul] at this
      simp; omega
    go_wp2_with fail
    refine (longest_any X Y nx ny _ _ x y _ (((SX.out.below B1.out).alloc _).drewN _) (((SY.out.below B1.out).alloc _).drewN _) hN2).mono ?_
    rintro e2 w2 ⟨rfl, ⟨cs, hT0, hG⟩, hB⟩
    obtain ⟨NN, hNN⟩ : ∃ NN, (nx + 1) * (ny + 1) = NN := ⟨_, rfl⟩
    have HT := Lib.hid (show Tabs w2 (w1.heap.size + 1) ny NN cs by rw [← hNN]; simpa using hT0)
    have HG := Lib.hid hG
    have HP := Lib.hid (show Blk w2 w1.heap.size 3 #[I p] from ((Blk.new w1 _ _).drewN _).step hB)
    have B2 := Lib.hid (bstep (below_drewN (balloc B1.out _) _) hB)
    have HNN := Lib.hid hNN
    rw [hNN] at hN2
    have hz2 : w1.heap.size + 1 + 1 + 1 < w2.heap.size := HT.out.row.lt
    have SX2 := Lib.hid (SX.out.below B2.out)
    have SY2 := Lib.hid (SY.out.below B2.out)
    clear hT0 hG hB hNN
    go_wp2
    go_loopw [12, 13] (fun s12 s13 wr => ∃ (i j : Nat) (A : Option Addr) (m c : Nat) (done : List Hk) (cur : Option Hk), i ≤ nx ∧ j ≤ ny ∧ s12 = .int .i64 i ∧ s13 = .int .i64 j ∧ DAt w2 wr x y p i j A m c done cur) (fun s12 s13 _ => nx + ny - (intOf s12).toNat - (intOf s13).toNat)
    case atStart => exact ⟨0, 0, none, 0, 0, [], none, Nat.zero_le _, Nat.zero_le _, rfl, rfl, ⟨Blk.new _ _ _, Ow.nil_ (balloc (Below.refl _ _) _), by simp, Nat.le_refl _⟩⟩
    case round =>
      obtain ⟨i, j, Ar, m, cr, done, cur, hi, hj, rfl, rfl, hD⟩ := hrel
      have HD := Lib.hid hD
      have rP : wr.cell? ⟨w1.heap.size, 0, none⟩ = some (I p) := by rw [(HP.out.below hD.own.2 (by omega)).cell]; rfl
      have rW := hD.blk.cell
      have fW := hD.blk.frozen
      have hzW := hD.blk.lt
      have sXr := Lib.hid (SX2.out.below hD.own.2)
      have sYr := Lib.hid (SY2.out.below hD.own.2)
      have HTr := Lib.hid (HT.out.below hD.own.2 (by omega))
      have hm : m ≤ i + j := hD.few
      clear hD
      obtain ⟨P, hP⟩ : ∃ P, p + i = P := ⟨_, rfl⟩
      obtain ⟨Q, hQ⟩ : ∃ Q, p + j = Q := ⟨_, rfl⟩
      have hPb : P ≤ 9223372036854775807 := by omega
      have hQb : Q ≤ 9223372036854775807 := by omega
      have HPP := Lib.hid hP
      have HQQ := Lib.hid hQ
      clear hP hQ
      by_cases hlt : i < nx
      · by_cases hlt' : j < ny
        · obtain ⟨b, off, s, rfl, hs, hc0⟩ := sXr.out.str hlt
          obtain ⟨b', off', s', rfl, hs', hc0'⟩ := sYr.out.str hlt'
          have hblt : b < wr.heap.size := by obtain ⟨_, _, e, hb, _⟩ := sXr.out.2 (by omega); cases e; exact hb
          have hblt' : b' < wr.heap.size := by obtain ⟨_, _, e, hb, _⟩ := sYr.out.2 (by omega); cases e; exact hb
          have Hs := Lib.hid hs
          have Hs' := Lib.hid hs'
          clear hs hs'
          go_wp2_with fail
          refine (at_any rP rfl rfl HPP.out HQQ.out hPb hQb).mono ?_
          rintro e4 w4 ⟨rfl, hb4⟩
          have c4 : w4.cell? ⟨b, off + i, none⟩ = some (S s) := (hb4.cell (p := ⟨b, off + i, none⟩) hblt).trans hc0
          have c4' : w4.cell? ⟨b', off' + j, none⟩ = some (S s') := (hb4.cell (p := ⟨b', off' + j, none⟩) hblt').trans hc0'
          have hz4 := hb4.size
          have hx4 : b < w4.heap.size := Nat.lt_of_lt_of_le hblt hz4
          have hx4' : b' < w4.heap.size := Nat.lt_of_lt_of_le hblt' hz4
          have hzW4 : w2.heap.size < w4.heap.size := Nat.lt_of_lt_of_le hzW hz4
          have rW4 := (HD.out.blk.step hb4).cell
          have fW4 := (HD.out.blk.step hb4).frozen
          have HB4 := Lib.hid hb4
          clear hb4 rW fW hc0 hc0'
          by_cases hss : s = s'
          · subst hss
            go_wp2_with fail
            go_quiet (fail)
            go_wp2
            go_roundw
            case rel => exact ⟨i + 1, j + 1, Ar, m, cr, _, none, by omega, by omega, by go_num, by go_num, HD.out.same HB4.out Hs.out Hs'.out _ _⟩
            case measure => simp [intOf]; omega
          · obtain ⟨L1, hL1⟩ : ∃ L1, LineLaw.L (x.drop (i + 1)) (y.drop j) = L1 := ⟨_, rfl⟩
            obtain ⟨L2, hL2⟩ : ∃ L2, LineLaw.L (x.drop i) (y.drop (j + 1)) = L2 := ⟨_, rfl⟩
            have HL1 := Lib.hid hL1
            have HL2 := Lib.hid hL2
            have Hss := Lib.hid hss
            have hse : (s == s') = false := by simpa using hss
            have HT4 := fun (o : Obj) (q : Nat) => Lib.hid (HTr.out.below (below_drewN (HB4.out.alloc hz4 o) q) (by omega))
            clear hL1 hL2 hss
            by_cases hle : L2 ≤ L1
            · have hd : decide (L2 ≤ L1) = true := by simpa using hle
              go_wp2_with fail
              go_quiet (fail)
              go_wp2_with fail
              refine (ask_any (i := i + 1) (j := j) ((HT4 _ _).out) HG.out HNN.out hN2 (by omega) (by omega) (by go_num) rfl HL1.out).mono ?_
              rintro e5 w5 ⟨rfl, rfl⟩
              go_wp2_with fail
              refine (ask_any (i := i) (j := j + 1) ((HT4 _ _).out) HG.out HNN.out hN2 (by omega) (by omega) rfl (by go_num) HL2.out).mono ?_
              rintro e5 w5 ⟨rfl, rfl⟩
              go_wp2_with fail
              have b5 : Below wr.heap.size wr ((w4.alloc (Obj.cells #[I P, I P, I Q, I Q] 33)).drewN nq) := below_drewN (HB4.out.alloc hz4 _) nq
              have F5 : Blk ((w4.alloc (Obj.cells #[I P, I P, I Q, I Q] 33)).drewN nq) w4.heap.size 33 #[I P, I P, I Q, I Q] := (Blk.new w4 _ _).drewN nq
              generalize (w4.alloc (Obj.cells #[I P, I P, I Q, I Q] 33)).drewN nq = W5 at b5 F5 ⊢
              have B5 := Lib.hid b5
              have rF5 := F5.cell
              have FF5 := Lib.hid F5
              have rP5 : W5.drew.cell? ⟨w1.heap.size, 0, none⟩ = some (I p) := (b5.cell (p := ⟨w1.heap.size, 0, none⟩) (show w1.heap.size < wr.heap.size by omega)).trans rP
              have hO5 := Lib.hid ((HD.out.own.keep b5).drew)
              have hW5 := Lib.hid ((HD.out.blk.step b5).drew)
              clear b5 F5 rW4 fW4 HB4 HT4
              go_region_law (first
                  | (go_simp; go_at_call 36; refine (at_any (i := i + 1) (j := j) rP5 (by omega) (by omega) rfl rfl (by omega) (by omega)).mono ?_; rintro e6 w6 ⟨rfl, hb6⟩; have rF6 := (FF5.out.drew.step hb6).cell; have hz6 := (FF5.out.drew.step hb6).lt; have hO6 := Lib.hid (hO5.out.keep hb6); have hW6 := Lib.hid (hW5.out.step hb6); clear hb6)
                  | (go_simp; go_at_call 37; refine (turn_any w2 _ w2.heap.size Ar m cr done cur P Q (p + (i + 1)) (p + (j)) _ _ hW6.out hO6.out (Nat.le_refl _) (by omega)).mono ?_; rintro e7 w7 ⟨rfl, A7, m7, c7, hm7, hW7, hO7⟩))
              all_goals
                have HD7 := Lib.hid (show DAt w2 w7 x y p (i + 1) (j) A7 m7 c7 done (some (LineLaw.ext cur (p + i) (p + j) (p + (i + 1)) (p + (j)))) from HD.out.turned hW7 (by have h8 := hO7; rw [← HPP.out, ← HQQ.out] at h8; exact h8) hm7 (by omega) (by
                  have d1 := drop_at Hs.out; have d2 := drop_at Hs'.out; rw [d1, d2, LineLaw.walk_gone _ _ _ _ _ Hss.out (by rw [← d1, ← d2, HL1.out, HL2.out]; exact hle), ← d2, Nat.add_assoc]))
                clear hW7 hO7 hW6 hO6 hm7 rF6 hz6
                go_wp2
                go_roundw
                case rel => exact ⟨i + 1, j, A7, m7, c7, done, _, by omega, by omega, by go_num, by go_num, HD7.out⟩
                case measure => simp [intOf]; omega
            · have hd : decide (L2 ≤ L1) = false := by simpa using hle
              go_wp2_with fail
              go_quiet (fail)
              go_wp2_with fail
              refine (ask_any (i := i + 1) (j := j) ((HT4 _ _).out) HG.out HNN.out hN2 (by omega) (by omega) (by go_num) rfl HL1.out).mono ?_
              rintro e5 w5 ⟨rfl, rfl⟩
              go_wp2_with fail
              refine (ask_any (i := i) (j := j + 1) ((HT4 _ _).out) HG.out HNN.out hN2 (by omega) (by omega) rfl (by go_num) HL2.out).mono ?_
              rintro e5 w5 ⟨rfl, rfl⟩
              go_wp2_with fail
              have b5 : Below wr.heap.size wr ((w4.alloc (Obj.cells #[I P, I P, I Q, I Q] 33)).drewN nq) := below_drewN (HB4.out.alloc hz4 _) nq
              have F5 : Blk ((w4.alloc (Obj.cells #[I P, I P, I Q, I Q] 33)).drewN nq) w4.heap.size 33 #[I P, I P, I Q, I Q] := (Blk.new w4 _ _).drewN nq
              generalize (w4.alloc (Obj.cells #[I P, I P, I Q, I Q] 33)).drewN nq = W5 at b5 F5 ⊢
              have B5 := Lib.hid b5
              have rF5 := F5.cell
              have FF5 := Lib.hid F5
              have rP5 : W5.drew.cell? ⟨w1.heap.size, 0, none⟩ = some (I p) := (b5.cell (p := ⟨w1.heap.size, 0, none⟩) (show w1.heap.size < wr.heap.size by omega)).trans rP
              have hO5 := Lib.hid ((HD.out.own.keep b5).drew)
              have hW5 := Lib.hid ((HD.out.blk.step b5).drew)
              clear b5 F5 rW4 fW4 HB4 HT4
              go_region_law (first
                  | (go_simp; go_at_call 36; refine (at_any (i := i) (j := j + 1) rP5 (by omega) (by omega) rfl rfl (by omega) (by omega)).mono ?_; rintro e6 w6 ⟨rfl, hb6⟩; have rF6 := (FF5.out.drew.step hb6).cell; have hz6 := (FF5.out.drew.step hb6).lt; have hO6 := Lib.hid (hO5.out.keep hb6); have hW6 := Lib.hid (hW5.out.step hb6); clear hb6)
                  | (go_simp; go_at_call 37; refine (turn_any w2 _ w2.heap.size Ar m cr done cur P Q (p + (i)) (p + (j + 1)) _ _ hW6.out hO6.out (Nat.le_refl _) (by omega)).mono ?_; rintro e7 w7 ⟨rfl, A7, m7, c7, hm7, hW7, hO7⟩))
              all_goals
                have HD7 := Lib.hid (show DAt w2 w7 x y p (i) (j + 1) A7 m7 c7 done (some (LineLaw.ext cur (p + i) (p + j) (p + (i)) (p + (j + 1)))) from HD.out.turned hW7 (by have h8 := hO7; rw [← HPP.out, ← HQQ.out] at h8; exact h8) hm7 (by omega) (by
                  have d1 := drop_at Hs.out; have d2 := drop_at Hs'.out; rw [d1, d2, LineLaw.walk_new _ _ _ _ _ Hss.out (by rw [← d1, ← d2, HL1.out, HL2.out]; exact hle), ← d1, Nat.add_assoc]))
                clear hW7 hO7 hW6 hO6 hm7 rF6 hz6
                go_wp2
                go_roundw
                case rel => exact ⟨i, j + 1, A7, m7, c7, done, _, by omega, by omega, by go_num, by go_num, HD7.out⟩
                case measure => simp [intOf]; omega
        · obtain rfl : j = ny := by omega
          obtain ⟨b, off, s, rfl, hs, hc0⟩ := sXr.out.str hlt
          have Hs := Lib.hid hs
          clear hs
          go_wp2_with fail
          refine (at_any rP rfl rfl HPP.out HQQ.out hPb hQb).mono ?_
          rintro e4 w4 ⟨rfl, hb4⟩
          have hz4 := hb4.size
          have rW4 := (HD.out.blk.step hb4).cell
          have fW4 := (HD.out.blk.step hb4).frozen
          have HB4 := Lib.hid hb4
          have hyl := Lib.hid (show y.drop j = [] from List.drop_eq_nil_of_le (by have := strs_len SY.out; omega))
          have hdj : decide ((j : Int) < (j : Int)) = false := by simp
          clear hb4 rW fW hc0
          go_wp2_with fail
          go_quiet (fail)
          go_wp2_with fail
          have b5 : Below wr.heap.size wr ((w4.alloc (Obj.cells #[I P, I P, I Q, I Q] 33)).drewN nq) := below_drewN (HB4.out.alloc hz4 _) nq
          have F5 : Blk ((w4.alloc (Obj.cells #[I P, I P, I Q, I Q] 33)).drewN nq) w4.heap.size 33 #[I P, I P, I Q, I Q] := (Blk.new w4 _ _).drewN nq
          generalize (w4.alloc (Obj.cells #[I P, I P, I Q, I Q] 33)).drewN nq = W5 at b5 F5 ⊢
          have B5 := Lib.hid b5
          have rF5 := F5.cell
          have FF5 := Lib.hid F5
          have rP5 : W5.drew.cell? ⟨w1.heap.size, 0, none⟩ = some (I p) := (b5.cell (p := ⟨w1.heap.size, 0, none⟩) (show w1.heap.size < wr.heap.size by omega)).trans rP
          have hO5 := Lib.hid ((HD.out.own.keep b5).drew)
          have hW5 := Lib.hid ((HD.out.blk.step b5).drew)
          clear b5 F5 rW4 fW4 HB4 
          go_region_law (first
              | (go_simp; go_at_call 36; refine (at_any (i := i + 1) (j := j) rP5 (by omega) (by omega) rfl rfl (by omega) (by omega)).mono ?_; rintro e6 w6 ⟨rfl, hb6⟩; have rF6 := (FF5.out.drew.step hb6).cell; have hz6 := (FF5.out.drew.step hb6).lt; have hO6 := Lib.hid (hO5.out.keep hb6); have hW6 := Lib.hid (hW5.out.step hb6); clear hb6)
              | (go_simp; go_at_call 37; refine (turn_any w2 _ w2.heap.size Ar m cr done cur P Q (p + (i + 1)) (p + (j)) _ _ hW6.out hO6.out (Nat.le_refl _) (by omega)).mono ?_; rintro e7 w7 ⟨rfl, A7, m7, c7, hm7, hW7, hO7⟩))
          all_goals
            have HD7 := Lib.hid (show DAt w2 w7 x y p (i + 1) (j) A7 m7 c7 done (some (LineLaw.ext cur (p + i) (p + j) (p + (i + 1)) (p + (j)))) from HD.out.turned hW7 (by have h8 := hO7; rw [← HPP.out, ← HQQ.out] at h8; exact h8) hm7 (by omega) (by
              have d1 := drop_at Hs.out; rw [d1, hyl.out, LineLaw.walk_cons_nil, Nat.add_assoc]))
            clear hW7 hO7 hW6 hO6 hm7 rF6 hz6
            go_wp2
            go_roundw
            case rel => exact ⟨i + 1, j, A7, m7, c7, done, _, by omega, by omega, by go_num, by go_num, HD7.out⟩
            case measure => simp [intOf]; omega
      · obtain rfl : i = nx := by omega
        by_cases hlt' : j < ny
        · obtain ⟨b', off', s', rfl, hs', hc0'⟩ := sYr.out.str hlt'
          have Hs' := Lib.hid hs'
          clear hs'
          go_wp2_with fail
          refine (at_any rP rfl rfl HPP.out HQQ.out hPb hQb).mono ?_
          rintro e4 w4 ⟨rfl, hb4⟩
          have hz4 := hb4.size
          have rW4 := (HD.out.blk.step hb4).cell
          have fW4 := (HD.out.blk.step hb4).frozen
          have HB4 := Lib.hid hb4
          have hxl := Lib.hid (show x.drop i = [] from List.drop_eq_nil_of_le (by have := strs_len SX.out; omega))
          have hdi : decide ((i : Int) < (i : Int)) = false := by simp
          clear hb4 rW fW hc0'
          go_wp2_with fail
          go_quiet (fail)
          go_wp2_with fail
          have b5 : Below wr.heap.size wr ((w4.alloc (Obj.cells #[I P, I P, I Q, I Q] 33)).drewN nq) := below_drewN (HB4.out.alloc hz4 _) nq
          have F5 : Blk ((w4.alloc (Obj.cells #[I P, I P, I Q, I Q] 33)).drewN nq) w4.heap.size 33 #[I P, I P, I Q, I Q] := (Blk.new w4 _ _).drewN nq
          generalize (w4.alloc (Obj.cells #[I P, I P, I Q, I Q] 33)).drewN nq = W5 at b5 F5 ⊢
          have B5 := Lib.hid b5
          have rF5 := F5.cell
          have FF5 := Lib.hid F5
          have rP5 : W5.drew.cell? ⟨w1.heap.size, 0, none⟩ = some (I p) := (b5.cell (p := ⟨w1.heap.size, 0, none⟩) (show w1.heap.size < wr.heap.size by omega)).trans rP
          have hO5 := Lib.hid ((HD.out.own.keep b5).drew)
          have hW5 := Lib.hid ((HD.out.blk.step b5).drew)
          clear b5 F5 rW4 fW4 HB4 
          go_region_law (first
              | (go_simp; go_at_call 36; refine (at_any (i := i) (j := j + 1) rP5 (by omega) (by omega) rfl rfl (by omega) (by omega)).mono ?_; rintro e6 w6 ⟨rfl, hb6⟩; have rF6 := (FF5.out.drew.step hb6).cell; have hz6 := (FF5.out.drew.step hb6).lt; have hO6 := Lib.hid (hO5.out.keep hb6); have hW6 := Lib.hid (hW5.out.step hb6); clear hb6)
              | (go_simp; go_at_call 37; refine (turn_any w2 _ w2.heap.size Ar m cr done cur P Q (p + (i)) (p + (j + 1)) _ _ hW6.out hO6.out (Nat.le_refl _) (by omega)).mono ?_; rintro e7 w7 ⟨rfl, A7, m7, c7, hm7, hW7, hO7⟩))
          all_goals
            have HD7 := Lib.hid (show DAt w2 w7 x y p (i) (j + 1) A7 m7 c7 done (some (LineLaw.ext cur (p + i) (p + j) (p + (i)) (p + (j + 1)))) from HD.out.turned hW7 (by have h8 := hO7; rw [← HPP.out, ← HQQ.out] at h8; exact h8) hm7 (by omega) (by
              have d2 := drop_at Hs'.out; rw [d2, hxl.out, LineLaw.walk_nil_cons, Nat.add_assoc]))
            clear hW7 hO7 hW6 hO6 hm7 rF6 hz6
            go_wp2
            go_roundw
            case rel => exact ⟨i, j + 1, A7, m7, c7, done, _, by omega, by omega, by go_num, by go_num, HD7.out⟩
            case measure => simp [intOf]; omega
        · obtain rfl : j = ny := by omega
          go_wp2
          go_ret
          have hxl : x.drop i = [] := List.drop_eq_nil_of_le (by have := strs_len SX.out; omega)
          have hyl : y.drop j = [] := List.drop_eq_nil_of_le (by have := strs_len SY.out; omega)
          refine ⟨Ar, m, cr, rfl, ?_⟩
          have hlaw := HD.out.law
          rw [hxl, hyl, LineLaw.walk_nil_nil] at hlaw
          rw [hdiff.out, hlaw]
          exact HD.out.own.since B2.out

theorem diff_any (A A' : Option Addr) (n n' c c' : Nat) (ss ss' : List (List UInt8)) (w : World) (hA : Sl w 1 A n (strs ss)) (hA' : Sl w 1 A' n' (strs ss')) (hc : n ≤ c) (hc' : n' ≤ c') (hmul : n * n' ≤ 1048576) (hn : n ≤ 274877906944) (hn' : n' ≤ 274877906944) :
    Calls Tryd.prog 17 #[.slice A n c, .slice A' n' c'] w fun e w' => ∃ A2 m2 c2, e = .returned (.slice A2 m2 c2) ∧ Ow w w' 33 4 A2 m2 c2 (hks (LineLaw.diff ss ss')) :=
  diff_strip A A' n n' c c' ss ss' w hA hA' hc hc' (Nat.le_trans (Nat.mul_le_mul (by omega) (by omega)) hmul) hn hn'
end Go.Proofs.YtpnogcblafmaiaaDoor
