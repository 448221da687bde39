/-
  dolmenref15.Diff: what turned, by the document. Conditions: slices read as lists, short ones.
-/
import Derived.Test.YtpnogcblafmaiaaDoorRefEnds
import Derived.Test.YtpnogcblafmaiaaDoorRefTable
import Derived.Test.YtpnogcblafmaiaaDoorRefSame
namespace Go.Proofs.YtpnogcblafmaiaaDoor
open Go.RowKit
open LineLaw (Hk)

/-- the walk's state between two lines -/
structure RAt (w3 wr : World) (x y : List (List UInt8)) (p i j : Nat) (A : Option Addr) (m c : Nat) (done : List Hk) (cur : Option Hk) : Prop where
  own : Ow w3 wr 45 4 A m c (hks (done ++ cur.toList))
  law : LineLaw.walk none x y p p = done ++ LineLaw.walk cur (x.drop i) (y.drop j) (p + i) (p + j)
  few : m ≤ i + j

theorem RAt.same {w3 wr : World} {x y : List (List UInt8)} {p i j : Nat} {A : Option Addr} {m c : Nat} {done : List Hk} {cur : Option Hk} {s : List UInt8} (h : RAt w3 wr x y p i j A m c done cur) (hs : x[i]? = some s) (hs' : y[j]? = some s) (q : Nat) :
    RAt w3 (wr.drewN q) x y p (i + 1) (j + 1) A m c (done ++ cur.toList) none := by
  refine ⟨?_, ?_, by have := h.few; omega⟩
  · rw [Option.toList_none, List.append_nil]
    exact h.own.drewN q
  · rw [h.law, drop_at hs, drop_at hs', LineLaw.walk_same, List.append_assoc, Nat.add_assoc, Nat.add_assoc]

/-- the hunk that is open, or a new one here -/
def opened (cur : Option Hk) (P Q : Nat) : Hk := match cur with
  | some h => h
  | none => ⟨P, P, Q, Q⟩
theorem ext_opened (cur : Option Hk) (P Q P' Q' : Nat) : LineLaw.ext cur P Q P' Q' = { opened cur P Q with a1 := P', b1 := Q' } := by
  cases cur <;> rfl

/-- which way the walk goes on at two lines that are not the same -/
theorem walk_way {nx ny : Nat} (cur : Option Hk) (x y : List (List UInt8)) (p i j i' j' : Nat) (hx : x.length = nx) (hy : y.length = ny)
    (h : (i < nx ∧ j < ny ∧ (∀ s s', x[i]? = some s → y[j]? = some s' → s ≠ s') ∧ LineLaw.L (x.drop i) (y.drop (j + 1)) ≤ LineLaw.L (x.drop (i + 1)) (y.drop j) ∧ i' = i + 1 ∧ j' = j) ∨
      (i < nx ∧ j < ny ∧ (∀ s s', x[i]? = some s → y[j]? = some s' → s ≠ s') ∧ ¬ LineLaw.L (x.drop i) (y.drop (j + 1)) ≤ LineLaw.L (x.drop (i + 1)) (y.drop j) ∧ i' = i ∧ j' = j + 1) ∨
      (i < nx ∧ ny ≤ j ∧ i' = i + 1 ∧ j' = j) ∨ (nx ≤ i ∧ j < ny ∧ i' = i ∧ j' = j + 1)) :
    LineLaw.walk cur (x.drop i) (y.drop j) (p + i) (p + j) = LineLaw.walk (some (LineLaw.ext cur (p + i) (p + j) (p + i') (p + j'))) (x.drop i') (y.drop j') (p + i') (p + j') := by
  have dx : i < nx → ∃ s, x[i]? = some s ∧ x.drop i = s :: x.drop (i + 1) := fun h => ⟨x[i]'(by omega), List.getElem?_eq_getElem _, List.drop_eq_getElem_cons _⟩
  have dy : j < ny → ∃ s, y[j]? = some s ∧ y.drop j = s :: y.drop (j + 1) := fun h => ⟨y[j]'(by omega), List.getElem?_eq_getElem _, List.drop_eq_getElem_cons _⟩
  rcases h with ⟨h1, h2, h3, h4, rfl, rfl⟩ | ⟨h1, h2, h3, h4, rfl, rfl⟩ | ⟨h1, h2, rfl, rfl⟩ | ⟨h1, h2, rfl, rfl⟩
  · obtain ⟨s, hs, es⟩ := dx h1
    obtain ⟨s', hs', es'⟩ := dy h2
    rw [es, es'] at h4 ⊢
    rw [LineLaw.walk_gone _ _ _ _ _ (h3 s s' hs hs') h4, Nat.add_assoc]
  · obtain ⟨s, hs, es⟩ := dx h1
    obtain ⟨s', hs', es'⟩ := dy h2
    rw [es, es'] at h4 ⊢
    rw [LineLaw.walk_new _ _ _ _ _ (h3 s s' hs hs') h4, Nat.add_assoc]
  · obtain ⟨s, hs, es⟩ := dx h1
    have ey : y.drop j' = [] := List.drop_eq_nil_of_le (by omega)
    rw [es, ey, LineLaw.walk_cons_nil, Nat.add_assoc]
  · obtain ⟨s, hs, es⟩ := dy h2
    have ex : x.drop i' = [] := List.drop_eq_nil_of_le (by omega)
    rw [es, ex, LineLaw.walk_nil_cons, Nat.add_assoc]

/-- one hunk's ends set -/
theorem RAt.turned {w3 wr w5 : World} {x y : List (List UInt8)} {p i j i' j' P Q P' Q' : Nat} {A : Option Addr} {m c m5 c5 g : Nat} {done : List Hk} {cur : Option Hk} (h : RAt w3 wr x y p i j A m c done cur) (q : Nat)
    (hO : Ow w3 w5 45 4 (some ⟨g, 0, none⟩) (m5 + 1) c5 (hks (done ++ [opened cur P Q]))) (hP : p + i = P) (hQ : p + j = Q) (hP' : p + i' = P') (hQ' : p + j' = Q') (hm : m5 ≤ m) (hij : i + j < i' + j')
    (hw : LineLaw.walk cur (x.drop i) (y.drop j) (p + i) (p + j) = LineLaw.walk (some (LineLaw.ext cur (p + i) (p + j) (p + i') (p + j'))) (x.drop i') (y.drop j') (p + i') (p + j')) :
    RAt w3 (((w5.drewN q).setCell ⟨g, m5 * 4 + 1, none⟩ (I P')).setCell ⟨g, m5 * 4 + 3, none⟩ (I Q')) x y p i' j' (some ⟨g, 0, none⟩) (m5 + 1) c5 done (some (LineLaw.ext cur P Q P' Q')) := by
  subst hP hQ hP' hQ'
  have hdl : done.length = m5 := by have := hO.len; rw [hks_len] at this; simp at this; omega
  refine ⟨?_, by rw [h.law, hw], by have := h.few; omega⟩
  rw [ext_opened, Option.toList_some, ← hks_set, hdl]
  exact ((hO.drewN q).set_ _ _).set_ _ _
theorem RAt.drewN {w3 wr : World} {x y : List (List UInt8)} {p i j : Nat} {A : Option Addr} {m c : Nat} {done : List Hk} {cur : Option Hk} (h : RAt w3 wr x y p i j A m c done cur) (q : Nat) : RAt w3 (wr.drewN q) x y p i j A m c done cur := ⟨h.own.drewN q, h.law, h.few⟩
/-- what the table says, asked later -/
theorem RB.ask {w w2 wr : World} {n n' c i j : Nat} {A : Option Addr} {gs : List Nat} {css : Nat → Array Value} {ss ss' : List (List UInt8)} (h : RB w w2 n' A (n + 1) c gs css) (hb : Below w2.heap.size w2 wr) (hT : RTab ss ss' n n' 0 0 css) (hi : i < n) (hj : j < n') :
    ∃ r gi gj, A = some ⟨r, 0, none⟩ ∧ wr.cell? ⟨r, i, none⟩ = some (rowV n' gi) ∧ wr.cell? ⟨r, i + 1, none⟩ = some (rowV n' gj) ∧ wr.cell? ⟨gj, j, none⟩ = some (I (LineLaw.L (ss.drop (i + 1)) (ss'.drop j) : Nat)) ∧ wr.cell? ⟨gi, j + 1, none⟩ = some (I (LineLaw.L (ss.drop i) (ss'.drop (j + 1)) : Nat)) := by
  obtain ⟨r, gi, gj, e, _, h1, h2, _, _, h3, h4, _, z1, z2, z3⟩ := h.facts (i := i) (by omega)
  refine ⟨r, gi, gj, e, (hb.cell (p := ⟨r, i, none⟩) z3).trans h1, (hb.cell (p := ⟨r, i + 1, none⟩) z3).trans h2, ?_, ?_⟩
  · rw [hb.cell (p := ⟨gj, j, none⟩) z2, h4]; exact hT.val (i + 1) j (by omega) (by omega) (by omega)
  · rw [hb.cell (p := ⟨gi, j + 1, none⟩) z1, h3]; exact hT.val i (j + 1) (by omega) (by omega) (by omega)

set_option maxHeartbeats 16000000 in
set_option maxRecDepth 100000 in
theorem refDiff_any (A A' : Option Addr) (n n' c c' : Nat) (ss ss' : List (List UInt8)) (w : World) (hA : Sl w 1 A n (strs ss)) (hA' : Sl w 1 A' n' (strs ss')) (hc : n ≤ c) (hc' : n' ≤ c') (hn : n ≤ 1000) (hn' : n' ≤ 1000) :
    Calls Tryd.prog 18 #[.slice A n c, .slice A' n' c'] w fun e w' => ∃ A2 m2 c2, e = .returned (.slice A2 m2 c2) ∧ Ow w w' 45 4 A2 m2 c2 (hks (LineLaw.diff ss ss')) := by
  have hl := Lib.hid (strs_len hA)
  have hl' := Lib.hid (strs_len hA')
  obtain ⟨i0, hi0, hi1, hi2, hi3⟩ := info_parts Tryd.infoRHk
  obtain ⟨p, hp⟩ : ∃ p, LineLaw.pre ss ss' = p := ⟨_, rfl⟩
  have hpn : p ≤ n := by have := LineLaw.pre_le_left ss ss'; rw [hp, hl.out] at this; exact this
  have hpn' : p ≤ n' := by have := LineLaw.pre_le_right ss ss'; rw [hp, hl'.out] at this; exact this
  obtain ⟨e, he⟩ : ∃ e, LineLaw.suf (ss.drop p) (ss'.drop p) = e := ⟨_, rfl⟩
  have hen : p + e ≤ n := by have := LineLaw.suf_le_left (ss.drop p) (ss'.drop p); rw [he, List.length_drop, hl.out] at this; omega
  have hen' : p + e ≤ n' := by have := LineLaw.suf_le_right (ss.drop p) (ss'.drop p); rw [he, List.length_drop, hl'.out] at this; omega
  obtain ⟨h1, hh1⟩ : ∃ h1, n - e = h1 := ⟨_, rfl⟩
  obtain ⟨h2, hh2⟩ : ∃ h2, n' - e = h2 := ⟨_, rfl⟩
  have i1 : (n : Int) - (e : Int) = (h1 : Int) := by omega
  have i2 : (n' : Int) - (e : Int) = (h2 : Int) := by omega
  obtain ⟨nx, hnx⟩ : ∃ nx, h1 - p = nx := ⟨_, rfl⟩
  obtain ⟨ny, hny⟩ : ∃ ny, h2 - p = ny := ⟨_, rfl⟩
  have k3 := fun W : World => run_cut_lh (P := Tryd.prog) W Tryd.underlying22 Tryd.sizeStr A n c .i64 .i64 p h1 (by omega) (by omega)
  have k4 := fun W : World => run_cut_lh (P := Tryd.prog) W Tryd.underlying22 Tryd.sizeStr A' n' c' .i64 .i64 p h2 (by omega) (by omega)
  have sX := hA.mid_ (j := p) (k := h1) (c := c) (by omega) (by omega) hc
  have sY := hA'.mid_ (j := p) (k := h2) (c := c') (by omega) (by omega) hc'
  rw [hnx] at k3 sX
  rw [hny] at k4 sY
  obtain ⟨X, hX⟩ : ∃ X, cutA A c p 1 = X := ⟨_, rfl⟩
  obtain ⟨Y, hY⟩ : ∃ Y, cutA A' c' p 1 = Y := ⟨_, rfl⟩
  rw [hX] at k3 sX
  rw [hY] at k4 sY
  obtain ⟨x, hx⟩ : ∃ x, (ss.drop p).take nx = x := ⟨_, rfl⟩
  obtain ⟨y, hy⟩ : ∃ y, (ss'.drop p).take ny = y := ⟨_, rfl⟩
  rw [hx] at sX
  rw [hy] at sY
  have hdiff := Lib.hid (show LineLaw.diff ss ss' = LineLaw.walk none x y p p by
    unfold LineLaw.diff
    simp only [hp, he, hl.out, hl'.out, hh1, hh2, hnx, hny, hx, hy])
  have hmul2 : nx * ny ≤ 1000000 := Nat.le_trans (Nat.mul_le_mul (show nx ≤ 1000 by omega) (show ny ≤ 1000 by omega)) (by omega)
  have SX := Lib.hid sX
  have SY := Lib.hid sY
  have HA := Lib.hid hA
  have HA' := Lib.hid hA'
  have Hp := Lib.hid hp
  have He := Lib.hid he
  have hlx := Lib.hid (strs_len sX)
  have hly := Lib.hid (strs_len sY)
  have hnxn : nx ≤ 1000 := by omega
  have hnyn : ny ≤ 1000 := by omega
  have hpb : p ≤ 1000 := by omega
  have hdec : decide (1048576 < (nx : Int) * (ny : Int)) = false := by
    have : ((nx * ny : Nat) : Int) ≤ 1000000 := by omega
    rw [Int.natCast_mul] at this
    simp; omega
  clear sX sY hA hA' hp he hh1 hh2 hnx hny hX hY hx hy
  go_enter Tryd.func18, Tryd.ntmps18
  go_wp2_with fail
  refine (refEnds_any A A' n n' c c' ss ss' w HA.out HA'.out (by omega) (by omega) p e Hp.out He.out).mono ?_
  rintro e1 w1 ⟨rfl, m1, hw1⟩
  have B1 := Lib.hid (show Below w.heap.size w w1 by rw [hw1]; exact below_drewN (Below.refl _ _) _)
  clear hw1
  by_cases hxy : nx = 0 ∧ ny = 0
  · obtain ⟨rfl, rfl⟩ := hxy
    go_wp2
    go_ret
    have ex : x = [] := List.eq_nil_of_length_eq_zero hlx.out
    have ey : y = [] := List.eq_nil_of_length_eq_zero hly.out
    refine ⟨none, 0, 0, rfl, ?_⟩
    rw [hdiff.out, ex, ey, LineLaw.walk_nil_nil]
    exact Ow.nil_ B1.out
  · have hcase0 : ((nx : Int) == 0) = false ∨ (((nx : Int) == 0) = true ∧ ((ny : Int) == 0) = false) := by
      by_cases h0 : nx = 0
      · exact .inr ⟨by simp; omega, by simp; omega⟩
      · exact .inl (by simp; omega)
    have SX1 := Lib.hid (SX.out.below B1.out)
    have SY1 := Lib.hid (SY.out.below B1.out)
    rcases hcase0 with z0 | ⟨z0, z1⟩
    all_goals
      go_wp2_with fail
      refine (refTable_any X Y nx ny _ _ x y _ SX1.out SY1.out (by omega) (by omega)).mono ?_
      rintro e2 w2 ⟨A2, c2, gs, css, rfl, hRB, hRT⟩
      have B2 := Lib.hid (bstep B1.out hRB.own.2)
      have SX2 := Lib.hid (SX.out.below B2.out)
      have SY2 := Lib.hid (SY.out.below B2.out)
      have HRB := Lib.hid hRB
      have HRT := Lib.hid hRT
      try clear z1
      clear hRB hRT hdec k3 k4 i1 i2
      go_wp2
      have Hz0 := Lib.hid z0
      clear z0
      go_loopw [10, 11, 12, 13] (fun s10 s11 s12 s13 wr => ∃ (i j : Nat) (B : Option Addr) (m cap : Nat) (done : List Hk) (cur : Option Hk), i ≤ nx ∧ j ≤ ny ∧ s11 = .int .i64 i ∧ s12 = .int .i64 j ∧ s10 = .slice B m cap ∧ s13 = .bool cur.isSome ∧ RAt w2 wr x y p i j B m cap done cur) (fun _ s11 s12 _ _ => nx + ny - (intOf s11).toNat - (intOf s12).toNat)
      case atStart => exact ⟨0, 0, none, 0, 0, [], none, Nat.zero_le _, Nat.zero_le _, rfl, rfl, rfl, rfl, ⟨Ow.nil_ (Below.refl _ _), by simp, Nat.le_refl _⟩⟩
      case round =>
        obtain ⟨i, j, B, m, cap, done, cur, hi, hj, rfl, rfl, rfl, rfl, hD⟩ := hrel
        have HD := Lib.hid hD
        have sXr := Lib.hid (SX2.out.below hD.own.2)
        have sYr := Lib.hid (SY2.out.below hD.own.2)
        have hm : m ≤ i + j := hD.few
        clear hD
        by_cases hend : i = nx ∧ j = ny
        · obtain ⟨rfl, rfl⟩ := hend
          go_wp2
          go_ret
          have hxl : x.drop i = [] := List.drop_eq_nil_of_le (by rw [hlx.out]; exact Nat.le_refl _)
          have hyl : y.drop j = [] := List.drop_eq_nil_of_le (by rw [hly.out]; exact Nat.le_refl _)
          refine ⟨B, m, cap, rfl, ?_⟩
          have hlaw := HD.out.law
          rw [hxl, hyl, LineLaw.walk_nil_nil] at hlaw
          rw [hdiff.out, hlaw]
          exact HD.out.own.since B2.out
        · have hway : (i < nx ∧ j < ny ∧ ∃ b off b' off' s, X = some ⟨b, off, none⟩ ∧ Y = some ⟨b', off', none⟩ ∧ x[i]? = some s ∧ y[j]? = some s ∧ wr.cell? ⟨b, off + i, none⟩ = some (S s) ∧ wr.cell? ⟨b', off' + j, none⟩ = some (S s)) ∨
              ∃ i' j' : Nat, i' ≤ nx ∧ j' ≤ ny ∧ i + j < i' + j' ∧ (LineLaw.walk cur (x.drop i) (y.drop j) (p + i) (p + j) = LineLaw.walk (some (LineLaw.ext cur (p + i) (p + j) (p + i') (p + j'))) (x.drop i') (y.drop j') (p + i') (p + j')) ∧
                ((i < nx ∧ j < ny ∧ ((j : Int) == (ny : Int)) = false ∧ (∃ b off b' off' s s', X = some ⟨b, off, none⟩ ∧ Y = some ⟨b', off', none⟩ ∧ wr.cell? ⟨b, off + i, none⟩ = some (S s) ∧ wr.cell? ⟨b', off' + j, none⟩ = some (S s') ∧ (s == s') = false) ∧
                  ∃ L1 L2 : Nat, LineLaw.L (x.drop (i + 1)) (y.drop j) = L1 ∧ LineLaw.L (x.drop i) (y.drop (j + 1)) = L2 ∧ ((L2 ≤ L1 ∧ decide (L2 ≤ L1) = true ∧ i' = i + 1 ∧ j' = j) ∨ (¬ L2 ≤ L1 ∧ decide (L2 ≤ L1) = false ∧ i' = i ∧ j' = j + 1))) ∨
                 (i < nx ∧ ¬ j < ny ∧ decide ((j : Int) < (ny : Int)) = false ∧ ((j : Int) == (ny : Int)) = true ∧ i' = i + 1 ∧ j' = j) ∨
                 (¬ i < nx ∧ j < ny ∧ decide ((i : Int) < (nx : Int)) = false ∧ i' = i ∧ j' = j + 1)) := by
            by_cases hlt : i < nx
            · by_cases hlt' : j < ny
              · obtain ⟨b, off, s, ex, hs, hc0⟩ := sXr.out.str hlt
                obtain ⟨b', off', s', ey, hs', hc0'⟩ := sYr.out.str hlt'
                by_cases hss : s = s'
                · subst hss
                  exact .inl ⟨hlt, hlt', b, off, b', off', s, ex, ey, hs, hs', hc0, hc0'⟩
                · have hne : ∀ t t', x[i]? = some t → y[j]? = some t' → t ≠ t' := by
                    intro t t' ht ht'
                    rw [hs] at ht
                    rw [hs'] at ht'
                    cases ht
                    cases ht'
                    exact hss
                  by_cases hle : LineLaw.L (x.drop i) (y.drop (j + 1)) ≤ LineLaw.L (x.drop (i + 1)) (y.drop j)
                  · exact .inr ⟨i + 1, j, by omega, by omega, by omega, walk_way cur x y p i j _ _ hlx.out hly.out (.inl ⟨hlt, hlt', hne, hle, rfl, rfl⟩), .inl ⟨hlt, hlt', by simp; omega, ⟨b, off, b', off', s, s', ex, ey, hc0, hc0', by simpa using hss⟩, _, _, rfl, rfl, .inl ⟨hle, by simpa using hle, rfl, rfl⟩⟩⟩
                  · exact .inr ⟨i, j + 1, by omega, by omega, by omega, walk_way cur x y p i j _ _ hlx.out hly.out (.inr (.inl ⟨hlt, hlt', hne, hle, rfl, rfl⟩)), .inl ⟨hlt, hlt', by simp; omega, ⟨b, off, b', off', s, s', ex, ey, hc0, hc0', by simpa using hss⟩, _, _, rfl, rfl, .inr ⟨hle, by simpa using hle, rfl, rfl⟩⟩⟩
              · exact .inr ⟨i + 1, j, by omega, by omega, by omega, walk_way cur x y p i j _ _ hlx.out hly.out (.inr (.inr (.inl ⟨hlt, by omega, rfl, rfl⟩))), .inr (.inl ⟨hlt, hlt', by simp; omega, by simp; omega, rfl, rfl⟩)⟩
            · have hlt' : j < ny := by omega
              exact .inr ⟨i, j + 1, by omega, by omega, by omega, walk_way cur x y p i j _ _ hlx.out hly.out (.inr (.inr (.inr ⟨by omega, hlt', rfl, rfl⟩))), .inr (.inr ⟨hlt, hlt', by simp; omega, rfl, rfl⟩)⟩
          clear hend
          have hz0 := Hz0.out
          rcases hway with ⟨hlt, hlt', b, off, b', off', s, rfl, rfl, hs, hs', hc0, hc0'⟩ | ⟨i', j', hi', hj', hij, hwk, hway⟩
          · try (exfalso; have hz1 : nx = 0 := by simpa using hz0
                 omega)
            all_goals
              clear hz0
              have Hs := Lib.hid hs
              have Hs' := Lib.hid hs'
              clear hs hs'
              go_wp2
              go_quiet (fail)
              go_wp2
              go_roundw
              case rel => exact ⟨i + 1, j + 1, B, m, cap, _, none, by omega, by omega, by go_num, by go_num, rfl, rfl, HD.out.same Hs.out Hs'.out _⟩
              case measure => simp [intOf]; omega
          · have Hwk := Lib.hid hwk
            obtain ⟨P, hP⟩ : ∃ P, p + i = P := ⟨_, rfl⟩
            obtain ⟨Q, hQ⟩ : ∃ Q, p + j = Q := ⟨_, rfl⟩
            obtain ⟨P1, hP1⟩ : ∃ P1, p + i + 1 = P1 := ⟨_, rfl⟩
            obtain ⟨Q1, hQ1⟩ : ∃ Q1, p + j + 1 = Q1 := ⟨_, rfl⟩
            have s1 : (p : Int) + (i : Int) = (P : Int) := by omega
            have s2 : (p : Int) + (j : Int) = (Q : Int) := by omega
            have s3 : (p : Int) + ((i : Int) + 1) = (P1 : Int) := by omega
            have s4 : (p : Int) + ((j : Int) + 1) = (Q1 : Int) := by omega
            have b1 : P ≤ 2000 := by omega
            have b2 : Q ≤ 2000 := by omega
            have b3 : P1 ≤ 2001 := by omega
            have b4 : Q1 ≤ 2001 := by omega
            have hmm : m + 1 ≤ maxLen := by simp only [maxLen]; omega
            have hnn : (m + 1) * 32 ≤ 140737488355328 := by omega
            have HP := Lib.hid hP
            have HQ := Lib.hid hQ
            have HP1 := Lib.hid hP1
            have HQ1 := Lib.hid hQ1
            have Hij := Lib.hid hij
            clear hP hQ hP1 hQ1 hwk hij
            rcases hway with ⟨hlt, hlt', hjn, ⟨b, off, b', off', s, s', rfl, rfl, hc0, hc0', hse⟩, L1, L2, hL1, hL2, ⟨hle, hld, ei, ej⟩ | ⟨hle, hld, ei, ej⟩⟩ | ⟨hlt, hlt', hjd, hjn, ei, ej⟩ | ⟨hlt, hlt', hid, ei, ej⟩
            all_goals
              try (exfalso; have hz1 : nx = 0 := by simpa using hz0
                   omega)
            all_goals
              clear hz0
              have Hei := Lib.hid ei
              have Hej := Lib.hid ej
              try (have HL1 := Lib.hid hL1; have HL2 := Lib.hid hL2; clear hL1 hL2)
              clear ei ej
              go_wp2
              go_quiet (fail)
              generalize hW4 : World.drewN wr _ = W4
              have hD4 : RAt w2 W4 x y p i j B m cap done cur := by rw [← hW4]; exact HD.out.drewN _
              have HD4 := Lib.hid hD4
              clear hW4 hD4
              try clear hc0 hc0' hse
              rcases cur with _ | h
              case' none =>
                simp only [Option.isSome_none]
                obtain ⟨m5, hm5⟩ : ∃ m5, m5 = m := ⟨_, rfl⟩
                subst hm5
                go_wp2_with (at_builtin; refine wpList_append_sl _ rfl (.tmp 100) (.tmp 114) _ rfl w2 45 i0 _ 4 32 Tryd.underlying25 hi0 hi1 hi2 hi3 rfl (by decide) B m5 cap _ rfl (HD4.out.own.alloc _) _ 1 1 (hks [⟨P, P, Q, Q⟩]) rfl (sl_hk W4 _ ⟨P, P, Q, Q⟩ W4.heap.size rfl) (one_hks _) hmm hnn ?_; intro A1 c5 w5 hO5 hg5 hat5)
                obtain ⟨g, rfl, hg0, hg1⟩ := hO5.form (by omega)
                obtain ⟨hh, hhe⟩ : ∃ hh, opened none P Q = hh := ⟨_, rfl⟩
                have HO5 := Lib.hid (show Ow w2 w5 45 4 (some ⟨g, 0, none⟩) (m5 + 1) c5 (hks (done ++ [hh])) by
                  have h5 := hO5; rw [← hks_append, Option.toList_none, List.append_nil] at h5; rw [← hhe]; exact h5)
                clear hO5 hg5 hat5
              case' some =>
                simp only [Option.isSome_some]
                obtain ⟨g, hgB, hg0, hg1⟩ := HD4.out.own.form (by have := HD4.out.own.len; rw [hks_len] at this; simp at this; omega)
                subst hgB
                obtain ⟨m5, hm5⟩ : ∃ m5, m5 + 1 = m := ⟨m - 1, by have := HD4.out.own.len; rw [hks_len] at this; simp at this; omega⟩
                subst hm5
                obtain ⟨c5, hc5⟩ : ∃ c5, c5 = cap := ⟨_, rfl⟩
                subst hc5
                obtain ⟨w5, hw5⟩ : ∃ w5, w5 = W4 := ⟨_, rfl⟩
                subst hw5
                obtain ⟨hh, hhe⟩ : ∃ hh, opened (some h) P Q = hh := ⟨_, rfl⟩
                have HO5 := Lib.hid (show Ow w2 w5 45 4 (some ⟨g, 0, none⟩) (m5 + 1) c5 (hks (done ++ [hh])) by rw [← hhe]; exact HD4.out.own)
                go_wp2
              all_goals
                have Hhe := Lib.hid hhe
                clear hhe hmm hnn
                have hdl : done.length = m5 := by have := HO5.out.len; rw [hks_len] at this; simp at this; omega
                have cA := (HO5.out.1.cellAt (m5 * 4 + 1) (by omega)).trans (show _ = some (I hh.a1) by rw [hks_append, ← hdl, ← hks_len, hks_one]; simp [hkc])
                have cB := (HO5.out.1.cellAt (m5 * 4 + 3) (by omega)).trans (show _ = some (I hh.b1) by rw [hks_append, ← hdl, ← hks_len, hks_one]; simp [hkc])
                have fA := HO5.out.1.frozenAt
                try (obtain ⟨r, gi, gj, er, t1, t2, t3, t4⟩ := HRB.out.ask HO5.out.2 HRT.out hlt hlt'; subst er; rw [HL1.out] at t3; rw [HL2.out] at t4)
                clear hdl
                go_quiet (fail)
                go_wp2
                go_roundw
                case rel =>
                  have a1 := HP.out
                  have a2 := HQ.out
                  have a3 := HP1.out
                  have a4 := HQ1.out
                  have a5 := Hei.out
                  have a6 := Hej.out
                  have a7 := Hij.out
                  exact ⟨i', j', some ⟨g, 0, none⟩, m5 + 1, c5, done, _, hi', hj', by first | (rw [a5]; done) | (rw [a5]; go_num), by first | (rw [a6]; done) | (rw [a6]; go_num), rfl, rfl, HD4.out.turned _ (by rw [Hhe.out]; exact HO5.out) a1 a2 (by omega) (by omega) (by omega) a7 Hwk.out⟩
                case measure =>
                  simp [intOf]
                  have a5 := Hei.out
                  have a6 := Hej.out
                  omega
end Go.Proofs.YtpnogcblafmaiaaDoor
