/-
  dolmenlaw11.RefsTrims returns true, and nothing that lay before has turned. Conditions: the script reads as a list of operations; the number is an int.
-/
import Derived.Test.YtegehaokfcamfaaDoorRefsCopyB
import Derived.Test.YtegehaokfcamfaaDoorMade
import Derived.Test.YtegehaokfcamfaaDoorAwake11
import Derived.Test.YtegehaokfcamfaaDoorKitR
import Derived.BigQuiet
namespace Go.Proofs.YtegehaokfcamfaaDoor
open Go.RowKit
open RefsLaw (Val Chg Txn rightT Book named Inv Refs zv)

theorem log_trim (bk : Book) (keep : Int) (ref : List UInt8) : ∃ t, RefsLaw.log bk ref = RefsLaw.log (RefsLaw.trim bk keep) ref ++ t := by
  unfold RefsLaw.log RefsLaw.trim
  simp only
  refine ⟨(bk.txns.take (bk.txns.length - keep.toNat)).reverse.filter (RefsLaw.has ref), ?_⟩
  rw [← List.filter_append, ← List.reverse_append, List.take_append_drop]
theorem trim_count (bk : Book) (keep : Int) : (((RefsLaw.trim bk keep).txns.length : Nat) : Int) = min (bk.txns.length : Int) (max keep 0) := by
  unfold RefsLaw.trim
  simp only [List.length_drop]
  omega
theorem get_trim (bk : Book) (keep : Int) (ref : List UInt8) : RefsLaw.get (RefsLaw.trim bk keep) ref = RefsLaw.get bk ref := rfl
theorem names_one {f : Refs} {a b : List (List UInt8)} (ha : IsNames f a) (hb : IsNames f b) : a = b := by
  refine List.Perm.eq_of_pairwise (le := fun x y => x ≤ y) (fun a b _ _ h1 h2 => List.le_antisymm h1 h2) (ha.1.imp (fun h => List.le_of_lt h)) (hb.1.imp (fun h => List.le_of_lt h)) ?_
  have n1 : a.Nodup := List.Pairwise.imp (R := fun x y => x < y) (fun {x y} h e => by subst e; exact List.lt_irrefl _ h) ha.1
  have n2 : b.Nodup := List.Pairwise.imp (R := fun x y => x < y) (fun {x y} h e => by subst e; exact List.lt_irrefl _ h) hb.1
  exact (List.perm_ext_iff_of_nodup n1 n2).2 (fun s => (ha.2 s).trans (hb.2 s).symm)
theorem logc_any (w : World) (p : Nat) (H : Nat → Prop) (bk : Book) (z : Nat) (ref : List UInt8) (hB : BookAt w p H bk z) (hz : z ≤ 1000000) :
    Calls Tryd.prog 12 #[.pointer (some ⟨p, 0, none⟩), S ref] w fun e w' => ∃ (A : Option Addr) (n c : Nat) (gs : List TxG), e = .returned (.slice A n c) ∧ Sl w' 4 A n (txs gs) ∧ n ≤ 1000000 ∧ gs.map TxG.txn = RefsLaw.log bk ref ∧ Below w.heap.size w w' := by
  obtain ⟨m, A, n, c, xs, cnt, hI⟩ := hB
  have hn := hI.len
  have hc := hI.cap
  refine (log_any w p H bk z ref ⟨m, A, n, c, xs, cnt, hI⟩ hz).mono ?_
  rintro e w' ⟨A', n', c', gs, rfl, hS, hg, hx, hb⟩
  have h1 := txs_count hS
  have h2 := congrArg List.length hg
  rw [List.length_map] at h2
  have h3 : (RefsLaw.log bk ref).length ≤ bk.txns.length := by
    unfold RefsLaw.log
    refine Nat.le_trans (List.length_filter_le _ _) ?_
    simp
  exact ⟨A', n', c', gs, rfl, hS, by omega, hg, hb⟩
set_option maxHeartbeats 8000000 in
set_option maxRecDepth 100000 in
theorem refsTrims_law (A : Option Addr) (n c : Nat) (l : List OpG) (keep : Int) (w : World) (hA : Sl w 8 A n (opsC l)) (hO : ∀ o ∈ l, o.ok w) (hk : -9223372036854775808 ≤ keep ∧ keep ≤ 9223372036854775807) (hM : MaxL w) :
    Calls Tryd.prog 3 #[.slice A n c, I keep] w fun e w' => e = .returned (.bool true) ∧ Below w.heap.size w w' := by
  have HA := Lib.hid hA
  have HO := Lib.hid hO
  have HM := Lib.hid hM
  have kN := neq_val
  have kG := guard_val
  clear hA hO hM
  go_enter Tryd.func3, Tryd.ntmps3
  go_wp2_with fail
  refine (awake11_any w HM.out).mono ?_
  rintro e w1 ⟨rfl, b1⟩
  go_wp2_with fail
  refine (made_any w1 A n c l (HA.out.below b1) (fun o ho => OpG.ok_step (HO.out o ho) b1) (HM.out.step b1)).mono ?_
  rintro e w2 ⟨p, q, bk, H, rfl, hB, b2⟩
  have B2 := Lib.hid (bstep b1 b2)
  have HB := Lib.hid hB
  clear b1 b2 hB
  go_wp2_with fail
  refine (bookCopy_any w2 p H bk 40 HB.out (by omega)).mono ?_
  rintro e w3 ⟨p', rfl, hB3, b3⟩
  have C4 := Lib.hid (bookTrim_any w3 p' _ bk 40 keep hB3 (by omega) hk)
  have b3h := Lib.hid b3
  clear hB3 b3
  go_wp2_with fail
  refine C4.out.mono ?_
  rintro e w4 ⟨rfl, hC4, hF4⟩
  have b4 : Below w2.heap.size w2 w4 := b3h.out.trans (hF4.below b3h.out.size (fun k h => h.1))
  have B4 := Lib.hid (bstep B2.out b4)
  have HC4 := Lib.hid hC4
  have HB4 := Lib.hid (HB.out.step b4)
  obtain ⟨tk, htk⟩ : ∃ tk, tk = RefsLaw.trim bk keep := ⟨_, rfl⟩
  have Hlog := Lib.hid (fun ref => log_trim bk keep ref)
  have Hcnt := Lib.hid (trim_count bk keep)
  have Hget := Lib.hid (fun ref => get_trim bk keep ref)
  have hfe : tk.f = bk.f := by rw [htk]; rfl
  have Hfe := Lib.hid hfe
  rw [← htk] at HC4 Hlog Hcnt Hget
  clear b4 hC4 hF4 C4 htk hfe
  go_wp2_with fail
  refine (names_any w4 p H bk 40 HB4.out (by omega)).mono ?_
  rintro e w5 ⟨A5, n5, c5, ns, rfl, hn5, hN5, hO5⟩
  have B5 := Lib.hid (bstep B4.out hO5.2)
  have HS5 := Lib.hid hO5.sl
  have HN5 := Lib.hid hN5
  have HC5 := Lib.hid (HC4.out.step hO5.2)
  have HB5 := Lib.hid (HB4.out.step hO5.2)
  clear hN5 hO5
  go_wp2_with fail
  refine (names_any w5 p' _ tk 40 HC5.out (by omega)).mono ?_
  rintro e w6 ⟨A6, n6, c6, ns', rfl, hn6, hN6, hO6⟩
  rw [Hfe.out] at hN6
  obtain rfl := names_one HN5.out hN6
  have B6 := Lib.hid (bstep B5.out hO6.2)
  have HS6 := Lib.hid (HS5.out.below hO6.2)
  have HT6 := Lib.hid hO6.sl
  have HC6 := Lib.hid (HC5.out.step hO6.2)
  have HB6 := Lib.hid (HB5.out.step hO6.2)
  have hl1 : ns.length = n5 := by simpa using HS5.out.len
  clear hN6 hO6
  go_wp2_with fail
  refine (sameTexts_any A5 A6 n5 n6 c5 c6 ns ns w6 HS6.out HT6.out (by omega)).mono ?_
  rintro e w7 ⟨he, mm, rfl⟩
  obtain rfl : e = .returned (.bool true) := by rw [he]; simp
  have HC7 := Lib.hid (HC6.out.step (below_drewN (Below.refl _ _) mm))
  have HB7 := Lib.hid (HB6.out.step (below_drewN (Below.refl _ _) mm))
  have HS7 := Lib.hid (HS6.out.below (below_drewN (Below.refl _ _) mm))
  have B7 := Lib.hid (below_drewN B6.out mm)
  obtain ⟨w7, hw7⟩ : ∃ w7, w7 = w6.drewN mm := ⟨_, rfl⟩
  rw [← hw7] at HC7 HB7 HS7 B7
  rw [← hw7]
  clear he hw7
  go_wp2_with fail
  refine (count_any w7 p' _ tk 40 HC7.out).mono ?_
  rintro e w' ⟨rfl, rfl⟩
  go_wp2_with fail
  refine (count_any w7 p H bk 40 HB7.out).mono ?_
  rintro e w' ⟨rfl, rfl⟩
  have hc0 := Hcnt.out
  have HM7 := Lib.hid (HM.out.step B7.out)
  go_wp2_with fail
  clear hc0
  go_loopw [4, 10, 11, 12, 13, 14, 15, 16, 17] (fun s4 s10 _ _ _ _ _ _ _ wr => ∃ k : Nat, s4 = .bool false ∧ s10 = .int .i64 k ∧ Hid (k ≤ n5) ∧ Hid (Below w7.heap.size w7 wr)) (fun _ s10 _ _ _ _ _ _ _ _ => n5 - (intOf s10).toNat)
  case atStart => exact ⟨0, rfl, rfl, Lib.hid (Nat.zero_le _), Lib.hid (Below.refl _ _)⟩
  case round =>
    obtain ⟨k, rfl, rfl, hkk, hb⟩ := hrel
    by_cases hlt : k < n5
    · obtain ⟨b, off, s, rfl, hs, x0⟩ := (HS7.out.below hb.out).str hlt
      have hgs : s.length ≤ maxLen := ((HN5.out.2 s).1 (List.mem_of_getElem? hs)).1
      have Hs := Lib.hid hs
      have G1 := get_any wr p H bk 40 s (HB7.out.step hb.out) hgs (HM7.out.step hb.out)
      have G2 := Lib.hid (fun W h => get_any W p' _ tk 40 s (HC7.out.step (w' := W) h) hgs (HM7.out.step h))
      rw [Hget.out] at G2
      rcases hget : RefsLaw.get bk s with ⟨⟨vid, vname⟩, ge⟩
      rw [hget] at G1 G2
      have G1h := Lib.hid G1
      clear G1 hget hs
      go_wp2_with fail
      refine G1h.out.mono ?_
      rintro e wa ⟨rfl, ba⟩
      have Ba := Lib.hid (bstep hb.out ba)
      clear ba x0
      obtain ⟨b', off', s', e1, hs', x0⟩ := (HS7.out.below (balloc Ba.out (.cells #[S vid, S vname] 35))).str hlt
      cases e1
      obtain rfl : s = s' := Option.some.inj (Hs.out.symm.trans hs')
      have V1 := Lib.hid (Blk.new wa 35 #[S vid, S vname])
      have Ba2 := Lib.hid (balloc Ba.out (.cells #[S vid, S vname] 35))
      go_wp2_with fail
      refine (G2.out _ Ba2.out).mono ?_
      rintro e wb ⟨rfl, bb⟩
      have Bb := Lib.hid (balloc (bstep Ba2.out bb) (.cells #[S vid, S vname] 35))
      have V1b := Lib.hid ((V1.out.step bb).alloc (.cells #[S vid, S vname] 35))
      have V2 := Lib.hid (Blk.new wb 35 #[S vid, S vname])
      clear bb x0 hs'
      obtain ⟨b', off', s', e1, hs', x0⟩ := (HS7.out.below Bb.out).str hlt
      cases e1
      obtain rfl : s = s' := Option.some.inj (Hs.out.symm.trans hs')
      have L1 := Lib.hid (logc_any _ p H bk 40 s (HB7.out.step Bb.out) (by omega))
      obtain ⟨g1, hg1⟩ : ∃ g1, g1 = wa.heap.size := ⟨_, rfl⟩
      obtain ⟨g2, hg2⟩ : ∃ g2, g2 = wb.heap.size := ⟨_, rfl⟩
      rw [← hg1] at V1b
      rw [← hg2] at V2
      go_wp2_with fail
      refine L1.out.mono ?_
      rintro e wc ⟨A1, m1, c1, gs, rfl, hS1, hm1, hgs1, bc⟩
      have Bc := Lib.hid (bstep Bb.out bc)
      have V1c := Lib.hid (V1b.out.step bc)
      have V2c := Lib.hid (V2.out.step bc)
      have S1 := Lib.hid hS1
      clear hS1 bc x0 hs'
      obtain ⟨b', off', s', e1, hs', x0⟩ := (HS7.out.below Bc.out).str hlt
      cases e1
      obtain rfl : s = s' := Option.some.inj (Hs.out.symm.trans hs')
      have L2 := Lib.hid (logc_any _ p' _ tk 40 s (HC7.out.step Bc.out) (by omega))
      go_wp2_with fail
      refine L2.out.mono ?_
      rintro e wd ⟨A2, m2, c2', ks, rfl, hS2, hm2, hks2, bd⟩
      have Bd := Lib.hid (bstep Bc.out bd)
      have v1 := (V1c.out.step bd).cell
      have v2 := (V2c.out.step bd).cell
      have S1d := Lib.hid (S1.out.below bd)
      have S2 := Lib.hid hS2
      have hlg := txs_count S1d.out
      have hlk := txs_count hS2
      have Hpre : Hid (∀ (j : Nat) (x y : TxG), ks[j]? = some x → gs[j]? = some y → x.txn = y.txn) := Lib.hid (fun j x y hx hy => by
        obtain ⟨t, ht⟩ := Hlog.out s
        rw [← hgs1, ← hks2] at ht
        have h1 : (gs.map TxG.txn)[j]? = some y.txn := by rw [List.getElem?_map, hy]; rfl
        have h2 : (ks.map TxG.txn)[j]? = some x.txn := by rw [List.getElem?_map, hx]; rfl
        rw [ht, List.getElem?_append_left (List.getElem?_eq_some_iff.1 h2).1, h2] at h1
        exact Option.some.inj h1)
      have hle : m2 ≤ m1 := by
        obtain ⟨t, ht⟩ := Hlog.out s
        have h1 := congrArg List.length ht
        rw [← hgs1, ← hks2, List.length_append, List.length_map, List.length_map] at h1
        omega
      have hq : eqV vid vname vid vname = true := eqV_iff.2 rfl
      simp only [← hg1, ← hg2]
      clear hS2 bd x0 hs' hg1 hg2 hgs1 hks2
      go_wp2
      clear v1 v2
      go_loopw [4, 17] (fun s4 s17 wr2 => ∃ j mm : Nat, s4 = .bool false ∧ s17 = .int .i64 j ∧ Hid (j ≤ m2) ∧ wr2 = wd.drewN mm) (fun _ s17 _ => m2 - (intOf s17).toNat)
      case atStart => exact ⟨0, 0, rfl, rfl, Lib.hid (Nat.zero_le _), rfl⟩
      case round =>
        obtain ⟨j, mm, rfl, rfl, hj, rfl⟩ := hrel
        by_cases hjl : j < m2
        · obtain ⟨bk', ok', x, rfl, _, hx, x0, x1, x2, x3⟩ := S2.out.txn hjl
          obtain ⟨bg', og', y, rfl, _, hy, y0, y1, y2, y3⟩ := S1d.out.txn (show j < m1 by omega)
          have hxy := Hpre.out j x y hx hy
          have hst : y.stamp = x.stamp := (congrArg (fun t : Txn => t.stamp) hxy).symm
          have htx : y.text = x.text := (congrArg (fun t : Txn => t.text) hxy).symm
          rw [htx] at y1
          rw [hst] at y2
          clear hx hy hxy hst htx x0 x3 y0 y3
          go_wp2
          go_quiet (fail)
          go_wp2
          go_roundw
          case rel => exact ⟨j + 1, _, rfl, by go_num, Lib.hid hjl, rfl⟩
          case measure => simp [intOf]; omega
        · obtain rfl : j = m2 := by have := hj.out; omega
          clear hjl
          go_wp2
          go_roundw
          case rel => exact ⟨k + 1, rfl, by go_num, Lib.hid hlt, Lib.hid (below_drewN Bd.out _)⟩
          case measure => simp [intOf]; omega
    · obtain rfl : k = n5 := by have := hkk.out; omega
      go_wp2
      go_ret
      exact ⟨rfl, bstep B7.out hb.out⟩
end Go.Proofs.YtegehaokfcamfaaDoor
