/-
  dolmenlaw11.RefsAll returns true, and nothing that lay before has turned. Conditions: the script reads as a list of operations, the transaction's changes as a list.
-/
import Derived.Test.YtegehaokfcamfaaGreatDoorRefsEnc
import Derived.Test.YtegehaokfcamfaaGreatDoorMade
import Derived.Test.YtegehaokfcamfaaGreatDoorAwake11
import Derived.BigQuiet
namespace Go.Proofs.YtegehaokfcamfaaGreatDoor
open Go.RowKit
open RefsLaw (Val Chg Txn rightT Book named Inv Refs zv putAll fits)

theorem names_one {f : Refs} {a b : List (List UInt8)} (ha : IsNames f a) (hb : IsNames f b) : a = b := by
  refine List.Perm.eq_of_pairwise (le := fun x y => x ≤ y) (fun a b _ _ h1 h2 => List.le_antisymm h1 h2) (ha.1.imp (fun h => List.le_of_lt h)) (hb.1.imp (fun h => List.le_of_lt h)) ?_
  have n1 : a.Nodup := List.Pairwise.imp (R := fun x y => x < y) (fun {x y} h e => by subst e; exact List.lt_irrefl _ h) ha.1
  have n2 : b.Nodup := List.Pairwise.imp (R := fun x y => x < y) (fun {x y} h e => by subst e; exact List.lt_irrefl _ h) hb.1
  exact (List.perm_ext_iff_of_nodup n1 n2).2 (fun s => (ha.2 s).trans (hb.2 s).symm)
/-- Apply, whatever the transaction -/
theorem apply_any (w : World) (p : Nat) (H : Nat → Prop) (bk : Book) (z : Nat) (t : TxG) (G : Nat → Prop) (hB : BookAt w p H bk z) (hz : z ≤ 1000000) (ht : SlT G 58 w 5 t.A t.n (chs t.chs)) (hn : t.n ≤ 1759218604390) (hs : ∀ c ∈ t.chs, c.ref.length ≤ maxLen) (hM : MaxL w) (hH : ¬ H 0) :
    Calls Tryz.prog 9 #[.pointer (some ⟨p, 0, none⟩), txV t.who t.text t.stamp t.A t.n t.c] w fun e w' => e = .returned (I ((RefsLaw.apply bk t.txn).1 : Nat)) ∧ BookAt w' p (ext H w w') (RefsLaw.apply bk t.txn).2 (z + 1) ∧ Fr H w w' := by
  by_cases hr : rightT t.txn = true
  · exact apply_ok w p H bk z t G hB hz ht hn hs hM hH hr
  · refine (apply_bad w p t G ht hn hs hM (by simpa using hr)).mono ?_
    rintro e w' ⟨rfl, hb⟩
    have e1 : RefsLaw.apply bk t.txn = (1, bk) := by unfold RefsLaw.apply; rw [if_neg hr]
    rw [e1]
    exact ⟨rfl, (hB.step hb).weak (fun k _ h => .inl h) (Nat.le_succ _), Fr.of_below hb⟩
/-- refused: nothing is turned -/
theorem apply_no {bk : Book} {t : Txn} (h : (RefsLaw.apply bk t).1 ≠ 0) : (RefsLaw.apply bk t).2 = bk := by
  unfold RefsLaw.apply at h ⊢
  by_cases h1 : rightT t = true
  · rw [if_pos h1] at h ⊢
    by_cases h2 : fits bk.f t.chs = true
    · rw [if_pos h2] at h; exact absurd rfl h
    · rw [if_neg h2]
  · rw [if_neg h1]
theorem apply_yes {bk : Book} {t : Txn} (h : (RefsLaw.apply bk t).1 = 0) : rightT t = true ∧ (RefsLaw.apply bk t).2 = ⟨putAll bk.f t.chs, bk.txns ++ [t]⟩ := by
  unfold RefsLaw.apply at h ⊢
  by_cases h1 : rightT t = true
  · rw [if_pos h1] at h ⊢
    by_cases h2 : fits bk.f t.chs = true
    · rw [if_pos h2]; exact ⟨h1, rfl⟩
    · rw [if_neg h2] at h; cases h
  · rw [if_neg h1] at h; cases h
/-- taken: each of its refs has its new value -/
theorem all_put {bk : Book} {t : Txn} (h : (RefsLaw.apply bk t).1 = 0) {c : Chg} (hc : c ∈ t.chs) : (RefsLaw.get (RefsLaw.apply bk t).2 c.ref).1 = c.new := by
  obtain ⟨hr, e⟩ := apply_yes h
  rw [e]
  have hok := RefsLaw.rightT_chs hr
  have hg := (RefsLaw.okChs_good hok c hc).1
  simp only [RefsLaw.goodC, Bool.and_eq_true] at hg
  unfold RefsLaw.get
  rw [if_pos hg.1.1.1]
  show putAll bk.f t.chs c.ref = c.new
  have hm : c ∈ t.chs.filter (fun x => decide (x.ref = c.ref)) := List.mem_filter.2 ⟨hc, by simp⟩
  rcases RefsLaw.okChs_one (r := c.ref) hok bk.f with ⟨a, _⟩ | ⟨x, _, a, _, d⟩
  · rw [a] at hm; cases hm
  · rw [a, List.mem_singleton] at hm
    rw [d, hm]
/-- .. and no other one turns -/
theorem all_miss {bk : Book} {t : Txn} (h : (RefsLaw.apply bk t).1 = 0) {s : List UInt8} (hc : (t.chs.any fun c => decide (c.ref = s)) = false) : (RefsLaw.get (RefsLaw.apply bk t).2 s).1 = (RefsLaw.get bk s).1 := by
  obtain ⟨_, e⟩ := apply_yes h
  rw [e]
  have hm : putAll bk.f t.chs s = bk.f s := RefsLaw.putAll_miss (fun c hcm e => by
    rw [List.any_eq_false] at hc
    exact hc c hcm (by simpa using e))
  unfold RefsLaw.get
  split
  · exact hm
  · rfl
theorem all_count {bk : Book} {t : Txn} (h : (RefsLaw.apply bk t).1 = 0) : (RefsLaw.apply bk t).2.txns.length = bk.txns.length + 1 := by
  obtain ⟨_, e⟩ := apply_yes h
  rw [e]
  simp
theorem any_step {l : List Chg} {j : Nat} {x : Chg} {s : List UInt8} (h : l[j]? = some x) : ((l.take (j + 1)).any fun c => decide (c.ref = s)) = (((l.take j).any fun c => decide (c.ref = s)) || decide (x.ref = s)) := by
  rw [List.take_add_one, h]
  simp
set_option maxHeartbeats 8000000 in
set_option maxRecDepth 100000 in
theorem refsAll_false (A : Option Addr) (n c : Nat) (L : List OpG) (t : TxG) (w : World) (hA : Sl w 8 A n (opsC L)) (hO : ∀ o ∈ L, o.ok w) (hT : Sl w 5 t.A t.n (chs t.chs)) (hn : t.n ≤ 1759218604390) (hs : ∀ c ∈ t.chs, c.ref.length ≤ maxLen) (hM : MaxL w) :
    Calls Tryz.prog 3 #[.slice A n c, txV t.who t.text t.stamp t.A t.n t.c, .bool false] w fun e w' => e = .returned (.bool true) ∧ Below w.heap.size w w' := by
  obtain ⟨who, text, stamp, Ax, nx, cx, l⟩ := t
  have HA := Lib.hid hA
  have HO := Lib.hid hO
  have HM := Lib.hid hM
  have HT := Lib.hid hT
  have hn : nx ≤ 1759218604390 := hn
  have Hs : Hid (∀ c ∈ l, c.ref.length ≤ maxLen) := Lib.hid hs
  have kN := neq_val
  have kG := guard_val
  have hMl := hM.lt
  have b0 := balloc (Below.refl _ w) (.cells #[S who, S text, I stamp, .slice Ax nx cx] 25)
  have HR := Lib.hid (Blk.new w 25 #[S who, S text, I stamp, .slice Ax nx cx])
  have B0 := Lib.hid b0
  clear hA hO hM hT hs b0
  go_enter Tryz.func3, Tryz.ntmps3
  go_wp2_with fail
  refine (awake11_any _ (HM.out.step B0.out)).mono ?_
  rintro e w1 ⟨rfl, b1⟩
  have hz1 : w.heap.size < w1.heap.size := by have := b1.size; rw [World.size_alloc] at this; omega
  have B1 := Lib.hid (bstep B0.out b1)
  have HR1 := Lib.hid (HR.out.step b1)
  clear b1
  go_wp2_with fail
  refine (made2_any w1 A n c L (HA.out.below B1.out) (fun o ho => OpG.ok_step (HO.out o ho) B1.out) (HM.out.step B1.out)).mono ?_
  rintro e w2 ⟨p, q, rfl, ⟨bk, H, G, hI⟩, b2⟩
  have hz2 := b2.size
  have B2 := Lib.hid (bstep B1.out b2)
  have HI := Lib.hid hI
  have HR2 := Lib.hid (HR1.out.step b2)
  have r2 := HR2.out.cell
  have HX2 : Hid (SlF (fun k => w1.heap.size ≤ k ∧ k < w2.heap.size) w2 5 Ax nx (chs l)) := Lib.hid ⟨HT.out.below B2.out, fun b off h0 e hb => by have := HT.out.lt_ b off h0 e; omega⟩
  clear hI b2
  go_wp2_with fail
  clear r2
  obtain ⟨A', hA'⟩ : ∃ A', A' = Ax := ⟨_, rfl⟩
  obtain ⟨c', hc'⟩ : ∃ c', c' = cx := ⟨_, rfl⟩
  obtain ⟨W, hW⟩ : ∃ W, W = w2 := ⟨_, rfl⟩
  have HRW : Hid (Blk W w.heap.size 25 #[S who, S text, I stamp, .slice A' nx c']) := by rw [hW, hA', hc']; exact HR2
  have HBW : Hid (BookAt W p H bk 40) := by rw [hW]; exact Lib.hid HI.out.b
  have HH := Lib.hid HI.out.hH
  have HX : Hid (SlF (fun k => w1.heap.size ≤ k ∧ k < w2.heap.size) W 5 A' nx (chs l)) := by rw [hW, hA']; exact HX2
  have BW : Hid (Below w.heap.size w W) := by rw [hW]; exact B2
  have hzW : w2.heap.size ≤ W.heap.size := by rw [hW]; exact Nat.le_refl _
  rw [← hW]
  clear hW hA' hc' HR2 HI HX2 HR1 HR
  have hhM : ¬ H 0 := fun h => by have := (HH.out _ h).1; omega
  refine (bookCopy_any W p H bk 40 HBW.out (by omega)).mono ?_
  rintro e w4 ⟨p', rfl, hB4, b4⟩
  have HB4 := Lib.hid hB4
  have HR4 := Lib.hid (HRW.out.step b4)
  have r4 := HR4.out.cell
  have HX4 := Lib.hid (HX.out.step b4)
  have BW4 := Lib.hid (bstep BW.out b4)
  have HC4 := Lib.hid (HBW.out.step b4)
  have hz4 := b4.size
  clear hB4 b4
  go_wp2_with fail
  refine (mine_any w4 ⟨who, text, stamp, A', nx, c', l⟩ HX4.out.1 hn).mono ?_
  rintro e w5 ⟨A5, c5, rfl, hO5⟩
  have HO5 := Lib.hid hO5.slT
  have b5 := hO5.2
  have HB5 := Lib.hid (HB4.out.step b5)
  have HR5 := Lib.hid (HR4.out.step b5)
  have HX5 := Lib.hid (HX4.out.step b5)
  have BW5 := Lib.hid (bstep BW4.out b5)
  have HC5 := Lib.hid (HC4.out.step b5)
  clear hO5 b5 r4
  go_wp2_with fail
  refine (apply_any w5 p H bk 40 ⟨who, text, stamp, A5, nx, c5, l⟩ _ HC5.out (by omega) HO5.out hn Hs.out (HM.out.step BW5.out) hhM).mono ?_
  rintro e w6 ⟨rfl, hC6, hF6⟩
  have hF6' := hF6.weak HH.out
  have BW6 := Lib.hid (BW5.out.trans (hF6'.below BW5.out.size (fun k h => by omega)))
  have HB6 := Lib.hid (HB5.out.fr hF6' (fun k h1 h2 => by omega))
  have HR6 := Lib.hid (hF6'.blk HR5.out (by omega))
  have HX6 := Lib.hid (HX5.out.fr hF6')
  have HM6 := Lib.hid (HM.out.step BW6.out)
  have e1 : TxG.txn ⟨who, text, stamp, A5, nx, c5, l⟩ = ⟨who, text, stamp, l⟩ := rfl
  rw [e1] at hC6 ⊢
  have Hno := Lib.hid (apply_no (bk := bk) (t := ⟨who, text, stamp, l⟩))
  have Hput := Lib.hid (fun h c hc => all_put (bk := bk) (t := ⟨who, text, stamp, l⟩) h (c := c) hc)
  have Hmiss := Lib.hid (fun h s hs => all_miss (bk := bk) (t := ⟨who, text, stamp, l⟩) h (s := s) hs)
  have Hcnt := Lib.hid (all_count (bk := bk) (t := ⟨who, text, stamp, l⟩))
  rcases hap : RefsLaw.apply bk ⟨who, text, stamp, l⟩ with ⟨k, bk'⟩
  rw [hap] at hC6 Hno Hput Hmiss Hcnt
  simp only at hC6 Hno Hput Hmiss Hcnt ⊢
  have HC6 := Lib.hid hC6
  clear hC6 hF6 hF6' e1 hap HB4 HB5 HR4 HR5 HX4 HX5 BW4 BW5 HC4 HC5 HO5 HX HRW HBW BW B2 B1 B0
  rcases Nat.eq_zero_or_pos k with h0 | h0
  · subst h0
    have e0 : ((0 : Nat) : Int) = 0 := rfl
    rw [e0]
    clear e0
    have hput := Hput.out rfl
    have hmiss := Hmiss.out rfl
    have hcnt := Hcnt.out rfl
    have HP := Lib.hid hput
    have HQ := Lib.hid hmiss
    clear hput hmiss Hput Hmiss Hcnt Hno
    go_wp2
    go_loopw [6, 12, 13, 14] (fun s6 s12 _ _ wr => ∃ k : Nat, s6 = .bool false ∧ s12 = .int .i64 k ∧ Hid (k ≤ nx) ∧ Hid (Below w6.heap.size w6 wr)) (fun _ s12 _ _ _ => nx - (intOf s12).toNat)
    case atStart => exact ⟨0, rfl, rfl, Lib.hid (Nat.zero_le _), Lib.hid (Below.refl _ _)⟩
    case round =>
      obtain ⟨k, rfl, rfl, hk, hb⟩ := hrel
      have rr := (HR6.out.step hb.out).cell
      by_cases hlt : k < nx
      · obtain ⟨b, off, x, rfl, _, hx, x0, x1, x2, x3, x4⟩ := (HX6.out.step hb.out).1.chg hlt
        have HXx := Lib.hid hx
        have G1 := get_any wr p _ bk' 41 x.ref (HC6.out.step hb.out) (Hs.out x (List.mem_of_getElem? hx)) (HM6.out.step hb.out)
        rw [HP.out x (List.mem_of_getElem? hx)] at G1
        generalize (RefsLaw.get bk' x.ref).2 = ge at G1
        have G1h := Lib.hid G1
        clear G1 hx
        go_wp2_with fail
        refine G1h.out.mono ?_
        rintro e wa ⟨rfl, ba⟩
        have Ba := Lib.hid (balloc (bstep hb.out ba) (.cells #[S x.new.id, S x.new.name] 43))
        have V1 := (Blk.new wa 43 #[S x.new.id, S x.new.name]).cell
        clear ba x0 x1 x2 x3 x4 rr
        have rr := (HR6.out.step Ba.out).cell
        obtain ⟨b', off', x', e1, _, hx', x0, x1, x2, x3, x4⟩ := (HX6.out.step Ba.out).1.chg hlt
        cases e1
        obtain rfl : x = x' := Option.some.inj (HXx.out.symm.trans hx')
        clear hx'
        go_wp2
        go_quiet (fail)
        go_wp2
        go_roundw
        case rel => exact ⟨k + 1, rfl, by go_num, Lib.hid hlt, Lib.hid (below_drewN Ba.out _)⟩
        case measure => simp [intOf]; omega
      · obtain rfl : k = nx := by have := hk.out; omega
        clear hlt
        have HB7 := Lib.hid (HB6.out.step hb.out)
        go_wp2_with fail
        refine (names_any wr p' _ bk 40 HB7.out (by omega)).mono ?_
        rintro e w8 ⟨A8, n8, c8, ns, rfl, hn8, hN8, hO8⟩
        have B8 := Lib.hid (bstep hb.out hO8.2)
        have HS8 := Lib.hid hO8.sl
        have HN8 := Lib.hid hN8
        clear hN8 hO8 rr
        have HB8 := Lib.hid (HB6.out.step B8.out)
        have HC8 := Lib.hid (HC6.out.step B8.out)
        have HR8 := Lib.hid (HR6.out.step B8.out)
        have HX8 := Lib.hid (HX6.out.step B8.out)
        have HM8 := Lib.hid (HM6.out.step B8.out)
        go_wp2
        go_loopw [6, 16, 17, 18, 19, 20, 21, 22] (fun s6 s16 _ _ _ _ _ _ wr => ∃ i : Nat, s6 = .bool false ∧ s16 = .int .i64 i ∧ Hid (i ≤ n8) ∧ Hid (Below w8.heap.size w8 wr)) (fun _ s16 _ _ _ _ _ _ _ => n8 - (intOf s16).toNat)
        case atStart => exact ⟨0, rfl, rfl, Lib.hid (Nat.zero_le _), Lib.hid (Below.refl _ _)⟩
        case round =>
          clear hb
          obtain ⟨i, rfl, rfl, hi, hb⟩ := hrel
          by_cases hli : i < n8
          · obtain ⟨b, off, s, rfl, hs, x0⟩ := (HS8.out.below hb.out).str hli
            have hgs : s.length ≤ maxLen := ((HN8.out.2 s).1 (List.mem_of_getElem? hs)).1
            have HSs := Lib.hid hs
            have G1 := Lib.hid (fun W h => get_any W p' _ bk 40 s (HB8.out.step (w' := W) h) hgs (HM8.out.step h))
            have G2 := Lib.hid (fun W h => get_any W p _ bk' 41 s (HC8.out.step (w' := W) h) hgs (HM8.out.step h))
            have HQs := Lib.hid (HQ.out s)
            rcases hg1 : RefsLaw.get bk s with ⟨⟨vid, vname⟩, ge⟩
            rcases hg2 : RefsLaw.get bk' s with ⟨⟨uid, uname⟩, gu⟩
            rw [hg1] at G1 HQs
            rw [hg2] at G2 HQs
            have rr := (HR8.out.step hb.out).cell
            clear hs hg1 hg2 x0
            go_wp2
            clear rr
            go_loopw [17, 18] (fun s17 s18 wr2 => ∃ j mm : Nat, s17 = .bool ((l.take j).any fun c => decide (c.ref = s)) ∧ s18 = .int .i64 j ∧ Hid (j ≤ k) ∧ wr2 = wr.drewN mm) (fun _ s18 _ => k - (intOf s18).toNat)
            case atStart => exact ⟨0, 0, rfl, rfl, Lib.hid (Nat.zero_le _), rfl⟩
            case round =>
              obtain ⟨j, mm, rfl, rfl, hj, rfl⟩ := hrel
              have Bd := Lib.hid (below_drewN hb.out mm)
              have rr := (HR8.out.step hb.out).cell
              by_cases hjl : j < k
              · obtain ⟨b', off', x, rfl, _, hx, y0, y1, y2, y3, y4⟩ := (HX8.out.step hb.out).1.chg hjl
                obtain ⟨b2, off2, s2, e2, hs2, x0⟩ := (HS8.out.below hb.out).str hli
                cases e2
                obtain rfl : s = s2 := Option.some.inj (HSs.out.symm.trans hs2)
                have HNX := Lib.hid (any_step (s := s) hx)
                generalize (l.take j).any (fun c => decide (c.ref = s)) = ob at *
                clear hx hs2 y1 y2 y3 y4
                cases ob
                · go_wp2
                  go_quiet (fail)
                  go_wp2
                  go_roundw
                  case rel => exact ⟨j + 1, _, by rw [HNX.out]; first | rfl | (by_cases hxs : x.ref = s <;> simp [hxs]; done), by go_num, Lib.hid hjl, rfl⟩
                  case measure => simp [intOf]; omega
                · go_wp2
                  go_quiet (fail)
                  go_wp2
                  go_roundw
                  case rel => exact ⟨j + 1, _, by rw [HNX.out]; rfl, by go_num, Lib.hid hjl, rfl⟩
                  case measure => simp [intOf]; omega
              · obtain rfl : j = k := by have := hj.out; omega
                have hlen : l.length = j := chs_count HX8.out.1
                have htk : l.take j = l := List.take_of_length_le (by omega)
                simp only [htk]
                clear htk
                obtain ⟨b2, off2, s2, e2, hs2, x0⟩ := (HS8.out.below hb.out).str hli
                cases e2
                obtain rfl : s = s2 := Option.some.inj (HSs.out.symm.trans hs2)
                clear hs2
                go_wp2_with fail
                refine (G1.out _ Bd.out).mono ?_
                rintro e wa ⟨rfl, ba⟩
                have Ba := Lib.hid (balloc (bstep Bd.out ba) (.cells #[S vid, S vname] 43))
                have V1 := Lib.hid (Blk.new wa 43 #[S vid, S vname])
                clear ba x0 rr
                obtain ⟨b2, off2, s2, e2, hs2, x0⟩ := (HS8.out.below Ba.out).str hli
                cases e2
                obtain rfl : s = s2 := Option.some.inj (HSs.out.symm.trans hs2)
                clear hs2
                go_wp2_with fail
                refine (G2.out _ Ba.out).mono ?_
                rintro e wb ⟨rfl, bb⟩
                have Bb := Lib.hid (balloc (bstep Ba.out bb) (.cells #[S uid, S uname] 43))
                have v1 := ((V1.out.step bb).alloc (.cells #[S uid, S uname] 43)).cell
                have v2 := (Blk.new wb 43 #[S uid, S uname]).cell
                clear bb x0
                have hlc := HQs.out
                generalize (l.any fun c => decide (c.ref = s)) = ob at *
                cases ob
                · have h1 := hlc rfl
                  simp only [Val.mk.injEq] at h1
                  obtain ⟨rfl, rfl⟩ := h1
                  have hq : eqV uid uname uid uname = true := eqV_iff.2 rfl
                  clear hlc
                  go_wp2
                  go_roundw
                  case rel => exact ⟨i + 1, rfl, by go_num, Lib.hid hli, Bb⟩
                  case measure => simp [intOf]; omega
                · clear hlc
                  go_wp2
                  go_roundw
                  case rel => exact ⟨i + 1, rfl, by go_num, Lib.hid hli, Bb⟩
                  case measure => simp [intOf]; omega
          · obtain rfl : i = n8 := by have := hi.out; omega
            have C1 := Lib.hid (count_any wr p _ bk' 41 (HC8.out.step hb.out))
            have C2 := Lib.hid (count_any wr p' _ bk 40 (HB8.out.step hb.out))
            rw [hcnt] at C1
            have hlb : bk.txns.length < 9000000000000000000 := by
              obtain ⟨m, Aq, nq, cq, xq, cn, hI⟩ := HB8.out
              have h1 := hI.len
              have h2 := hI.cap.2
              omega
            go_wp2_with (first
              | (go_at_call 15; refine C1.out.mono ?_; rintro e w' ⟨rfl, rfl⟩; clear C1)
              | (go_at_call 15; refine C2.out.mono ?_; rintro e w' ⟨rfl, rfl⟩))
            go_ret
            exact ⟨rfl, bstep BW6.out (bstep B8.out hb.out)⟩
  · have hk : ((k : Int) != 0) = true := by simp; omega
    obtain rfl : bk' = bk := Hno.out (by omega)
    have C1 := Lib.hid (encode_any w6 p _ bk' 41 HC6.out (by omega))
    go_wp2_with fail
    refine C1.out.mono ?_
    rintro e w7 ⟨ns, hN7, hl7, A7, n7, c7, rfl, hS7, hc7, b7⟩
    have HS7 := Lib.hid hS7
    have HN7 := Lib.hid hN7
    have HB7 := Lib.hid (HB6.out.step b7)
    have B7 := Lib.hid b7
    clear hN7 hl7 hS7 hc7 b7
    go_wp2_with fail
    refine (encode_any w7 p' _ bk' 40 HB7.out (by omega)).mono ?_
    rintro e w8 ⟨ns', hN8, hl8, A8, n8, c8, rfl, hS8, hc8, b8⟩
    obtain rfl := names_one HN7.out hN8
    have HS8 := Lib.hid hS8
    have HS9 := Lib.hid (HS7.out.below b8)
    have B8 := Lib.hid (bstep B7.out b8)
    clear hN8 hl8 hS8 hc8 b8
    go_wp2_with fail
    refine (sameB_any A7 A8 n7 n8 c7 c8 _ _ w8 HS9.out HS8.out).mono ?_
    rintro e w9 ⟨he, mm, rfl⟩
    obtain rfl : e = .returned (.bool true) := by rw [he]; simp
    go_wp2
    go_ret
    first | exact ⟨rfl, bstep BW6.out B8.out⟩ | exact ⟨rfl, below_drewN (bstep BW6.out B8.out) _⟩
set_option maxHeartbeats 8000000 in
set_option maxRecDepth 100000 in
theorem refsAll_true (A : Option Addr) (n c : Nat) (L : List OpG) (t : TxG) (w : World) (hA : Sl w 8 A n (opsC L)) (hO : ∀ o ∈ L, o.ok w) (hT : Sl w 5 t.A t.n (chs t.chs)) (hn : t.n ≤ 1759218604390) (hs : ∀ c ∈ t.chs, c.ref.length ≤ maxLen) (hM : MaxL w) :
    Calls Tryz.prog 3 #[.slice A n c, txV t.who t.text t.stamp t.A t.n t.c, .bool true] w fun e w' => e = .returned (.bool true) ∧ Below w.heap.size w w' := by
  obtain ⟨who, text, stamp, Ax, nx, cx, l⟩ := t
  have HA := Lib.hid hA
  have HO := Lib.hid hO
  have HM := Lib.hid hM
  have HT := Lib.hid hT
  have hn : nx ≤ 1759218604390 := hn
  have Hs : Hid (∀ c ∈ l, c.ref.length ≤ maxLen) := Lib.hid hs
  have kN := neq_val
  have kG := guard_val
  have hMl := hM.lt
  have b0 := balloc (Below.refl _ w) (.cells #[S who, S text, I stamp, .slice Ax nx cx] 25)
  have HR := Lib.hid (Blk.new w 25 #[S who, S text, I stamp, .slice Ax nx cx])
  have B0 := Lib.hid b0
  clear hA hO hM hT hs b0
  go_enter Tryz.func3, Tryz.ntmps3
  go_wp2_with fail
  refine (awake11_any _ (HM.out.step B0.out)).mono ?_
  rintro e w1 ⟨rfl, b1⟩
  have hz1 : w.heap.size < w1.heap.size := by have := b1.size; rw [World.size_alloc] at this; omega
  have B1 := Lib.hid (bstep B0.out b1)
  have HR1 := Lib.hid (HR.out.step b1)
  clear b1
  go_wp2_with fail
  refine (made2_any w1 A n c L (HA.out.below B1.out) (fun o ho => OpG.ok_step (HO.out o ho) B1.out) (HM.out.step B1.out)).mono ?_
  rintro e w2 ⟨p, q, rfl, ⟨bk, H, G, hI⟩, b2⟩
  have hz2 := b2.size
  have B2 := Lib.hid (bstep B1.out b2)
  have HI := Lib.hid hI
  have HR2 := Lib.hid (HR1.out.step b2)
  have r2 := HR2.out.cell
  have HX2 : Hid (SlF (fun k => w1.heap.size ≤ k ∧ k < w2.heap.size) w2 5 Ax nx (chs l)) := Lib.hid ⟨HT.out.below B2.out, fun b off h0 e hb => by have := HT.out.lt_ b off h0 e; omega⟩
  clear hI b2
  go_wp2_with fail
  refine (fitted_any w2 q G (40 * 4096) 40 ⟨who, text, stamp, Ax, nx, cx, l⟩ HI.out.r (by omega) HX2.out.1 hn).mono ?_
  rintro e w3 ⟨A', c', l', rfl, hO3, hl3⟩
  have HR3 := Lib.hid (HR2.out.step hO3.2)
  have r3 := HR3.out.cell
  have f3 := HR3.out.frozen
  clear r2
  go_wp2_with fail
  clear r3 f3
  obtain ⟨W, hW⟩ : ∃ W, W = (((w3.setCell ⟨w.heap.size, 0, none⟩ (S who)).setCell ⟨w.heap.size, 1, none⟩ (S text)).setCell ⟨w.heap.size, 2, none⟩ (I stamp)).setCell ⟨w.heap.size, 3, none⟩ (.slice A' nx c') := ⟨_, rfl⟩
  have b3 : Below w.heap.size w w3 := bstep B2.out hO3.2
  have BW : Hid (Below w.heap.size w W) := Lib.hid (hW ▸ (((b3.setCell (p := ⟨w.heap.size, 0, none⟩) (Nat.le_refl _) _).setCell (p := ⟨w.heap.size, 1, none⟩) (Nat.le_refl _) _).setCell (p := ⟨w.heap.size, 2, none⟩) (Nat.le_refl _) _).setCell (p := ⟨w.heap.size, 3, none⟩) (Nat.le_refl _) _)
  have HRW : Hid (Blk W w.heap.size 25 #[S who, S text, I stamp, .slice A' nx c']) := Lib.hid (hW ▸ (((HR3.out.set_ 0 (S who)).set_ 1 (S text)).set_ 2 (I stamp)).set_ 3 (.slice A' nx c'))
  have hF3 : Fr (fun k => k = w.heap.size) w3 W := hW ▸ ((((Fr.refl (fun k => k = w.heap.size) w3).setCell (p := ⟨w.heap.size, 0, none⟩) rfl _).setCell (p := ⟨w.heap.size, 1, none⟩) rfl _).setCell (p := ⟨w.heap.size, 2, none⟩) rfl _).setCell (p := ⟨w.heap.size, 3, none⟩) rfl _
  have hX3 := hO3.slT.keep (KeepT.of_fr hF3 (fun k cs fr e => by subst e; exact HR3.out.type (by decide) cs fr))
  have HBW : Hid (BookAt W p H bk 40) := Lib.hid ((HI.out.b.step hO3.2).fr hF3 (fun k hk e => by have := (HI.out.hH k hk).1; omega))
  have HH := Lib.hid HI.out.hH
  have hzW : w2.heap.size ≤ W.heap.size := by have h1 := hF3.size; have h2 := hO3.2.size; omega
  have HX : Hid (SlF (fun k => w1.heap.size ≤ k ∧ k < w2.heap.size) W 5 A' nx (chs l')) := Lib.hid ⟨hX3.1, fun b off h0 e hb => by
    obtain ⟨b', off', cs, fr, e', hH, _⟩ := hX3.2 h0
    rw [e] at e'
    cases e'
    have h1 : w2.heap.size ≤ b := hH.1
    have h2 : b < w2.heap.size := hb.2
    omega⟩
  have hs' : ∀ x ∈ l', x.ref.length ≤ maxLen := by
    intro x hx
    have h1 : x.ref ∈ l'.map (·.ref) := List.mem_map.2 ⟨x, hx, rfl⟩
    rw [hl3] at h1
    obtain ⟨x', h2, h3⟩ := List.mem_map.1 h1
    rw [← h3]
    exact Hs.out x' h2
  rw [← hW]
  clear hW HR3 HI HX2 HR1 HR HR2 hO3 hl3 b3 hF3 hX3 Hs
  have Hs := Lib.hid hs'
  clear hs' HT
  obtain ⟨l, hll⟩ : ∃ l, l = l' := ⟨_, rfl⟩
  rw [← hll] at HX Hs
  clear hll
  have hhM : ¬ H 0 := fun h => by have := (HH.out _ h).1; omega
  refine (bookCopy_any W p H bk 40 HBW.out (by omega)).mono ?_
  rintro e w4 ⟨p', rfl, hB4, b4⟩
  have HB4 := Lib.hid hB4
  have HR4 := Lib.hid (HRW.out.step b4)
  have r4 := HR4.out.cell
  have HX4 := Lib.hid (HX.out.step b4)
  have BW4 := Lib.hid (bstep BW.out b4)
  have HC4 := Lib.hid (HBW.out.step b4)
  have hz4 := b4.size
  clear hB4 b4
  go_wp2_with fail
  refine (mine_any w4 ⟨who, text, stamp, A', nx, c', l⟩ HX4.out.1 hn).mono ?_
  rintro e w5 ⟨A5, c5, rfl, hO5⟩
  have HO5 := Lib.hid hO5.slT
  have b5 := hO5.2
  have HB5 := Lib.hid (HB4.out.step b5)
  have HR5 := Lib.hid (HR4.out.step b5)
  have HX5 := Lib.hid (HX4.out.step b5)
  have BW5 := Lib.hid (bstep BW4.out b5)
  have HC5 := Lib.hid (HC4.out.step b5)
  clear hO5 b5 r4
  go_wp2_with fail
  refine (apply_any w5 p H bk 40 ⟨who, text, stamp, A5, nx, c5, l⟩ _ HC5.out (by omega) HO5.out hn Hs.out (HM.out.step BW5.out) hhM).mono ?_
  rintro e w6 ⟨rfl, hC6, hF6⟩
  have hF6' := hF6.weak HH.out
  have BW6 := Lib.hid (BW5.out.trans (hF6'.below BW5.out.size (fun k h => by omega)))
  have HB6 := Lib.hid (HB5.out.fr hF6' (fun k h1 h2 => by omega))
  have HR6 := Lib.hid (hF6'.blk HR5.out (by omega))
  have HX6 := Lib.hid (HX5.out.fr hF6')
  have HM6 := Lib.hid (HM.out.step BW6.out)
  have e1 : TxG.txn ⟨who, text, stamp, A5, nx, c5, l⟩ = ⟨who, text, stamp, l⟩ := rfl
  rw [e1] at hC6 ⊢
  have Hno := Lib.hid (apply_no (bk := bk) (t := ⟨who, text, stamp, l⟩))
  have Hput := Lib.hid (fun h c hc => all_put (bk := bk) (t := ⟨who, text, stamp, l⟩) h (c := c) hc)
  have Hmiss := Lib.hid (fun h s hs => all_miss (bk := bk) (t := ⟨who, text, stamp, l⟩) h (s := s) hs)
  have Hcnt := Lib.hid (all_count (bk := bk) (t := ⟨who, text, stamp, l⟩))
  rcases hap : RefsLaw.apply bk ⟨who, text, stamp, l⟩ with ⟨k, bk'⟩
  rw [hap] at hC6 Hno Hput Hmiss Hcnt
  simp only at hC6 Hno Hput Hmiss Hcnt ⊢
  have HC6 := Lib.hid hC6
  clear hC6 hF6 hF6' e1 hap HB4 HB5 HR4 HR5 HX4 HX5 BW4 BW5 HC4 HC5 HO5 HX HRW HBW BW B2 B1 B0
  rcases Nat.eq_zero_or_pos k with h0 | h0
  · subst h0
    have e0 : ((0 : Nat) : Int) = 0 := rfl
    rw [e0]
    clear e0
    have hput := Hput.out rfl
    have hmiss := Hmiss.out rfl
    have hcnt := Hcnt.out rfl
    have HP := Lib.hid hput
    have HQ := Lib.hid hmiss
    clear hput hmiss Hput Hmiss Hcnt Hno
    go_wp2
    go_loopw [6, 12, 13, 14] (fun s6 s12 _ _ wr => ∃ k : Nat, s6 = .bool false ∧ s12 = .int .i64 k ∧ Hid (k ≤ nx) ∧ Hid (Below w6.heap.size w6 wr)) (fun _ s12 _ _ _ => nx - (intOf s12).toNat)
    case atStart => exact ⟨0, rfl, rfl, Lib.hid (Nat.zero_le _), Lib.hid (Below.refl _ _)⟩
    case round =>
      obtain ⟨k, rfl, rfl, hk, hb⟩ := hrel
      have rr := (HR6.out.step hb.out).cell
      by_cases hlt : k < nx
      · obtain ⟨b, off, x, rfl, _, hx, x0, x1, x2, x3, x4⟩ := (HX6.out.step hb.out).1.chg hlt
        have HXx := Lib.hid hx
        have G1 := get_any wr p _ bk' 41 x.ref (HC6.out.step hb.out) (Hs.out x (List.mem_of_getElem? hx)) (HM6.out.step hb.out)
        rw [HP.out x (List.mem_of_getElem? hx)] at G1
        generalize (RefsLaw.get bk' x.ref).2 = ge at G1
        have G1h := Lib.hid G1
        clear G1 hx
        go_wp2_with fail
        refine G1h.out.mono ?_
        rintro e wa ⟨rfl, ba⟩
        have Ba := Lib.hid (balloc (bstep hb.out ba) (.cells #[S x.new.id, S x.new.name] 43))
        have V1 := (Blk.new wa 43 #[S x.new.id, S x.new.name]).cell
        clear ba x0 x1 x2 x3 x4 rr
        have rr := (HR6.out.step Ba.out).cell
        obtain ⟨b', off', x', e1, _, hx', x0, x1, x2, x3, x4⟩ := (HX6.out.step Ba.out).1.chg hlt
        cases e1
        obtain rfl : x = x' := Option.some.inj (HXx.out.symm.trans hx')
        clear hx'
        go_wp2
        go_quiet (fail)
        go_wp2
        go_roundw
        case rel => exact ⟨k + 1, rfl, by go_num, Lib.hid hlt, Lib.hid (below_drewN Ba.out _)⟩
        case measure => simp [intOf]; omega
      · obtain rfl : k = nx := by have := hk.out; omega
        clear hlt
        have HB7 := Lib.hid (HB6.out.step hb.out)
        go_wp2_with fail
        refine (names_any wr p' _ bk 40 HB7.out (by omega)).mono ?_
        rintro e w8 ⟨A8, n8, c8, ns, rfl, hn8, hN8, hO8⟩
        have B8 := Lib.hid (bstep hb.out hO8.2)
        have HS8 := Lib.hid hO8.sl
        have HN8 := Lib.hid hN8
        clear hN8 hO8 rr
        have HB8 := Lib.hid (HB6.out.step B8.out)
        have HC8 := Lib.hid (HC6.out.step B8.out)
        have HR8 := Lib.hid (HR6.out.step B8.out)
        have HX8 := Lib.hid (HX6.out.step B8.out)
        have HM8 := Lib.hid (HM6.out.step B8.out)
        go_wp2
        go_loopw [6, 16, 17, 18, 19, 20, 21, 22] (fun s6 s16 _ _ _ _ _ _ wr => ∃ i : Nat, s6 = .bool false ∧ s16 = .int .i64 i ∧ Hid (i ≤ n8) ∧ Hid (Below w8.heap.size w8 wr)) (fun _ s16 _ _ _ _ _ _ _ => n8 - (intOf s16).toNat)
        case atStart => exact ⟨0, rfl, rfl, Lib.hid (Nat.zero_le _), Lib.hid (Below.refl _ _)⟩
        case round =>
          clear hb
          obtain ⟨i, rfl, rfl, hi, hb⟩ := hrel
          by_cases hli : i < n8
          · obtain ⟨b, off, s, rfl, hs, x0⟩ := (HS8.out.below hb.out).str hli
            have hgs : s.length ≤ maxLen := ((HN8.out.2 s).1 (List.mem_of_getElem? hs)).1
            have HSs := Lib.hid hs
            have G1 := Lib.hid (fun W h => get_any W p' _ bk 40 s (HB8.out.step (w' := W) h) hgs (HM8.out.step h))
            have G2 := Lib.hid (fun W h => get_any W p _ bk' 41 s (HC8.out.step (w' := W) h) hgs (HM8.out.step h))
            have HQs := Lib.hid (HQ.out s)
            rcases hg1 : RefsLaw.get bk s with ⟨⟨vid, vname⟩, ge⟩
            rcases hg2 : RefsLaw.get bk' s with ⟨⟨uid, uname⟩, gu⟩
            rw [hg1] at G1 HQs
            rw [hg2] at G2 HQs
            have rr := (HR8.out.step hb.out).cell
            clear hs hg1 hg2 x0
            go_wp2
            clear rr
            go_loopw [17, 18] (fun s17 s18 wr2 => ∃ j mm : Nat, s17 = .bool ((l.take j).any fun c => decide (c.ref = s)) ∧ s18 = .int .i64 j ∧ Hid (j ≤ k) ∧ wr2 = wr.drewN mm) (fun _ s18 _ => k - (intOf s18).toNat)
            case atStart => exact ⟨0, 0, rfl, rfl, Lib.hid (Nat.zero_le _), rfl⟩
            case round =>
              obtain ⟨j, mm, rfl, rfl, hj, rfl⟩ := hrel
              have Bd := Lib.hid (below_drewN hb.out mm)
              have rr := (HR8.out.step hb.out).cell
              by_cases hjl : j < k
              · obtain ⟨b', off', x, rfl, _, hx, y0, y1, y2, y3, y4⟩ := (HX8.out.step hb.out).1.chg hjl
                obtain ⟨b2, off2, s2, e2, hs2, x0⟩ := (HS8.out.below hb.out).str hli
                cases e2
                obtain rfl : s = s2 := Option.some.inj (HSs.out.symm.trans hs2)
                have HNX := Lib.hid (any_step (s := s) hx)
                generalize (l.take j).any (fun c => decide (c.ref = s)) = ob at *
                clear hx hs2 y1 y2 y3 y4
                cases ob
                · go_wp2
                  go_quiet (fail)
                  go_wp2
                  go_roundw
                  case rel => exact ⟨j + 1, _, by rw [HNX.out]; first | rfl | (by_cases hxs : x.ref = s <;> simp [hxs]; done), by go_num, Lib.hid hjl, rfl⟩
                  case measure => simp [intOf]; omega
                · go_wp2
                  go_quiet (fail)
                  go_wp2
                  go_roundw
                  case rel => exact ⟨j + 1, _, by rw [HNX.out]; rfl, by go_num, Lib.hid hjl, rfl⟩
                  case measure => simp [intOf]; omega
              · obtain rfl : j = k := by have := hj.out; omega
                have hlen : l.length = j := chs_count HX8.out.1
                have htk : l.take j = l := List.take_of_length_le (by omega)
                simp only [htk]
                clear htk
                obtain ⟨b2, off2, s2, e2, hs2, x0⟩ := (HS8.out.below hb.out).str hli
                cases e2
                obtain rfl : s = s2 := Option.some.inj (HSs.out.symm.trans hs2)
                clear hs2
                go_wp2_with fail
                refine (G1.out _ Bd.out).mono ?_
                rintro e wa ⟨rfl, ba⟩
                have Ba := Lib.hid (balloc (bstep Bd.out ba) (.cells #[S vid, S vname] 43))
                have V1 := Lib.hid (Blk.new wa 43 #[S vid, S vname])
                clear ba x0 rr
                obtain ⟨b2, off2, s2, e2, hs2, x0⟩ := (HS8.out.below Ba.out).str hli
                cases e2
                obtain rfl : s = s2 := Option.some.inj (HSs.out.symm.trans hs2)
                clear hs2
                go_wp2_with fail
                refine (G2.out _ Ba.out).mono ?_
                rintro e wb ⟨rfl, bb⟩
                have Bb := Lib.hid (balloc (bstep Ba.out bb) (.cells #[S uid, S uname] 43))
                have v1 := ((V1.out.step bb).alloc (.cells #[S uid, S uname] 43)).cell
                have v2 := (Blk.new wb 43 #[S uid, S uname]).cell
                clear bb x0
                have hlc := HQs.out
                generalize (l.any fun c => decide (c.ref = s)) = ob at *
                cases ob
                · have h1 := hlc rfl
                  simp only [Val.mk.injEq] at h1
                  obtain ⟨rfl, rfl⟩ := h1
                  have hq : eqV uid uname uid uname = true := eqV_iff.2 rfl
                  clear hlc
                  go_wp2
                  go_roundw
                  case rel => exact ⟨i + 1, rfl, by go_num, Lib.hid hli, Bb⟩
                  case measure => simp [intOf]; omega
                · clear hlc
                  go_wp2
                  go_roundw
                  case rel => exact ⟨i + 1, rfl, by go_num, Lib.hid hli, Bb⟩
                  case measure => simp [intOf]; omega
          · obtain rfl : i = n8 := by have := hi.out; omega
            have C1 := Lib.hid (count_any wr p _ bk' 41 (HC8.out.step hb.out))
            have C2 := Lib.hid (count_any wr p' _ bk 40 (HB8.out.step hb.out))
            rw [hcnt] at C1
            have hlb : bk.txns.length < 9000000000000000000 := by
              obtain ⟨m, Aq, nq, cq, xq, cn, hI⟩ := HB8.out
              have h1 := hI.len
              have h2 := hI.cap.2
              omega
            go_wp2_with (first
              | (go_at_call 15; refine C1.out.mono ?_; rintro e w' ⟨rfl, rfl⟩; clear C1)
              | (go_at_call 15; refine C2.out.mono ?_; rintro e w' ⟨rfl, rfl⟩))
            go_ret
            exact ⟨rfl, bstep BW6.out (bstep B8.out hb.out)⟩
  · have hk : ((k : Int) != 0) = true := by simp; omega
    obtain rfl : bk' = bk := Hno.out (by omega)
    have C1 := Lib.hid (encode_any w6 p _ bk' 41 HC6.out (by omega))
    go_wp2_with fail
    refine C1.out.mono ?_
    rintro e w7 ⟨ns, hN7, hl7, A7, n7, c7, rfl, hS7, hc7, b7⟩
    have HS7 := Lib.hid hS7
    have HN7 := Lib.hid hN7
    have HB7 := Lib.hid (HB6.out.step b7)
    have B7 := Lib.hid b7
    clear hN7 hl7 hS7 hc7 b7
    go_wp2_with fail
    refine (encode_any w7 p' _ bk' 40 HB7.out (by omega)).mono ?_
    rintro e w8 ⟨ns', hN8, hl8, A8, n8, c8, rfl, hS8, hc8, b8⟩
    obtain rfl := names_one HN7.out hN8
    have HS8 := Lib.hid hS8
    have HS9 := Lib.hid (HS7.out.below b8)
    have B8 := Lib.hid (bstep B7.out b8)
    clear hN8 hl8 hS8 hc8 b8
    go_wp2_with fail
    refine (sameB_any A7 A8 n7 n8 c7 c8 _ _ w8 HS9.out HS8.out).mono ?_
    rintro e w9 ⟨he, mm, rfl⟩
    obtain rfl : e = .returned (.bool true) := by rw [he]; simp
    go_wp2
    go_ret
    first | exact ⟨rfl, bstep BW6.out B8.out⟩ | exact ⟨rfl, below_drewN (bstep BW6.out B8.out) _⟩
theorem refsAll_law (A : Option Addr) (n c : Nat) (L : List OpG) (t : TxG) (right : Bool) (w : World) (hA : Sl w 8 A n (opsC L)) (hO : ∀ o ∈ L, o.ok w) (hT : Sl w 5 t.A t.n (chs t.chs) ∧ t.n ≤ 1759218604390 ∧ ∀ c ∈ t.chs, c.ref.length ≤ maxLen) (hM : MaxL w) :
    Calls Tryz.prog 3 #[.slice A n c, txV t.who t.text t.stamp t.A t.n t.c, .bool right] w fun e w' => e = .returned (.bool true) ∧ Below w.heap.size w w' := by
  cases right
  · exact refsAll_false A n c L t w hA hO hT.1 hT.2.1 hT.2.2 hM
  · exact refsAll_true A n c L t w hA hO hT.1 hT.2.1 hT.2.2 hM
end Go.Proofs.YtegehaokfcamfaaGreatDoor
