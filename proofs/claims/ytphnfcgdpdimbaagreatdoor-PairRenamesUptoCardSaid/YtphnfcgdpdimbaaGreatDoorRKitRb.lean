/-
  Texts merged: RefLines, RefBest, RefRenSt. What each law says and asks stands at its head.
-/
import Derived.Test.YtphnfcgdpdimbaaGreatDoorRKitRs
import Derived.Test.YtphnfcgdpdimbaaGreatDoorRKitMt
import Derived.Test.YtphnfcgdpdimbaaGreatDoorRKitLc
import Derived.Test.YtphnfcgdpdimbaaGreatDoorRKitRa
import Derived.Test.YtphnfcgdpdimbaaGreatDoorRKitRn
import Derived.Test.YtphnfcgdpdimbaaGreatDoorRKitPl
namespace Go.Proofs.YtphnfcgdpdimbaaGreatDoor
open Go.RowKit Go.Shelf
set_option maxRecDepth 100000 in
theorem r16gone_any (x : Chg3) (w : World) :
  Calls Tryz.prog 62 #[.agg #[S x.1, S x.2.1, S x.2.2]] w fun e w' => e = .returned (.bool (goneB x)) ∧ Below w.heap.size w w' := by
 have hr := (Blk.new w 69 #[S x.1, S x.2.1, S x.2.2]).cell
 cases h1 : (x.2.2 == []) <;> cases h2 : (x.2.1 == [])
 all_goals
  have e : goneB x = ((x.2.2 == []) && !(x.2.1 == [])) := by
   unfold goneB
   rw [Bool.eq_iff_iff]
   simp
  rw [h1, h2] at e
  rw [e]
  clear e
  go_enter Tryz.func62, Tryz.ntmps62
  go_wp2
  go_ret
  exact ⟨rfl, balloc (Below.refl _ w) _⟩
set_option maxRecDepth 100000 in
theorem r16fresh_any (x : Chg3) (w : World) :
  Calls Tryz.prog 61 #[.agg #[S x.1, S x.2.1, S x.2.2]] w fun e w' => e = .returned (.bool (frsB x)) ∧ Below w.heap.size w w' := by
 have hr := (Blk.new w 69 #[S x.1, S x.2.1, S x.2.2]).cell
 cases h1 : (x.2.1 == []) <;> cases h2 : (x.2.2 == [])
 all_goals
  have e : frsB x = ((x.2.1 == []) && !(x.2.2 == [])) := by
   unfold frsB
   rw [Bool.eq_iff_iff]
   simp
  rw [h1, h2] at e
  rw [e]
  clear e
  go_enter Tryz.func61, Tryz.ntmps61
  go_wp2
  go_ret
  exact ⟨rfl, balloc (Below.refl _ w) _⟩
structure StR (w : World) (q r : Nat) (cap : Int) (R : List (List UInt8)) : Prop where
 sr : RStAt w q r
 dr : ∃ dl, RdAt w r cap dl ∧ RObj dl R ∧ dl.length ≤ 999999
 bl : Blobs R
theorem StR.step {w w' : World} {q r : Nat} {cap : Int} {R : List (List UInt8)} (h : StR w q r cap R) (hb : Below w.heap.size w w') : StR w' q r cap R := by
 obtain ⟨dl, h1, h2⟩ := h.dr
 exact ⟨Blk.step h.sr hb, ⟨dl, h1.step hb, h2⟩, h.bl⟩
def RetLines (R : List (List UInt8)) (id : List UInt8) (w : World) (e : Ending) (w' : World) : Prop :=
 (match getS R id with
  | none => ∃ (A' : Option Addr) (m' c' : Nat), e = .returned (.tuple #[.slice A' m' c', I (getZ id)])
  | some raw => ∃ (A' : Option Addr) (m' c' : Nat), e = .returned (.tuple #[.slice A' m' c', I 0]) ∧ m' ≤ c' ∧ m' ≤ 1048576 ∧ Sl w' 1 A' m' (strs (LinesLaw.lns raw.tail))) ∧ Below w.heap.size w w'
set_option maxHeartbeats 4000000 in
set_option maxRecDepth 100000 in
theorem rlines_any (w : World) (q r : Nat) (cap : Int) (R : List (List UInt8)) (id : List UInt8) (hS : StR w q r cap R) (hid : id.length ≤ 1000000000) :
  Calls Tryz.prog 137 #[.pointer (some ⟨q, 0, none⟩), S id] w (RetLines R id w) := by
 obtain ⟨dl, hD, hO, hll⟩ := hS.dr
 have CO := Lib.hid (rsobj_any w q r cap dl R id hS.sr hD hO hS.bl hll (by omega))
 have HB := Lib.hid (fun raw (hg : getS R id = some raw) => getS_blob hS.bl hg)
 clear hS hD hO hll
 go_enter Tryz.func137, Tryz.ntmps137
 go_wp2_with fail
 refine CO.out.mono ?_
 rintro e w2 hret
 unfold RetRObj at hret
 rcases hg : getS R id with _ | raw
 ·rw [hg] at hret
  obtain ⟨rfl, b2⟩ := hret
  have B2 := Lib.hid b2
  have Hg := Lib.hid hg
  obtain ⟨z, hz⟩ : ∃ z, getZ id = z := ⟨_, rfl⟩
  rw [hz]
  have Hz := Lib.hid hz
  have r3 := (Blk.new w2 110 noObj).cell
  have C3 := Lib.hid (refSplit_any none 0 0 [] (w2.alloc (.cells noObj 110)) Sl.nil_ (by omega) (by omega))
  clear b2 hg hz CO
  go_wp2_with fail
  refine C3.out.mono ?_
  rintro e w3 ⟨A', m', c', rfl, hm, hO3⟩
  have B3 := Lib.hid hO3.2
  clear hm hO3 C3
  go_wp2
  go_ret2
  refine ⟨?_, bstep (balloc B2.out _) B3.out⟩
  rw [Hg.out, Hz.out]
  exact ⟨A', m', c', rfl⟩
 ·rw [hg] at hret
  obtain ⟨⟨A1, c1, rfl, hc1, hS1⟩, b2⟩ := hret
  have B2 := Lib.hid b2
  have hlen := HB.out raw hg
  have Hg := Lib.hid hg
  obtain ⟨k, hk⟩ : ∃ k, k = raw.tail.length := ⟨_, rfl⟩
  rw [← hk] at hS1 hc1 hlen ⊢
  have r3 := (Blk.new w2 110 (blobA A1 k c1)).cell
  have C3 := Lib.hid (refSplit_any A1 k c1 raw.tail (w2.alloc (.cells (blobA A1 k c1) 110)) (hS1.below (balloc (Below.refl _ _) _)) hc1 (by omega))
  clear b2 hg CO hS1 hk HB
  go_wp2_with fail
  refine C3.out.mono ?_
  rintro e w3 ⟨A', m', c', rfl, hm, hO3⟩
  have B3 := Lib.hid hO3.2
  have HO3 := Lib.hid hO3
  clear hO3 C3
  go_wp2
  go_ret2
  refine ⟨?_, bstep (balloc B2.out _) B3.out⟩
  rw [Hg.out]
  exact ⟨A', m', c', rfl, HO3.out.cap.1, by omega, HO3.out.sl⟩
end Go.Proofs.YtphnfcgdpdimbaaGreatDoor
namespace Go.Proofs.YtphnfcgdpdimbaaGreatDoor
open Go.RowKit Go.Shelf
open RenLaw (at9 bestGo bestR RelW Inv St)
theorem Sl.num_ {w : World} {A : Option Addr} {m k : Nat} {l : List Int} (h : Sl w 1 A m (l.map fun z => I z)) (hk : k < m) : ∃ b off z, A = some ⟨b, off, none⟩ ∧ l[k]? = some z ∧ w.cell? ⟨b, off + k, none⟩ = some (I z) := by
 obtain ⟨b, off, rfl, hb, hc⟩ := h.2 (by omega)
 have hl : l.length = m := by have := h.1; simpa using this
 refine ⟨b, off, l[k]'(by omega), rfl, List.getElem?_eq_getElem _, ?_⟩
 rw [hc k (by omega), List.getElem?_map, List.getElem?_eq_getElem (by omega)]
 rfl
theorem cg_at {w : World} {b off m k : Nat} {l : List Chg3} {x : Chg3} (h : Sl w 3 (some ⟨b, off, none⟩) m (cgs l)) (hx : l[k]? = some x) : w.cell? ⟨b, off + k * 3, none⟩ = some (S x.1) ∧ w.cell? ⟨b, off + k * 3 + 1, none⟩ = some (S x.2.1) ∧ w.cell? ⟨b, off + k * 3 + 2, none⟩ = some (S x.2.2) := by
 have hk : k < m := by have := cgs_count h; have := (List.getElem?_eq_some_iff.1 hx).1; omega
 obtain ⟨b', off', x', e, _, hx', x0, x1, x2⟩ := h.cg hk
 cases e
 have ex : x = x' := Option.some.inj (hx.symm.trans hx')
 subst ex
 exact ⟨x0, x1, x2⟩
theorem num_at {w : World} {b off m k : Nat} {l : List Int} {z : Int} (h : Sl w 1 (some ⟨b, off, none⟩) m (l.map fun z => I z)) (hz : l[k]? = some z) : w.cell? ⟨b, off + k, none⟩ = some (I z) := by
 have hk : k < m := by have := h.1; simp at this; have := (List.getElem?_eq_some_iff.1 hz).1; omega
 obtain ⟨b', off', z', e, hz', z0⟩ := h.num_ hk
 cases e
 have ez : z = z' := Option.some.inj (hz.symm.trans hz')
 subst ez
 exact z0
def BestSt (l : List Chg3) (R : List (List UInt8)) (s : St) (i k : Nat) (av mm : Int) (Ao : Option Addr) (no co : Nat) (wr : World) : Prop :=
 ∃ j, RenLaw.Rest s.1 k j ∧ ((j = 0 ∧ av = -1 ∧ mm = -1) ∨ (0 ≤ mm ∧ mm ≤ 100 ∧ 0 ≤ av ∧ ∃ (b g : Nat) (raw : List UInt8), s.1[b]? = some g ∧ av = (g : Int) ∧ getS R (at9 l i).2.2 = some raw ∧ no ≤ co ∧ no ≤ 1048576 ∧ Sl wr 1 Ao no (strs (LinesLaw.lns raw.tail)) ∧
  bestGo l (rdOf R) raw.tail (s.1.drop j) j (b, mm) = bestR l (rdOf R) s.1 i))
def RetBest (l : List Chg3) (R : List (List UInt8)) (s : St) (i : Nat) (w : World) (e : Ending) (w' : World) : Prop :=
 (match bestR l (rdOf R) s.1 i with
  | .error z => e = .returned (.tuple #[I (-1), I 0, I z]) ∧ (z != 0) = true
  | .ok b => ∃ av : Int, e = .returned (.tuple #[I av, I b.2, I 0]) ∧ (50 ≤ b.2 → ∃ g : Nat, s.1[b.1]? = some g ∧ av = (g : Int)) ∧ -1 ≤ b.2 ∧ b.2 ≤ 100) ∧ Below w.heap.size w w'
set_option maxHeartbeats 16000000 in
set_option maxRecDepth 100000 in
theorem rbest_any (w : World) (q r n c i cW : Nat) (cap : Int) (A AW : Option Addr) (l : List Chg3) (s : St) (W Z : List Int) (R : List (List UInt8)) (hA : Sl w 3 A n (cgs l)) (hW : Sl w 1 AW n (W.map fun z => I z)) (hRel : RelW l s W Z) (hI : Inv l s) (hi : i < n) (hS : StR w q r cap R) (hn : n ≤ 100) (hl : ∀ k, k < l.length → (at9 l k).2.1.length ≤ 1000000000 ∧ (at9 l k).2.2.length ≤ 1000000000) :
  Calls Tryz.prog 63 #[.pointer (some ⟨q, 0, none⟩), .slice A n c, .slice AW n cW, I i] w (RetBest l R s i w) := by
 have hll := cgs_count hA
 have HA := Lib.hid hA
 have HW := Lib.hid hW
 have HRel := Lib.hid hRel
 have HI := Lib.hid hI
 have HS := Lib.hid hS
 have HL := Lib.hid hl
 have Hll := Lib.hid hll
 have HGlt : Hid (∀ x ∈ s.1, x < n) := Lib.hid (fun x hx => by have := (RenLaw.lt_of_g0 (hI.sub x hx)).1; omega)
 clear hA hW hRel hI hS hl hll
 go_enter Tryz.func63, Tryz.ntmps63
 go_wp2
 go_loopw [11, 12, 13, 14] (fun s11 s12 s13 s14 wr => ∃ (k : Nat) (av mm : Int) (Ao : Option Addr) (no co : Nat), k ≤ n ∧ s14 = .int .i64 k ∧ s11 = .int .i64 av ∧ s12 = .int .i64 mm ∧ s13 = .slice Ao no co ∧ Hid (Below w.heap.size w wr) ∧ Hid (BestSt l R s i k av mm Ao no co wr)) (fun _ _ _ s14 _ => n - (intOf s14).toNat)
 case atStart => exact ⟨0, -1, -1, none, 0, 0, Nat.zero_le _, rfl, rfl, rfl, rfl, Lib.hid (Below.refl _ _), Lib.hid ⟨0, RenLaw.rest_start _, .inl ⟨rfl, rfl, rfl⟩⟩⟩
 case round =>
  obtain ⟨k, at9v, mm, Ao, no, co, hk, rfl, rfl, rfl, rfl, HB, HSt⟩ := hrel
  by_cases hlt : k < n
  ·obtain ⟨bA, oA, x, hAe, _, hx, x0, x1, x2⟩ := (HA.out.below HB.out).cg hlt
   subst hAe
   obtain ⟨bW, oW, z, hWe, hz, z0⟩ := (HW.out.below HB.out).num_ hlt
   subst hWe
   obtain ⟨bI, oI, xi, hIe, _, hxi, i0, i1, i2⟩ := (HA.out.below HB.out).cg hi
   cases hIe
   have HX9 : Hid (at9 l k = x) := Lib.hid (RenLaw.at9_of hx)
   have HXi : Hid (at9 l i = xi) := Lib.hid (RenLaw.at9_of hxi)
   have HGL : Hid (k < l.length) := Lib.hid (by have := Hll.out; omega)
   have Hz := Lib.hid hz
   have HXk := Lib.hid hx
   have HXik := Lib.hid hxi
   have HC3 := Lib.hid (HA.out.below HB.out)
   have CG := Lib.hid (r16gone_any x wr)
   clear hx hxi hz
   by_cases hkG : k ∈ s.1
   ·have hg : goneB x = true := by rw [← HX9.out]; exact (RenLaw.lt_of_g0 (HI.out.sub k hkG)).2
    have hzn : z < 0 := (HRel.out.gone_ k z (by rw [HX9.out]; exact hg) Hz.out).2 hkG
    have hd1 : decide (0 ≤ z) = false := decide_eq_false (by omega)
    rw [hg] at CG
    obtain ⟨j, hrest, hst⟩ := HSt.out
    obtain ⟨hGj, hGd, hR1⟩ := RenLaw.rest_take HI.out.rises hrest hkG
    have HGj := Lib.hid hGj
    have HRest := Lib.hid hR1
    have hne : s.1 ≠ [] := fun e => by rw [e] at hkG; cases hkG
    have Hne := Lib.hid hne
    clear hg hGj hGd hR1 hrest hne hkG HSt
    have x0' := x0
    go_wp2_with fail
    refine CG.out.mono ?_
    rintro e w3 ⟨rfl, b3⟩
    have B3 := Lib.hid (bstep HB.out b3)
    clear x0 x1 x2 z0 i0 i1 i2 x0'
    obtain ⟨x0, x1, x2⟩ := cg_at (HC3.out.below b3) HXk.out
    obtain ⟨i0, i1, i2⟩ := cg_at (HC3.out.below b3) HXik.out
    have z0 := num_at (HW.out.below B3.out) Hz.out
    rcases hst with ⟨rfl, rfl, rfl⟩ | ⟨hm0, hm1, hat0, bb, gb, rawo, hgb, hatg, hgo, hnc, hno, hSo, hbg⟩
    ·have CL1 := Lib.hid (rlines_any w3 q r cap R xi.2.2 (HS.out.step B3.out) (by have := (HL.out i (by have := Hll.out; omega)).2; rw [HXi.out] at this; exact this))
     have B3' := Lib.hid b3
     clear b3 CG
     go_wp2_with fail
     refine CL1.out.mono ?_
     rintro e w4 hret4
     rcases hg4 : getS R xi.2.2 with _ | rawo
     ·unfold RetLines at hret4
      rw [hg4] at hret4
      obtain ⟨⟨A4, m4, c4, rfl⟩, b4⟩ := hret4
      have B4 := Lib.hid (bstep B3.out b4)
      have Hg4 := Lib.hid hg4
      have hzz := getZ_ne xi.2.2
      obtain ⟨z4, hz4⟩ : ∃ z4, getZ xi.2.2 = z4 := ⟨_, rfl⟩
      have Hz4 := Lib.hid hz4
      rw [hz4] at hzz ⊢
      clear hz4 hg4 b4 CL1
      go_wp2
      go_ret3
      refine ⟨?_, B4.out⟩
      rw [bestR_err Hne.out (by rw [HXi.out]; exact Hg4.out), HXi.out, Hz4.out]
      exact ⟨rfl, by rw [← Hz4.out]; exact getZ_ne _⟩
     ·unfold RetLines at hret4
      rw [hg4] at hret4
      obtain ⟨⟨Ao, no, co, rfl, hnc, hno, hSo⟩, b4⟩ := hret4
      have B4 := Lib.hid (bstep B3.out b4)
      have HOo := Lib.hid hSo
      have Hgo : Hid (getS R (at9 l i).2.2 = some rawo) := Lib.hid (by rw [HXi.out]; exact hg4)
      obtain ⟨bb, hbb⟩ : ∃ bb : Nat, bb = 0 := ⟨0, rfl⟩
      obtain ⟨mm, hmm⟩ : ∃ mm : Int, mm = -1 := ⟨-1, rfl⟩
      obtain ⟨j, hj⟩ : ∃ j : Nat, j = 0 := ⟨0, rfl⟩
      have HBg : Hid (bestGo l (rdOf R) rawo.tail (s.1.drop j) j (bb, mm) = bestR l (rdOf R) s.1 i) := Lib.hid (by rw [bestR_cons Hne.out Hgo.out, hbb, hmm, hj]; rfl)
      rw [← hj] at HGj HRest
      clear x0 x1 x2
      obtain ⟨x0, x1, x2⟩ := cg_at ((HC3.out.below B3'.out).below b4) HXk.out
      rw [← hmm]
      clear hSo hg4 b4 CL1 hbb hj
      have hgl := HGL.out
      have CL2 := Lib.hid (rlines_any w4 q r cap R x.2.1 (HS.out.step B4.out) (by have := (HL.out k hgl).1; rw [HX9.out] at this; exact this))
      go_wp2_with fail
      refine CL2.out.mono ?_
      rintro e w5 hret5
      rcases hg5 : getS R x.2.1 with _ | raw5
      ·unfold RetLines at hret5
       rw [hg5] at hret5
       obtain ⟨⟨A5, m5, c5, rfl⟩, b5⟩ := hret5
       have B5 := Lib.hid (bstep B4.out b5)
       have Hg5 := Lib.hid hg5
       have hzz := getZ_ne x.2.1
       obtain ⟨z5, hz5⟩ : ∃ z5, getZ x.2.1 = z5 := ⟨_, rfl⟩
       have Hz5 := Lib.hid hz5
       rw [hz5] at hzz ⊢
       clear hz5 hg5 b5 CL2
       go_wp2
       go_ret3
       refine ⟨?_, B5.out⟩
       have e9 := HBg.out
       rw [bestGo_err1 HGj.out (by rw [HX9.out]; exact Hg5.out), HX9.out, Hz5.out] at e9
       rw [← e9]
       exact ⟨rfl, by rw [← Hz5.out]; exact getZ_ne _⟩
      ·unfold RetLines at hret5
       rw [hg5] at hret5
       obtain ⟨⟨A5, m5, c5, rfl, hmc5, hm5, hS5⟩, b5⟩ := hret5
       have B5 := Lib.hid (bstep B4.out b5)
       have CS := Lib.hid (refSimilarC_any A5 Ao m5 no c5 co (LinesLaw.lns raw5.tail) (LinesLaw.lns rawo.tail) w5 hS5 (HOo.out.below b5) hmc5 hnc (by omega) (by omega))
       have HOo5 := Lib.hid (HOo.out.below b5)
       have Hg5 := Lib.hid hg5
       have hsr := LineLaw.simC_range (LinesLaw.lns raw5.tail) (LinesLaw.lns rawo.tail)
       obtain ⟨v, hv⟩ : ∃ v, LineLaw.simC (LinesLaw.lns raw5.tail) (LinesLaw.lns rawo.tail) = v := ⟨_, rfl⟩
       rw [hv] at hsr CS
       have Hv := Lib.hid hv
       have e9 := HBg.out
       rw [bestGo_ok1 HGj.out (by rw [HX9.out]; exact Hg5.out), hv] at e9
       have HE9 := Lib.hid e9
       clear hv hg5 b5 hS5 CL2 e9 HBg
       go_wp2_with fail
       refine CS.out.mono ?_
       rintro e w6 ⟨rfl, b6⟩
       have B6 := Lib.hid (bstep B5.out b6)
       have HOo6 := Lib.hid (HOo5.out.below b6)
       clear b6 CS
       by_cases hgt : mm < v
       ·have hd9 : decide (mm < v) = true := decide_eq_true hgt
        have e9 := HE9.out
        rw [if_pos (show ((bb, mm) : Nat × Int).2 < v from hgt)] at e9
        have HE := Lib.hid e9
        clear e9 HE9 hd9
        have hd9 : decide (mm < v) = true := decide_eq_true hgt
        go_wp2
        go_roundw
        case rel => exact ⟨k + 1, (k : Int), v, Ao, no, co, hlt, by go_num, rfl, rfl, rfl, B6, Lib.hid ⟨j + 1, HRest.out, .inr ⟨by omega, by omega, by omega, j, k, rawo, HGj.out, rfl, Hgo.out, hnc, hno, HOo6.out, HE.out⟩⟩⟩
        case measure => simp [intOf]; omega
       ·have hd9 : decide (mm < v) = false := decide_eq_false hgt
        have e9 := HE9.out
        rw [if_neg (show ¬ ((bb, mm) : Nat × Int).2 < v from hgt)] at e9
        have HE := Lib.hid e9
        clear e9 HE9
        exfalso; omega
    ·have HOo : Hid (Sl w3 1 Ao no (strs (LinesLaw.lns rawo.tail))) := Lib.hid (hSo.below b3)
     have Hgo := Lib.hid hgo
     have HBg := Lib.hid hbg
     have Hgb := Lib.hid hgb
     have hd2 : decide (at9v < 0) = false := decide_eq_false (by omega)
     clear hSo hgo hbg hgb b3 CG
     have hgl := HGL.out
     have CL2 := Lib.hid (rlines_any w3 q r cap R x.2.1 (HS.out.step B3.out) (by have := (HL.out k hgl).1; rw [HX9.out] at this; exact this))
     go_wp2_with fail
     refine CL2.out.mono ?_
     rintro e w5 hret5
     rcases hg5 : getS R x.2.1 with _ | raw5
     ·unfold RetLines at hret5
      rw [hg5] at hret5
      obtain ⟨⟨A5, m5, c5, rfl⟩, b5⟩ := hret5
      have B5 := Lib.hid (bstep B3.out b5)
      have Hg5 := Lib.hid hg5
      have hzz := getZ_ne x.2.1
      obtain ⟨z5, hz5⟩ : ∃ z5, getZ x.2.1 = z5 := ⟨_, rfl⟩
      have Hz5 := Lib.hid hz5
      rw [hz5] at hzz ⊢
      clear hz5 hg5 b5 CL2
      go_wp2
      go_ret3
      refine ⟨?_, B5.out⟩
      have e9 := HBg.out
      rw [bestGo_err1 HGj.out (by rw [HX9.out]; exact Hg5.out), HX9.out, Hz5.out] at e9
      rw [← e9]
      exact ⟨rfl, by rw [← Hz5.out]; exact getZ_ne _⟩
     ·unfold RetLines at hret5
      rw [hg5] at hret5
      obtain ⟨⟨A5, m5, c5, rfl, hmc5, hm5, hS5⟩, b5⟩ := hret5
      have B5 := Lib.hid (bstep B3.out b5)
      have CS := Lib.hid (refSimilarC_any A5 Ao m5 no c5 co (LinesLaw.lns raw5.tail) (LinesLaw.lns rawo.tail) w5 hS5 (HOo.out.below b5) hmc5 hnc (by omega) (by omega))
      have HOo5 := Lib.hid (HOo.out.below b5)
      have Hg5 := Lib.hid hg5
      have hsr := LineLaw.simC_range (LinesLaw.lns raw5.tail) (LinesLaw.lns rawo.tail)
      obtain ⟨v, hv⟩ : ∃ v, LineLaw.simC (LinesLaw.lns raw5.tail) (LinesLaw.lns rawo.tail) = v := ⟨_, rfl⟩
      rw [hv] at hsr CS
      have Hv := Lib.hid hv
      have e9 := HBg.out
      rw [bestGo_ok1 HGj.out (by rw [HX9.out]; exact Hg5.out), hv] at e9
      have HE9 := Lib.hid e9
      clear hv hg5 b5 hS5 CL2 e9 HBg
      go_wp2_with fail
      refine CS.out.mono ?_
      rintro e w6 ⟨rfl, b6⟩
      have B6 := Lib.hid (bstep B5.out b6)
      have HOo6 := Lib.hid (HOo5.out.below b6)
      clear b6 CS
      by_cases hgt : mm < v
      ·have hd9 : decide (mm < v) = true := decide_eq_true hgt
       have e9 := HE9.out
       rw [if_pos (show ((bb, mm) : Nat × Int).2 < v from hgt)] at e9
       have HE := Lib.hid e9
       clear e9 HE9 hd9
       have hd9 : decide (mm < v) = true := decide_eq_true hgt
       go_wp2
       go_roundw
       case rel => exact ⟨k + 1, (k : Int), v, Ao, no, co, hlt, by go_num, rfl, rfl, rfl, B6, Lib.hid ⟨j + 1, HRest.out, .inr ⟨by omega, by omega, by omega, j, k, rawo, HGj.out, rfl, Hgo.out, hnc, hno, HOo6.out, HE.out⟩⟩⟩
       case measure => simp [intOf]; omega
      ·have hd9 : decide (mm < v) = false := decide_eq_false hgt
       have e9 := HE9.out
       rw [if_neg (show ¬ ((bb, mm) : Nat × Int).2 < v from hgt)] at e9
       have HE := Lib.hid e9
       clear e9 HE9
       go_wp2
       go_roundw
       case rel => exact ⟨k + 1, (gb : Int), mm, Ao, no, co, hlt, by go_num, rfl, rfl, rfl, B6, Lib.hid ⟨j + 1, HRest.out, .inr ⟨hm0, hm1, by omega, bb, gb, rawo, Hgb.out, rfl, Hgo.out, hnc, hno, HOo6.out, HE.out⟩⟩⟩
       case measure => simp [intOf]; omega
   ·have hcase : goneB x = false ∨ (goneB x = true ∧ decide (0 ≤ z) = true) := by
     cases hgb : goneB x with
     | false => exact .inl rfl
     | true =>
      refine .inr ⟨rfl, decide_eq_true ?_⟩
      have := HRel.out.gone_ k z (by rw [HX9.out]; exact hgb) Hz.out
      rcases Int.lt_or_le z 0 with h | h
      ·exact absurd (this.1 h) hkG
      ·exact h
    obtain ⟨j, hrest, hst⟩ := HSt.out
    have HRest := Lib.hid (RenLaw.rest_pass hrest hkG)
    have Hst := Lib.hid hst
    clear hrest hst HSt hkG
    rcases hcase with hg | ⟨hg, hd1⟩
    all_goals
     rw [hg] at CG
     clear hg
     go_wp2_with fail
     refine CG.out.mono ?_
     rintro e w3 ⟨rfl, b3⟩
     have B3 := Lib.hid (bstep HB.out b3)
     have HB3 := Lib.hid b3
     have z3 := num_at (HW.out.below B3.out) Hz.out
     clear b3 CG
     go_wp2
     go_roundw
     case rel => exact ⟨k + 1, at9v, mm, Ao, no, co, hlt, by go_num, rfl, rfl, rfl, B3, Lib.hid ⟨j, HRest.out, by
      rcases Hst.out with h | ⟨h1, h2, h3, bb, gb, rawo, h4, h5, h6, h7, h8, h9, h10⟩
      ·exact .inl h
      ·exact .inr ⟨h1, h2, h3, bb, gb, rawo, h4, h5, h6, h7, h8, h9.below HB3.out, h10⟩⟩⟩
     case measure => simp [intOf]; omega
  ·obtain rfl : k = n := by omega
   go_wp2
   go_ret3
   refine ⟨?_, HB.out⟩
   obtain ⟨j, hrest, hst⟩ := HSt.out
   have hend := RenLaw.rest_end hrest HGlt.out (Nat.le_refl _)
   rcases hst with ⟨rfl, rfl, rfl⟩ | ⟨hm0, hm1, hat0, bb, gb, rawo, hgb, hatg, hgo, hnc, hno, hSo, hbg⟩
   ·have e : bestR l (rdOf R) s.1 i = .ok (0, -1) := by
     unfold bestR
     rw [if_pos (by simpa using hend)]
    rw [e]
    exact ⟨-1, rfl, by simp, by simp, by simp⟩
   ·rw [hend, bestGo] at hbg
    rw [← hbg]
    exact ⟨at9v, rfl, fun _ => ⟨gb, hgb, hatg⟩, by simp only; omega, hm1⟩
end Go.Proofs.YtphnfcgdpdimbaaGreatDoor
namespace Go.Proofs.YtphnfcgdpdimbaaGreatDoor
open Go.RowKit Go.Shelf
structure RenSt (w0 wr : World) (g1 g2 n : Nat) (W Z : List Int) : Prop where
 r1 : wr.ownsRow w0.heap.size 3 1 (.slice (some ⟨g1, 0, none⟩) n n) n (W.map fun z => I z)
 r2 : wr.ownsRow w0.heap.size 3 1 (.slice (some ⟨g2, 0, none⟩) n n) n (Z.map fun z => I z)
 ne : g1 ≠ g2
 b : Below w0.heap.size w0 wr
section
variable {w0 wr w' : World} {g1 g2 n k : Nat} {W Z : List Int} {z : Int}
theorem RenSt.step (h : RenSt w0 wr g1 g2 n W Z) (hb : Below wr.heap.size wr w') : RenSt w0 w' g1 g2 n W Z := ⟨own_step9 h.r1 hb, own_step9 h.r2 hb, h.ne, bstep h.b hb⟩
theorem own_num {g : Nat} (h : wr.ownsRow w0.heap.size 3 1 (.slice (some ⟨g, 0, none⟩) n n) n (W.map fun z => I z)) (hk : W[k]? = some z) : wr.cell? ⟨g, k, none⟩ = some (I z) := by
 have hl := h.1
 simp at hl
 have hlt := (List.getElem?_eq_some_iff.1 hk).1
 rw [h.cellAt k (by omega), List.getElem?_map, hk]
 rfl
theorem RenSt.cell1 (h : RenSt w0 wr g1 g2 n W Z) (hk : W[k]? = some z) : wr.cell? ⟨g1, k, none⟩ = some (I z) := own_num h.r1 hk
theorem RenSt.cell2 (h : RenSt w0 wr g1 g2 n W Z) (hk : Z[k]? = some z) : wr.cell? ⟨g2, k, none⟩ = some (I z) := own_num h.r2 hk
theorem RenSt.set1 (h : RenSt w0 wr g1 g2 n W Z) (k : Nat) (z : Int) : RenSt w0 (wr.setCell ⟨g1, k, none⟩ (I z)) g1 g2 n (W.set k z) Z := by
 refine ⟨?_, own_far h.r2 (by exact fun e => h.ne (Option.some.inj e)) _, h.ne, h.b.setCell (h.r1.lt g1 rfl).1 _⟩
 have := (h.r1.stored k (I z)).1
 rw [← List.map_set] at this
 exact this
theorem RenSt.set2 (h : RenSt w0 wr g1 g2 n W Z) (k : Nat) (z : Int) : RenSt w0 (wr.setCell ⟨g2, k, none⟩ (I z)) g1 g2 n W (Z.set k z) := by
 refine ⟨own_far h.r1 (by exact fun e => h.ne (Option.some.inj e).symm) _, ?_, h.ne, h.b.setCell (h.r2.lt g2 rfl).1 _⟩
 have := (h.r2.stored k (I z)).1
 rw [← List.map_set] at this
 exact this
theorem RenSt.drew (h : RenSt w0 wr g1 g2 n W Z) : RenSt w0 wr.drew g1 g2 n W Z := h.step (Below.refl _ _).drew
theorem RenSt.lts (h : RenSt w0 wr g1 g2 n W Z) : g1 < wr.heap.size ∧ g2 < wr.heap.size := ⟨(h.r1.lt g1 rfl).2, (h.r2.lt g2 rfl).2⟩
theorem RenSt.made (w : World) (n : Nat) (hn : n ≤ 1000000) : RenSt w ((w.alloc (.cells (madeCells #[I 0] n) 3)).alloc (.cells (madeCells #[I 0] n) 3)) w.heap.size (w.heap.size + 1) n (List.replicate n 0) (List.replicate n 0) := by
 have e : (madeCells #[I 0] n).toList = (List.replicate n (0 : Int)).map fun z => I z := by rw [toList_madeCells_one, List.map_replicate]
 have h1 := World.ownsRow_lit (base := w.heap.size) (e := 3) (size := 1) w (madeCells #[I 0] n) n (Nat.le_refl _) (by simp only [maxLen]; omega) (by rw [size_madeCells]; simp)
 have h2 := World.ownsRow_lit (base := w.heap.size) (e := 3) (size := 1) (w.alloc (.cells (madeCells #[I 0] n) 3)) (madeCells #[I 0] n) n (by simp) (by simp only [maxLen]; omega) (by rw [size_madeCells]; simp)
 rw [e] at h1 h2
 rw [World.size_alloc] at h2
 exact ⟨own_step9 h1 (balloc (Below.refl _ _) _), h2, by omega, balloc (balloc (Below.refl _ _) _) _⟩
def minus (n k : Nat) : List Int := List.replicate k (-1) ++ List.replicate (n - k) 0
theorem minus_step {n k : Nat} (h : k < n) : (minus n k).set k (-1) = minus n (k + 1) ∧ (minus n k)[k]? = some 0 := by
 unfold minus
 obtain ⟨m, hm⟩ : ∃ m, n - k = m + 1 := ⟨n - k - 1, by omega⟩
 rw [hm, show n - (k + 1) = m by omega, List.replicate_succ]
 constructor
 ·rw [List.set_append_right _ _ (by simp)]
  simp only [List.length_replicate, Nat.sub_self, List.set_cons_zero]
  rw [List.replicate_succ', List.append_assoc]
  rfl
 ·rw [List.getElem?_append_right (by simp)]
  simp
theorem minus_end (n : Nat) : minus n n = List.replicate n (-1) := by unfold minus; simp
end
open RenLaw (at9 St exact1 take9 RelW Inv sameB)
def RSt (w wr : World) (g1 g2 n : Nat) (l : List Chg3) (s : St) : Prop := ∃ W Z, RenSt w wr g1 g2 n W Z ∧ RelW l s W Z ∧ Inv l s
theorem RSt.step {w wr w' : World} {g1 g2 n : Nat} {l : List Chg3} {s : St} (h : RSt w wr g1 g2 n l s) (hb : Below wr.heap.size wr w') : RSt w w' g1 g2 n l s := by
 obtain ⟨W, Z, h1, h2⟩ := h
 exact ⟨W, Z, h1.step hb, h2⟩
theorem RSt.start {w wr : World} {g1 g2 n : Nat} {l : List Chg3} {Z : List Int} (h : RenSt w wr g1 g2 n (List.replicate n (-1)) Z) (hl : l.length = n) : RSt w wr g1 g2 n l (RenLaw.s0 l) := by
 have hz := h.r2.1
 simp at hz
 exact ⟨_, Z, h, by rw [← hl]; exact RenLaw.relW_start l Z (by omega), RenLaw.inv_start l⟩
theorem RSt.take {w wr : World} {g1 g2 n i j g : Nat} {l : List Chg3} {s : St} {W Z : List Int} {sc : Int} (hM : RenSt w wr g1 g2 n W Z) (hR : RelW l s W Z) (hI : Inv l s) (hi : i < l.length) (hf : frsB (at9 l i) = true) (hn : s.2 i = none) (hk : s.1[j]? = some g) (h1 : 50 ≤ sc) (h2 : sc ≤ 100) :
  RSt w (((wr.setCell ⟨g1, i, none⟩ (I g)).setCell ⟨g1, g, none⟩ (I i)).setCell ⟨g2, i, none⟩ (I sc)) g1 g2 n l (take9 s i j sc) :=
 ⟨_, _, ((hM.set1 i g).set1 g i).set2 i sc, hR.take hI hi hf hk, hI.take (List.mem_filter.2 ⟨List.mem_range.2 hi, hf⟩) hn hk h1 h2⟩
theorem exact1_other {l : List Chg3} {s : St} {i j : Nat} (h : j ≠ i) : (exact1 l s i).2 j = s.2 j := by
 rcases RenLaw.exact1_ways l s i with ⟨e, _⟩ | ⟨k, g, hk, _, e⟩
 ·rw [e]
 ·rw [e, RenLaw.take9_at hk, if_neg h]
def InSt (l : List Chg3) (s s' : St) (i k : Nat) : Prop :=
 (frsB (at9 l i) = false ∧ s' = s) ∨ (frsB (at9 l i) = true ∧ ((s' = s ∧ ∀ g ∈ s.1, g < k → ¬ sameB l g i) ∨ (s' = exact1 l s i ∧ ∃ p, s'.2 i = some p)))
end Go.Proofs.YtphnfcgdpdimbaaGreatDoor
