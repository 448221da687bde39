/-
  dolmenref16.Renames, whatever changes. Conditions: the list can be read, of at most 100; the store holds blobs alone.
-/
import Derived.Test.YtphnfcgdpdimbaaGreatDoorRKitRb
import Derived.Test.YtphnfcgdpdimbaaGreatDoorRKitSa
namespace Go.Proofs.YtphnfcgdpdimbaaGreatDoor
open Go.RowKit Go.Shelf
open RenLaw (at9 G0 F0 St exact1 exacts take9 likes s0 sE renM pairsOf RelW Inv exFrom lkFrom outTo sameB bestR)
def rr13Phi (bA oA n c i k g1 : Nat) (x xi : Chg3) (zk : Int) (bg bl bq : Bool) : Nat → Value → World → Prop
 | 0, v, _ => v = .slice (some ⟨bA, oA, none⟩) n c
 | 1, v, _ => v = I ((k : Int))
 | 2, v, _ => v = .pointer (some ⟨bA, oA + k * 3, none⟩)
 | 3, v, _ => v = .agg #[S x.1, S x.2.1, S x.2.2]
 | 4, v, _ => v = .bool bg
 | 5, v, _ => v = .bool bg
 | 6, v, _ => (bg = true → v = .slice (some ⟨g1, 0, none⟩) n n)
 | 7, v, _ => (bg = true → v = I ((k : Int)))
 | 8, v, _ => (bg = true → v = .pointer (some ⟨g1, k, none⟩))
 | 9, v, _ => (bg = true → v = I zk)
 | 10, v, _ => (bg = true → v = .bool bl)
 | 11, v, _ => v = .bool (bg && bl)
 | 12, v, _ => v = .bool (bg && bl)
 | 13, v, _ => ((bg && bl) = true → v = .slice (some ⟨bA, oA, none⟩) n c)
 | 14, v, _ => ((bg && bl) = true → v = I ((k : Int)))
 | 15, v, _ => ((bg && bl) = true → v = .pointer (some ⟨bA, oA + k * 3, none⟩))
 | 16, v, _ => ((bg && bl) = true → v = .pointer (some ⟨bA, oA + k * 3 + 1, none⟩))
 | 17, v, _ => ((bg && bl) = true → v = S x.2.1)
 | 18, v, _ => ((bg && bl) = true → v = .slice (some ⟨bA, oA, none⟩) n c)
 | 19, v, _ => ((bg && bl) = true → v = I ((i : Int)))
 | 20, v, _ => ((bg && bl) = true → v = .pointer (some ⟨bA, oA + i * 3, none⟩))
 | 21, v, _ => ((bg && bl) = true → v = .pointer (some ⟨bA, oA + i * 3 + 2, none⟩))
 | 22, v, _ => ((bg && bl) = true → v = S xi.2.2)
 | 23, v, _ => ((bg && bl) = true → v = .bool bq)
 | _, _, _ => True
theorem rr13Phi_mono {bA oA n c i k g1 : Nat} {x xi : Chg3} {zk : Int} {bg bl bq : Bool} : ∀ (j : Nat) (v : Value) (w w' : World), rr13Phi bA oA n c i k g1 x xi zk bg bl bq j v w → Below w.heap.size w w' → rr13Phi bA oA n c i k g1 x xi zk bg bl bq j v w' := by
 intro j v w w' h _
 match j, h with
 | 0, h => exact h
 | 1, h => exact h
 | 2, h => exact h
 | 3, h => exact h
 | 4, h => exact h
 | 5, h => exact h
 | 6, h => exact h
 | 7, h => exact h
 | 8, h => exact h
 | 9, h => exact h
 | 10, h => exact h
 | 11, h => exact h
 | 12, h => exact h
 | 13, h => exact h
 | 14, h => exact h
 | 15, h => exact h
 | 16, h => exact h
 | 17, h => exact h
 | 18, h => exact h
 | 19, h => exact h
 | 20, h => exact h
 | 21, h => exact h
 | 22, h => exact h
 | 23, h => exact h
 | (n + 24), _ => trivial
def rr33Phi (bA oA n c i g1 g2 gg n9 c9 gq c5 : Nat) (A9 A5 : Option Addr) (xg xi : Chg3) (sc : Int) : Nat → Value → World → Prop
 | 0, v, _ => v = .slice A9 n9 c9
 | 1, v, _ => v = .slice (some ⟨bA, oA, none⟩) n c
 | 2, v, _ => v = .slice (some ⟨g1, 0, none⟩) n n
 | 3, v, _ => v = I (i : Int)
 | 4, v, _ => v = .pointer (some ⟨g1, i, none⟩)
 | 5, v, _ => v = I (gg : Int)
 | 6, v, _ => v = .pointer (some ⟨bA, oA + gg * 3, none⟩)
 | 7, v, _ => v = .pointer (some ⟨bA, oA + gg * 3, none⟩)
 | 8, v, _ => v = S xg.1
 | 9, v, _ => v = .slice (some ⟨bA, oA, none⟩) n c
 | 10, v, _ => v = I (i : Int)
 | 11, v, _ => v = .pointer (some ⟨bA, oA + i * 3, none⟩)
 | 12, v, _ => v = .pointer (some ⟨bA, oA + i * 3, none⟩)
 | 13, v, _ => v = S xi.1
 | 14, v, _ => v = .slice (some ⟨g2, 0, none⟩) n n
 | 15, v, _ => v = I (i : Int)
 | 16, v, _ => v = .pointer (some ⟨g2, i, none⟩)
 | 17, v, _ => v = I sc
 | 18, v, _ => v = .agg #[S xg.1, S xi.1, I sc]
 | 19, v, _ => v = .slice (some ⟨gq, 0, none⟩) 1 1
 | 20, v, _ => v = .slice A5 (n9 + 1) c5
 | _, _, _ => True
theorem ba_ne16 {a b : List UInt8} (h : a ≠ b) : ((⟨a.toArray⟩ : ByteArray) == ⟨b.toArray⟩) = false := by
 rw [Bool.eq_false_iff]
 intro hh
 have h2 := (Go.MapKept.bytes_beq _ _).1 hh
 injection h2 with h2
 exact h (by simpa using h2)
set_option maxHeartbeats 32000000 in
set_option maxRecDepth 100000 in
theorem rrenames_any (w : World) (q r : Nat) (A : Option Addr) (n c : Nat) (cap : Int) (l : List Chg3) (R : List (List UInt8)) (hA : Sl w 3 A n (cgs l)) (hn : n ≤ 100) (hS : StR w q r cap R) (hl : ∀ x ∈ l, x.2.1.length ≤ 1000000000 ∧ x.2.2.length ≤ 1000000000) :
  Calls Tryz.prog 18 #[.pointer (some ⟨q, 0, none⟩), .slice A n c] w (RetRen l R w) := by
 obtain ⟨i0, hi0, hz0, hz1, hz2⟩ := info_parts Tryz.infoRRen
 have hmk := run_make_row' (P := Tryz.prog) 49 3 (I 0) 8 Tryz.underlying49 Tryz.infoInt rfl .i64 .i64 n (by omega) (by omega)
 have hll := cgs_count hA
 have HA := Lib.hid hA
 have HS := Lib.hid hS
 have Hll := Lib.hid hll
 have HL : Hid (∀ k, k < l.length → (at9 l k).2.1.length ≤ 1000000000 ∧ (at9 l k).2.2.length ≤ 1000000000) := Lib.hid (fun k hk => by
  rw [RenLaw.at9_of (List.getElem?_eq_getElem hk)]
  exact hl _ (List.getElem_mem hk))
 have hM0 := RenSt.made w n (by omega)
 obtain ⟨W0, hW0⟩ : ∃ W0, W0 = (w.alloc (.cells (madeCells #[I 0] n) 3)).alloc (.cells (madeCells #[I 0] n) 3) := ⟨_, rfl⟩
 obtain ⟨g1, hg1⟩ : ∃ g1, g1 = w.heap.size := ⟨_, rfl⟩
 obtain ⟨g2, hg2⟩ : ∃ g2, g2 = w.heap.size + 1 := ⟨_, rfl⟩
 rw [← hW0, ← hg2, ← hg1] at hM0
 have HM0 := Lib.hid hM0
 have HW0 := Lib.hid hW0
 have Hg1 := Lib.hid hg1
 have Hg2 := Lib.hid hg2
 clear hA hS hl hll hM0 hW0 hg1 hg2
 go_enter Tryz.func18, Tryz.ntmps18
 go_wp2
 simp only [← Hg2.out]
 rw [← HW0.out, ← Hg1.out]
 clear hmk
 go_loopw [8] (fun s8 wr => ∃ k : Nat, k ≤ n ∧ s8 = .int .i64 k ∧ Hid (RenSt w wr g1 g2 n (minus n k) (List.replicate n 0))) (fun s8 _ => n - (intOf s8).toNat)
 case atStart => exact ⟨0, Nat.zero_le _, rfl, Lib.hid (by have := HM0.out; unfold minus; simpa using this)⟩
 case round =>
  obtain ⟨k, hk, rfl, HM⟩ := hrel
  by_cases hlt : k < n
  ·obtain ⟨e1, e2⟩ := minus_step hlt
   have y1 := HM.out.cell1 e2
   have f1 := HM.out.r1.frozenAt
   have He1 := Lib.hid e1
   clear e1 e2
   go_wp2
   go_roundw
   case rel => exact ⟨k + 1, hlt, by go_num, Lib.hid (by have h := HM.out.set1 k (-1); rw [He1.out] at h; exact h)⟩
   case measure => simp [intOf]; omega
  ·obtain rfl : n = k := by omega
   have HMs : Hid (RSt w wr g1 g2 n l (s0 l)) := Lib.hid (by have h := HM.out; rw [minus_end] at h; exact RSt.start h Hll.out)
   clear HM HM0
   go_wp2
   go_loopw [9] (fun s9 wr => ∃ (i : Nat) (s : St), i ≤ n ∧ s9 = .int .i64 i ∧ Hid (exFrom l i s = sE l) ∧ Hid (∀ j, i ≤ j → s.2 j = none) ∧ Hid (RSt w wr g1 g2 n l s)) (fun s9 _ => n - (intOf s9).toNat)
   case atStart => exact ⟨0, s0 l, Nat.zero_le _, rfl, Lib.hid (RenLaw.exFrom_start l), Lib.hid (fun _ _ => rfl), HMs⟩
   case round =>
    clear HMs
    obtain ⟨i, s, hi, rfl, HE, HFr, HM⟩ := hrel
    by_cases hlt : i < n
    ·obtain ⟨xi, hxi⟩ : ∃ xi, l[i]? = some xi := ⟨_, List.getElem?_eq_getElem (by rw [Hll.out]; exact hlt)⟩
     have HXi := Lib.hid hxi
     have HX9 : Hid (at9 l i = xi) := Lib.hid (RenLaw.at9_of hxi)
     clear hxi
     obtain ⟨bA, oA, _, hAe, _, _, _, _, _⟩ := HA.out.cg hlt
     subst hAe
     go_wp2
     go_loopw [10] (fun s10 wr => ∃ (k : Nat) (s' : St), k ≤ n ∧ s10 = .int .i64 k ∧ Hid (InSt l s s' i k) ∧ Hid (RSt w wr g1 g2 n l s')) (fun s10 _ => n - (intOf s10).toNat)
     case atStart => exact ⟨0, s, Nat.zero_le _, rfl, Lib.hid (by
      cases hf : frsB (at9 l i) with
      | false => exact .inl ⟨hf, rfl⟩
      | true => exact .inr ⟨hf, .inl ⟨rfl, fun g _ h => by omega⟩⟩), HM⟩
     case round =>
      clear HM
      obtain ⟨k, s', hk, rfl, HIn, HM⟩ := hrel
      by_cases hltk : k < n
      ·obtain ⟨W, Z, hMr, hR, hI⟩ := HM.out
       have HMr := Lib.hid hMr
       have HR := Lib.hid hR
       have HI := Lib.hid hI
       have HAw := Lib.hid (HA.out.below hMr.b)
       obtain ⟨c0, c1, c2⟩ := cg_at HAw.out HXi.out
       have CF := Lib.hid (r16fresh_any xi wr)
       rcases HIn.out with ⟨hf, es⟩ | ⟨hf, hin⟩
       ·have HNext : Hid (s' = if frsB (at9 l i) then exact1 l s i else s) := Lib.hid (by rw [hf, es]; rfl)
        have hfx : frsB xi = false := by rw [← HX9.out]; exact hf
        rw [hfx] at CF
        clear hf hfx es hR hI hMr HIn
        go_wp2_with fail
        refine CF.out.mono ?_
        rintro e w3 ⟨rfl, b3⟩
        have HM3 := Lib.hid (HM.out.step b3)
        clear b3 CF
        go_wp2
        go_roundw
        case rel => exact ⟨i + 1, s', hlt, by go_num, Lib.hid (by rw [HNext.out, ← RenLaw.exFrom_step (by rw [Hll.out]; exact hlt)]; exact HE.out), Lib.hid (fun j hj => by
         rw [HNext.out]
         split
         ·rw [exact1_other (by omega)]
          exact HFr.out j (by omega)
         ·exact HFr.out j (by omega)), HM3⟩
        case measure => simp [intOf]; omega
       ·have hfx : frsB xi = true := by rw [← HX9.out]; exact hf
        rw [hfx] at CF
        have Hf := Lib.hid hf
        rcases hin with ⟨es, hno⟩ | ⟨es, p, hp⟩
        ·subst es
         have hwi := hR.free i (by rw [Hll.out]; exact hlt) hf (HFr.out i (Nat.le_refl _))
         obtain ⟨x, hx⟩ : ∃ x, l[k]? = some x := ⟨_, List.getElem?_eq_getElem (by rw [Hll.out]; exact hltk)⟩
         obtain ⟨zk, hzk⟩ : ∃ zk, W[k]? = some zk := ⟨_, List.getElem?_eq_getElem (by rw [hR.lenW, Hll.out]; exact hltk)⟩
         have hxk : at9 l k = x := RenLaw.at9_of hx
         have Hno := Lib.hid hno
         have Hwi := Lib.hid hwi
         have Hx := Lib.hid hx
         have Hzk := Lib.hid hzk
         have y1 := hMr.cell1 hwi
         obtain ⟨bg, hbg⟩ : ∃ bg, goneB x = bg := ⟨_, rfl⟩
         obtain ⟨bl, hd1⟩ : ∃ bl, decide (zk < 0) = bl := ⟨_, rfl⟩
         obtain ⟨bq, hq⟩ : ∃ bq, (x.2.1 == xi.2.2) = bq := ⟨_, rfl⟩
         have hqb : ((⟨x.2.1.toArray⟩ : ByteArray) == ⟨xi.2.2.toArray⟩) = bq := by
          rw [← hq]
          by_cases e : x.2.1 = xi.2.2
          ·rw [e, (Go.MapKept.bytes_beq _ _).2 rfl]
           simp
          ·rw [ba_ne16 e]
           exact (beq_eq_false_iff_ne.2 e).symm
         have Hcase : Hid (((bg && bl) = false ∨ bq = false → (k ∈ s'.1 → ¬ sameB l k i)) ∧ ((bg && bl) = true → bq = true → k ∈ s'.1 ∧ sameB l k i)) := Lib.hid (by
          have hsm : sameB l k i ↔ bq = true := by
           show (at9 l k).2.1 = (at9 l i).2.2 ↔ _
           rw [hxk, HX9.out, ← hq, beq_iff_eq]
          have hkm : k ∈ s'.1 → (bg && bl) = true := fun hm => by
           have hgb := (RenLaw.lt_of_g0 (hI.sub k hm)).2
           rw [hxk, hbg] at hgb
           have := (hR.gone_ k zk (by rw [hxk, hbg]; exact hgb) hzk).2 hm
           rw [hgb, ← hd1, decide_eq_true this]
           rfl
          refine ⟨fun h hm hs => ?_, fun h1 h2 => ⟨?_, hsm.2 h2⟩⟩
          ·rcases h with h | h
           ·rw [hkm hm] at h
            cases h
           ·rw [hsm.1 hs] at h
            cases h
          ·rw [Bool.and_eq_true] at h1
           exact (hR.gone_ k zk (by rw [hxk, hbg]; exact h1.1) hzk).1 (of_decide_eq_true (hd1.trans h1.2)))
         have CG : Hid (∀ V : World, Calls Tryz.prog 62 #[.agg #[S x.1, S x.2.1, S x.2.2]] V fun e w' => e = .returned (.bool bg) ∧ Below V.heap.size V w') := Lib.hid (fun V => by have h := r16gone_any x V; rw [hbg] at h; exact h)
         clear hf hfx hR hI hMr HIn hwi hx hzk hno hxk hbg
         have hm1 : decide ((-1 : Int) < 0) = true := by decide
         go_upto_region 13 with (go_at_call 61; refine CF.out.mono ?_; rintro e w3 ⟨rfl, b3⟩; have HM3 := Lib.hid (HMr.out.step b3); have HA3 := Lib.hid (HAw.out.below b3); have B3 := Lib.hid b3; have y3 := HM3.out.cell1 Hwi.out; clear b3)
         have HCx := Lib.hid (fun V (hV : Below w3.heap.size w3 V) => cg_at (HA3.out.below hV) Hx.out)
         have HCi := Lib.hid (fun V (hV : Below w3.heap.size w3 V) => cg_at (HA3.out.below hV) HXi.out)
         have HW9 := Lib.hid (fun V (hV : Below w3.heap.size w3 V) => (HM3.out.step hV).cell1 Hzk.out)
         have hltk9 : (k : Int) < (n : Int) := by omega
         have hlti9 : (i : Int) < (n : Int) := by omega
         clear CF c0 c1 c2 y1 y3
         refine wp_region_guards (by kernel_rfl) 24 (by kernel_rfl) ?_ (rr13Phi bA oA n c i k g1 x xi zk bg bl bq) rr13Phi_mono (fun i9 o hi ho a w hb hs hm => ?_) (fun o ho a w5 hb hs hm => ?_)
         ·exact dst_ltC2 (n := 179) (by kernel_rfl)
         ·exact match i9, hi, ho with
           | 0, _, ho => by
             cases ho
             rw [if_pos (wanted_none _ rfl)]
             refine wp_value (st_move rfl ((hs.keeps (by kernel_rfl)).trans rfl)) ⟨_, rfl, rfl, Below.refl _ _⟩
           | 1, _, ho => by
             cases ho
             rw [if_pos (wanted_none _ rfl)]
             refine wp_value (st_move rfl ((hs.keeps (by kernel_rfl)).trans rfl)) ⟨_, rfl, rfl, Below.refl _ _⟩
           | 2, _, ho => by
             cases ho
             rw [if_pos (wanted_none _ rfl)]
             have h1 := eval_getD (hm.get 0 58 (by kernel_rfl)); have h2 := eval_getD (hm.get 1 59 (by kernel_rfl)); unfold Oper.wp; simp only [execOp]; go_simp; exact ⟨_, rfl, rfl, Below.refl _ _⟩
           | 3, _, ho => by
             cases ho
             rw [if_pos (wanted_none _ rfl)]
             obtain ⟨hx0, hx1, hx2⟩ := HCx.out w hb; have h1 := eval_getD (hm.get 2 60 (by kernel_rfl)); unfold Oper.wp; simp only [execOp]; go_simp; exact ⟨_, rfl, rfl, Below.refl _ _⟩
           | 4, _, ho => by
             cases ho
             rw [if_pos (wanted_none _ rfl)]
             have h1 := eval_getD (hm.get 3 61 (by kernel_rfl)); unfold Oper.wp; simp only [execOp]; go_simp; refine (CG.out w).mono ?_; rintro e w6 ⟨rfl, b6⟩; exact ⟨_, rfl, rfl, b6⟩
           | 5, _, ho => by
             cases ho
             rw [if_pos (wanted_none _ rfl)]
             refine wp_value (st_move rfl (hm.get 4 62 (by kernel_rfl))) ⟨_, rfl, rfl, Below.refl _ _⟩
           | 6, _, ho => by
             cases ho
             generalize hW : Region.wanted _ _ = W
             obtain rfl : W = (bg == true) := hW.symm.trans (wanted_of rfl rfl rfl (show a.eval (.tmp 63) = .bool bg from (hm.get 5 63 (by kernel_rfl))))
             clear hW
             rcases fls_tru (bg) with hf | hf
             ·rw [if_neg (show ¬ (bg == true) = true by rw [hf]; decide)]; exact fun h => Bool.noConfusion (h.symm.trans hf)
             ·rw [if_pos (show (bg == true) = true by rw [hf]; decide)]
              refine wp_value (st_move rfl ((hs.keeps (by kernel_rfl)).trans rfl)) ⟨_, rfl, fun _ => rfl, Below.refl _ _⟩
           | 7, _, ho => by
             cases ho
             generalize hW : Region.wanted _ _ = W
             obtain rfl : W = (bg == true) := hW.symm.trans (wanted_of rfl rfl rfl (show a.eval (.tmp 63) = .bool bg from (hm.get 5 63 (by kernel_rfl))))
             clear hW
             rcases fls_tru (bg) with hf | hf
             ·rw [if_neg (show ¬ (bg == true) = true by rw [hf]; decide)]; exact fun h => Bool.noConfusion (h.symm.trans hf)
             ·rw [if_pos (show (bg == true) = true by rw [hf]; decide)]
              refine wp_value (st_move rfl ((hs.keeps (by kernel_rfl)).trans rfl)) ⟨_, rfl, fun _ => rfl, Below.refl _ _⟩
           | 8, _, ho => by
             cases ho
             generalize hW : Region.wanted _ _ = W
             obtain rfl : W = (bg == true) := hW.symm.trans (wanted_of rfl rfl rfl (show a.eval (.tmp 63) = .bool bg from (hm.get 5 63 (by kernel_rfl))))
             clear hW
             rcases fls_tru (bg) with hf | hf
             ·rw [if_neg (show ¬ (bg == true) = true by rw [hf]; decide)]; exact fun h => Bool.noConfusion (h.symm.trans hf)
             ·rw [if_pos (show (bg == true) = true by rw [hf]; decide)]
              have h1 := eval_getD ((hm.get 6 64 (by kernel_rfl)) hf); have h2 := eval_getD ((hm.get 7 65 (by kernel_rfl)) hf); unfold Oper.wp; simp only [execOp]; go_simp; exact ⟨_, rfl, fun _ => rfl, Below.refl _ _⟩
           | 9, _, ho => by
             cases ho
             generalize hW : Region.wanted _ _ = W
             obtain rfl : W = (bg == true) := hW.symm.trans (wanted_of rfl rfl rfl (show a.eval (.tmp 63) = .bool bg from (hm.get 5 63 (by kernel_rfl))))
             clear hW
             rcases fls_tru (bg) with hf | hf
             ·rw [if_neg (show ¬ (bg == true) = true by rw [hf]; decide)]; exact fun h => Bool.noConfusion (h.symm.trans hf)
             ·rw [if_pos (show (bg == true) = true by rw [hf]; decide)]
              have hx := HW9.out w hb; have h1 := eval_getD ((hm.get 8 66 (by kernel_rfl)) hf); unfold Oper.wp; simp only [execOp]; go_simp; exact ⟨_, rfl, fun _ => rfl, Below.refl _ _⟩
           | 10, _, ho => by
             cases ho
             generalize hW : Region.wanted _ _ = W
             obtain rfl : W = (bg == true) := hW.symm.trans (wanted_of rfl rfl rfl (show a.eval (.tmp 63) = .bool bg from (hm.get 5 63 (by kernel_rfl))))
             clear hW
             rcases fls_tru (bg) with hf | hf
             ·rw [if_neg (show ¬ (bg == true) = true by rw [hf]; decide)]; exact fun h => Bool.noConfusion (h.symm.trans hf)
             ·rw [if_pos (show (bg == true) = true by rw [hf]; decide)]
              have h1 := eval_getD ((hm.get 9 67 (by kernel_rfl)) hf); unfold Oper.wp; simp only [execOp]; go_simp; exact ⟨_, rfl, fun _ => (show Value.bool _ = Value.bool _ by first | rfl | rw [hd1]), Below.refl _ _⟩
           | 11, _, ho => by
             cases ho
             rw [if_pos (wanted_none _ rfl)]
             have h1 := eval_getD (hm.get 5 63 (by kernel_rfl))
             have h2 := (hm.get 10 68 (by kernel_rfl))
             rcases fls_tru (bg) with hg | hg
             ·rw [hg] at h1
              unfold Oper.wp; simp only [execOp]; go_simp
              exact ⟨_, rfl, (show Value.bool _ = Value.bool _ by first | (rw [hg]; simp) | simp), Below.refl _ _⟩
             ·rw [hg] at h1
              have h3 := eval_getD (h2 hg)
              unfold Oper.wp; simp only [execOp]; go_simp
              exact ⟨_, rfl, (show Value.bool _ = Value.bool _ by first | (rw [hg]; simp) | simp), Below.refl _ _⟩
           | 12, _, ho => by
             cases ho
             rw [if_pos (wanted_none _ rfl)]
             refine wp_value (st_move rfl (hm.get 11 69 (by kernel_rfl))) ⟨_, rfl, rfl, Below.refl _ _⟩
           | 13, _, ho => by
             cases ho
             generalize hW : Region.wanted _ _ = W
             obtain rfl : W = ((bg && bl) == true) := hW.symm.trans (wanted_of rfl rfl rfl (show a.eval (.tmp 70) = .bool (bg && bl) from (hm.get 12 70 (by kernel_rfl))))
             clear hW
             rcases fls_tru (bg && bl) with hf | hf
             ·rw [if_neg (show ¬ ((bg && bl) == true) = true by rw [hf]; decide)]; exact fun h => Bool.noConfusion (h.symm.trans hf)
             ·rw [if_pos (show ((bg && bl) == true) = true by rw [hf]; decide)]
              refine wp_value (st_move rfl ((hs.keeps (by kernel_rfl)).trans rfl)) ⟨_, rfl, fun _ => rfl, Below.refl _ _⟩
           | 14, _, ho => by
             cases ho
             generalize hW : Region.wanted _ _ = W
             obtain rfl : W = ((bg && bl) == true) := hW.symm.trans (wanted_of rfl rfl rfl (show a.eval (.tmp 70) = .bool (bg && bl) from (hm.get 12 70 (by kernel_rfl))))
             clear hW
             rcases fls_tru (bg && bl) with hf | hf
             ·rw [if_neg (show ¬ ((bg && bl) == true) = true by rw [hf]; decide)]; exact fun h => Bool.noConfusion (h.symm.trans hf)
             ·rw [if_pos (show ((bg && bl) == true) = true by rw [hf]; decide)]
              refine wp_value (st_move rfl ((hs.keeps (by kernel_rfl)).trans rfl)) ⟨_, rfl, fun _ => rfl, Below.refl _ _⟩
           | 15, _, ho => by
             cases ho
             generalize hW : Region.wanted _ _ = W
             obtain rfl : W = ((bg && bl) == true) := hW.symm.trans (wanted_of rfl rfl rfl (show a.eval (.tmp 70) = .bool (bg && bl) from (hm.get 12 70 (by kernel_rfl))))
             clear hW
             rcases fls_tru (bg && bl) with hf | hf
             ·rw [if_neg (show ¬ ((bg && bl) == true) = true by rw [hf]; decide)]; exact fun h => Bool.noConfusion (h.symm.trans hf)
             ·rw [if_pos (show ((bg && bl) == true) = true by rw [hf]; decide)]
              have h1 := eval_getD ((hm.get 13 71 (by kernel_rfl)) hf); have h2 := eval_getD ((hm.get 14 72 (by kernel_rfl)) hf); unfold Oper.wp; simp only [execOp]; go_simp; exact ⟨_, rfl, fun _ => rfl, Below.refl _ _⟩
           | 16, _, ho => by
             cases ho
             generalize hW : Region.wanted _ _ = W
             obtain rfl : W = ((bg && bl) == true) := hW.symm.trans (wanted_of rfl rfl rfl (show a.eval (.tmp 70) = .bool (bg && bl) from (hm.get 12 70 (by kernel_rfl))))
             clear hW
             rcases fls_tru (bg && bl) with hf | hf
             ·rw [if_neg (show ¬ ((bg && bl) == true) = true by rw [hf]; decide)]; exact fun h => Bool.noConfusion (h.symm.trans hf)
             ·rw [if_pos (show ((bg && bl) == true) = true by rw [hf]; decide)]
              refine wp_value (st_field rfl ((hm.get 15 73 (by kernel_rfl)) hf) (by kernel_rfl)) ⟨_, rfl, fun _ => rfl, Below.refl _ _⟩
           | 17, _, ho => by
             cases ho
             generalize hW : Region.wanted _ _ = W
             obtain rfl : W = ((bg && bl) == true) := hW.symm.trans (wanted_of rfl rfl rfl (show a.eval (.tmp 70) = .bool (bg && bl) from (hm.get 12 70 (by kernel_rfl))))
             clear hW
             rcases fls_tru (bg && bl) with hf | hf
             ·rw [if_neg (show ¬ ((bg && bl) == true) = true by rw [hf]; decide)]; exact fun h => Bool.noConfusion (h.symm.trans hf)
             ·rw [if_pos (show ((bg && bl) == true) = true by rw [hf]; decide)]
              obtain ⟨hx0, hx1, hx2⟩ := HCx.out w hb; have h1 := eval_getD ((hm.get 16 74 (by kernel_rfl)) hf); unfold Oper.wp; simp only [execOp]; go_simp; exact ⟨_, rfl, fun _ => rfl, Below.refl _ _⟩
           | 18, _, ho => by
             cases ho
             generalize hW : Region.wanted _ _ = W
             obtain rfl : W = ((bg && bl) == true) := hW.symm.trans (wanted_of rfl rfl rfl (show a.eval (.tmp 70) = .bool (bg && bl) from (hm.get 12 70 (by kernel_rfl))))
             clear hW
             rcases fls_tru (bg && bl) with hf | hf
             ·rw [if_neg (show ¬ ((bg && bl) == true) = true by rw [hf]; decide)]; exact fun h => Bool.noConfusion (h.symm.trans hf)
             ·rw [if_pos (show ((bg && bl) == true) = true by rw [hf]; decide)]
              refine wp_value (st_move rfl ((hs.keeps (by kernel_rfl)).trans rfl)) ⟨_, rfl, fun _ => rfl, Below.refl _ _⟩
           | 19, _, ho => by
             cases ho
             generalize hW : Region.wanted _ _ = W
             obtain rfl : W = ((bg && bl) == true) := hW.symm.trans (wanted_of rfl rfl rfl (show a.eval (.tmp 70) = .bool (bg && bl) from (hm.get 12 70 (by kernel_rfl))))
             clear hW
             rcases fls_tru (bg && bl) with hf | hf
             ·rw [if_neg (show ¬ ((bg && bl) == true) = true by rw [hf]; decide)]; exact fun h => Bool.noConfusion (h.symm.trans hf)
             ·rw [if_pos (show ((bg && bl) == true) = true by rw [hf]; decide)]
              refine wp_value (st_move rfl ((hs.keeps (by kernel_rfl)).trans rfl)) ⟨_, rfl, fun _ => rfl, Below.refl _ _⟩
           | 20, _, ho => by
             cases ho
             generalize hW : Region.wanted _ _ = W
             obtain rfl : W = ((bg && bl) == true) := hW.symm.trans (wanted_of rfl rfl rfl (show a.eval (.tmp 70) = .bool (bg && bl) from (hm.get 12 70 (by kernel_rfl))))
             clear hW
             rcases fls_tru (bg && bl) with hf | hf
             ·rw [if_neg (show ¬ ((bg && bl) == true) = true by rw [hf]; decide)]; exact fun h => Bool.noConfusion (h.symm.trans hf)
             ·rw [if_pos (show ((bg && bl) == true) = true by rw [hf]; decide)]
              have h1 := eval_getD ((hm.get 18 76 (by kernel_rfl)) hf); have h2 := eval_getD ((hm.get 19 77 (by kernel_rfl)) hf); unfold Oper.wp; simp only [execOp]; go_simp; exact ⟨_, rfl, fun _ => rfl, Below.refl _ _⟩
           | 21, _, ho => by
             cases ho
             generalize hW : Region.wanted _ _ = W
             obtain rfl : W = ((bg && bl) == true) := hW.symm.trans (wanted_of rfl rfl rfl (show a.eval (.tmp 70) = .bool (bg && bl) from (hm.get 12 70 (by kernel_rfl))))
             clear hW
             rcases fls_tru (bg && bl) with hf | hf
             ·rw [if_neg (show ¬ ((bg && bl) == true) = true by rw [hf]; decide)]; exact fun h => Bool.noConfusion (h.symm.trans hf)
             ·rw [if_pos (show ((bg && bl) == true) = true by rw [hf]; decide)]
              refine wp_value (st_field rfl ((hm.get 20 78 (by kernel_rfl)) hf) (by kernel_rfl)) ⟨_, rfl, fun _ => rfl, Below.refl _ _⟩
           | 22, _, ho => by
             cases ho
             generalize hW : Region.wanted _ _ = W
             obtain rfl : W = ((bg && bl) == true) := hW.symm.trans (wanted_of rfl rfl rfl (show a.eval (.tmp 70) = .bool (bg && bl) from (hm.get 12 70 (by kernel_rfl))))
             clear hW
             rcases fls_tru (bg && bl) with hf | hf
             ·rw [if_neg (show ¬ ((bg && bl) == true) = true by rw [hf]; decide)]; exact fun h => Bool.noConfusion (h.symm.trans hf)
             ·rw [if_pos (show ((bg && bl) == true) = true by rw [hf]; decide)]
              obtain ⟨hx0, hx1, hx2⟩ := HCi.out w hb; have h1 := eval_getD ((hm.get 21 79 (by kernel_rfl)) hf); unfold Oper.wp; simp only [execOp]; go_simp; exact ⟨_, rfl, fun _ => rfl, Below.refl _ _⟩
           | 23, _, ho => by
             cases ho
             generalize hW : Region.wanted _ _ = W
             obtain rfl : W = ((bg && bl) == true) := hW.symm.trans (wanted_of rfl rfl rfl (show a.eval (.tmp 70) = .bool (bg && bl) from (hm.get 12 70 (by kernel_rfl))))
             clear hW
             rcases fls_tru (bg && bl) with hf | hf
             ·rw [if_neg (show ¬ ((bg && bl) == true) = true by rw [hf]; decide)]; exact fun h => Bool.noConfusion (h.symm.trans hf)
             ·rw [if_pos (show ((bg && bl) == true) = true by rw [hf]; decide)]
              have h1 := eval_getD ((hm.get 17 75 (by kernel_rfl)) hf); have h2 := eval_getD ((hm.get 22 80 (by kernel_rfl)) hf); unfold Oper.wp; simp only [execOp]; go_simp; exact ⟨_, rfl, fun _ => (show Value.bool _ = Value.bool _ by first | rfl | rw [hq] | rw [hqb]), Below.refl _ _⟩
           | (n + 24), hi, _ => absurd hi (by omega)
         have e1 : a.eval (.tmp 70) = .bool (bg && bl) := by cases ho; exact hm.get 12 70 (by kernel_rfl)
         have e2 : (bg && bl) = true → a.eval (.tmp 81) = .bool bq := by cases ho; exact hm.get 23 81 (by kernel_rfl)
         have B9 := Lib.hid hb
         have HM5 := Lib.hid (HM3.out.step B9.out)
         obtain ⟨bb, hbb⟩ : ∃ bb, bb = (bg && bl) := ⟨_, rfl⟩
         rw [← hbb] at e1 e2 Hcase
         clear hm hb hbb hd1 hq hqb
         have hway : (bb = false ∧ (k ∈ s'.1 → ¬ sameB l k i)) ∨ (bb = true ∧ bq = false ∧ (k ∈ s'.1 → ¬ sameB l k i)) ∨ (bb = true ∧ bq = true ∧ k ∈ s'.1 ∧ sameB l k i) := by
          cases hb1 : bb with
          | false => exact .inl ⟨rfl, Hcase.out.1 (.inl hb1)⟩
          | true => cases hb2 : bq with
           | false => exact .inr (.inl ⟨rfl, rfl, Hcase.out.1 (.inr hb2)⟩)
           | true => exact .inr (.inr ⟨rfl, rfl, Hcase.out.2 hb1 hb2⟩)
         clear Hcase
         rcases hway with ⟨hb1, hno⟩ | ⟨hb1, hb2, hno⟩ | ⟨hb1, hb2, hkm, hsm⟩
         ·clear e2
          rw [hb1] at e1
          clear hb1
          have hfr := hs.frame [58, 59, 60, 61, 62, 63, 64, 65, 66, 67, 68, 69, 70, 71, 72, 73, 74, 75, 76, 77, 78, 79, 80, 81, 82] (by kernel_rfl)
          cases ho
          rw [hfr]
          clear hfr hs
          simp only [List.foldl_cons, List.foldl_nil, e1]
          clear e1
          generalize a.eval (.tmp 58) = u58, a.eval (.tmp 59) = u59, a.eval (.tmp 60) = u60, a.eval (.tmp 61) = u61, a.eval (.tmp 62) = u62, a.eval (.tmp 63) = u63, a.eval (.tmp 64) = u64, a.eval (.tmp 65) = u65, a.eval (.tmp 66) = u66, a.eval (.tmp 67) = u67, a.eval (.tmp 68) = u68, a.eval (.tmp 69) = u69, a.eval (.tmp 71) = u71, a.eval (.tmp 72) = u72, a.eval (.tmp 73) = u73, a.eval (.tmp 74) = u74, a.eval (.tmp 75) = u75, a.eval (.tmp 76) = u76, a.eval (.tmp 77) = u77, a.eval (.tmp 78) = u78, a.eval (.tmp 79) = u79, a.eval (.tmp 80) = u80, a.eval (.tmp 82) = u82, a.eval (.tmp 81) = u81
          unfold Oper.wp
          simp only [execOp]
          go_simp
          clear a
          have Hno2 := Lib.hid hno
          clear hno
          go_wp2
          go_roundw
          case rel => exact ⟨k + 1, s', hltk, by go_num, Lib.hid (.inr ⟨Hf.out, .inl ⟨rfl, fun g hg9 hlt9 => by
           rcases Nat.lt_or_ge g k with h | h
           ·exact Hno.out g hg9 h
           ·obtain rfl : g = k := by omega
            exact Hno2.out hg9⟩⟩), Lib.hid ⟨W, Z, HM5.out, HR.out, HI.out⟩⟩
          case measure => simp [intOf]; omega
         ·have E2 := e2 hb1
          rw [hb2] at E2
          rw [hb1] at e1
          clear hb1 hb2
          have hfr := hs.frame [58, 59, 60, 61, 62, 63, 64, 65, 66, 67, 68, 69, 70, 71, 72, 73, 74, 75, 76, 77, 78, 79, 80, 81, 82] (by kernel_rfl)
          cases ho
          rw [hfr]
          clear hfr hs
          simp only [List.foldl_cons, List.foldl_nil, e1, E2]
          clear e1 e2 E2
          generalize a.eval (.tmp 58) = u58, a.eval (.tmp 59) = u59, a.eval (.tmp 60) = u60, a.eval (.tmp 61) = u61, a.eval (.tmp 62) = u62, a.eval (.tmp 63) = u63, a.eval (.tmp 64) = u64, a.eval (.tmp 65) = u65, a.eval (.tmp 66) = u66, a.eval (.tmp 67) = u67, a.eval (.tmp 68) = u68, a.eval (.tmp 69) = u69, a.eval (.tmp 71) = u71, a.eval (.tmp 72) = u72, a.eval (.tmp 73) = u73, a.eval (.tmp 74) = u74, a.eval (.tmp 75) = u75, a.eval (.tmp 76) = u76, a.eval (.tmp 77) = u77, a.eval (.tmp 78) = u78, a.eval (.tmp 79) = u79, a.eval (.tmp 80) = u80, a.eval (.tmp 82) = u82
          unfold Oper.wp
          simp only [execOp]
          go_simp
          clear a
          have Hno2 := Lib.hid hno
          clear hno
          go_wp2
          go_roundw
          case rel => exact ⟨k + 1, s', hltk, by go_num, Lib.hid (.inr ⟨Hf.out, .inl ⟨rfl, fun g hg9 hlt9 => by
           rcases Nat.lt_or_ge g k with h | h
           ·exact Hno.out g hg9 h
           ·obtain rfl : g = k := by omega
            exact Hno2.out hg9⟩⟩), Lib.hid ⟨W, Z, HM5.out, HR.out, HI.out⟩⟩
          case measure => simp [intOf]; omega
         ·have E2 := e2 hb1
          rw [hb2] at E2
          rw [hb1] at e1
          clear hb1 hb2
          have hfr := hs.frame [58, 59, 60, 61, 62, 63, 64, 65, 66, 67, 68, 69, 70, 71, 72, 73, 74, 75, 76, 77, 78, 79, 80, 81, 82] (by kernel_rfl)
          cases ho
          rw [hfr]
          clear hfr hs
          simp only [List.foldl_cons, List.foldl_nil, e1, E2]
          clear e1 e2 E2
          generalize a.eval (.tmp 58) = u58, a.eval (.tmp 59) = u59, a.eval (.tmp 60) = u60, a.eval (.tmp 61) = u61, a.eval (.tmp 62) = u62, a.eval (.tmp 63) = u63, a.eval (.tmp 64) = u64, a.eval (.tmp 65) = u65, a.eval (.tmp 66) = u66, a.eval (.tmp 67) = u67, a.eval (.tmp 68) = u68, a.eval (.tmp 69) = u69, a.eval (.tmp 71) = u71, a.eval (.tmp 72) = u72, a.eval (.tmp 73) = u73, a.eval (.tmp 74) = u74, a.eval (.tmp 75) = u75, a.eval (.tmp 76) = u76, a.eval (.tmp 77) = u77, a.eval (.tmp 78) = u78, a.eval (.tmp 79) = u79, a.eval (.tmp 80) = u80, a.eval (.tmp 82) = u82
          unfold Oper.wp
          simp only [execOp]
          go_simp
          clear a
          have Hkm := Lib.hid hkm
          have Hsm := Lib.hid hsm
          clear hkm hsm
          obtain ⟨zi, hzi⟩ : ∃ zi, Z[i]? = some zi := ⟨_, List.getElem?_eq_getElem (by rw [HR.out.lenZ, Hll.out]; exact hlt)⟩
          have ya := HM5.out.cell1 Hwi.out
          have fa := HM5.out.r1.frozenAt i
          have HM6 := HM5.out.set1 i (k : Int)
          obtain ⟨z6, hz6⟩ : ∃ z6, (W.set i (k : Int))[k]? = some z6 := ⟨_, List.getElem?_eq_getElem (by rw [List.length_set, HR.out.lenW, Hll.out]; exact hltk)⟩
          have yb := HM6.cell1 hz6
          have fb := HM6.r1.frozenAt k
          have HM7 := HM6.set1 k (i : Int)
          have yc := HM7.cell2 hzi
          have fc := HM7.r2.frozenAt i
          obtain ⟨j9, hj9, he9⟩ := RenLaw.exact1_some HI.out.rises Hkm.out Hsm.out (fun g hg h => Hno.out g hg h)
          have Hj9 := Lib.hid hj9
          have He9 := Lib.hid he9
          clear HM6 HM7 hz6 hj9 he9 hzi
          go_wp2
          go_roundw
          case rel => exact ⟨k + 1, exact1 l s' i, hltk, by go_num, Lib.hid (.inr ⟨Hf.out, .inr ⟨rfl, (k, 100), by rw [He9.out, RenLaw.take9_at Hj9.out, if_pos rfl]⟩⟩), Lib.hid (by rw [He9.out]; exact RSt.take HM5.out HR.out HI.out (by rw [Hll.out]; exact hlt) Hf.out (HFr.out i (Nat.le_refl _)) Hj9.out (by omega) (by omega))⟩
          case measure => simp [intOf]; omega
        ·have hwi := (hR.paired i p.1 p.2 (by rw [Hll.out]; exact hlt) hf hp).1
         have Hwi := Lib.hid hwi
         have HNext : Hid (s' = if frsB (at9 l i) then exact1 l s i else s) := Lib.hid (by rw [hf, if_pos rfl]; exact es)
         have hd : decide (((p.1 : Nat) : Int) < 0) = false := decide_eq_false (by omega)
         clear hf hfx es hR hI hMr HIn hp hwi
         go_wp2_with fail
         refine CF.out.mono ?_
         rintro e w3 ⟨rfl, b3⟩
         have HM3 := Lib.hid (HM.out.step b3)
         have y1 := (HMr.out.step b3).cell1 Hwi.out
         clear b3 CF
         go_wp2
         go_roundw
         case rel => exact ⟨i + 1, s', hlt, by go_num, Lib.hid (by rw [HNext.out, ← RenLaw.exFrom_step (by rw [Hll.out]; exact hlt)]; exact HE.out), Lib.hid (fun j hj => by
          rw [HNext.out]
          split
          ·rw [exact1_other (by omega)]
           exact HFr.out j (by omega)
          ·exact HFr.out j (by omega)), HM3⟩
         case measure => simp [intOf]; omega
      ·obtain rfl : n = k := by omega
       have HNext : Hid (s' = if frsB (at9 l i) then exact1 l s i else s) := Lib.hid (by
        obtain ⟨W, Z, hM, hR, hI⟩ := HM.out
        rcases HIn.out with ⟨hf, e⟩ | ⟨hf, ⟨e, hno⟩ | ⟨e, _⟩⟩
        ·rw [hf, e]
         rfl
        ·rw [hf, if_pos rfl, e]
         rw [e] at hI
         exact (RenLaw.exact1_none (fun g hg => hno g hg (by have := (RenLaw.lt_of_g0 (hI.sub g hg)).1; have := Hll.out; omega))).symm
        ·rw [hf, if_pos rfl, e])
       have HM3 := HM
       go_wp2
       go_roundw
       case rel => exact ⟨i + 1, s', hlt, by go_num, Lib.hid (by rw [HNext.out, ← RenLaw.exFrom_step (by rw [Hll.out]; exact hlt)]; exact HE.out), Lib.hid (fun j hj => by
        rw [HNext.out]
        split
        ·rw [exact1_other (by omega)]
         exact HFr.out j (by omega)
        ·exact HFr.out j (by omega)), HM3⟩
       case measure => simp [intOf]; omega
    ·obtain rfl : n = i := by omega
     have hse : s = sE l := by rw [← HE.out, RenLaw.exFrom_end (by rw [Hll.out]; exact Nat.le_refl _)]
     subst hse
     have HMs := HM
     clear HE HFr HM
     go_wp2
     go_loopw [11] (fun s11 wr => ∃ (i : Nat) (s : St), i ≤ n ∧ s11 = .int .i64 i ∧ Hid (lkFrom l (rdOf R) i s = likes l (rdOf R) (F0 l) (sE l)) ∧ Hid (RSt w wr g1 g2 n l s)) (fun s11 _ => n - (intOf s11).toNat)
     case atStart => exact ⟨0, sE l, Nat.zero_le _, rfl, Lib.hid (RenLaw.lkFrom_start l (rdOf R)), HMs⟩
     case round =>
      clear HMs
      obtain ⟨i, s, hi, rfl, HE, HM⟩ := hrel
      obtain ⟨W, Z, hMr, hR, hI⟩ := HM.out
      have HMr := Lib.hid hMr
      have HR := Lib.hid hR
      have HI := Lib.hid hI
      by_cases hlt : i < n
      ·obtain ⟨xi, hxi⟩ : ∃ xi, l[i]? = some xi := ⟨_, List.getElem?_eq_getElem (by rw [Hll.out]; exact hlt)⟩
       have hil : i < l.length := by rw [Hll.out]; exact hlt
       have HXi := Lib.hid hxi
       have HX9 : Hid (at9 l i = xi) := Lib.hid (RenLaw.at9_of hxi)
       clear hxi
       obtain ⟨bA, oA, _, hAe, _, _, _, _, _⟩ := HA.out.cg hlt
       subst hAe
       obtain ⟨c0, c1, c2⟩ := cg_at (HA.out.below hMr.b) HXi.out
       have CF := Lib.hid (r16fresh_any xi wr)
       cases hf : frsB (at9 l i) with
       | false =>
        have hfx : frsB xi = false := by rw [← HX9.out]; exact hf
        rw [hfx] at CF
        have HE2 := Lib.hid (RenLaw.lkFrom_pass (rd := rdOf R) hil (s := s) hf ▸ HE.out)
        clear hf hfx hR hI hMr
        go_wp2_with fail
        refine CF.out.mono ?_
        rintro e w3 ⟨rfl, b3⟩
        have HM3 := Lib.hid (HM.out.step b3)
        clear b3 CF
        go_wp2
        go_roundw
        case rel => exact ⟨i + 1, s, hlt, by go_num, HE2, HM3⟩
        case measure => simp [intOf]; omega
       | true =>
        have hfx : frsB xi = true := by rw [← HX9.out]; exact hf
        rw [hfx] at CF
        have Hf := Lib.hid hf
        obtain ⟨zw, hzw⟩ : ∃ zw, W[i]? = some zw := ⟨_, List.getElem?_eq_getElem (by rw [hR.lenW]; exact hil)⟩
        have hneg := hR.neg hil hf hzw
        have Hzw := Lib.hid hzw
        rcases hp : s.2 i with _ | p
        ·have hz9 : zw < 0 := hneg.2 hp
         have hd1 : decide (0 ≤ zw) = false := decide_eq_false (by omega)
         have Hp := Lib.hid hp
         clear hf hfx hR hI hMr hneg hp hzw
         go_upto_region 21 with (go_at_call 61; refine CF.out.mono ?_; rintro e w3 ⟨rfl, b3⟩; have HM3 := Lib.hid (HMr.out.step b3); have y3 := HM3.out.cell1 Hzw.out; clear b3)
         have HA3 := Lib.hid (HA.out.below HM3.out.b)
         have hr1 := Sl.of_own HM3.out.r1
         have CB := Lib.hid (rbest_any w3 q r n c i n cap _ _ l s W Z R HA3.out hr1 HR.out HI.out hlt (HS.out.step HM3.out.b) hn HL.out)
         clear CF c0 c1 c2 y3 hr1
         go_wp2_with fail
         refine CB.out.mono ?_
         rintro e w4 ⟨hret, b4⟩
         have HM4 := Lib.hid (HM3.out.step b4)
         rcases hb : bestR l (rdOf R) s.1 i with zz | bb
         ·rw [hb] at hret
          obtain ⟨rfl, hzz⟩ := hret
          have e9 : renM l (rdOf R) = .error zz := by
           unfold renM
           rw [← HE.out, RenLaw.lkFrom_err hil Hf.out Hp.out hb]
          have H9 := Lib.hid e9
          clear hb b4 CB e9
          go_wp2
          go_ret2
          refine ⟨?_, HM4.out.b⟩
          rw [H9.out]
          exact ⟨rfl, hzz⟩
         ·rw [hb] at hret
          obtain ⟨av, rfl, hav, hb1, hb2⟩ := hret
          have HE2 := Lib.hid (RenLaw.lkFrom_ok hil Hf.out Hp.out hb ▸ HE.out)
          obtain ⟨b1, b2⟩ := bb
          simp only at hb1 hb2 hav
          by_cases h5 : 50 ≤ b2
          ·have hd9 : decide (50 ≤ b2) = true := decide_eq_true h5
           obtain ⟨g, hg, rfl⟩ := hav h5
           have Hg := Lib.hid hg
           have hgl : g < n := by have := (RenLaw.lt_of_g0 (HI.out.sub g (List.mem_of_getElem? hg))).1; have := Hll.out; omega
           have HE3 : Hid (lkFrom l (rdOf R) (i + 1) (take9 s i b1 b2) = likes l (rdOf R) (F0 l) (sE l)) := Lib.hid (by
            have h := HE2.out
            rw [if_pos (show 50 ≤ ((b1, b2) : Nat × Int).2 from h5)] at h
            exact h)
           obtain ⟨zi, hzi⟩ : ∃ zi, Z[i]? = some zi := ⟨_, List.getElem?_eq_getElem (by rw [HR.out.lenZ]; exact hil)⟩
           have ya := HM4.out.cell1 Hzw.out
           have fa := HM4.out.r1.frozenAt i
           have HM6 := HM4.out.set1 i (g : Int)
           obtain ⟨z6, hz6⟩ : ∃ z6, (W.set i (g : Int))[g]? = some z6 := ⟨_, List.getElem?_eq_getElem (by rw [List.length_set, HR.out.lenW, Hll.out]; exact hgl)⟩
           have yb := HM6.cell1 hz6
           have fb := HM6.r1.frozenAt g
           have HM7 := HM6.set1 g (i : Int)
           have yc := HM7.cell2 hzi
           have fc := HM7.r2.frozenAt i
           clear HM6 HM7 hz6 hzi hg hb b4 CB hav
           go_wp2
           go_roundw
           case rel => exact ⟨i + 1, take9 s i b1 b2, hlt, by go_num, HE3, Lib.hid (RSt.take HM4.out HR.out HI.out hil Hf.out Hp.out Hg.out (by omega) (by omega))⟩
           case measure => simp [intOf]; omega
          ·have hd9 : decide (50 ≤ b2) = false := decide_eq_false h5
           have HE3 : Hid (lkFrom l (rdOf R) (i + 1) s = likes l (rdOf R) (F0 l) (sE l)) := Lib.hid (by
            have h := HE2.out
            rw [if_neg (show ¬ 50 ≤ ((b1, b2) : Nat × Int).2 from h5)] at h
            exact h)
           clear hb b4 CB hav
           go_wp2
           go_roundw
           case rel => exact ⟨i + 1, s, hlt, by go_num, HE3, Lib.hid ⟨W, Z, HM4.out, HR.out, HI.out⟩⟩
           case measure => simp [intOf]; omega
        ·have hz9 : ¬ zw < 0 := fun h => by rw [hneg.1 h] at hp; cases hp
         have hd1 : decide (0 ≤ zw) = true := decide_eq_true (by omega)
         have HE2 := Lib.hid (RenLaw.lkFrom_done (rd := rdOf R) hil hp ▸ HE.out)
         clear hf hfx hR hI hMr hneg hp hzw
         go_wp2_with fail
         refine CF.out.mono ?_
         rintro e w3 ⟨rfl, b3⟩
         have HM3 := Lib.hid (HM.out.step b3)
         have y3 := (HMr.out.step b3).cell1 Hzw.out
         clear b3 CF
         go_wp2
         go_roundw
         case rel => exact ⟨i + 1, s, hlt, by go_num, HE2, HM3⟩
         case measure => simp [intOf]; omega
      ·obtain rfl : n = i := by omega
       have hren : renM l (rdOf R) = .ok (pairsOf l s.2 (F0 l)) := by
        unfold renM
        rw [← HE.out, RenLaw.lkFrom_end (by rw [Hll.out]; exact Nat.le_refl _)]
       have Hren := Lib.hid hren
       obtain ⟨wA, hwA⟩ : ∃ wA, wA = wr := ⟨_, rfl⟩
       subst hwA
       have hlZ := hR.lenZ
       clear hren HE hMr HM
       go_wp2
       go_loopw [15, 16] (fun s15 s16 wr => ∃ (i n9 c9 : Nat) (A9 : Option Addr), i ≤ n ∧ s16 = .int .i64 i ∧ s15 = .slice A9 n9 c9 ∧ Hid (n9 ≤ i) ∧ Hid (Ow wA wr 141 3 A9 n9 c9 (rns (outTo l s.2 i)))) (fun _ s16 _ => n - (intOf s16).toNat)
       case atStart => exact ⟨0, 0, 0, none, Nat.zero_le _, rfl, rfl, Lib.hid (Nat.le_refl _), Lib.hid (Ow.nil_ (Below.refl _ _))⟩
       case round =>
        obtain ⟨i, n9, c9, A9, hi, rfl, rfl, Hn9, HO⟩ := hrel
        have hstep := RenLaw.outTo_step l s.2 i
        by_cases hlt : i < n
        ·obtain ⟨xi, hxi⟩ : ∃ xi, l[i]? = some xi := ⟨_, List.getElem?_eq_getElem (by rw [Hll.out]; exact hlt)⟩
         have hil : i < l.length := by rw [Hll.out]; exact hlt
         have HXi := Lib.hid hxi
         have HX9 : Hid (at9 l i = xi) := Lib.hid (RenLaw.at9_of hxi)
         clear hxi
         obtain ⟨bA, oA, _, hAe, _, _, _, _, _⟩ := HA.out.cg hlt
         subst hAe
         have HAA := Lib.hid (HA.out.below HMr.out.b)
         obtain ⟨c0, c1, c2⟩ := cg_at (HAA.out.below HO.out.2) HXi.out
         have CF := Lib.hid (r16fresh_any xi wr)
         cases hf : frsB (at9 l i) with
         | false =>
          have hfx : frsB xi = false := by rw [← HX9.out]; exact hf
          rw [hfx] at CF
          have e6 : outTo l s.2 (i + 1) = outTo l s.2 i := by rw [hstep, hf]; simp
          have HE6 := Lib.hid e6
          clear hf hfx hstep e6
          go_wp2_with fail
          refine CF.out.mono ?_
          rintro e w3 ⟨rfl, b3⟩
          have HO3 := Lib.hid (HO.out.keep b3)
          clear b3 CF
          go_wp2
          go_roundw
          case rel => exact ⟨i + 1, n9, c9, A9, hlt, by go_num, rfl, Lib.hid (by have := Hn9.out; omega), Lib.hid (by rw [HE6.out]; exact HO3.out)⟩
          case measure => simp [intOf]; omega
         | true =>
          have hfx : frsB xi = true := by rw [← HX9.out]; exact hf
          rw [hfx] at CF
          rcases hp : s.2 i with _ | ⟨gg, sc⟩
          ·have Hwi := Lib.hid (hR.free i hil hf hp)
           have e6 : outTo l s.2 (i + 1) = outTo l s.2 i := by rw [hstep, hf, hp]; simp
           have HE6 := Lib.hid e6
           clear hf hfx hstep e6 hp
           have hd1 : decide ((0 : Int) ≤ -1) = false := by decide
           go_wp2_with fail
           refine CF.out.mono ?_
           rintro e w3 ⟨rfl, b3⟩
           have HO3 := Lib.hid (HO.out.keep b3)
           have y1 := (HMr.out.step HO3.out.2).cell1 Hwi.out
           clear b3 CF
           go_wp2
           go_roundw
           case rel => exact ⟨i + 1, n9, c9, A9, hlt, by go_num, rfl, Lib.hid (by have := Hn9.out; omega), Lib.hid (by rw [HE6.out]; exact HO3.out)⟩
           case measure => simp [intOf]; omega
          ·have hwz := hR.paired i gg sc hil hf hp
           have Hwi := Lib.hid hwz.1
           have Hzi := Lib.hid hwz.2
           have hgg := RenLaw.lt_of_g0 (hI.pair i gg sc hp).2.1
           obtain ⟨xg, hxg⟩ : ∃ xg, l[gg]? = some xg := ⟨_, List.getElem?_eq_getElem hgg.1⟩
           have HXg := Lib.hid hxg
           have e6 : outTo l s.2 (i + 1) = outTo l s.2 i ++ [(xg.1, xi.1, sc)] := by
            rw [hstep, hf, hp, ← HX9.out, ← RenLaw.at9_of hxg]
            rfl
           have HE6 := Lib.hid e6
           have hggn : (gg : Int) < (n : Int) := by have := hgg.1; have := Hll.out; omega
           have hin9 : (i : Int) < (n : Int) := by omega
           have hd1 : decide ((0 : Int) ≤ (gg : Int)) = true := decide_eq_true (by omega)
           clear hf hfx hstep e6 hp hwz hgg hxg
           go_upto_region 33 with (go_at_call 61; refine CF.out.mono ?_; rintro e W9 ⟨rfl, b3⟩; have HO3 := Lib.hid (HO.out.keep b3); have y1 := (HMr.out.step HO3.out.2).cell1 Hwi.out; clear b3)
           clear CF c0 c1 c2 y1
           have q1 : Hid (n9 + 1 ≤ maxLen) := Lib.hid (by have := Hn9.out; simp only [maxLen]; omega)
           have q2 : Hid ((n9 + 1) * 40 ≤ 140737488355328) := Lib.hid (by have := Hn9.out; omega)
           have HO6 := Lib.hid (HO3.out.drew.alloc (.cells #[S xg.1, S xi.1, I sc] 141))
           have hS6 := sl_rn W9.drew 141 (xg.1, xi.1, sc)
           obtain ⟨A5, c5, w5, hrun, hO5, hg5, _⟩ := run_append_sl (P := Tryz.prog) _ wA.heap.size 61 61 141 i0 _ 3 40 Tryz.underlying61 hi0 hz0 hz1 hz2 rfl (by decide) (.slice A9 n9 c9) n9 (rns (outTo l s.2 i)) HO6.out.1 _ 1 1 (rns [(xg.1, xi.1, sc)]) hS6 (one_rns _) q1.out q2.out HO6.out.2.size
           have hb5 : Below wA.heap.size wA w5 := HO6.out.2.grown hg5 HO6.out.2.size (fun k hk => (HO6.out.1.lt k hk).1)
           have HO5 : Hid (Ow wA w5 141 3 A5 (n9 + 1) c5 (rns (outTo l s.2 (i + 1)))) := Lib.hid ⟨by rw [HE6.out, rns_append]; exact hO5, hb5⟩
           have HB := Lib.hid (CJ.bel (w0 := wA) (W0 := W9.drew) (W1 := W9.drew.alloc (.cells #[S xg.1, S xi.1, I sc] 141)) (W2 := w5) HO3.out.2.drew HO6.out.2 hb5)
           have Hrun := Lib.hid hrun
           have Hx2 : Hid (∀ w', Below wA.heap.size wA w' → w'.cell? ⟨g1, i, none⟩ = some (I (gg : Int)) ∧ w'.cell? ⟨g2, i, none⟩ = some (I sc) ∧ w'.cell? ⟨bA, oA + gg * 3, none⟩ = some (S xg.1) ∧ w'.cell? ⟨bA, oA + i * 3, none⟩ = some (S xi.1)) := Lib.hid (fun w' hb' => ⟨(HMr.out.step hb').cell1 Hwi.out, (HMr.out.step hb').cell2 Hzi.out, (cg_at (HAA.out.below hb') HXg.out).1, (cg_at (HAA.out.below hb') HXi.out).1⟩)
           clear hS6 hrun hO5 hg5 hb5 HO6
           obtain ⟨gq, hgq⟩ : ∃ gq, gq = W9.heap.size := ⟨_, rfl⟩
           have Hgq := Lib.hid hgq
           clear hgq
           refine wp_region_pairR (by kernel_rfl) 21 (by kernel_rfl) ?_ (fun j v => rr33Phi bA oA n c i g1 g2 gg n9 c9 gq c5 A9 A5 xg xi sc j v W9) 19 20 (by kernel_rfl) (fun w w' => w' = w) (fun _ => rfl) (CJ W9.drew (W9.drew.alloc (.cells #[S xg.1, S xi.1, I sc] 141)) w5) CJ.step rfl (fun i o hi hi1 hi2 ho a w k' hk hk2 hs hm => ?_) (fun o ho a w hj hs hm => ?_) (fun o ho a w hj hs hm => ?_) (fun o ho a w hj hs hm => ?_)
           ·exact dst_ltC2 (n := 179) (by kernel_rfl)
           ·obtain ⟨y0, y1, y2, y3⟩ := Hx2.out w (HB.out k' w hk)
            exact match i, hi, ho, hi1, hi2 with
            | 0, _, ho, _, _ => by
              cases ho
              rw [if_pos (wanted_none _ rfl)]
              refine wp_value (st_move rfl ((hs.keeps (by kernel_rfl)).trans rfl)) ⟨_, rfl, rfl, rfl⟩
            | 1, _, ho, _, _ => by
              cases ho
              rw [if_pos (wanted_none _ rfl)]
              refine wp_value (st_move rfl ((hs.keeps (by kernel_rfl)).trans rfl)) ⟨_, rfl, rfl, rfl⟩
            | 2, _, ho, _, _ => by
              cases ho
              rw [if_pos (wanted_none _ rfl)]
              refine wp_value (st_move rfl ((hs.keeps (by kernel_rfl)).trans rfl)) ⟨_, rfl, rfl, rfl⟩
            | 3, _, ho, _, _ => by
              cases ho
              rw [if_pos (wanted_none _ rfl)]
              refine wp_value (st_move rfl ((hs.keeps (by kernel_rfl)).trans rfl)) ⟨_, rfl, rfl, rfl⟩
            | 4, _, ho, _, _ => by
              cases ho
              rw [if_pos (wanted_none _ rfl)]
              have h1 := eval_getD (hm.get 2 159 (by kernel_rfl)); have h2 := eval_getD (hm.get 3 160 (by kernel_rfl)); unfold Oper.wp; simp only [execOp]; go_simp; (first | exact ⟨_, rfl, rfl⟩ | exact ⟨_, rfl, rfl, rfl⟩)
            | 5, _, ho, _, _ => by
              cases ho
              rw [if_pos (wanted_none _ rfl)]
              have h1 := eval_getD (hm.get 4 161 (by kernel_rfl)); unfold Oper.wp; simp only [execOp]; go_simp; (first | exact ⟨_, rfl, rfl⟩ | exact ⟨_, rfl, rfl, rfl⟩)
            | 6, _, ho, _, _ => by
              cases ho
              rw [if_pos (wanted_none _ rfl)]
              have h1 := eval_getD (hm.get 1 158 (by kernel_rfl)); have h2 := eval_getD (hm.get 5 162 (by kernel_rfl)); unfold Oper.wp; simp only [execOp]; go_simp; (first | exact ⟨_, rfl, rfl⟩ | exact ⟨_, rfl, rfl, rfl⟩)
            | 7, _, ho, _, _ => by
              cases ho
              rw [if_pos (wanted_none _ rfl)]
              have h1 := eval_getD (hm.get 6 163 (by kernel_rfl)); unfold Oper.wp; simp only [execOp]; go_simp; (first | exact ⟨_, rfl, rfl⟩ | exact ⟨_, rfl, rfl, rfl⟩)
            | 8, _, ho, _, _ => by
              cases ho
              rw [if_pos (wanted_none _ rfl)]
              have h1 := eval_getD (hm.get 7 164 (by kernel_rfl)); unfold Oper.wp; simp only [execOp]; go_simp; (first | exact ⟨_, rfl, rfl⟩ | exact ⟨_, rfl, rfl, rfl⟩)
            | 9, _, ho, _, _ => by
              cases ho
              rw [if_pos (wanted_none _ rfl)]
              refine wp_value (st_move rfl ((hs.keeps (by kernel_rfl)).trans rfl)) ⟨_, rfl, rfl, rfl⟩
            | 10, _, ho, _, _ => by
              cases ho
              rw [if_pos (wanted_none _ rfl)]
              refine wp_value (st_move rfl ((hs.keeps (by kernel_rfl)).trans rfl)) ⟨_, rfl, rfl, rfl⟩
            | 11, _, ho, _, _ => by
              cases ho
              rw [if_pos (wanted_none _ rfl)]
              have h1 := eval_getD (hm.get 9 166 (by kernel_rfl)); have h2 := eval_getD (hm.get 10 167 (by kernel_rfl)); unfold Oper.wp; simp only [execOp]; go_simp; (first | exact ⟨_, rfl, rfl⟩ | exact ⟨_, rfl, rfl, rfl⟩)
            | 12, _, ho, _, _ => by
              cases ho
              rw [if_pos (wanted_none _ rfl)]
              have h1 := eval_getD (hm.get 11 168 (by kernel_rfl)); unfold Oper.wp; simp only [execOp]; go_simp; (first | exact ⟨_, rfl, rfl⟩ | exact ⟨_, rfl, rfl, rfl⟩)
            | 13, _, ho, _, _ => by
              cases ho
              rw [if_pos (wanted_none _ rfl)]
              have h1 := eval_getD (hm.get 12 169 (by kernel_rfl)); unfold Oper.wp; simp only [execOp]; go_simp; (first | exact ⟨_, rfl, rfl⟩ | exact ⟨_, rfl, rfl, rfl⟩)
            | 14, _, ho, _, _ => by
              cases ho
              rw [if_pos (wanted_none _ rfl)]
              refine wp_value (st_move rfl ((hs.keeps (by kernel_rfl)).trans rfl)) ⟨_, rfl, rfl, rfl⟩
            | 15, _, ho, _, _ => by
              cases ho
              rw [if_pos (wanted_none _ rfl)]
              refine wp_value (st_move rfl ((hs.keeps (by kernel_rfl)).trans rfl)) ⟨_, rfl, rfl, rfl⟩
            | 16, _, ho, _, _ => by
              cases ho
              rw [if_pos (wanted_none _ rfl)]
              have h1 := eval_getD (hm.get 14 171 (by kernel_rfl)); have h2 := eval_getD (hm.get 15 172 (by kernel_rfl)); unfold Oper.wp; simp only [execOp]; go_simp; (first | exact ⟨_, rfl, rfl⟩ | exact ⟨_, rfl, rfl, rfl⟩)
            | 17, _, ho, _, _ => by
              cases ho
              rw [if_pos (wanted_none _ rfl)]
              have h1 := eval_getD (hm.get 16 173 (by kernel_rfl)); unfold Oper.wp; simp only [execOp]; go_simp; (first | exact ⟨_, rfl, rfl⟩ | exact ⟨_, rfl, rfl, rfl⟩)
            | 18, _, ho, _, _ => by
              cases ho
              rw [if_pos (wanted_none _ rfl)]
              have h1 := eval_getD (hm.get 8 165 (by kernel_rfl)); have h2 := eval_getD (hm.get 13 170 (by kernel_rfl)); have h3 := eval_getD (hm.get 17 174 (by kernel_rfl)); unfold Oper.wp; simp only [execOp]; go_simp; (first | exact ⟨_, rfl, rfl⟩ | exact ⟨_, rfl, rfl, rfl⟩)
            | 19, _, _, hi1, _ => absurd rfl hi1
            | 20, _, _, _, hi2 => absurd rfl hi2
            | (n + 21), hi, _, _, _ => absurd hi (by omega)
           ·have hj1 : w = W9.drew := hj
            subst hj1
            cases ho
            have h1 := eval_getD (hm.get 18 175 (by kernel_rfl))
            unfold Oper.wp
            simp only [execOp]
            go_simp
            exact ⟨_, rfl, show Value.slice _ _ _ = Value.slice _ _ _ by rw [Hgq.out], rfl⟩
           ·have hj1 : w = W9.drew.alloc (.cells #[S xg.1, S xi.1, I sc] 141) := hj
            subst hj1
            obtain ⟨h1, h2, h3, h4, h5⟩ : a.eval (.tmp 157) = .slice A9 n9 c9 ∧ a.eval (.tmp 176) = .slice (some ⟨gq, 0, none⟩) 1 1 ∧ o.op = .call { callee := .builtin .append, args := #[.tmp 157, .tmp 176], argTypes := #[61, 61] } ∧ o.dst = some 177 ∧ o.type = 61 := by
             cases ho
             exact ⟨hm.get 0 157 (by kernel_rfl), hm.get 19 176 (by kernel_rfl), rfl, rfl, rfl⟩
            rw [Hgq.out] at h2
            have hr := Hrun.out
            simp only [World.size_drew] at hr
            unfold Oper.wp execOp
            simp only [h3, h5, resolve, invoke, builtin, Sem.run_bind, Sem.run_pure, Result.andThen_ok, List.map_toArray, List.map_cons, List.map_nil, h1, h2, hr]
            exact ⟨_, rfl, rfl, rfl⟩
           have e1 : a.eval (.tmp 177) = .slice A5 (n9 + 1) c5 := by cases ho; exact hm.get 20 177 (by kernel_rfl)
           have hfr := hs.frame [157, 158, 159, 160, 161, 162, 163, 164, 165, 166, 167, 168, 169, 170, 171, 172, 173, 174, 175, 176, 177] (by kernel_rfl)
           cases ho
           obtain rfl : w = w5 := hj
           rw [hfr]
           simp only [List.foldl_cons, List.foldl_nil, e1]
           clear hfr hs hm e1
           generalize a.eval (.tmp 157) = u157, a.eval (.tmp 158) = u158, a.eval (.tmp 159) = u159, a.eval (.tmp 160) = u160, a.eval (.tmp 161) = u161, a.eval (.tmp 162) = u162, a.eval (.tmp 163) = u163, a.eval (.tmp 164) = u164, a.eval (.tmp 165) = u165, a.eval (.tmp 166) = u166, a.eval (.tmp 167) = u167, a.eval (.tmp 168) = u168, a.eval (.tmp 169) = u169, a.eval (.tmp 170) = u170, a.eval (.tmp 171) = u171, a.eval (.tmp 172) = u172, a.eval (.tmp 173) = u173, a.eval (.tmp 174) = u174, a.eval (.tmp 175) = u175, a.eval (.tmp 176) = u176
           unfold Oper.wp
           simp only [execOp]
           go_simp
           clear a
           go_wp2
           go_roundw
           case rel => exact ⟨i + 1, n9 + 1, c5, A5, hlt, by go_num, rfl, Lib.hid (by have := Hn9.out; omega), HO5⟩
           case measure => simp [intOf]; omega
        ·obtain rfl : n = i := by omega
         have h9 : outTo l s.2 n = pairsOf l s.2 (F0 l) := by
          unfold outTo F0
          rw [Hll.out]
         have HO9 := HO
         rw [h9] at HO9
         clear h9 HO hstep
         go_wp2
         go_ret2
         refine ⟨?_, HMr.out.b.trans (HO9.out.2.mono HMr.out.b.size)⟩
         rw [Hren.out]
         have hl9 := rns_count HO9.out.sl
         refine ⟨A9, c9, by rw [hl9]; rfl, ?_⟩
         rw [hl9]
         exact HO9.out.sl
end Go.Proofs.YtphnfcgdpdimbaaGreatDoor
