/-
  refs.Decode's first closure: a ref is read. Conditions: the closure's variables hold the reader and the book; MaxLen holds an int.
-/
import Derived.Test.YtegehaokfcamfaaGreatDoorRefsRd
import Derived.Test.YtegehaokfcamfaaGreatDoorChainRegion
namespace Go.Proofs.YtegehaokfcamfaaGreatDoor
open Go.RowKit
open RefsLaw (named okc Val Chg Txn there rightV zv rightT okChs goodC Refs Book Inv)

def d1Phi (W : World) (R : Nat) (s : List UInt8) (v0 : Val) : Nat → Value → World → Prop
  | 0, v, _ => v = .pointer (some ⟨R, 0, none⟩)
  | 1, v, _ => v = S s
  | 2, v, _ => v = .pointer (some ⟨R, 0, none⟩)
  | 3, v, _ => v = vV v0
  | 4, v, w => ∃ g, v = .pointer (some ⟨g, 0, none⟩) ∧ W.heap.size ≤ g ∧ Blk w g 43 #[S [], S []]
  | 5, v, _ => v = S s
  | _, _, _ => True
theorem d1Phi_mono {W : World} {R : Nat} (hR : R < W.heap.size) {s : List UInt8} {v0 : Val} : ∀ (j : Nat) (v : Value) (w w' : World), d1Phi W R s v0 j v w → Fr (fun k => k = R) w w' → d1Phi W R s v0 j v w' := by
  intro j v w w' h hf
  match j, h with
  | 0, h => exact h
  | 1, h => exact h
  | 2, h => exact h
  | 3, h => exact h
  | 4, h =>
    obtain ⟨g, h1, h2, h3⟩ := h
    exact ⟨g, h1, h2, hf.blk h3 (by omega)⟩
  | 5, h => exact h
  | (n + 6), _ => trivial
def d1J (W : World) (R W0 : Nat) (r : Rd) : Nat → Value → World → Prop
  | 0, _, w => RdAt w R W0 r ∧ Fr (fun k => k = R) W w
  | 1, _, w => RdAt w R W0 r.text.2 ∧ Fr (fun k => k = R) W w
  | _, _, w => RdAt w R W0 r.text.2.value.2 ∧ Fr (fun k => k = R) W w
theorem d1J.step {W : World} {R W0 : Nat} {r : Rd} : ∀ (k : Nat) (u : Value) (w w' : World), d1J W R W0 r k u w → Below w.heap.size w w' → d1J W R W0 r k u w'
  | 0, _, _, _, h, hb => ⟨h.1.step hb, h.2.step hb⟩
  | 1, _, _, _, h, hb => ⟨h.1.step hb, h.2.step hb⟩
  | (_ + 2), _, _, _, h, hb => ⟨h.1.step hb, h.2.step hb⟩
theorem d1J.fr {W : World} {R W0 : Nat} {r : Rd} : ∀ (k : Nat) (u : Value) (w : World), d1J W R W0 r k u w → Fr (fun k => k = R) W w
  | 0, _, _, h => h.2
  | 1, _, _, h => h.2
  | (_ + 2), _, _, h => h.2

set_option maxHeartbeats 4000000 in
set_option maxRecDepth 100000 in
theorem dec1_any (R W0 p m cnt B1 B2 : Nat) (v2 : Value) (f : List UInt8 → Option Val) (r : Rd) (w : World) (h : RdAt w R W0 r)
    (hB1 : Blk w B1 84 #[.pointer (some ⟨R, 0, none⟩)]) (hB2 : Blk w B2 27 #[.pointer (some ⟨p, 0, none⟩)]) (hp : Blk w p 73 #[.map (some m), v2])
    (hm : MapIs refsC w m cnt f) (hcnt : cnt < maxLen) (hM : MaxL w) (hg : 0 < W0) (hWm : W0 ≤ m) :
    Calls Tryz.prog 34 #[.pointer (some ⟨B1, 0, none⟩), .pointer (some ⟨B2, 0, none⟩)] w fun e w' => e = .returned (.bool (named r.text.1 && there r.text.2.value.1)) ∧ RdAt w' R W0 r.text.2.value.2 ∧
      MapIs refsC w' m (cnt + 1) (upd f r.text.1 (some r.text.2.value.1)) ∧ Fr (fun k => k = R ∨ k = m) w w' := by
  have H := Lib.hid h
  have HB1 := Lib.hid hB1
  have HB2 := Lib.hid hB2
  have HBp := Lib.hid hp
  have Hm := Lib.hid hm
  have HM := Lib.hid hM
  have hRl := h.lt
  have hW0 : W0 ≤ R := by obtain ⟨_, _, _, _, _, _, _, _, h⟩ := h; exact h
  obtain ⟨_, _, _, hBR, _⟩ := h
  have n1 : B1 ≠ R := hB1.ne_ hBR (by decide)
  have n2 : B2 ≠ R := hB2.ne_ hBR (by decide)
  have n3 : p ≠ R := hp.ne_ hBR (by decide)
  have n4 : m ≠ R := hm.ne_blk hBR
  have l1 := hB1.lt
  have l2 := hB2.lt
  have l3 := hp.lt
  have l4 := hm.lt
  obtain ⟨s, hs⟩ : ∃ s, s = r.text.1 := ⟨_, rfl⟩
  obtain ⟨v0, hv0⟩ : ∃ v, v = r.text.2.value.1 := ⟨_, rfl⟩
  have hgs : s.length ≤ maxLen := by rw [hs]; exact Nat.le_trans (text_short r) (by decide)
  have Hgs := Lib.hid hgs
  have HS := Lib.hid hs
  have HV := Lib.hid hv0
  have CT : Hid (∀ W, RdAt W R W0 r → Calls Tryz.prog 35 #[.pointer (some ⟨R, 0, none⟩)] W (RetRd W R W0 (S s) r.text.2)) := Lib.hid (fun W h => by rw [hs]; exact rdText_any R W0 r W h)
  have CV : Hid (∀ W, RdAt W R W0 r.text.2 → Calls Tryz.prog 36 #[.pointer (some ⟨R, 0, none⟩)] W (RetRd W R W0 (vV v0) r.text.2.value.2)) := Lib.hid (fun W h => by rw [hv0]; exact rdValue_any R W0 _ W h)
  rw [← hs, ← hv0]
  clear hB1 hB2 hp hm hM hBR hs hv0 hgs
  go_enter Tryz.func34, Tryz.ntmps34
  go_wp2
  refine wp_region_chain (by kernel_rfl) 6 (by kernel_rfl) ?_ [1, 3] (by kernel_rfl) (fun w w' => Fr (fun k => k = R) w w') (fun _ _ hb => Fr.of_below hb) (d1Phi w R s v0) (d1Phi_mono hRl) (d1J w R W0 r) d1J.step ⟨undef, H.out.step (below_drewN (Below.refl _ _) 1), (Fr.refl _ _).drew⟩ (fun i o hi hiC ho a w' k u hj hs hm => ?_) (fun t i o ht ho a w' u hj hs hm => ?_) (fun o ho a w' u hj hu hs hm => ?_)
  · exact dst_ltN (n := 21) (by kernel_rfl)
  · exact match i, hi, hiC, ho with
    | 0, _, _, ho => by
        cases ho
        rw [if_pos (wanted_none _ rfl)]
        have hx : w'.cell? ⟨B1, 0, none⟩ = some (.pointer (some ⟨R, 0, none⟩)) := ((d1J.fr _ _ _ hj).blk HB1.out n1).cell 0
        refine wp_value (st_load rfl ((hs.keeps (by kernel_rfl)).trans rfl) (by go_simp)) ⟨_, rfl, rfl, Below.refl _ _⟩
    | 1, _, hiC, _ => absurd (by decide) hiC
    | 2, _, _, ho => by
        cases ho
        rw [if_pos (wanted_none _ rfl)]
        have hx : w'.cell? ⟨B1, 0, none⟩ = some (.pointer (some ⟨R, 0, none⟩)) := ((d1J.fr _ _ _ hj).blk HB1.out n1).cell 0
        refine wp_value (st_load rfl ((hs.keeps (by kernel_rfl)).trans rfl) (by go_simp)) ⟨_, rfl, rfl, Below.refl _ _⟩
    | 3, _, hiC, _ => absurd (by decide) hiC
    | 4, _, _, ho => by
        cases ho
        rw [if_pos (wanted_none _ rfl)]
        have hz := (d1J.fr _ _ _ hj).size
        unfold Oper.wp; simp only [execOp]; go_simp
        exact ⟨_, rfl, ⟨_, rfl, hz, Blk.new w' _ _⟩, balloc (Below.refl _ w') _⟩
    | 5, _, _, ho => by
        cases ho
        rw [if_pos (wanted_none _ rfl)]
        have h1 := eval_getD (hm.get 1 6 (by kernel_rfl)); unfold Oper.wp; simp only [execOp]; go_simp; exact ⟨_, rfl, rfl, Below.refl _ _⟩
    | (n + 6), hi, _, _ => absurd hi (by omega)
  · exact match t, ht, hj with
    | 0, ht, hj => by
        cases ht
        cases ho
        have h1 := eval_getD (hm.get 0 5 (by kernel_rfl))
        unfold Oper.wp; simp only [execOp]; go_simp
        refine (CT.out w' hj.1).mono ?_
        rintro e w2 ⟨rfl, h2, f2⟩
        exact ⟨_, rfl, rfl, ⟨h2, hj.2.trans f2⟩, f2⟩
    | 1, ht, hj => by
        cases ht
        cases ho
        have h1 := eval_getD (hm.get 2 7 (by kernel_rfl))
        unfold Oper.wp; simp only [execOp]; go_simp
        refine (CV.out w' hj.1).mono ?_
        rintro e w2 ⟨rfl, h2, f2⟩
        exact ⟨_, rfl, rfl, ⟨h2, hj.2.trans f2⟩, f2⟩
    | (n + 2), ht, _ => by cases ht
  · have e8 : a.eval (.tmp 8) = vV v0 := by cases ho; exact hm.get 3 8 (by kernel_rfl)
    have e3 : a.eval (.tmp 3) = S s := by cases ho; exact hm.get 5 3 (by kernel_rfl)
    obtain ⟨g, e4, hg0, hgB⟩ : ∃ g, a.eval (.tmp 4) = .pointer (some ⟨g, 0, none⟩) ∧ w.heap.size ≤ g ∧ Blk w' g 43 #[S [], S []] := by cases ho; exact hm.get 4 4 (by kernel_rfl)
    have hfr := hs.frame [3, 4, 5, 6, 7, 8] (by kernel_rfl)
    have HJ := Lib.hid hj
    have HG := Lib.hid hgB
    cases ho
    rw [hfr]
    simp only [List.foldl_cons, List.foldl_nil]
    clear hfr hs hm hu
    generalize a.eval (.tmp 5) = u5
    generalize a.eval (.tmp 6) = u6
    generalize a.eval (.tmp 7) = u7
    generalize a.eval (.tmp 3) = u3 at e3
    generalize a.eval (.tmp 4) = u4 at e4
    generalize a.eval (.tmp 8) = u8 at e8
    subst e3 e4 e8
    have g0 := hgB.cell
    have g1 := hgB.frozen
    have g2 := hgB.lt
    clear hgB hj
    unfold Oper.wp
    simp only [execOp]
    go_simp
    clear a g0 g1
    obtain ⟨w2, hw2⟩ : ∃ w2, w2 = (w'.setCell ⟨g, 0, none⟩ (S v0.id)).setCell ⟨g, 1, none⟩ (S v0.name) := ⟨_, rfl⟩
    have hF2 : Fr (fun k => k = R) w w2 := hw2 ▸ (HJ.out.2.new (p := ⟨g, 0, none⟩) hg0 _).new (p := ⟨g, 1, none⟩) hg0 _
    have hG2 : Blk w2 g 43 #[S v0.id, S v0.name] := hw2 ▸ (HG.out.set_ 0 (S v0.id)).set_ 1 (S v0.name)
    have hR2 : RdAt w2 R W0 r.text.2.value.2 := hw2 ▸ (HJ.out.1.far (p := ⟨g, 0, none⟩) HG.out (by decide) (by decide) (by omega) rfl (S v0.id)).far (p := ⟨g, 1, none⟩) (HG.out.set_ 0 (S v0.id)) (by decide) (by decide) (by omega) rfl _
    rw [← hw2]
    clear hw2
    have HF2 := Lib.hid hF2
    have HR2 := Lib.hid hR2
    have HG2 := Lib.hid hG2
    have hm2 := Hm.out.fr hF2 n4
    have HM2 := Lib.hid (HM.out.fr hF2 (by omega))
    have c1 := (hF2.blk HB2.out n2).cell
    have c2 := (hF2.blk HBp.out n3).cell
    have c3 := hG2.cell
    have hrc : ¬ BlkT w2 m 5 := fun ⟨cs, fr, h⟩ => hm2.no_cells cs fr h
    have Hrc := Lib.hid hrc
    clear hF2 hR2 hG2 HJ HG hrc
    rcases hn : named s with _ | _
    · have Hn := Lib.hid hn
      clear hn
      go_wp2
      go_still_tail 6, (by kernel_rfl)
      go_wp2_with (first
        | (at_mapUpdate; refine wpList_store _ rfl _ _ _ 71 rfl refsC Tryz.underlying71 m cnt _ rfl hm2.drew hcnt s rfl Hgs.out v0 rfl ?_; intro W2 hm3 hg3; have HF3 := Lib.hid ((HF2.out.drew.weak (F := fun k => k = R ∨ k = m) (fun k e => .inl e)).trans (Fr.of_grown hg3 (fun k e => by cases e; exact .inr rfl))); have HR3 := Lib.hid ((HR2.out.step (below_drewN (Below.refl _ _) 1)).fr (E := fun k => k = m) (Fr.of_grown hg3 (fun k e => by cases e; rfl)) (fun k e => by subst e; exact ⟨hWm, n4, Hrc.out⟩)); have HG3 := Lib.hid (HG2.out.drew.grown hg3 (fun e => by cases e; exact hm2.ne_blk HG2.out rfl)); have HM3 := Lib.hid (HM.out.fr HF3.out (fun e => by omega)); have c4 := HG3.out.cell)
        | (go_at_call 30; refine (named_any s _ HM3.out).mono ?_; rintro e w5 ⟨rfl, b5⟩; rw [Hn.out]))
      go_ret
      exact ⟨by rw [Hn.out]; rfl, HR3.out.step b5, hm3.step b5, HF3.out.step b5⟩
    · have Hn := Lib.hid hn
      clear hn
      go_wp2
      go_still_tail 6, (by kernel_rfl)
      go_wp2_with (first
        | (at_mapUpdate; refine wpList_store _ rfl _ _ _ 71 rfl refsC Tryz.underlying71 m cnt _ rfl hm2.drew hcnt s rfl Hgs.out v0 rfl ?_; intro W2 hm3 hg3; have HF3 := Lib.hid ((HF2.out.drew.weak (F := fun k => k = R ∨ k = m) (fun k e => .inl e)).trans (Fr.of_grown hg3 (fun k e => by cases e; exact .inr rfl))); have HR3 := Lib.hid ((HR2.out.step (below_drewN (Below.refl _ _) 1)).fr (E := fun k => k = m) (Fr.of_grown hg3 (fun k e => by cases e; rfl)) (fun k e => by subst e; exact ⟨hWm, n4, Hrc.out⟩)); have HG3 := Lib.hid (HG2.out.drew.grown hg3 (fun e => by cases e; exact hm2.ne_blk HG2.out rfl)); have HM3 := Lib.hid (HM.out.fr HF3.out (fun e => by omega)); have c4 := HG3.out.cell)
        | (go_at_call 30; refine (named_any s _ HM3.out).mono ?_; rintro e w5 ⟨rfl, b5⟩; rw [Hn.out]; have HM5 := Lib.hid (HM3.out.step b5); have c5 := (HG3.out.step b5).cell)
        | (go_at_call 27; refine (there_any v0 _ HM5.out).mono ?_; rintro e w6 ⟨rfl, b6⟩))
      go_ret
      exact ⟨by rw [Hn.out]; rfl, (HR3.out.step b5).step b6, (hm3.step b5).step b6, (HF3.out.step b5).step b6⟩
end Go.Proofs.YtegehaokfcamfaaGreatDoor
