/-
  dolmenlaw14.IndexOne: a path that is set has just that file, and no other path turns but such as can't stand beside it. Conditions: paths are shorter than 2147483648 bytes; MaxLen holds an int.
-/
import Derived.Test.YtpgobnmpgakjpaaDoorIdxMade
import Derived.Test.YtpgobnmpgakjpaaDoorIdxTheirs
import Derived.BigQuiet
namespace Go.Proofs.YtpgobnmpgakjpaaDoor
open Go.RowKit
open PathLaw (under)
open IdxLaw (Ent Key zE Inv sortE inWay)

def onePhi (x : Ent) : Nat → Value → World → Prop
  | 0, v, _ => v = .bool true
  | 1, v, _ => v = .bool false
  | 2, v, _ => v = .bool false
  | 3, v, _ => v = entV x
  | 4, v, _ => v = entV x
  | 5, v, _ => v = entV x
  | 6, v, _ => v = .bool false
  | _, _, _ => True
theorem onePhi_mono {x : Ent} : ∀ (j : Nat) (v : Value) (w w' : World), onePhi x j v w → Below w.heap.size w w' → onePhi x j v w' := by
  intro j v w w' h _
  match j, h with
  | 0, h => exact h
  | 1, h => exact h
  | 2, h => exact h
  | 3, h => exact h
  | 4, h => exact h
  | 5, h => exact h
  | 6, h => exact h
  | (n + 7), _ => trivial
theorem way_eq (q : List UInt8) (e : Ent) : inWay q e.key = (decide (e.path = q) || (decide (e.stage = 0) && (under e.path q || under q e.path))) := rfl
/-- how many of the first k stay -/
def stay (q : List UInt8) (E : List Ent) (k : Nat) : Nat := ((E.take k).filter (fun e => !inWay q e.key)).length
theorem stay_yes {q : List UInt8} {E : List Ent} {k : Nat} {e : Ent} (h : E[k]? = some e) (hw : inWay q e.key = false) : stay q E (k + 1) = stay q E k + 1 := by
  unfold stay
  rw [filter_step h, List.length_append]
  simp [hw]
theorem stay_no {q : List UInt8} {E : List Ent} {k : Nat} {e : Ent} (h : E[k]? = some e) (hw : inWay q e.key = true) : stay q E (k + 1) = stay q E k := by
  unfold stay
  rw [filter_step h, List.length_append]
  simp [hw]

set_option maxRecDepth 100000 in
set_option maxHeartbeats 8000000 in
theorem indexOne_no (A : Option Addr) (n c : Nat) (os : List OpG) (x : Ent) (w : World) (hA : Sl w 10 A n (opsC os)) (hO : ∀ o ∈ os, o.ok) (hx : x.path.length ≤ 2147483648) (hM : MaxL w) (hr : IdxLaw.right x = false ∨ x.stage ≠ 0) :
    Calls Tryd.prog 3 #[.slice A n c, entV x] w fun e w' => e = .returned (.bool true) ∧ Below w.heap.size w w' := by
  have b0 := balloc (Below.refl _ w) (.cells #[S x.path, I x.stage, S x.id, I x.size, I x.stamp] 24)
  have HM0 := Lib.hid (hM.step b0)
  have HA0 := Lib.hid (hA.below b0)
  have HE0 := Lib.hid (Blk.new w 24 #[S x.path, I x.stage, S x.id, I x.size, I x.stamp])
  have C0 := Lib.hid (awake14_any _ HM0.out)
  have HO := Lib.hid hO
  have hset := Lib.hid (fun l => set_no (l := l) hr)
  clear hM hA b0 hO hr
  go_enter Tryd.func3, Tryd.ntmps3
  go_wp2_with (first
    | (go_at_call 6; refine C0.out.mono ?_; rintro e w1 ⟨rfl, b1⟩; have B1 := Lib.hid (bstep (balloc (Below.refl _ w) _) b1); have HA1 := Lib.hid (HA0.out.below b1); have HE1 := Lib.hid (HE0.out.step b1); have HM1 := Lib.hid (HM0.out.step b1); clear b1)
    | (go_at_call 7; refine (made_any w1 A n c os HA1.out HO.out HM1.out).mono ?_; rintro e w2 ⟨p, m, l, rfl, hI2, hv2, hp2, hm2, b2⟩; have B2 := Lib.hid (bstep B1.out b2); have HE2 := HE1.out.step b2; have rE2 := HE2.cell; have HE2h := Lib.hid HE2; have HM2 := Lib.hid (HM1.out.step b2); have I2 := Lib.hid hI2; have V2 := Lib.hid hv2; have hgm : w.heap.size < m := Nat.lt_of_lt_of_le HE1.out.lt hm2; have hle : l.length ≤ 180 := (by have h1 := hI2.map.le; simp [kd] at h1; exact h1); have hmw : m < w2.heap.size := hI2.map.lt; clear b2 hI2 hv2 hp2 hm2 HE2)
    | (go_at_call 8; (with_reducible refine (entries_any w2 p m 180 l I2.out (by omega)).mono ?_); rintro e w3 ⟨A3, c3, rfl, hO3⟩; have B3 := Lib.hid (bstep B2.out hO3.2); have rE3 := (HE2h.out.step hO3.2).cell; have HM3 := Lib.hid (HM2.out.step hO3.2); have I3 := Lib.hid (I2.out.step hO3.2); have O3 := Lib.hid hO3; clear hO3 rE2)
    | (go_at_call 10; refine (mine_any x _).mono ?_; rintro e w4 ⟨rfl, b4⟩; have B4 := Lib.hid (bstep B3.out b4); have HM4 := Lib.hid (HM3.out.step b4); have I4 := Lib.hid (I3.out.step b4); have O4 := Lib.hid (O3.out.keep b4); clear b4)
    | (go_at_call 9; refine (set_any w4 p m 180 l x I4.out (by omega) V2.out.right hx HM4.out).mono ?_; rw [hset.out]; rintro e w5 ⟨rfl, hI5, hF5⟩; have B5 := Lib.hid (below_fr B4.out hF5 (Nat.le_of_lt hgm)); have I5 := Lib.hid hI5; have S5 : Hid (Sl w5 5 A3 l.length (ents (sortE l))) := Lib.hid ((SlF.fr (E := fun j => j = m) ⟨O4.out.sl, fun b off _ e hE => (by have h1 := O3.out.blk e; simp only at h1; have hE' : b = m := hE; omega)⟩ hF5).1); clear hI5 hF5)
    | (go_at_call 8; (with_reducible refine (entries_any w5 p m 181 l I5.out (by omega)).mono ?_); rintro e w6 ⟨A6, c6, rfl, hO6⟩; have B6 := Lib.hid (bstep B5.out hO6.2); have S6 := Lib.hid (S5.out.below hO6.2); have T6 := Lib.hid hO6.sl; clear hO6)
    | (go_at_call 12; (with_reducible refine (theirs_any w6 A6 l.length c6 (sortE l) T6.out (by omega)).mono ?_); rintro e w7 ⟨A7, c7, rfl, hO7⟩; have B7 := Lib.hid (bstep B6.out hO7.2); have S7 := Lib.hid (S6.out.below hO7.2); have T7 := Lib.hid hO7.sl; clear hO7)
    | (go_at_call 12; (with_reducible refine (theirs_any w7 A3 l.length c3 (sortE l) S7.out (by omega)).mono ?_); rintro e w8 ⟨A8, c8, rfl, hO8⟩; have B8 := Lib.hid (bstep B7.out hO8.2); have T8 := Lib.hid (T7.out.below hO8.2); have U8 := Lib.hid hO8.sl; clear hO8)
    | (go_at_call 11; refine (same_yes w8 A7 A8 l.length c7 c8 (sortE l) T8.out U8.out (by omega)).mono ?_; rintro e w9 ⟨rfl, mm, rfl⟩))
  go_ret
  exact ⟨rfl, below_drewN B8.out mm⟩
set_option maxRecDepth 100000 in
set_option maxHeartbeats 8000000 in
theorem indexOne_yes (A : Option Addr) (n c : Nat) (os : List OpG) (x : Ent) (w : World) (hA : Sl w 10 A n (opsC os)) (hO : ∀ o ∈ os, o.ok) (hx : x.path.length ≤ 2147483648) (hM : MaxL w) (hr : IdxLaw.right x = true) (h0 : x.stage = 0) :
    Calls Tryd.prog 3 #[.slice A n c, entV x] w fun e w' => e = .returned (.bool true) ∧ Below w.heap.size w w' := by
  have b0 := balloc (Below.refl _ w) (.cells #[S x.path, I x.stage, S x.id, I x.size, I x.stamp] 24)
  have HM0 := Lib.hid (hM.step b0)
  have HA0 := Lib.hid (hA.below b0)
  have HE0 := Lib.hid (Blk.new w 24 #[S x.path, I x.stage, S x.id, I x.size, I x.stamp])
  have C0 := Lib.hid (awake14_any _ HM0.out)
  have HO := Lib.hid hO
  have hset := Lib.hid (fun l => set_yes (l := l) hr h0)
  have hgx : goodK (x.path, 0) := by have := right_good hr; unfold Ent.key at this; rwa [h0] at this
  have hpl := right_path hr
  clear hM hA b0 hO hr h0
  go_enter Tryd.func3, Tryd.ntmps3
  go_wp2_with (first
    | (go_at_call 6; refine C0.out.mono ?_; rintro e w1 ⟨rfl, b1⟩; have B1 := Lib.hid (bstep (balloc (Below.refl _ w) _) b1); have HA1 := Lib.hid (HA0.out.below b1); have HE1 := Lib.hid (HE0.out.step b1); have HM1 := Lib.hid (HM0.out.step b1); clear b1)
    | (go_at_call 7; refine (made_any w1 A n c os HA1.out HO.out HM1.out).mono ?_; rintro e w2 ⟨p, m, l, rfl, hI2, hv2, hp2, hm2, b2⟩; have B2 := Lib.hid (bstep B1.out b2); have HE2 := HE1.out.step b2; have rE2 := HE2.cell; have HE2h := Lib.hid HE2; have HM2 := Lib.hid (HM1.out.step b2); have I2 := Lib.hid hI2; have V2 := Lib.hid hv2; have hgm : w.heap.size < m := Nat.lt_of_lt_of_le HE1.out.lt hm2; have hle : l.length ≤ 180 := (by have h1 := hI2.map.le; simp [kd] at h1; exact h1); have hmw : m < w2.heap.size := hI2.map.lt; clear b2 hI2 hv2 hp2 hm2 HE2)
    | (go_at_call 8; (with_reducible refine (entries_any w2 p m 180 l I2.out (by omega)).mono ?_); rintro e w3 ⟨A3, c3, rfl, hO3⟩; have B3 := Lib.hid (bstep B2.out hO3.2); have hE3 := HE2h.out.step hO3.2; have rE3 := hE3.cell; have HE3 := Lib.hid hE3; have HM3 := Lib.hid (HM2.out.step hO3.2); have I3 := Lib.hid (I2.out.step hO3.2); have O3 := Lib.hid hO3; clear hO3 rE2 hE3)
    | (go_at_call 10; refine (mine_any x _).mono ?_; rintro e w4 ⟨rfl, b4⟩; have B4 := Lib.hid (bstep B3.out b4); have HE4 := Lib.hid (HE3.out.step b4); have HM4 := Lib.hid (HM3.out.step b4); have I4 := Lib.hid (I3.out.step b4); have O4 := Lib.hid (O3.out.keep b4); clear b4 rE3)
    | (go_at_call 9; refine (set_any w4 p m 180 l x I4.out (by omega) V2.out.right hx HM4.out).mono ?_; rintro e w5 ⟨he, hI5, hF5⟩; rw [hset.out] at he; subst he; have B5 := Lib.hid (below_fr B4.out hF5 (Nat.le_of_lt hgm)); have I5 := Lib.hid hI5; have hE5 := hF5.blk HE4.out (by show ¬ w.heap.size = m; omega); have rE5 := hE5.cell; have HE5 := Lib.hid hE5; have S5 : Hid (Sl w5 5 A3 l.length (ents (sortE l))) := Lib.hid ((SlF.fr (E := fun j => j = m) ⟨O4.out.sl, fun b off _ e hE => (by have h1 := O3.out.blk e; simp only at h1; have hE' : b = m := hE; omega)⟩ hF5).1); have L5 := Lib.hid (IdxLaw.one_law (e := x) V2.out.uniq (by rw [hset.out])); clear hI5 hF5 hE5)
    | (go_at_call 13; have C6 := find_any w5 p m 181 _ x.path 0 I5.out hgx; rw [L5.out.1] at C6; refine C6.mono ?_; clear C6; rintro e w6 ⟨rfl, b6⟩; have B6 := Lib.hid b6))
  obtain ⟨l2, hl2⟩ : ∃ l2, l2 = (IdxLaw.set l x).2 := ⟨_, rfl⟩
  have L2 := L5
  rw [← hl2] at L2
  have I6 := Lib.hid (I5.out.step B6.out)
  rw [← hl2] at I6
  clear hl2 L5
  have HZ7 := Lib.hid (Blk.new w6 32 #[S x.path, I x.stage, S x.id, I x.size, I x.stamp])
  have b7 := balloc (Below.refl _ w6) (.cells #[S x.path, I x.stage, S x.id, I x.size, I x.stamp] 32)
  obtain ⟨W, hW⟩ : ∃ W, W = w6.alloc (.cells #[S x.path, I x.stage, S x.id, I x.size, I x.stamp] 32) := ⟨_, rfl⟩
  obtain ⟨g8, hg8⟩ : ∃ g8, g8 = w6.heap.size := ⟨_, rfl⟩
  obtain ⟨g3, hg3⟩ : ∃ g3, g3 = w.heap.size := ⟨_, rfl⟩
  rw [← hg8] at HZ7
  rw [← hg3] at HE5
  rw [← hW] at HZ7 b7
  have BW := Lib.hid (bstep (bstep B5.out B6.out) b7)
  have HE7 := Lib.hid ((HE5.out.step B6.out).step b7)
  have I7 := Lib.hid (I6.out.step b7)
  have S7 := Lib.hid ((S5.out.below B6.out).below b7)
  simp only [← hW]
  simp only [← hg8, ← hg3]
  clear hW hg8 hg3 rE5 b7
  have hq : eqE x x = true := eqE_iff.2 rfl
  refine wp_region_guards (by kernel_rfl) 7 (by kernel_rfl) ?_ (onePhi x) onePhi_mono (fun i o hi ho a w hb hs hm => ?_) (fun o ho a w hb hs hm => ?_)
  · exact dst_ltT (n := 115) (by kernel_rfl)
  · exact match i, hi, ho with
    | 0, _, ho => by
        cases ho
        rw [if_pos (wanted_none _ rfl)]
        refine wp_value (st_move rfl ((hs.keeps (by kernel_rfl)).trans rfl)) ⟨_, rfl, rfl, Below.refl _ _⟩
    | 1, _, ho => by
        cases ho
        rw [if_pos (wanted_none _ rfl)]
        have h1 := eval_getD (hm.get 0 44 (by kernel_rfl)); unfold Oper.wp; simp only [execOp]; go_simp; exact ⟨_, rfl, rfl, Below.refl _ _⟩
    | 2, _, ho => by
        cases ho
        rw [if_pos (wanted_none _ rfl)]
        refine wp_value (st_move rfl (hm.get 1 45 (by kernel_rfl))) ⟨_, rfl, rfl, Below.refl _ _⟩
    | 3, _, ho => by
        cases ho
        generalize hW : Region.wanted _ _ = W
        obtain rfl : W = (false == false) := hW.symm.trans (wanted_of rfl rfl rfl (show a.eval (.tmp 46) = .bool false from (hm.get 2 46 (by kernel_rfl))))
        clear hW
        rw [if_pos (show (false == false) = true by decide)]
        have r7 := (HZ7.out.step hb).cell; have h1 := eval_getD (show a.eval (.tmp 8) = .pointer (some ⟨g8, 0, none⟩) from (hs.keeps (by kernel_rfl)).trans rfl); unfold Oper.wp; simp only [execOp]; go_simp; exact ⟨_, rfl, rfl, Below.refl _ _⟩
    | 4, _, ho => by
        cases ho
        generalize hW : Region.wanted _ _ = W
        obtain rfl : W = (false == false) := hW.symm.trans (wanted_of rfl rfl rfl (show a.eval (.tmp 46) = .bool false from (hm.get 2 46 (by kernel_rfl))))
        clear hW
        rw [if_pos (show (false == false) = true by decide)]
        have r7 := (HE7.out.step hb).cell; have h1 := eval_getD (show a.eval (.tmp 3) = .pointer (some ⟨g3, 0, none⟩) from (hs.keeps (by kernel_rfl)).trans rfl); unfold Oper.wp; simp only [execOp]; go_simp; exact ⟨_, rfl, rfl, Below.refl _ _⟩
    | 5, _, ho => by
        cases ho
        generalize hW : Region.wanted _ _ = W
        obtain rfl : W = (false == false) := hW.symm.trans (wanted_of rfl rfl rfl (show a.eval (.tmp 46) = .bool false from (hm.get 2 46 (by kernel_rfl))))
        clear hW
        rw [if_pos (show (false == false) = true by decide)]
        have h1 := eval_getD (hm.get 4 48 (by kernel_rfl)); unfold Oper.wp; simp only [execOp]; go_simp; refine (mine_any x w).mono ?_; rintro e w' ⟨rfl, hb'⟩; exact ⟨_, rfl, rfl, hb'⟩
    | 6, _, ho => by
        cases ho
        generalize hW : Region.wanted _ _ = W
        obtain rfl : W = (false == false) := hW.symm.trans (wanted_of rfl rfl rfl (show a.eval (.tmp 46) = .bool false from (hm.get 2 46 (by kernel_rfl))))
        clear hW
        rw [if_pos (show (false == false) = true by decide)]
        have kE := neq_ent; have kG := guard_ent; have h1 := eval_getD (hm.get 3 47 (by kernel_rfl)); have h2 := eval_getD (hm.get 5 49 (by kernel_rfl)); unfold Oper.wp; simp only [execOp]; go_simp; exact ⟨_, rfl, rfl, Below.refl _ _⟩
    | (n + 7), hi, _ => absurd hi (by omega)
  · have e1 : a.eval (.tmp 46) = .bool false := by cases ho; exact hm.get 2 46 (by kernel_rfl)
    have e2 : a.eval (.tmp 50) = .bool false := by cases ho; exact hm.get 6 50 (by kernel_rfl)
    have hfr := hs.frame [44, 45, 46, 47, 48, 49, 50, 51] (by kernel_rfl)
    cases ho
    rw [hfr]
    simp only [List.foldl_cons, List.foldl_nil, e1, e2]
    clear hfr hs hm e1 e2
    generalize a.eval (.tmp 44) = u44
    generalize a.eval (.tmp 45) = u45
    generalize a.eval (.tmp 47) = u47
    generalize a.eval (.tmp 48) = u48
    generalize a.eval (.tmp 49) = u49
    generalize a.eval (.tmp 51) = u51
    unfold Oper.wp
    simp only [execOp]
    go_simp
    clear a
    have BX := Lib.hid (bstep BW.out hb)
    have HEX := Lib.hid (HE7.out.step hb)
    have IX := Lib.hid (I7.out.step hb)
    have SX := Lib.hid (S7.out.below hb)
    have hsl := (IdxLaw.sortE_perm l).length_eq
    have Hall : Hid (stay x.path (sortE l) l.length = (l.filter (fun z => !inWay x.path z.key)).length) := Lib.hid (by
      unfold stay
      rw [List.take_of_length_le (by rw [hsl]; exact Nat.le_refl _)]
      exact ((IdxLaw.sortE_perm l).filter _).length_eq)
    have Hmem : Hid (∀ z ∈ sortE l, inWay x.path z.key = false → IdxLaw.find l2 z.key = some z) := Lib.hid (fun z hz hw => L2.out.2.1 z ((IdxLaw.sortE_perm l).mem_iff.1 hz) hw)
    have Hgood : Hid (∀ z ∈ sortE l, goodK z.key ∧ z.path.length ≤ 150) := Lib.hid (fun z hz => ⟨right_good (V2.out.right z ((IdxLaw.sortE_perm l).mem_iff.1 hz)), right_path (V2.out.right z ((IdxLaw.sortE_perm l).mem_iff.1 hz))⟩)
    have Hlen : Hid (l2.length = stay x.path (sortE l) l.length + 1) := Lib.hid (by rw [Hall.out]; exact L2.out.2.2)
    have hl2 : l2.length ≤ 181 := by rw [L2.out.2.2]; have := List.length_filter_le (fun z => !inWay x.path z.key) l; omega
    have Hstay : Hid (∀ k, stay x.path (sortE l) k ≤ k) := Lib.hid (fun k => filter_le _ _ k)
    obtain ⟨E, hE⟩ : ∃ E, E = sortE l := ⟨_, rfl⟩
    rw [← hE] at SX Hall Hmem Hgood Hlen Hstay
    clear hE hb Hall hsl
    go_wp2
    go_loopw [10, 11, 12, 13, 14] (fun n10 i11 p12 z13 is14 wr => ∃ k : Nat, i11 = .int .i64 k ∧ n10 = .int .i64 ((stay x.path E k + 1 : Nat) : Int) ∧ Hid (k ≤ l.length) ∧ Hid (Below w.heap.size w wr)) (fun _ i11 _ _ _ _ => l.length - (intOf i11).toNat)
    case atStart => exact ⟨0, rfl, rfl, Lib.hid (Nat.zero_le _), Lib.hid (Below.refl _ _)⟩
    case round =>
      obtain ⟨k, rfl, rfl, hk, hb⟩ := hrel
      have rE := (HEX.out.step hb.out).cell
      by_cases hlt : k < l.length
      · obtain ⟨b, off, e, rfl, _, he, x0, x1, x2, x3, x4⟩ := (SX.out.below hb.out).ent hlt
        have He := Lib.hid he
        have hem := List.mem_of_getElem? he
        have hgd := (Hgood.out e hem).1
        have hepl := (Hgood.out e hem).2
        have hcs := Hstay.out k
        have h1c := fun W => under_any e.path x.path W hx
        have h2c := fun W => under_any x.path e.path W (by omega)
        obtain ⟨u1, h1⟩ : ∃ u, u = under e.path x.path := ⟨_, rfl⟩
        obtain ⟨u2, h2⟩ : ∃ u, u = under x.path e.path := ⟨_, rfl⟩
        have Hk : Hid (inWay x.path e.key = (decide (e.path = x.path) || (decide (e.stage = 0) && (u1 || u2)))) := Lib.hid (by rw [h1, h2]; rfl)
        simp only [← h1] at h1c
        simp only [← h2] at h2c
        have D1 := Lib.hid h1c
        have D2 := Lib.hid h2c
        have Hx2 : Hid (∀ w', Below w.heap.size w w' → w'.cell? ⟨b, off + k * 5, none⟩ = some (S e.path) ∧ w'.cell? ⟨b, off + k * 5 + 1, none⟩ = some (I e.stage) ∧ w'.cell? ⟨b, off + k * 5 + 2, none⟩ = some (S e.id) ∧ w'.cell? ⟨b, off + k * 5 + 3, none⟩ = some (I e.size) ∧ w'.cell? ⟨b, off + k * 5 + 4, none⟩ = some (I e.stamp)) := Lib.hid (fun w' hb' => by
          obtain ⟨b2, off2, y, e1, _, hy, z0, z1, z2, z3, z4⟩ := (SX.out.below hb').ent hlt
          cases e1
          obtain rfl : y = e := Option.some.inj (hy.symm.trans He.out)
          exact ⟨z0, z1, z2, z3, z4⟩)
        have HF : Hid (inWay x.path e.key = false → Calls Tryd.prog 13 #[.pointer (some ⟨p, 0, none⟩), S e.path, I e.stage] wr fun e9 w' => e9 = .returned (.tuple #[entV e, .bool true]) ∧ Below wr.heap.size wr w') := Lib.hid (fun hw => by
          have h := find_any wr p m 181 l2 e.path e.stage (IX.out.step hb.out) hgd
          have h3 : IdxLaw.find l2 (e.path, e.stage) = some e := Hmem.out e hem hw
          rw [h3] at h
          exact h)
        have hqe : eqE e e = true := eqE_iff.2 rfl
        have kE := neq_ent
        have kG := guard_ent
        clear he h1 h2 h1c h2c
        have hcase : (e.path = x.path) ∨ (¬ e.path = x.path ∧ e.stage = 0 ∧ (u1 || u2) = true) ∨ (¬ e.path = x.path ∧ ¬ e.stage = 0) ∨ (¬ e.path = x.path ∧ e.stage = 0 ∧ u1 = false ∧ u2 = false) := by
          by_cases h1 : e.path = x.path <;> by_cases h2 : e.stage = 0 <;> cases u1 <;> cases u2 <;> simp [h1, h2]
        rcases hcase with h1 | ⟨h1, h2, h3⟩ | ⟨h1, h2⟩ | ⟨h1, h2, h3, h4⟩
        · have Hst := Lib.hid (stay_no He.out (by rw [Hk.out]; simp [h1]))
          have q1 : (e.path == x.path) = true := beq_iff_eq.2 h1
          clear Hk HF h1 hem
          go_wp2_with (go_at_call 14; first | ((with_reducible refine (D1.out _).mono ?_); rintro e9 w' ⟨rfl, rfl⟩) | ((with_reducible refine (D2.out _).mono ?_); rintro e9 w' ⟨rfl, rfl⟩))
          all_goals
            go_roundw
            case rel => exact ⟨k + 1, by go_num, by rw [Hst.out]; first | done | simp, Lib.hid hlt, hb⟩
            case measure => simp [intOf]; omega
        · have Hst := Lib.hid (stay_no He.out (by rw [Hk.out]; simp [h2, h3]))
          have q1 : (e.path == x.path) = false := beq_eq_false_iff_ne.2 h1
          have q2 : (e.stage == 0) = true := beq_iff_eq.2 h2
          clear Hk HF h1 h2 hem
          cases u1 with
          | true =>
            go_wp2_with (go_at_call 14; first | ((with_reducible refine (D1.out _).mono ?_); rintro e9 w' ⟨rfl, rfl⟩) | ((with_reducible refine (D2.out _).mono ?_); rintro e9 w' ⟨rfl, rfl⟩))
            all_goals
              go_roundw
              case rel => exact ⟨k + 1, by go_num, by rw [Hst.out]; first | done | simp, Lib.hid hlt, hb⟩
              case measure => simp [intOf]; omega
          | false =>
            obtain rfl : u2 = true := by simpa using h3
            go_wp2_with (go_at_call 14; first | ((with_reducible refine (D1.out _).mono ?_); rintro e9 w' ⟨rfl, rfl⟩) | ((with_reducible refine (D2.out _).mono ?_); rintro e9 w' ⟨rfl, rfl⟩))
            all_goals
              go_roundw
              case rel => exact ⟨k + 1, by go_num, by rw [Hst.out]; first | done | simp, Lib.hid hlt, hb⟩
              case measure => simp [intOf]; omega
        · have hw : inWay x.path e.key = false := by rw [Hk.out]; simp [h1, h2]
          have Hst := Lib.hid (stay_yes He.out hw)
          have C5 := Lib.hid (HF.out hw)
          have q1 : (e.path == x.path) = false := beq_eq_false_iff_ne.2 h1
          have q2 : (e.stage == 0) = false := beq_eq_false_iff_ne.2 h2
          clear Hk HF h1 h2 hem hw
          go_wp2_with (first
            | (go_at_call 14; first | ((with_reducible refine (D1.out _).mono ?_); rintro e9 w' ⟨rfl, rfl⟩) | ((with_reducible refine (D2.out _).mono ?_); rintro e9 w' ⟨rfl, rfl⟩))
            | (go_at_call 13; refine C5.out.mono ?_; rintro e9 w7 ⟨rfl, b7⟩; have HB7 := Lib.hid (balloc (bstep hb.out b7) (.cells #[S e.path, I e.stage, S e.id, I e.size, I e.stamp] 32)); have rz := (Blk.new w7 32 #[S e.path, I e.stage, S e.id, I e.size, I e.stamp]).cell; obtain ⟨z0, z1, z2, z3, z4⟩ := Hx2.out _ HB7.out; clear b7 x0 x1 x2 x3 x4 rE))
          all_goals
            go_quiet (fail)
            go_wp2
            go_roundw
            case rel => exact ⟨k + 1, by go_num, by rw [Hst.out]; go_num; first | done | simp, Lib.hid hlt, Lib.hid (below_drewN HB7.out _)⟩
            case measure => simp [intOf]; omega
        · have hw : inWay x.path e.key = false := by rw [Hk.out]; simp [h1, h3, h4]
          have Hst := Lib.hid (stay_yes He.out hw)
          have C5 := Lib.hid (HF.out hw)
          have q1 : (e.path == x.path) = false := beq_eq_false_iff_ne.2 h1
          have q2 : (e.stage == 0) = true := beq_iff_eq.2 h2
          clear Hk HF h1 h2 hem hw
          subst h3 h4
          go_wp2_with (first
            | (go_at_call 14; first | ((with_reducible refine (D1.out _).mono ?_); rintro e9 w' ⟨rfl, rfl⟩) | ((with_reducible refine (D2.out _).mono ?_); rintro e9 w' ⟨rfl, rfl⟩))
            | (go_at_call 13; refine C5.out.mono ?_; rintro e9 w7 ⟨rfl, b7⟩; have HB7 := Lib.hid (balloc (bstep hb.out b7) (.cells #[S e.path, I e.stage, S e.id, I e.size, I e.stamp] 32)); have rz := (Blk.new w7 32 #[S e.path, I e.stage, S e.id, I e.size, I e.stamp]).cell; obtain ⟨z0, z1, z2, z3, z4⟩ := Hx2.out _ HB7.out; clear b7 x0 x1 x2 x3 x4 rE))
          all_goals
            go_quiet (fail)
            go_wp2
            go_roundw
            case rel => exact ⟨k + 1, by go_num, by rw [Hst.out]; go_num; first | done | simp, Lib.hid hlt, Lib.hid (below_drewN HB7.out _)⟩
            case measure => simp [intOf]; omega
      · obtain rfl : k = l.length := by have := hk.out; omega
        have C9 := Lib.hid (entries_any wr p m 181 l2 (IX.out.step hb.out) (by omega))
        go_wp2_with (go_at_call 8; refine C9.out.mono ?_; rintro e w9 ⟨A9, c9, rfl, hO9⟩; have B9 := Lib.hid (bstep (bstep BX.out hb.out) hO9.2); clear hO9)
        go_ret
        refine ⟨ret_bool ?_, B9.out⟩
        have h9 := Hlen.out
        clear Hlen
        simp
        omega
end Go.Proofs.YtpgobnmpgakjpaaDoor
