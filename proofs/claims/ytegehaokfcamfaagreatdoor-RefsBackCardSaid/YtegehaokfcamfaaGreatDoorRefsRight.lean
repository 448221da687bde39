/-
  refs: Txn.right. Conditions: the changes read as a list of fewer than 2^40; texts are no longer than a length may be; MaxLen holds an int.
-/
import Derived.Test.YtegehaokfcamfaaGreatDoorRefsMem
namespace Go.Proofs.YtegehaokfcamfaaGreatDoor
open Go.RowKit
open RefsLaw (named okc Val Chg Txn there rightV zv rightT okChs goodC)

theorem Tryz.zeroI (w : World) : (zeroValue 3).run Tryz.prog w = .ok (seenC.vv 0) w := by kernel_rfl
/-- what has been seen -/
def seenF (l : List Chg) : List UInt8 → Option Int := fun s => if s ∈ l.map (·.ref) then some 1 else none
theorem seenF_snoc {l : List Chg} {k : Nat} {c : Chg} (h : l[k]? = some c) : upd (seenF (l.take k)) c.ref (some 1) = seenF (l.take (k + 1)) := by
  funext s
  rw [List.take_add_one, h]
  unfold upd seenF
  by_cases e : s = c.ref
  · simp [e]
  · simp [e]
theorem seenF_hit {l : List Chg} {s : List UInt8} (h : s ∈ l.map (·.ref)) : (seenF l s).getD 0 = 1 := by rw [seenF, if_pos h]; rfl
theorem seenF_miss {l : List Chg} {s : List UInt8} (h : s ∉ l.map (·.ref)) : (seenF l s).getD 0 = 0 := by rw [seenF, if_neg h]; rfl
theorem okChs_append : ∀ {l k : List Chg} {seen : List (List UInt8)}, okChs seen (l ++ k) = (okChs seen l && okChs ((l.map (·.ref)).reverse ++ seen) k)
  | [], k, seen => by simp [okChs]
  | c :: l, k, seen => by
    rw [List.cons_append, okChs, okChs, okChs_append, List.map_cons, List.reverse_cons, List.append_assoc]
    simp [Bool.and_assoc]
theorem okChs_bad {l : List Chg} {k : Nat} {c : Chg} (h : l[k]? = some c) (hb : c.ref ∈ (l.take k).map (·.ref) ∨ goodC c = false) : okChs [] l = false := by
  have e : l = l.take k ++ (c :: l.drop (k + 1)) := by
    have hk := (List.getElem?_eq_some_iff.1 h)
    obtain ⟨hk, rfl⟩ := hk
    rw [← List.drop_eq_getElem_cons hk, List.take_append_drop]
  rw [e, okChs_append, okChs, List.append_nil]
  rcases hb with hb | hb
  · have : decide (c.ref ∈ ((l.take k).map (·.ref)).reverse) = true := by rw [decide_eq_true_eq, List.mem_reverse]; exact hb
    rw [this]; simp
  · rw [hb]; simp
theorem okChs_snoc {l : List Chg} {k : Nat} {c : Chg} (h : l[k]? = some c) (h0 : okChs [] (l.take k) = true) (h1 : c.ref ∉ (l.take k).map (·.ref)) (h2 : goodC c = true) : okChs [] (l.take (k + 1)) = true := by
  rw [List.take_add_one, h]
  show okChs [] (l.take k ++ [c]) = true
  rw [okChs_append, h0, okChs, okChs, h2]
  have : decide (c.ref ∈ ((l.take k).map (·.ref)).reverse ++ []) = false := by rw [decide_eq_false_iff_not, List.append_nil, List.mem_reverse]; exact h1
  rw [this]; rfl
theorem goodC_iff (c : Chg) : goodC c = true ↔ named c.ref = true ∧ rightV c.old = true ∧ rightV c.new = true ∧ eqV c.old.id c.old.name c.new.id c.new.name = false := by
  rw [eqV_not]
  show _ ↔ _ ∧ _ ∧ _ ∧ ¬ c.old = c.new
  simp [goodC, and_assoc]
theorem seenF_nil : seenF [] = fun _ => none := by funext s; simp [seenF]
theorem goodC_ways (c : Chg) : (goodC c = true ∧ named c.ref = true ∧ rightV c.old = true ∧ rightV c.new = true ∧ eqV c.old.id c.old.name c.new.id c.new.name = false) ∨
    (goodC c = false ∧ (named c.ref = false ∨ (named c.ref = true ∧ rightV c.old = false) ∨ (named c.ref = true ∧ rightV c.old = true ∧ rightV c.new = false) ∨ (named c.ref = true ∧ rightV c.old = true ∧ rightV c.new = true ∧ eqV c.old.id c.old.name c.new.id c.new.name = true))) := by
  have h := goodC_iff c
  generalize goodC c = g at h ⊢
  generalize named c.ref = p at h ⊢
  generalize rightV c.old = q at h ⊢
  generalize rightV c.new = r at h ⊢
  generalize eqV c.old.id c.old.name c.new.id c.new.name = t at h ⊢
  cases g <;> cases p <;> cases q <;> cases r <;> cases t <;> simp_all

theorem rightT_bad {who text : List UInt8} {stamp : Int} {l : List Chg} (h : okChs [] l = false) : rightT ⟨who, text, stamp, l⟩ = false := by simp [rightT, h]

set_option maxHeartbeats 2000000 in
set_option maxRecDepth 100000 in
theorem rightT_any (who text : List UInt8) (stamp : Int) (A : Option Addr) (n c : Nat) (l : List Chg) (w : World) (hA : Sl w 5 A n (chs l)) (hn : n ≤ 1759218604390) (hr : ∀ c ∈ l, c.ref.length ≤ maxLen) (hM : MaxL w) :
    Calls Tryz.prog 25 #[txV who text stamp A n c] w fun e w' => e = .returned (.bool (rightT ⟨who, text, stamp, l⟩)) ∧ Below w.heap.size w w' := by
  have hlen := Lib.hid (chs_count hA)
  have HA := Lib.hid hA
  have HR := Lib.hid hr
  have hmm := @run_makeMap Tryz.prog
  have kE := eql_val
  have kG := guard_val
  clear hA hr
  go_enter Tryz.func25, Tryz.ntmps25
  go_wp2
  go_loopw [11] (fun i wr => ∃ k : Nat, k ≤ n ∧ i = .int .i64 k ∧ MapIs seenC wr (w.heap.size + 1) k (seenF (l.take k)) ∧ Below w.heap.size w wr ∧ Blk wr w.heap.size 37 #[S who, S text, I stamp, .slice A n c] ∧ w.heap.size + 1 < wr.heap.size ∧ Hid (okChs [] (l.take k) = true)) (fun i _ => n - (intOf i).toNat)
  case atStart => exact ⟨0, Nat.zero_le _, rfl, by rw [List.take_zero, seenF_nil, show w.heap.size + 1 = (w.alloc (.cells #[S who, S text, I stamp, .slice A n c] 37)).heap.size by simp]; exact MapIs.made seenC _, balloc (balloc (Below.refl _ w) _) _, (Blk.new w _ _).alloc _, by simp, Lib.hid rfl⟩
  case round =>
    obtain ⟨k, hk, rfl, hmap, hB, hT, hz, hok⟩ := hrel
    have HT := Lib.hid hT
    have rT := hT.cell
    by_cases hlt : k < n
    · obtain ⟨b, off, x, rfl, hb, hx, x0, x1, x2, x3, x4⟩ := (HA.out.below hB).chg hlt
      have hg := HR.out x (List.mem_of_getElem? hx)
      have Hx := Lib.hid hx
      have hkm : k < maxLen := by simp only [maxLen]; omega
      have hm1 := hmap.alloc (.cells #[S x.ref, S x.old.id, S x.old.name, S x.new.id, S x.new.name] 58)
      have hB1 := Lib.hid (balloc hB (.cells #[S x.ref, S x.old.id, S x.old.name, S x.new.id, S x.new.name] 58))
      have hC1 := Blk.new wr 58 #[S x.ref, S x.old.id, S x.old.name, S x.new.id, S x.new.name]
      clear hx hmap hB rT hT
      by_cases hdup : x.ref ∈ (l.take k).map (·.ref)
      · have e1 : seenC.vv ((seenF (l.take k) x.ref).getD 0) = I 1 := congrArg I (seenF_hit hdup)
        have e2 : seenC.vv ((upd (seenF (l.take k)) x.ref (some 2) x.ref).getD 0) = I 2 := congrArg I (by rw [upd, if_pos rfl]; rfl)
        have E1 := Lib.hid e1
        have E2 := Lib.hid e2
        have Hd := Lib.hid hdup
        clear e1 e2 hdup
        go_wp2_with (first
          | (at_lookup; refine wpList_look _ rfl _ _ 105 rfl seenC Tryz.underlying105 0 (Tryz.zeroI _) (w.heap.size + 1) k _ rfl hm1 x.ref rfl hg ?_; rw [E1.out])
          | (at_lookup; refine wpList_look _ rfl _ _ 105 rfl seenC Tryz.underlying105 0 (Tryz.zeroI _) (w.heap.size + 1) (k + 1) _ rfl hm2 x.ref rfl hg ?_; rw [E2.out])
          | (at_mapUpdate; refine wpList_store _ rfl _ _ _ 105 rfl seenC Tryz.underlying105 (w.heap.size + 1) k _ rfl hm1 hkm x.ref rfl hg 2 rfl ?_; intro W2 hm2 hg2; have HC2 := Lib.hid (hC1.grown hg2 (by simp; omega)); have rc2 := HC2.out.cell; have HB2 := Lib.hid (hB1.out.grown hg2 hB1.out.size (fun j e => by cases e; omega)); have HM2 := Lib.hid (hM.step HB2.out)))
        go_ret
        exact ⟨ret_eq (rightT_bad (okChs_bad Hx.out (.inl Hd.out))), HB2.out⟩
      · have e1 : seenC.vv ((seenF (l.take k) x.ref).getD 0) = I 0 := congrArg I (seenF_miss hdup)
        have e2 : seenC.vv ((upd (seenF (l.take k)) x.ref (some 1) x.ref).getD 0) = I 1 := congrArg I (by rw [upd, if_pos rfl]; rfl)
        have E1 := Lib.hid e1
        have E2 := Lib.hid e2
        have Hd := Lib.hid hdup
        have hways := goodC_ways x
        clear e1 e2 hdup
        rcases hways with ⟨hgc, w1, w2, w3, w4⟩ | ⟨hgc, w1 | ⟨w1, w2⟩ | ⟨w1, w2, w3⟩ | ⟨w1, w2, w3, w4⟩⟩
        all_goals
          have Hgc := Lib.hid hgc
          clear hgc
          go_wp2_with (first
            | (at_lookup; refine wpList_look _ rfl _ _ 105 rfl seenC Tryz.underlying105 0 (Tryz.zeroI _) (w.heap.size + 1) k _ rfl hm1 x.ref rfl hg ?_; rw [E1.out])
            | (at_lookup; refine wpList_look _ rfl _ _ 105 rfl seenC Tryz.underlying105 0 (Tryz.zeroI _) (w.heap.size + 1) (k + 1) _ rfl hm2 x.ref rfl hg ?_; rw [E2.out])
            | (at_mapUpdate; refine wpList_store _ rfl _ _ _ 105 rfl seenC Tryz.underlying105 (w.heap.size + 1) k _ rfl hm1 hkm x.ref rfl hg 1 rfl ?_; intro W2 hm2 hg2; have HC2 := Lib.hid (hC1.grown hg2 (by simp; omega)); have rc2 := HC2.out.cell; have HB2 := Lib.hid (hB1.out.grown hg2 hB1.out.size (fun j e => by cases e; omega)); have HM2 := Lib.hid (hM.step HB2.out))
            | (go_at_call 30; (with_reducible refine (named_any _ _ HM2.out).mono ?_); rintro e W3 ⟨rfl, b3⟩; have HC3 := Lib.hid (HC2.out.step b3); have rc3 := HC3.out.cell; have HM3 := Lib.hid (HM2.out.step b3); have HB3 := Lib.hid (bstep HB2.out b3))
            | (go_at_call 53; (with_reducible refine (rightV_any x.old _ HM3.out).mono ?_); rintro e W4 ⟨rfl, b4⟩; have HC4 := Lib.hid (HC3.out.step b4); have rc4 := HC4.out.cell; have HM4 := Lib.hid (HM3.out.step b4); have HB4 := Lib.hid (bstep HB3.out b4))
            | (go_at_call 53; (with_reducible refine (rightV_any x.new _ HM4.out).mono ?_); rintro e W5 ⟨rfl, b5⟩; have HC5 := Lib.hid (HC4.out.step b5); have rc5 := HC5.out.cell; have HB5 := Lib.hid (bstep HB4.out b5)))
          all_goals first
            | (go_roundw
               case rel => exact ⟨k + 1, by omega, by go_num, by rw [← seenF_snoc Hx.out]; exact ((hm2.step b3).step b4).step b5, HB5.out, ((((HT.out.alloc _).grown hg2 (by simp)).step b3).step b4).step b5, (((hm2.step b3).step b4).step b5).lt, Lib.hid (okChs_snoc Hx.out hok.out Hd.out Hgc.out)⟩
               case measure => simp [intOf]; omega)
            | (go_ret
               exact ⟨ret_eq (rightT_bad (okChs_bad Hx.out (.inr Hgc.out))), by first | exact HB5.out | exact HB4.out | exact HB3.out⟩)
    · obtain rfl : k = n := by omega
      have hall : l.take k = l := List.take_of_length_le (by rw [hlen.out]; exact Nat.le_refl _)
      rw [hall] at hok
      clear hall hmap
      have HB := Lib.hid hB
      clear hB
      go_wp2
      all_goals
        go_ret
        refine ⟨ret_eq ?_, HB.out⟩
        simp only [rightT, hok.out, Bool.true_and]
        rw [hlen.out, Bool.eq_iff_iff]
        simp
        try omega
end Go.Proofs.YtegehaokfcamfaaGreatDoor
