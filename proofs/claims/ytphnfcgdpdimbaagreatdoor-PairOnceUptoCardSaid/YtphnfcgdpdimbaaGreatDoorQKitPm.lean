/-
  Texts merged: PairSplit, PairDelete, PairMem, PairWords, PairExact, PairRenames. What each law says and asks stands at its head.
-/
import Derived.Test.YtphnfcgdpdimbaaGreatDoorQKitD
import Derived.Test.YtphnfcgdpdimbaaGreatDoorQKitW
import Derived.BigQuiet
import Derived.Test.YtphnfcgdpdimbaaGreatDoorQKitX
import Derived.Deep.RegionLaw
import Derived.Laws.IdiomCopy
import Derived.Lib.SliceRun
import Derived.Deep.Upon
import Derived.StillTailTactics
import Derived.Shelf.Abstract
namespace Go.Proofs.YtphnfcgdpdimbaaGreatDoor
open Go.RowKit
def Ap (u v : Value) : Prop := u.ownBlock = none ∨ v.ownBlock = none ∨ u.ownBlock ≠ v.ownBlock
theorem Ap.keeps {u v : Value} (h : Ap u v) : v.ownBlock = none ∨ v.ownBlock ≠ u.ownBlock := by
 rcases h with h | h | h
 ·rcases e : v.ownBlock with _ | k
  ·exact .inl rfl
  ·exact .inr (by rw [h]; simp)
 ·exact .inl h
 ·exact .inr (fun e => h e.symm)
theorem Ap.symm {u v : Value} (h : Ap u v) : Ap v u := by
 rcases h with h | h | h
 ·exact .inr (.inl h)
 ·exact .inl h
 ·exact .inr (.inr (fun e => h e.symm))
theorem Ap.grown {u u' v : Value} {w : World} {base sz n : Nat} {e : TypeId} {xs : List Value} (h : Ap u v) (hv : w.ownsRow base e sz v n xs) (hu : u'.ownBlock = u.ownBlock ∨ u'.ownBlock = some w.heap.size) : Ap u' v := by
 rcases hu with hu | hu
 ·unfold Ap at h ⊢
  rw [hu]
  exact h
 ·rcases e : v.ownBlock with _ | k
  ·exact .inr (.inl e)
  ·refine .inr (.inr ?_)
   rw [hu, e]
   have := (hv.lt k e).2
   intro h2
   have h3 := Option.some.inj h2
   omega
set_option maxHeartbeats 4000000 in
set_option maxRecDepth 100000 in
theorem psplit_any (g : FuncId) (lb : Array Value) (eg : ∀ args w, (callFunc g args).run Tryz.prog w = .ok (.enter g args) w) (f : Chg3 → Bool) (A : Option Addr) (n c : Nat) (l : List Chg3) (w : World) (hA : Sl w 3 A n (cgs l)) (hn : n ≤ 1000000)
  (hF : ∀ x ∈ l, ∀ W, Below w.heap.size w W → Calls Tryz.prog g (#[.agg #[S x.1, S x.2.1, S x.2.2]] ++ lb) W fun e w' => e = .returned (.bool (f x)) ∧ Below W.heap.size W w') :
  Calls Tryz.prog 56 #[.slice A n c, .func (.func g) #[] lb] w fun e w' => ∃ A1 n1 c1 A2 n2 c2, e = .returned (.tuple #[.slice A1 n1 c1, .slice A2 n2 c2]) ∧ n1 = (l.filter f).length ∧ n2 = (l.filter (fun x => !f x)).length ∧
   Ow w w' 124 3 A1 n1 c1 (cgs (l.filter f)) ∧ Ow w w' 124 3 A2 n2 c2 (cgs (l.filter (fun x => !f x))) ∧ Ap (.slice A1 n1 c1) (.slice A2 n2 c2) := by
 obtain ⟨i0, hi0, hz0, hz1, hz2⟩ := info_parts Tryz.infoChg
 have hlen := Lib.hid (cgs_count hA)
 have HA := Lib.hid hA
 have HF := Lib.hid hF
 clear hA hF
 go_enter Tryz.func56, Tryz.ntmps56
 go_wp2
 go_loopw [4, 5, 10] (fun s4 s5 s10 wr => ∃ (k n1 c1 n2 c2 : Nat) (A1 A2 : Option Addr), k ≤ n ∧ s10 = .int .i64 k ∧ s4 = .slice A1 n1 c1 ∧ s5 = .slice A2 n2 c2 ∧ Hid (n1 = ((l.take k).filter f).length) ∧ Hid (n2 = ((l.take k).filter (fun x => !f x)).length) ∧
   Hid (Ow w wr 124 3 A1 n1 c1 (cgs ((l.take k).filter f))) ∧ Hid (Ow w wr 124 3 A2 n2 c2 (cgs ((l.take k).filter (fun x => !f x)))) ∧ Hid (Ap (.slice A1 n1 c1) (.slice A2 n2 c2))) (fun _ _ s10 _ => n - (intOf s10).toNat)
 case atStart => exact ⟨0, 0, 0, 0, 0, none, none, Nat.zero_le _, rfl, rfl, rfl, Lib.hid (by simp), Lib.hid (by simp), Lib.hid (by simp only [List.take_zero, List.filter_nil]; exact Ow.nil_ (Below.refl _ _)), Lib.hid (by simp only [List.take_zero, List.filter_nil]; exact Ow.nil_ (Below.refl _ _)), Lib.hid (.inl (by simp [Value.ownBlock]))⟩
 case round =>
  obtain ⟨k, n1, c1, n2, c2, A1, A2, hk, rfl, rfl, rfl, H1, H2, HO1, HO2, HP⟩ := hrel
  by_cases hlt : k < n
  ·obtain ⟨b, off, x, rfl, _, hx, x0, x1, x2⟩ := (HA.out.below HO1.out.2).cg hlt
   have Hx := Lib.hid hx
   have hb1 := balloc HO1.out.2 (.cells #[S x.1, S x.2.1, S x.2.2] 124)
   have C := Lib.hid (HF.out x (List.mem_of_getElem? hx) _ hb1)
   have hbd1 : n1 ≤ 1000000 := by have := H1.out; have := List.length_filter_le f (l.take k); rw [List.length_take] at this; omega
   have hbd2 : n2 ≤ 1000000 := by have := H2.out; have := List.length_filter_le (fun x => !f x) (l.take k); rw [List.length_take] at this; omega
   have hB := Blk.new wr 124 #[S x.1, S x.2.1, S x.2.2]
   have HB := Lib.hid hB
   have HO1' := Lib.hid (HO1.out.alloc (.cells #[S x.1, S x.2.1, S x.2.2] 124))
   have HO2' := Lib.hid (HO2.out.alloc (.cells #[S x.1, S x.2.1, S x.2.2] 124))
   clear hx hb1 hB
   rcases hd : f x with _ | _
   ·rw [hd] at C
    have HE1 : Hid ((l.take (k + 1)).filter f = (l.take k).filter f) := Lib.hid (by rw [List.take_add_one, Hx.out, List.filter_append]; simp [hd])
    have HE2 : Hid ((l.take (k + 1)).filter (fun x => !f x) = (l.take k).filter (fun x => !f x) ++ [x]) := Lib.hid (by rw [List.take_add_one, Hx.out, List.filter_append]; simp [hd])
    have q1 := Lib.hid (show n2 + 1 ≤ maxLen by simp only [maxLen]; omega)
    have q2 := Lib.hid (show (n2 + 1) * 48 ≤ 140737488355328 by omega)
    clear hd
    go_wp2_with fail
    refine C.out.mono ?_
    rintro e w2 ⟨rfl, b2⟩
    have r2 := (HB.out.step b2).cell
    have HS6 := Lib.hid (sl_cg w2 124 x)
    have HO2'' := Lib.hid ((HO2'.out.keep b2).alloc (.cells #[S x.1, S x.2.1, S x.2.2] 124))
    have HO1'' := Lib.hid ((HO1'.out.keep b2).alloc (.cells #[S x.1, S x.2.1, S x.2.2] 124))
    go_wp2_with (at_builtin; refine wpList_append_sl _ rfl (.tmp 21) (.tmp 23) _ rfl w 124 i0 _ 3 48 Tryz.underlying59 hi0 hz0 hz1 hz2 rfl (by decide) A2 n2 c2 _ rfl HO2''.out _ 1 1 (cgs [x]) rfl HS6.out (one_cgs _) q1.out q2.out ?_; intro A5 c5 w5 hO5 hg5 hat5; have HO5 := Lib.hid hO5; have HO9 := Lib.hid (HO1''.out.grown hg5 HP.out.symm.keeps (fun k hk => (HO2''.out.1.lt k hk).1)); have HP5 := Lib.hid (HP.out.symm.grown HO1''.out.1 hat5).symm; clear hO5 hg5 hat5)
    go_roundw
    case rel => exact ⟨k + 1, n1, c1, n2 + 1, c5, A1, A5, hlt, by go_num, rfl, rfl, Lib.hid (by rw [HE1.out]; exact H1.out), Lib.hid (by rw [HE2.out, List.length_append, ← H2.out]; rfl), Lib.hid (by rw [HE1.out]; exact HO9.out), Lib.hid (by rw [HE2.out, cgs_append]; exact HO5.out), HP5⟩
    case measure => simp [intOf]; omega
   ·rw [hd] at C
    have HE1 : Hid ((l.take (k + 1)).filter f = (l.take k).filter f ++ [x]) := Lib.hid (by rw [List.take_add_one, Hx.out, List.filter_append]; simp [hd])
    have HE2 : Hid ((l.take (k + 1)).filter (fun x => !f x) = (l.take k).filter (fun x => !f x)) := Lib.hid (by rw [List.take_add_one, Hx.out, List.filter_append]; simp [hd])
    have q1 := Lib.hid (show n1 + 1 ≤ maxLen by simp only [maxLen]; omega)
    have q2 := Lib.hid (show (n1 + 1) * 48 ≤ 140737488355328 by omega)
    clear hd
    go_wp2_with fail
    refine C.out.mono ?_
    rintro e w2 ⟨rfl, b2⟩
    have r2 := (HB.out.step b2).cell
    have HS6 := Lib.hid (sl_cg w2 124 x)
    have HO2'' := Lib.hid ((HO2'.out.keep b2).alloc (.cells #[S x.1, S x.2.1, S x.2.2] 124))
    have HO1'' := Lib.hid ((HO1'.out.keep b2).alloc (.cells #[S x.1, S x.2.1, S x.2.2] 124))
    go_wp2_with (at_builtin; refine wpList_append_sl _ rfl (.tmp 17) (.tmp 19) _ rfl w 124 i0 _ 3 48 Tryz.underlying59 hi0 hz0 hz1 hz2 rfl (by decide) A1 n1 c1 _ rfl HO1''.out _ 1 1 (cgs [x]) rfl HS6.out (one_cgs _) q1.out q2.out ?_; intro A5 c5 w5 hO5 hg5 hat5; have HO5 := Lib.hid hO5; have HO9 := Lib.hid (HO2''.out.grown hg5 HP.out.keeps (fun k hk => (HO1''.out.1.lt k hk).1)); have HP5 := Lib.hid (HP.out.grown HO2''.out.1 hat5); clear hO5 hg5 hat5)
    go_roundw
    case rel => exact ⟨k + 1, n1 + 1, c5, n2, c2, A5, A2, hlt, by go_num, rfl, rfl, Lib.hid (by rw [HE1.out, List.length_append, ← H1.out]; rfl), Lib.hid (by rw [HE2.out]; exact H2.out), Lib.hid (by rw [HE1.out, cgs_append]; exact HO5.out), Lib.hid (by rw [HE2.out]; exact HO9.out), HP5⟩
    case measure => simp [intOf]; omega
  ·obtain rfl : k = n := by omega
   rw [List.take_of_length_le (by rw [hlen.out]; exact Nat.le_refl _)] at H1 H2 HO1 HO2
   go_wp2
   go_ret2
   exact ⟨A1, n1, c1, A2, n2, c2, rfl, H1.out, H2.out, HO1.out, HO2.out, HP.out⟩
theorem Tryz.sizeChg (w : World) : (sizeOf 124).run Tryz.prog w = .ok 3 w := by kernel_rfl
theorem run_clear_cg (w : World) (ty : TypeId) (g c : Nat) (hc : ∀ j, j < 3 → (w.cell? ⟨g, 0 + j, none⟩).isSome = true) (hf : ∀ j, j < 3 → w.frozen? ⟨g, 0 + j, none⟩ = false) :
  (Builtin.clear_ #[59] ty #[.slice (some ⟨g, 0, none⟩) 1 c]).run Tryz.prog w = .ok (.tuple #[]) (w.setCells g 0 [S [], S [], S []]) := by
 have hzc : (Builtin.zeroCells (Value.agg #[S [], S [], S []]).cells 1).toList = [S [], S [], S []] := by kernel_rfl
 have hst := run_storeCells_cells (P := Tryz.prog) g 0 [S [], S [], S []] 0 w (by simpa using hc) (by simpa using hf) (by intro v hv; simp at hv; rcases hv with rfl | rfl | rfl <;> rfl)
 simp only [Nat.add_zero] at hst
 simp [Builtin.clear_, run_underlying Tryz.underlying59, hzc, hst]
theorem fr_setCells (w : World) (g o : Nat) (vs : List Value) : Fr (fun k => k = g) w (w.setCells g o vs) := by
 induction vs generalizing o w with
 | nil => exact Fr.refl _ _
 | cons v r ih => exact ((Fr.refl (fun k => k = g) w).setCell (p := ⟨g, o, none⟩) rfl v).trans (ih _ _)
set_option maxHeartbeats 1000000 in
set_option maxRecDepth 100000 in
theorem delete1_any (g c : Nat) (w : World) (h1 : 1 ≤ c) (hm : c ≤ 9223372036854775807) (hc : ∀ j, j < 3 → (w.cell? ⟨g, 0 + j, none⟩).isSome = true) (hf : ∀ j, j < 3 → w.frozen? ⟨g, 0 + j, none⟩ = false) :
  Calls Tryz.prog 214 #[.slice (some ⟨g, 0, none⟩) 1 c, I 0, I 1] w fun e w' => e = .returned (.slice (some ⟨g, 0, none⟩) 0 c) ∧ Fr (fun k => k = g) w w' := by
 obtain ⟨i0, hi0, hz0, hz1, hz2⟩ := info_parts Tryz.infoChg
 obtain ⟨ad, had⟩ : ∃ ad : Addr, (if c = 1 then some (⟨g, 0, none⟩ : Addr) else some ⟨g, 3, none⟩) = some ad := by split <;> exact ⟨_, rfl⟩
 have Had := Lib.hid had
 have hc0 : ¬ c = 0 := by omega
 clear had
 have hcl : ∀ ty, (Builtin.clear_ #[59] ty #[.slice (some ⟨g, 0, none⟩) 1 c]).run Tryz.prog (w.drew.setCells g 0 []) = .ok (.tuple #[]) (w.drew.setCells g 0 [S [], S [], S []]) := fun ty => run_clear_cg w.drew ty g c hc hf
 have zC := Tryz.sizeChg
 have HC := Lib.hid hc
 clear hc hf
 go_enter Tryz.func214, Tryz.ntmps214
 go_wp2
 go_region_law (refine step_append_room rfl (.tmp 22) (.tmp 25) _ rfl 124 i0 3 Tryz.underlying59 hi0 hz1 g 0 0 c (by simp [Act.eval, Act.put]) ad 0 (c - 1) [] (by simp [Act.eval, Act.put]; exact Had.out) rfl (by simp) (by simp) (by omega) (by simp) ?_)
 go_wp2
 all_goals
  go_ret
  exact ⟨rfl, (Fr.refl (fun k => k = g) w).drew.trans (fr_setCells w.drew g 0 _)⟩
abbrev Ren := List UInt8 × List UInt8 × Int
def rnC (x : Ren) : List Value := [S x.1, S x.2.1, I x.2.2]
def rns (l : List Ren) : List Value := l.flatMap rnC
theorem rnC_len (l : List Ren) : ∀ x ∈ l, (rnC x).length = 3 := fun _ _ => rfl
theorem rns_len (l : List Ren) : (rns l).length = l.length * 3 := flat_len (rnC_len l)
theorem rns_append (l k : List Ren) : rns (l ++ k) = rns l ++ rns k := by simp [rns]
theorem one_rns (l : List Ren) : ∀ u ∈ rns l, u.oneCell' = true := by
 intro u hu
 obtain ⟨c, _, hu⟩ := List.mem_flatMap.1 hu
 simp [rnC] at hu
 rcases hu with rfl | rfl | rfl <;> rfl
theorem rns_at {l : List Ren} {k j : Nat} {c : Ren} (h : l[k]? = some c) (hj : j < 3) : (rns l)[k * 3 + j]? = (rnC c)[j]? := flat_at (rnC_len l) h hj
theorem rns_count {w : World} {A : Option Addr} {m : Nat} {l : List Ren} (h : Sl w 3 A m (rns l)) : l.length = m := by have := h.1; rw [rns_len] at this; omega
theorem Sl.rn {w : World} {A : Option Addr} {m k : Nat} {l : List Ren} (h : Sl w 3 A m (rns l)) (hk : k < m) : ∃ b off x, A = some ⟨b, off, none⟩ ∧ b < w.heap.size ∧ l[k]? = some x ∧
  w.cell? ⟨b, off + k * 3, none⟩ = some (S x.1) ∧
  w.cell? ⟨b, off + k * 3 + 1, none⟩ = some (S x.2.1) ∧
  w.cell? ⟨b, off + k * 3 + 2, none⟩ = some (I x.2.2) := by
 obtain ⟨b, off, rfl, hb, hc⟩ := h.2 (by omega)
 have hl := rns_count h
 obtain ⟨x, hx⟩ : ∃ x, l[k]? = some x := ⟨l[k]'(by omega), List.getElem?_eq_getElem _⟩
 refine ⟨b, off, x, rfl, hb, hx, ?_, ?_, ?_⟩
 ·have := (hc (k * 3 + 0) (by omega)).trans (rns_at hx (by omega : 0 < 3)); simpa [rnC] using this
 ·have := (hc (k * 3 + 1) (by omega)).trans (rns_at hx (by omega : 1 < 3)); simpa [rnC, Nat.add_assoc] using this
 ·have := (hc (k * 3 + 2) (by omega)).trans (rns_at hx (by omega : 2 < 3)); simpa [rnC, Nat.add_assoc] using this
theorem sl_rn (w : World) (t : TypeId) (x : Ren) : Sl (w.alloc (.cells #[S x.1, S x.2.1, I x.2.2] t)) 3 (some ⟨w.heap.size, 0, none⟩) 1 (rns [x]) := by
 refine ⟨by simp [rns, rnC], fun _ => ⟨_, _, rfl, by simp, fun k hk => ?_⟩⟩
 rw [Nat.zero_add]
 simp [rns, rnC]
theorem Tryz.infoRen : (Tryz.prog.info? 71).map (fun i => (i.zero, i.size, i.bytes)) = some (some (.agg #[.string ⟨#[]⟩, .string ⟨#[]⟩, .int .i64 0]), 3, 40) := by kernel_rfl
def rnV (x : Ren) : Value := .agg #[S x.1, S x.2.1, I x.2.2]
def rdR : Value → Option (DataW Unit × List MemPlace)
 | .agg cs => match cs.toList with
  | [.string a, .string b, .int .i64 n] => some (.agg [.lit (.string a.data.toList), .lit (.string b.data.toList), .lit (.int .i64 n)], [])
  | _ => none
 | _ => none
def pairC : Coding Tryz.prog 3 71 Int Ren where
 kv := I
 kl := Lit.int .i64
 vv := rnV
 vd x := .agg [.lit (.string x.1), .lit (.string x.2.1), .lit (.int .i64 x.2.2)]
 R := rdR
 good z := (Lit.int .i64 z).wf = true
 keyed := Maps.int_keyed Tryz.underlying3
 key z h := Maps.keyOf_int_mk Tryz.underlying3 h
 inj _ _ _ _ h := by injection h
 enc x := by simp [rdR, rnV]
 dec v x ps h := by
  unfold rdR at h
  split at h
  ·split at h
   ·rename_i cs _ a b n hcs
    simp only [Option.some.injEq, Prod.mk.injEq, DataW.agg.injEq, List.cons.injEq, DataW.lit.injEq, Lit.string.injEq, Lit.int.injEq, true_and, and_true] at h
    obtain ⟨⟨h1, h2, h3⟩, _⟩ := h
    obtain ⟨x1, x2, x3⟩ := x
    simp only at h1 h2 h3
    subst h1 h2 h3
    show _ = rnV _
    unfold rnV
    rw [← Array.toArray_toList (xs := cs), hcs]
   ·cases h
  ·cases h
theorem Tryz.zeroRen (w : World) : (zeroValue 71).run Tryz.prog w = .ok (pairC.vv ([], [], 0)) w := by kernel_rfl
theorem small_good (k : Nat) (h : k ≤ 1000000000) : pairC.good (k : Int) := by
 show (Lit.int .i64 (k : Int)).wf = true
 simp only [Lit.wf, Bool.and_eq_true, decide_eq_true_eq]
 exact ⟨Int.le_trans (show IntKind.i64.min ≤ 0 by decide) (by omega), Int.le_trans (b := 1000000000) (by omega) (by decide)⟩
def goneB (x : Chg3) : Bool := decide (x.2.2 = []) && !decide (x.2.1 = [])
def frsB (x : Chg3) : Bool := decide (x.2.1 = []) && !decide (x.2.2 = [])
set_option maxRecDepth 100000 in
theorem pgone_any (x : Chg3) (w : World) :
  Calls Tryz.prog 57 #[.agg #[S x.1, S x.2.1, S x.2.2]] w fun e w' => e = .returned (.bool (goneB x)) ∧ Below w.heap.size w w' := by
 have hr := (Blk.new w 124 #[S x.1, S x.2.1, S x.2.2]).cell
 cases h1 : (x.2.2 == []) <;> cases h2 : (x.2.1 == [])
 all_goals
  have e : goneB x = ((x.2.2 == []) && !(x.2.1 == [])) := by
   unfold goneB
   rw [Bool.eq_iff_iff]
   simp
  rw [h1, h2] at e
  rw [e]
  clear e
  go_enter Tryz.func57, Tryz.ntmps57
  go_wp2
  go_ret
  exact ⟨rfl, balloc (Below.refl _ w) _⟩
set_option maxRecDepth 100000 in
theorem pfresh_any (x : Chg3) (w : World) :
  Calls Tryz.prog 58 #[.agg #[S x.1, S x.2.1, S x.2.2]] w fun e w' => e = .returned (.bool (frsB x)) ∧ Below w.heap.size w w' := by
 have hr := (Blk.new w 124 #[S x.1, S x.2.1, S x.2.2]).cell
 cases h1 : (x.2.1 == []) <;> cases h2 : (x.2.2 == [])
 all_goals
  have e : frsB x = ((x.2.1 == []) && !(x.2.2 == [])) := by
   unfold frsB
   rw [Bool.eq_iff_iff]
   simp
  rw [h1, h2] at e
  rw [e]
  clear e
  go_enter Tryz.func58, Tryz.ntmps58
  go_wp2
  go_ret
  exact ⟨rfl, balloc (Below.refl _ w) _⟩
end Go.Proofs.YtphnfcgdpdimbaaGreatDoor
namespace Go.Proofs.YtphnfcgdpdimbaaGreatDoor
open Go.RowKit Go.Shelf
theorem own_step9 {w w' : World} {base sz n : Nat} {e : TypeId} {v : Value} {xs : List Value} (h : w.ownsRow base e sz v n xs) (hb : Below w.heap.size w w') : w'.ownsRow base e sz v n xs :=
 h.kept (row := none) ⟨hb.os, hb.tape, hb.output, hb.size, fun i hi _ => hb.block i hi⟩ (by cases v.ownBlock <;> simp)
abbrev oneRow (w : World) (b0 g c1 : Nat) (x : Chg3) : Prop := w.ownsRow b0 124 3 (.slice (some ⟨g, 0, none⟩) 1 c1) 1 (cgs [x])
theorem one_cells {w : World} {b0 g c1 : Nat} {x : Chg3} (h : oneRow w b0 g c1 x) : w.cell? ⟨g, 0, none⟩ = some (S x.1) ∧ w.cell? ⟨g, 1, none⟩ = some (S x.2.1) ∧ w.cell? ⟨g, 2, none⟩ = some (S x.2.2) :=
 ⟨h.cellAt 0 (by omega), h.cellAt 1 (by omega), h.cellAt 2 (by omega)⟩
theorem one_cap {w : World} {b0 g c1 : Nat} {x : Chg3} (h : oneRow w b0 g c1 x) : 1 ≤ c1 ∧ c1 ≤ 9223372036854775807 := by
 rcases h.2 with ⟨hv, _⟩ | ⟨g', cap', cur, hv, hbase, hb, h1, h2, h3, h4⟩
 ·cases hv
 ·cases hv
  simp only [maxLen] at h2
  omega
theorem one_some {w : World} {b0 g c1 : Nat} {x : Chg3} (h : oneRow w b0 g c1 x) : ∀ j, j < 3 → (w.cell? ⟨g, 0 + j, none⟩).isSome = true := by
 intro j hj
 have h1 := h.cellAt (0 + j) (by omega)
 rw [h1]
 have : 0 + j < (cgs [x]).length := by simp [cgs, cgC]; omega
 rw [List.getElem?_eq_getElem this]
 rfl
set_option maxHeartbeats 2000000 in
set_option maxRecDepth 100000 in
theorem mpair_any (w : World) (b0 mb g pm c1 cnt a : Nat) (sv lm : Value) (x c : Chg3) (sc : Int) (f : Int → Option Ren) (hB : Blk w mb 134 #[sv, .slice (some ⟨g, 0, none⟩) 1 c1, lm, .map (some pm)]) (hR : oneRow w b0 g c1 x) (hM : MapIs pairC w pm cnt f) (ha : a ≤ 1000000000) (hcnt : cnt ≤ 1000000000) :
  Calls Tryz.prog 134 #[.pointer (some ⟨mb, 0, none⟩), I a, I 0, .agg #[S c.1, S c.2.1, S c.2.2], I sc] w fun e w' => e = .returned (.tuple #[]) ∧ Blk w' mb 134 #[sv, .slice (some ⟨g, 0, none⟩) 0 c1, lm, .map (some pm)] ∧ MapIs pairC w' pm (cnt + 1) (upd f a (some (x.1, c.1, sc))) ∧ Fr (fun j => j = mb ∨ j = pm ∨ j = g) w w' := by
 obtain ⟨hcap1, hcap2⟩ := one_cap hR
 have hgl := (hR.lt g rfl).2
 have hgm : g ≠ mb := by
  rintro rfl
  rcases hR.2 with ⟨hv, _⟩ | ⟨g', cap', cur, hv, hbase, hb, _⟩
  ·cases hv
  ·cases hv
   unfold Blk at hB
   rw [hb] at hB
   injection hB with hB
   injection hB with _ ht
   exact absurd ht (by decide)
 have hpm : pm ≠ mb := hM.ne_blk hB
 have hpg : some pm ≠ (Value.slice (some ⟨g, 0, none⟩) 1 c1).ownBlock := hM.ne_own hR
 have b1 := balloc (Below.refl _ w) (.cells #[S c.1, S c.2.1, S c.2.2] 124)
 have HB1 := Lib.hid (hB.step b1)
 have HR1 := Lib.hid (own_step9 hR b1)
 have HM1 := Lib.hid (hM.step b1)
 have Hbox := Lib.hid (Blk.new w 124 #[S c.1, S c.2.1, S c.2.2])
 obtain ⟨W, hW⟩ : ∃ W, W = w.alloc (.cells #[S c.1, S c.2.1, S c.2.2] 124) := ⟨_, rfl⟩
 obtain ⟨bx, hbx⟩ : ∃ bx, bx = w.heap.size := ⟨_, rfl⟩
 rw [← hW] at HB1 HR1 HM1 Hbox b1
 rw [← hbx] at Hbox
 have HF1 := Lib.hid (Fr.of_below (E := fun j => j = mb ∨ j = pm ∨ j = g) b1)
 have hcm : cnt < maxLen := by simp only [maxLen]; omega
 have hga := small_good a ha
 clear hB hR hM b1
 go_enter Tryz.func134, Tryz.ntmps134
 go_wp2
 rw [← hW, ← hbx]
 have Hgm := Lib.hid hgm
 have Hpm := Lib.hid hpm
 have Hpg := Lib.hid hpg
 clear hW hbx hgm hpm hpg hgl
 have r1 := HB1.out.cell
 obtain ⟨r2, r3, r4⟩ := one_cells HR1.out
 have r5 := Hbox.out.cell
 go_still_tail 17, (by kernel_rfl)
 have hm1 := HM1.out
 clear r1 r2 r3 r4 r5
 go_wp2_with (at_mapUpdate; refine wpList_store _ rfl _ _ _ 132 rfl pairC Tryz.underlying132 pm cnt _ rfl hm1.drew hcm (a : Int) rfl hga (x.1, c.1, sc) rfl ?_; intro W2 hm2 hg2; have HM2 := Lib.hid hm2; have HB2 := Lib.hid (HB1.out.drew.grown hg2 (fun e => Hpm.out (Option.some.inj e).symm)); have HR2 := Lib.hid ((own_step9 HR1.out (Below.refl _ _).drew).kept hg2 (.inr (fun e => Hpg.out e.symm))); have HF2 := Lib.hid (HF1.out.drew.trans (Fr.of_grown (E := fun j => j = mb ∨ j = pm ∨ j = g) hg2 (fun k e => by cases e; exact .inr (.inl rfl)))); have r2 := HB2.out.cell; have C2 := Lib.hid (delete1_any g c1 W2 hcap1 hcap2 (one_some HR2.out) (fun j _ => HR2.out.frozenAt (0 + j))); clear hm2 hg2)
 go_wp2_with (go_at_call 214; refine C2.out.mono ?_; rintro e w3 ⟨rfl, f3⟩; have HB3 := Lib.hid (f3.blk HB2.out (fun e => Hgm.out e.symm)); have HM3 := Lib.hid (HM2.out.fr f3 (fun e => Hpg.out (by rw [e]; rfl))); have HF3 := Lib.hid (HF2.out.trans (f3.weak (F := fun j => j = mb ∨ j = pm ∨ j = g) (fun k e => .inr (.inr e)))); have r3 := HB3.out.cell; have r3f := HB3.out.frozen; have r3l := HB3.out.lt; clear f3 r2)
 go_end0
 refine ⟨rfl, HB3.out.set_ 1 (.slice (some ⟨g, 0, none⟩) 0 c1), HM3.out.far (by exact fun e => Hpm.out e) _, HF3.out.setCell (p := ⟨mb, 1, none⟩) (.inl rfl) _⟩
theorem idx_one {α : Type} {x : α} {f : α → Bool} {r : Int} (h : IsIdx [x] f r) (hf : f x = true) : r = 0 := by
 rcases h with ⟨_, h⟩ | ⟨k, rfl, y, hy, _, _⟩
 ·rw [h x (by simp)] at hf
  cases hf
 ·have := (List.getElem?_eq_some_iff.1 hy).1
  simp at this
  omega
set_option maxRecDepth 100000 in
theorem exact1_any (x c : Chg3) (B : Nat) (w : World) (hB : Blk w B 124 #[S c.1, S c.2.1, S c.2.2]) :
  Calls Tryz.prog 133 #[.agg #[S x.1, S x.2.1, S x.2.2], .pointer (some ⟨B, 0, none⟩)] w fun e w' => e = .returned (.bool (decide (x.2.1 = c.2.2))) ∧ Below w.heap.size w w' := by
 have hr := (hB.alloc (.cells #[S x.1, S x.2.1, S x.2.2] 124)).cell
 clear hB
 go_enter Tryz.func133, Tryz.ntmps133
 go_wp2
 go_ret
 refine ⟨ret_bool ?_, balloc (Below.refl _ w) _⟩
 rw [Bool.eq_iff_iff]
 simp
set_option maxHeartbeats 2000000 in
set_option maxRecDepth 100000 in
theorem exact_yes (w : World) (b0 mb g pm c1 cnt a : Nat) (sv lm : Value) (x c : Chg3) (f : Int → Option Ren) (hB : Blk w mb 134 #[sv, .slice (some ⟨g, 0, none⟩) 1 c1, lm, .map (some pm)]) (hR : oneRow w b0 g c1 x) (hM : MapIs pairC w pm cnt f) (ha : a ≤ 1000000000) (hcnt : cnt ≤ 1000000000) (hxc : x.2.1 = c.2.2) :
  Calls Tryz.prog 59 #[.pointer (some ⟨mb, 0, none⟩), I a, .agg #[S c.1, S c.2.1, S c.2.2]] w fun e w' => e = .returned (.tuple #[]) ∧ Blk w' mb 134 #[sv, .slice (some ⟨g, 0, none⟩) 0 c1, lm, .map (some pm)] ∧ MapIs pairC w' pm (cnt + 1) (upd f a (some (x.1, c.1, 100))) ∧ Fr (fun j => j = mb ∨ j = pm ∨ j = g) w w' := by
 have b1 := balloc (Below.refl _ w) (.cells #[S c.1, S c.2.1, S c.2.2] 124)
 have HB1 := Lib.hid (hB.step b1)
 have Hbox := Lib.hid (Blk.new w 124 #[S c.1, S c.2.1, S c.2.2])
 have B1 := Lib.hid b1
 have C1 := Lib.hid (indexFnC 133 #[.pointer (some ⟨w.heap.size, 0, none⟩)] (enters_of Tryz.func133 (by kernel_rfl) rfl) (fun y => decide (y.2.1 = c.2.2)) (some ⟨g, 0, none⟩) 1 c1 [x] _ (Sl.of_own (own_step9 hR b1)) (by omega) (fun y _ W hb => exact1_any y c _ W (Hbox.out.step hb)))
 have C2 := Lib.hid (fun W (hb : Below w.heap.size w W) => mpair_any W b0 mb g pm c1 cnt a sv lm x c 100 f (hB.step hb) (own_step9 hR hb) (hM.step hb) ha hcnt)
 have Hx := Lib.hid hxc
 have r1 := HB1.out.cell
 clear hB hR hM b1 hxc
 go_enter Tryz.func59, Tryz.ntmps59
 go_wp2_with (first
  | (go_at_call 132; refine C1.out.mono ?_; rintro e w2 ⟨r, rfl, hr, b2⟩; obtain rfl : r = 0 := idx_one hr (decide_eq_true Hx.out); have B2 := Lib.hid (bstep B1.out b2); have r5 := (Hbox.out.step b2).cell; clear b2 hr r1)
  | (go_at_call 134; refine (C2.out _ B2.out).mono ?_; rintro e w3 ⟨rfl, h1, h2, h3⟩))
 go_end0
 exact ⟨rfl, h1, h2, (Fr.of_below B2.out).trans h3⟩
set_option maxHeartbeats 8000000 in
set_option maxRecDepth 100000 in
theorem renames1_any (sv : Option Addr) (A : Option Addr) (n c : Nat) (l : List Chg3) (w : World) (pg pf og : List UInt8) (hA : Sl w 3 A n (cgs l)) (hn : n ≤ 1000000) (hg : l.filter goneB = [(pg, og, [])]) (hf : (l.filter (fun x => !goneB x)).filter frsB = [(pf, [], og)]) :
  Calls Tryz.prog 16 #[.pointer sv, .slice A n c] w fun e w' => ∃ A' c', e = .returned (.tuple #[.slice A' 1 c', I 0]) ∧ Sl w' 3 A' 1 (rns [(pg, pf, 100)]) ∧ Below w.heap.size w w' := by
 obtain ⟨i0, hi0, hz0, hz1, hz2⟩ := info_parts Tryz.infoRen
 have hmm := @run_makeMap Tryz.prog
 have C1 := psplit_any 57 #[] (enters_of Tryz.func57 (by kernel_rfl) rfl) goneB A n c l w hA hn (fun x _ W _ => pgone_any x W)
 have hln : (l.filter (fun x => !goneB x)).length ≤ 1000000 := by
  have h1 := List.length_filter_le (fun x => !goneB x) l
  have h2 := cgs_count hA
  omega
 have C2 := fun (W : World) (A2 : Option Addr) (n2 c2 : Nat) (h : Sl W 3 A2 n2 (cgs (l.filter (fun x => !goneB x)))) (h2 : n2 ≤ 1000000) => psplit_any 58 #[] (enters_of Tryz.func58 (by kernel_rfl) rfl) frsB A2 n2 c2 _ W h h2 (fun x _ W _ => pfresh_any x W)
 rw [hg] at C1
 rw [hf] at C2
 have HC1 := Lib.hid C1
 have HC2 := Lib.hid C2
 have Hln := Lib.hid hln
 clear hA hg hf C1 C2 hln
 go_enter Tryz.func16, Tryz.ntmps16
 go_wp2_with (first
  | (go_at_call 56; (with_reducible refine HC1.out.mono ?_); rintro e w1 ⟨A1, n1, c1, A2, n2, c2, rfl, hn1, hn2, hO1, hO2, _⟩; obtain rfl : n1 = 1 := hn1; have HO1 := Lib.hid hO1; have HO2 := Lib.hid hO2; have Hn2 : Hid (n2 ≤ 1000000) := Lib.hid (by rw [hn2]; exact Hln.out); clear hn2 hO1 hO2)
  | (go_at_call 56; (with_reducible refine (HC2.out w1 A2 n2 c2 HO2.out.sl Hn2.out).mono ?_); rintro e w2 ⟨A3, n3, c3, A4, n4, c4, rfl, hn3, hn4, hO3, hO4, _⟩; obtain rfl : n3 = 1 := hn3; have HO3 := Lib.hid hO3; clear hn4 hO3 hO4))
 obtain ⟨g, rfl, hg0, hg1⟩ := HO1.out.form (by omega)
 obtain ⟨gf, rfl, hf0, hf1⟩ := HO3.out.form (by omega)
 obtain ⟨z, hz⟩ : ∃ z, z = w2.heap.size := ⟨_, rfl⟩
 obtain ⟨W3, hW3⟩ : ∃ W3, W3 = ((w2.alloc (.map #[] 0)).alloc (.map #[] 0)).alloc (.cells #[.pointer sv, .slice (some ⟨g, 0, none⟩) 1 c1, .map (some z), .map (some (z + 1))] 134) := ⟨_, rfl⟩
 simp only [← hz]
 rw [← hW3]
 have b3 : Below w2.heap.size w2 W3 := hW3 ▸ balloc (balloc (balloc (Below.refl _ w2) _) _) _
 have HB : Hid (Blk W3 (z + 2) 134 #[.pointer sv, .slice (some ⟨g, 0, none⟩) 1 c1, .map (some z), .map (some (z + 1))]) := Lib.hid (by
  have h := Blk.new ((w2.alloc (.map #[] 0)).alloc (.map #[] 0)) 134 #[.pointer sv, .slice (some ⟨g, 0, none⟩) 1 c1, .map (some z), .map (some (z + 1))]
  rw [World.size_alloc, World.size_alloc, ← hz] at h
  rw [hW3]
  exact h)
 have HM : Hid (MapIs pairC W3 (z + 1) 0 (fun _ => none)) := Lib.hid (by
  have h := MapIs.made pairC (w2.alloc (.map #[] 0))
  rw [World.size_alloc, ← hz] at h
  rw [hW3]
  exact h.alloc _)
 have b13 : Below w1.heap.size w1 W3 := bstep HO3.out.2 b3
 have HR : Hid (oneRow W3 w.heap.size g c1 (pg, og, [])) := Lib.hid (own_step9 HO1.out.1 b13)
 have HF3 : Hid (SlF (fun j => j = z + 2 ∨ j = z + 1 ∨ j = g) W3 3 (some ⟨gf, 0, none⟩) 1 (cgs [(pf, [], og)])) := Lib.hid ⟨HO3.out.sl.below b3, fun b off _ e => by
  cases e
  omega⟩
 have HBw := Lib.hid (bstep HO1.out.2 b13)
 have hgz : Hid (w.heap.size ≤ g ∧ w.heap.size ≤ z) := Lib.hid ⟨hg0, by have := HO1.out.2.size; have := HO3.out.2.size; omega⟩
 clear hz hW3 b3 b13 hg0 hg1 hf0 hf1 HO1 HO2 HO3 HC1 HC2 hmm
 obtain ⟨f1, hf1⟩ : ∃ f1 : Int → Option Ren, f1 = upd (fun _ => none) 0 (some (pg, pf, 100)) := ⟨_, rfl⟩
 have Hf1 := Lib.hid hf1
 clear hf1
 go_loopw [40] (fun s40 wr => ∃ k : Nat, k ≤ 1 ∧ s40 = .int .i64 k ∧ Hid ((k = 0 → Blk wr (z + 2) 134 #[.pointer sv, .slice (some ⟨g, 0, none⟩) 1 c1, .map (some z), .map (some (z + 1))] ∧ oneRow wr w.heap.size g c1 (pg, og, []) ∧ MapIs pairC wr (z + 1) 0 (fun _ => none)) ∧
   (k = 1 → Blk wr (z + 2) 134 #[.pointer sv, .slice (some ⟨g, 0, none⟩) 0 c1, .map (some z), .map (some (z + 1))] ∧ MapIs pairC wr (z + 1) 1 f1)) ∧ Hid (Fr (fun j => j = z + 2 ∨ j = z + 1 ∨ j = g) W3 wr)) (fun s40 _ => 1 - (intOf s40).toNat)
 case atStart => exact ⟨0, Nat.zero_le _, rfl, Lib.hid ⟨fun _ => ⟨HB.out, HR.out, HM.out⟩, fun h => by omega⟩, Lib.hid (Fr.refl _ _)⟩
 case round =>
  obtain ⟨k, hk, rfl, hS, hF⟩ := hrel
  by_cases hlt : k < 1
  ·obtain ⟨sB, sR, sM⟩ := hS.out.1 (by omega)
   obtain ⟨b, off, x, e, _, hx, x0, x1, x2⟩ := (HF3.out.fr hF.out).1.cg hlt
   cases e
   have hx2 : x = (pf, [], og) := by
    have hk0 : k = 0 := by omega
    rw [hk0] at hx
    exact (Option.some.inj hx).symm
   subst hx2
   simp only [Nat.zero_add] at x0 x1 x2
   have b5 := balloc (Below.refl _ wr) (.cells #[S pf, S [], S og] 124)
   have r5 := (Blk.new wr 124 #[S pf, S [], S og]).cell
   have CE := Lib.hid (exact_yes _ w.heap.size (z + 2) g (z + 1) c1 0 k (.pointer sv) (.map (some z)) (pg, og, []) (pf, [], og) (fun _ => none) (sB.step b5) (own_step9 sR b5) (sM.step b5) (by omega) (by omega) rfl)
   have B5 := Lib.hid b5
   have hd1 : decide ((k : Int) < 1) = true := by simp; omega
   clear sB sR sM hx hS b5
   go_wp2_with (go_at_call 59; refine CE.out.mono ?_; rintro e w4 ⟨rfl, h1, h2, h3⟩; have H1 := Lib.hid h1; have H2 := Lib.hid h2; have H3 := Lib.hid h3; clear h1 h2 h3)
   go_roundw
   case rel =>
    refine ⟨k + 1, hlt, by go_num, Lib.hid ⟨fun h => by omega, fun _ => ⟨H1.out, ?_⟩⟩, Lib.hid (hF.out.trans ((Fr.of_below B5.out).trans H3.out))⟩
    have h9 := H2.out
    have hk0 : (k : Int) = 0 := by omega
    rw [hk0, ← Hf1.out] at h9
    exact h9
   case measure => simp [intOf]; omega
  ·obtain ⟨sB, sM⟩ := hS.out.2 (by omega)
   have SB := Lib.hid sB
   have SM := Lib.hid sM
   have hd1 : decide ((k : Int) < 1) = false := by simp; omega
   have HF5 := Lib.hid (HF3.out.fr hF.out)
   have HFw := Lib.hid hF.out
   clear sB sM hS HB HM HR hF HF3
   go_wp2
   clear hd1
   have W5 : Hid (Below w.heap.size w wr) := Lib.hid (HBw.out.trans (HFw.out.below HBw.out.size (fun j hj => by have := hgz.out; omega)))
   go_loopw [52] (fun s52 wr2 => ∃ k : Nat, k ≤ 1 ∧ s52 = .int .i64 k ∧ Hid (Below wr.heap.size wr wr2)) (fun s52 _ => 1 - (intOf s52).toNat)
   case atStart => exact ⟨0, Nat.zero_le _, rfl, Lib.hid (Below.refl _ _)⟩
   case round =>
    obtain ⟨k, hk, rfl, hb⟩ := hrel
    by_cases hlt : k < 1
    ·obtain ⟨b, off, x, e, _, hx, x0, x1, x2⟩ := (HF5.out.1.below hb.out).cg hlt
     cases e
     have hx2 : x = (pf, [], og) := by
      have hk0 : k = 0 := by omega
      rw [hk0] at hx
      exact (Option.some.inj hx).symm
     subst hx2
     simp only [Nat.zero_add] at x0 x1 x2
     have b5 := balloc (Below.refl _ wr) (.cells #[S pf, S [], S og] 124)
     have B5 := Lib.hid (bstep hb.out b5)
     have r6 := (SB.out.step B5.out).cell
     have hm5 := SM.out.step B5.out
     have E1 : Hid (f1 (k : Int) = some (pg, pf, 100)) := Lib.hid (by
      have hk0 : (k : Int) = 0 := by omega
      rw [hk0, Hf1.out]
      simp [upd])
     have E2 : Hid (pairC.vv (pg, pf, 100) = .agg #[S pg, S pf, I 100]) := Lib.hid rfl
     have hgk := small_good k (by omega)
     have hd1 : decide ((k : Int) < 1) = true := by simp; omega
     clear hx b5
     go_wp2_with (at_lookup; refine wpList_look_ok _ rfl _ _ 132 rfl pairC Tryz.underlying132 ([], [], 0) (Tryz.zeroRen _) (z + 1) 1 _ rfl hm5 (k : Int) rfl hgk ?_; rw [E1.out]; simp only [Option.getD_some]; rw [E2.out])
     go_roundw
     case rel => exact ⟨k + 1, hlt, by go_num, Lib.hid (bstep B5.out (balloc (Below.refl _ _) _))⟩
     case measure => simp [intOf]; omega
    ·have hd1 : decide ((k : Int) < 1) = false := by simp; omega
     have Hb := Lib.hid hb.out
     clear hb
     go_wp2
     clear hd1
     go_loopw [18, 77] (fun s18 s77 wr3 => ∃ (k c3 : Nat) (A3 : Option Addr), k ≤ 1 ∧ s77 = .int .i64 k ∧ s18 = .slice A3 k c3 ∧ Hid (Ow wr wr3 71 3 A3 k c3 (rns ([(pg, pf, 100)].take k)))) (fun _ s77 _ => 1 - (intOf s77).toNat)
     case atStart => exact ⟨0, 0, none, Nat.zero_le _, rfl, rfl, Lib.hid (Ow.nil_ (Below.refl _ _))⟩
     case round =>
      obtain ⟨k, c3, A3, hk, rfl, rfl, HO⟩ := hrel
      by_cases hlt : k < 1
      ·have hm5 := SM.out.step (bstep Hb.out HO.out.2)
       have r6 := (SB.out.step (bstep Hb.out HO.out.2)).cell
       have hbx := balloc (Below.refl _ wr) (.cells #[S pg, S pf, I 100] 71)
       have E1 : Hid (f1 (k : Int) = some (pg, pf, 100)) := Lib.hid (by
        have hk0 : (k : Int) = 0 := by omega
        rw [hk0, Hf1.out]
        simp [upd])
       have E2 : Hid (pairC.vv (pg, pf, 100) = .agg #[S pg, S pf, I 100]) := Lib.hid rfl
       have hgk := small_good k (by omega)
       have hd1 : decide ((k : Int) < 1) = true := by simp; omega
       have q1 := Lib.hid (show k + 1 ≤ maxLen by simp only [maxLen]; omega)
       have q2 := Lib.hid (show (k + 1) * 40 ≤ 140737488355328 by omega)
       have HO6 := Lib.hid ((HO.out.alloc (.cells #[S pg, S pf, I 100] 71)).alloc (.cells #[S pg, S pf, I 100] 71))
       have HS6 := Lib.hid (sl_rn (wr.alloc (.cells #[S pg, S pf, I 100] 71)) 71 (pg, pf, 100))
       simp only [World.size_alloc] at HS6
       have r7 := (Blk.new wr 71 #[S pg, S pf, I 100]).cell
       clear hbx
       go_wp2_with (first
        | (at_lookup; refine wpList_look_ok _ rfl _ _ 132 rfl pairC Tryz.underlying132 ([], [], 0) (Tryz.zeroRen _) (z + 1) 1 _ rfl hm5 (k : Int) rfl hgk ?_; rw [E1.out]; simp only [Option.getD_some]; rw [E2.out])
        | (at_builtin; refine wpList_append_sl _ rfl (.tmp 90) (.tmp 92) _ rfl _ 71 i0 _ 3 40 Tryz.underlying56 hi0 hz0 hz1 hz2 rfl (by decide) A3 k c3 _ rfl HO6.out _ 1 1 (rns [(pg, pf, 100)]) rfl HS6.out (one_rns _) q1.out q2.out ?_; intro A5 c5 w5 hO5 hg5 hat5; have HO5 := Lib.hid hO5; clear hO5 hg5 hat5))
       go_roundw
       case rel =>
        refine ⟨k + 1, c5, A5, hlt, by go_num, rfl, Lib.hid ?_⟩
        have hk0 : k = 0 := by omega
        have h9 := HO5.out
        rw [← rns_append] at h9
        have e9 : List.take k [(pg, pf, (100 : Int))] ++ [(pg, pf, 100)] = List.take (k + 1) [(pg, pf, 100)] := by rw [hk0]; rfl
        rw [e9] at h9
        exact h9
       case measure => simp [intOf]; omega
      ·have hd1 : decide ((k : Int) < 1) = false := by simp; omega
       have h9 := HO.out
       have hk1 : k = 1 := by omega
       have e9 : List.take k [(pg, pf, (100 : Int))] = [(pg, pf, 100)] := by rw [hk1]; rfl
       rw [e9] at h9
       have H9 := Lib.hid h9
       have Hk1 := Lib.hid hk1
       clear h9 hk1 e9 HO
       go_wp2
       go_ret2
       exact ⟨A3, c3, by rw [Hk1.out]; rfl, by have h := H9.out.sl; rw [Hk1.out] at h; exact h, bstep W5.out (bstep Hb.out H9.out.2)⟩
end Go.Proofs.YtphnfcgdpdimbaaGreatDoor
