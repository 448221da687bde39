/-
  Texts merged: PairSplit, PairDelete, PairMem, PairWords, PairExact. What each law says and asks stands at its head.
-/
import Derived.Test.YtphnfcgdpdimbaaGreatDoorRKitD
import Derived.Test.YtphnfcgdpdimbaaGreatDoorRKitW
import Derived.BigQuiet
import Derived.Test.YtphnfcgdpdimbaaGreatDoorRKitX
import Derived.Deep.RegionLaw
import Derived.Laws.IdiomCopy
import Derived.Lib.SliceRun
import Derived.Deep.Upon
import Derived.StillTailTactics
import Derived.Shelf.Abstract
namespace Go.Proofs.YtphnfcgdpdimbaaGreatDoor
open Go.RowKit
def Ap (u v : Value) : Prop := u.ownBlock = none ∨ v.ownBlock = none ∨ u.ownBlock ≠ v.ownBlock
theorem Ap.keeps {u v : Value} (h : Ap u v) : v.ownBlock = none ∨ v.ownBlock ≠ u.ownBlock := by
 rcases h with h | h | h
 ·rcases e : v.ownBlock with _ | k
  ·exact .inl rfl
  ·exact .inr (by rw [h]; simp)
 ·exact .inl h
 ·exact .inr (fun e => h e.symm)
theorem Ap.symm {u v : Value} (h : Ap u v) : Ap v u := by
 rcases h with h | h | h
 ·exact .inr (.inl h)
 ·exact .inl h
 ·exact .inr (.inr (fun e => h e.symm))
theorem Ap.grown {u u' v : Value} {w : World} {base sz n : Nat} {e : TypeId} {xs : List Value} (h : Ap u v) (hv : w.ownsRow base e sz v n xs) (hu : u'.ownBlock = u.ownBlock ∨ u'.ownBlock = some w.heap.size) : Ap u' v := by
 rcases hu with hu | hu
 ·unfold Ap at h ⊢
  rw [hu]
  exact h
 ·rcases e : v.ownBlock with _ | k
  ·exact .inr (.inl e)
  ·refine .inr (.inr ?_)
   rw [hu, e]
   have := (hv.lt k e).2
   intro h2
   have h3 := Option.some.inj h2
   omega
set_option maxHeartbeats 4000000 in
set_option maxRecDepth 100000 in
theorem psplit_any (g : FuncId) (lb : Array Value) (eg : ∀ args w, (callFunc g args).run Tryz.prog w = .ok (.enter g args) w) (f : Chg3 → Bool) (A : Option Addr) (n c : Nat) (l : List Chg3) (w : World) (hA : Sl w 3 A n (cgs l)) (hn : n ≤ 1000000)
  (hF : ∀ x ∈ l, ∀ W, Below w.heap.size w W → Calls Tryz.prog g (#[.agg #[S x.1, S x.2.1, S x.2.2]] ++ lb) W fun e w' => e = .returned (.bool (f x)) ∧ Below W.heap.size W w') :
  Calls Tryz.prog 56 #[.slice A n c, .func (.func g) #[] lb] w fun e w' => ∃ A1 n1 c1 A2 n2 c2, e = .returned (.tuple #[.slice A1 n1 c1, .slice A2 n2 c2]) ∧ n1 = (l.filter f).length ∧ n2 = (l.filter (fun x => !f x)).length ∧
   Ow w w' 124 3 A1 n1 c1 (cgs (l.filter f)) ∧ Ow w w' 124 3 A2 n2 c2 (cgs (l.filter (fun x => !f x))) ∧ Ap (.slice A1 n1 c1) (.slice A2 n2 c2) := by
 obtain ⟨i0, hi0, hz0, hz1, hz2⟩ := info_parts Tryz.infoChg
 have hlen := Lib.hid (cgs_count hA)
 have HA := Lib.hid hA
 have HF := Lib.hid hF
 clear hA hF
 go_enter Tryz.func56, Tryz.ntmps56
 go_wp2
 go_loopw [4, 5, 10] (fun s4 s5 s10 wr => ∃ (k n1 c1 n2 c2 : Nat) (A1 A2 : Option Addr), k ≤ n ∧ s10 = .int .i64 k ∧ s4 = .slice A1 n1 c1 ∧ s5 = .slice A2 n2 c2 ∧ Hid (n1 = ((l.take k).filter f).length) ∧ Hid (n2 = ((l.take k).filter (fun x => !f x)).length) ∧
   Hid (Ow w wr 124 3 A1 n1 c1 (cgs ((l.take k).filter f))) ∧ Hid (Ow w wr 124 3 A2 n2 c2 (cgs ((l.take k).filter (fun x => !f x)))) ∧ Hid (Ap (.slice A1 n1 c1) (.slice A2 n2 c2))) (fun _ _ s10 _ => n - (intOf s10).toNat)
 case atStart => exact ⟨0, 0, 0, 0, 0, none, none, Nat.zero_le _, rfl, rfl, rfl, Lib.hid (by simp), Lib.hid (by simp), Lib.hid (by simp only [List.take_zero, List.filter_nil]; exact Ow.nil_ (Below.refl _ _)), Lib.hid (by simp only [List.take_zero, List.filter_nil]; exact Ow.nil_ (Below.refl _ _)), Lib.hid (.inl (by simp [Value.ownBlock]))⟩
 case round =>
  obtain ⟨k, n1, c1, n2, c2, A1, A2, hk, rfl, rfl, rfl, H1, H2, HO1, HO2, HP⟩ := hrel
  by_cases hlt : k < n
  ·obtain ⟨b, off, x, rfl, _, hx, x0, x1, x2⟩ := (HA.out.below HO1.out.2).cg hlt
   have Hx := Lib.hid hx
   have hb1 := balloc HO1.out.2 (.cells #[S x.1, S x.2.1, S x.2.2] 124)
   have C := Lib.hid (HF.out x (List.mem_of_getElem? hx) _ hb1)
   have hbd1 : n1 ≤ 1000000 := by have := H1.out; have := List.length_filter_le f (l.take k); rw [List.length_take] at this; omega
   have hbd2 : n2 ≤ 1000000 := by have := H2.out; have := List.length_filter_le (fun x => !f x) (l.take k); rw [List.length_take] at this; omega
   have hB := Blk.new wr 124 #[S x.1, S x.2.1, S x.2.2]
   have HB := Lib.hid hB
   have HO1' := Lib.hid (HO1.out.alloc (.cells #[S x.1, S x.2.1, S x.2.2] 124))
   have HO2' := Lib.hid (HO2.out.alloc (.cells #[S x.1, S x.2.1, S x.2.2] 124))
   clear hx hb1 hB
   rcases hd : f x with _ | _
   ·rw [hd] at C
    have HE1 : Hid ((l.take (k + 1)).filter f = (l.take k).filter f) := Lib.hid (by rw [List.take_add_one, Hx.out, List.filter_append]; simp [hd])
    have HE2 : Hid ((l.take (k + 1)).filter (fun x => !f x) = (l.take k).filter (fun x => !f x) ++ [x]) := Lib.hid (by rw [List.take_add_one, Hx.out, List.filter_append]; simp [hd])
    have q1 := Lib.hid (show n2 + 1 ≤ maxLen by simp only [maxLen]; omega)
    have q2 := Lib.hid (show (n2 + 1) * 48 ≤ 140737488355328 by omega)
    clear hd
    go_wp2_with fail
    refine C.out.mono ?_
    rintro e w2 ⟨rfl, b2⟩
    have r2 := (HB.out.step b2).cell
    have HS6 := Lib.hid (sl_cg w2 124 x)
    have HO2'' := Lib.hid ((HO2'.out.keep b2).alloc (.cells #[S x.1, S x.2.1, S x.2.2] 124))
    have HO1'' := Lib.hid ((HO1'.out.keep b2).alloc (.cells #[S x.1, S x.2.1, S x.2.2] 124))
    go_wp2_with (at_builtin; refine wpList_append_sl _ rfl (.tmp 21) (.tmp 23) _ rfl w 124 i0 _ 3 48 Tryz.underlying59 hi0 hz0 hz1 hz2 rfl (by decide) A2 n2 c2 _ rfl HO2''.out _ 1 1 (cgs [x]) rfl HS6.out (one_cgs _) q1.out q2.out ?_; intro A5 c5 w5 hO5 hg5 hat5; have HO5 := Lib.hid hO5; have HO9 := Lib.hid (HO1''.out.grown hg5 HP.out.symm.keeps (fun k hk => (HO2''.out.1.lt k hk).1)); have HP5 := Lib.hid (HP.out.symm.grown HO1''.out.1 hat5).symm; clear hO5 hg5 hat5)
    go_roundw
    case rel => exact ⟨k + 1, n1, c1, n2 + 1, c5, A1, A5, hlt, by go_num, rfl, rfl, Lib.hid (by rw [HE1.out]; exact H1.out), Lib.hid (by rw [HE2.out, List.length_append, ← H2.out]; rfl), Lib.hid (by rw [HE1.out]; exact HO9.out), Lib.hid (by rw [HE2.out, cgs_append]; exact HO5.out), HP5⟩
    case measure => simp [intOf]; omega
   ·rw [hd] at C
    have HE1 : Hid ((l.take (k + 1)).filter f = (l.take k).filter f ++ [x]) := Lib.hid (by rw [List.take_add_one, Hx.out, List.filter_append]; simp [hd])
    have HE2 : Hid ((l.take (k + 1)).filter (fun x => !f x) = (l.take k).filter (fun x => !f x)) := Lib.hid (by rw [List.take_add_one, Hx.out, List.filter_append]; simp [hd])
    have q1 := Lib.hid (show n1 + 1 ≤ maxLen by simp only [maxLen]; omega)
    have q2 := Lib.hid (show (n1 + 1) * 48 ≤ 140737488355328 by omega)
    clear hd
    go_wp2_with fail
    refine C.out.mono ?_
    rintro e w2 ⟨rfl, b2⟩
    have r2 := (HB.out.step b2).cell
    have HS6 := Lib.hid (sl_cg w2 124 x)
    have HO2'' := Lib.hid ((HO2'.out.keep b2).alloc (.cells #[S x.1, S x.2.1, S x.2.2] 124))
    have HO1'' := Lib.hid ((HO1'.out.keep b2).alloc (.cells #[S x.1, S x.2.1, S x.2.2] 124))
    go_wp2_with (at_builtin; refine wpList_append_sl _ rfl (.tmp 17) (.tmp 19) _ rfl w 124 i0 _ 3 48 Tryz.underlying59 hi0 hz0 hz1 hz2 rfl (by decide) A1 n1 c1 _ rfl HO1''.out _ 1 1 (cgs [x]) rfl HS6.out (one_cgs _) q1.out q2.out ?_; intro A5 c5 w5 hO5 hg5 hat5; have HO5 := Lib.hid hO5; have HO9 := Lib.hid (HO2''.out.grown hg5 HP.out.keeps (fun k hk => (HO1''.out.1.lt k hk).1)); have HP5 := Lib.hid (HP.out.grown HO2''.out.1 hat5); clear hO5 hg5 hat5)
    go_roundw
    case rel => exact ⟨k + 1, n1 + 1, c5, n2, c2, A5, A2, hlt, by go_num, rfl, rfl, Lib.hid (by rw [HE1.out, List.length_append, ← H1.out]; rfl), Lib.hid (by rw [HE2.out]; exact H2.out), Lib.hid (by rw [HE1.out, cgs_append]; exact HO5.out), Lib.hid (by rw [HE2.out]; exact HO9.out), HP5⟩
    case measure => simp [intOf]; omega
  ·obtain rfl : k = n := by omega
   rw [List.take_of_length_le (by rw [hlen.out]; exact Nat.le_refl _)] at H1 H2 HO1 HO2
   go_wp2
   go_ret2
   exact ⟨A1, n1, c1, A2, n2, c2, rfl, H1.out, H2.out, HO1.out, HO2.out, HP.out⟩
theorem Tryz.sizeChg (w : World) : (sizeOf 124).run Tryz.prog w = .ok 3 w := by kernel_rfl
theorem fr_setCells (w : World) (g o : Nat) (vs : List Value) : Fr (fun k => k = g) w (w.setCells g o vs) := by
 induction vs generalizing o w with
 | nil => exact Fr.refl _ _
 | cons v r ih => exact ((Fr.refl (fun k => k = g) w).setCell (p := ⟨g, o, none⟩) rfl v).trans (ih _ _)
abbrev Ren := List UInt8 × List UInt8 × Int
def rnC (x : Ren) : List Value := [S x.1, S x.2.1, I x.2.2]
def rns (l : List Ren) : List Value := l.flatMap rnC
theorem rnC_len (l : List Ren) : ∀ x ∈ l, (rnC x).length = 3 := fun _ _ => rfl
theorem rns_len (l : List Ren) : (rns l).length = l.length * 3 := flat_len (rnC_len l)
theorem rns_append (l k : List Ren) : rns (l ++ k) = rns l ++ rns k := by simp [rns]
theorem one_rns (l : List Ren) : ∀ u ∈ rns l, u.oneCell' = true := by
 intro u hu
 obtain ⟨c, _, hu⟩ := List.mem_flatMap.1 hu
 simp [rnC] at hu
 rcases hu with rfl | rfl | rfl <;> rfl
theorem rns_at {l : List Ren} {k j : Nat} {c : Ren} (h : l[k]? = some c) (hj : j < 3) : (rns l)[k * 3 + j]? = (rnC c)[j]? := flat_at (rnC_len l) h hj
theorem rns_count {w : World} {A : Option Addr} {m : Nat} {l : List Ren} (h : Sl w 3 A m (rns l)) : l.length = m := by have := h.1; rw [rns_len] at this; omega
theorem Sl.rn {w : World} {A : Option Addr} {m k : Nat} {l : List Ren} (h : Sl w 3 A m (rns l)) (hk : k < m) : ∃ b off x, A = some ⟨b, off, none⟩ ∧ b < w.heap.size ∧ l[k]? = some x ∧
  w.cell? ⟨b, off + k * 3, none⟩ = some (S x.1) ∧
  w.cell? ⟨b, off + k * 3 + 1, none⟩ = some (S x.2.1) ∧
  w.cell? ⟨b, off + k * 3 + 2, none⟩ = some (I x.2.2) := by
 obtain ⟨b, off, rfl, hb, hc⟩ := h.2 (by omega)
 have hl := rns_count h
 obtain ⟨x, hx⟩ : ∃ x, l[k]? = some x := ⟨l[k]'(by omega), List.getElem?_eq_getElem _⟩
 refine ⟨b, off, x, rfl, hb, hx, ?_, ?_, ?_⟩
 ·have := (hc (k * 3 + 0) (by omega)).trans (rns_at hx (by omega : 0 < 3)); simpa [rnC] using this
 ·have := (hc (k * 3 + 1) (by omega)).trans (rns_at hx (by omega : 1 < 3)); simpa [rnC, Nat.add_assoc] using this
 ·have := (hc (k * 3 + 2) (by omega)).trans (rns_at hx (by omega : 2 < 3)); simpa [rnC, Nat.add_assoc] using this
theorem sl_rn (w : World) (t : TypeId) (x : Ren) : Sl (w.alloc (.cells #[S x.1, S x.2.1, I x.2.2] t)) 3 (some ⟨w.heap.size, 0, none⟩) 1 (rns [x]) := by
 refine ⟨by simp [rns, rnC], fun _ => ⟨_, _, rfl, by simp, fun k hk => ?_⟩⟩
 rw [Nat.zero_add]
 simp [rns, rnC]
theorem Tryz.infoRen : (Tryz.prog.info? 71).map (fun i => (i.zero, i.size, i.bytes)) = some (some (.agg #[.string ⟨#[]⟩, .string ⟨#[]⟩, .int .i64 0]), 3, 40) := by kernel_rfl
def rnV (x : Ren) : Value := .agg #[S x.1, S x.2.1, I x.2.2]
def rdR : Value → Option (DataW Unit × List MemPlace)
 | .agg cs => match cs.toList with
  | [.string a, .string b, .int .i64 n] => some (.agg [.lit (.string a.data.toList), .lit (.string b.data.toList), .lit (.int .i64 n)], [])
  | _ => none
 | _ => none
def pairC : Coding Tryz.prog 3 71 Int Ren where
 kv := I
 kl := Lit.int .i64
 vv := rnV
 vd x := .agg [.lit (.string x.1), .lit (.string x.2.1), .lit (.int .i64 x.2.2)]
 R := rdR
 good z := (Lit.int .i64 z).wf = true
 keyed := Maps.int_keyed Tryz.underlying3
 key z h := Maps.keyOf_int_mk Tryz.underlying3 h
 inj _ _ _ _ h := by injection h
 enc x := by simp [rdR, rnV]
 dec v x ps h := by
  unfold rdR at h
  split at h
  ·split at h
   ·rename_i cs _ a b n hcs
    simp only [Option.some.injEq, Prod.mk.injEq, DataW.agg.injEq, List.cons.injEq, DataW.lit.injEq, Lit.string.injEq, Lit.int.injEq, true_and, and_true] at h
    obtain ⟨⟨h1, h2, h3⟩, _⟩ := h
    obtain ⟨x1, x2, x3⟩ := x
    simp only at h1 h2 h3
    subst h1 h2 h3
    show _ = rnV _
    unfold rnV
    rw [← Array.toArray_toList (xs := cs), hcs]
   ·cases h
  ·cases h
theorem Tryz.zeroRen (w : World) : (zeroValue 71).run Tryz.prog w = .ok (pairC.vv ([], [], 0)) w := by kernel_rfl
theorem small_good (k : Nat) (h : k ≤ 1000000000) : pairC.good (k : Int) := by
 show (Lit.int .i64 (k : Int)).wf = true
 simp only [Lit.wf, Bool.and_eq_true, decide_eq_true_eq]
 exact ⟨Int.le_trans (show IntKind.i64.min ≤ 0 by decide) (by omega), Int.le_trans (b := 1000000000) (by omega) (by decide)⟩
def goneB (x : Chg3) : Bool := decide (x.2.2 = []) && !decide (x.2.1 = [])
def frsB (x : Chg3) : Bool := decide (x.2.1 = []) && !decide (x.2.2 = [])
set_option maxRecDepth 100000 in
theorem pgone_any (x : Chg3) (w : World) :
  Calls Tryz.prog 57 #[.agg #[S x.1, S x.2.1, S x.2.2]] w fun e w' => e = .returned (.bool (goneB x)) ∧ Below w.heap.size w w' := by
 have hr := (Blk.new w 124 #[S x.1, S x.2.1, S x.2.2]).cell
 cases h1 : (x.2.2 == []) <;> cases h2 : (x.2.1 == [])
 all_goals
  have e : goneB x = ((x.2.2 == []) && !(x.2.1 == [])) := by
   unfold goneB
   rw [Bool.eq_iff_iff]
   simp
  rw [h1, h2] at e
  rw [e]
  clear e
  go_enter Tryz.func57, Tryz.ntmps57
  go_wp2
  go_ret
  exact ⟨rfl, balloc (Below.refl _ w) _⟩
set_option maxRecDepth 100000 in
theorem pfresh_any (x : Chg3) (w : World) :
  Calls Tryz.prog 58 #[.agg #[S x.1, S x.2.1, S x.2.2]] w fun e w' => e = .returned (.bool (frsB x)) ∧ Below w.heap.size w w' := by
 have hr := (Blk.new w 124 #[S x.1, S x.2.1, S x.2.2]).cell
 cases h1 : (x.2.1 == []) <;> cases h2 : (x.2.2 == [])
 all_goals
  have e : frsB x = ((x.2.1 == []) && !(x.2.2 == [])) := by
   unfold frsB
   rw [Bool.eq_iff_iff]
   simp
  rw [h1, h2] at e
  rw [e]
  clear e
  go_enter Tryz.func58, Tryz.ntmps58
  go_wp2
  go_ret
  exact ⟨rfl, balloc (Below.refl _ w) _⟩
end Go.Proofs.YtphnfcgdpdimbaaGreatDoor
namespace Go.Proofs.YtphnfcgdpdimbaaGreatDoor
open Go.RowKit Go.Shelf
theorem own_step9 {w w' : World} {base sz n : Nat} {e : TypeId} {v : Value} {xs : List Value} (h : w.ownsRow base e sz v n xs) (hb : Below w.heap.size w w') : w'.ownsRow base e sz v n xs :=
 h.kept (row := none) ⟨hb.os, hb.tape, hb.output, hb.size, fun i hi _ => hb.block i hi⟩ (by cases v.ownBlock <;> simp)
set_option maxRecDepth 100000 in
theorem exact1_any (x c : Chg3) (B : Nat) (w : World) (hB : Blk w B 124 #[S c.1, S c.2.1, S c.2.2]) :
  Calls Tryz.prog 133 #[.agg #[S x.1, S x.2.1, S x.2.2], .pointer (some ⟨B, 0, none⟩)] w fun e w' => e = .returned (.bool (decide (x.2.1 = c.2.2))) ∧ Below w.heap.size w w' := by
 have hr := (hB.alloc (.cells #[S x.1, S x.2.1, S x.2.2] 124)).cell
 clear hB
 go_enter Tryz.func133, Tryz.ntmps133
 go_wp2
 go_ret
 refine ⟨ret_bool ?_, balloc (Below.refl _ w) _⟩
 rw [Bool.eq_iff_iff]
 simp
end Go.Proofs.YtphnfcgdpdimbaaGreatDoor
