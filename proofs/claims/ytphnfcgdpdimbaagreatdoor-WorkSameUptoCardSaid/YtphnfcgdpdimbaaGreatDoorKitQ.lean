/-
  Base texts, merged by a program (mkkit.py): words for slices, blocks, maps, regions that draw their order, the plain law of paths and of an index. Conditions: each lemma's own.
-/
import Derived.Test.YtphnfcgdpdimbaaGreatDoorKitJ
import Derived.StillTactics
import Derived.Shelf.SlSortCmp.NoneTotal
import Derived.Test.YtphnfcgdpdimbaaGreatDoorKitX
import Derived.Test.YtphnfcgdpdimbaaGreatDoorDiskNames
import Derived.Shelf.Abstract
import Derived.RangeFuncMany
/-
  cmp.Compare at strings and ints, cmp.Or at two ints; the order of entries. No condition.
-/
namespace Go.Proofs.YtphnfcgdpdimbaaGreatDoor
open Go.RowKit
open IdxLaw (Ent cmpS cmpI cmpE)

set_option maxRecDepth 100000 in
set_option maxHeartbeats 1000000 in
theorem cmpS_any (a b : List UInt8) (w : World) : Calls Tryz.prog 115 #[S a, S b] w fun e w' => e = .returned (I (cmpS a b)) ∧ w' = w := by
  have hways : (Op.bytesLess a b = true ∧ cmpS a b = -1) ∨ (Op.bytesLess a b = false ∧ (a == b) = false ∧ cmpS a b = 1) ∨ (Op.bytesLess a b = false ∧ (a == b) = true ∧ cmpS a b = 0) := by
    rw [Go.Proofs.bytesLess_eq]
    by_cases h1 : a < b
    · exact .inl ⟨by simpa using h1, by unfold cmpS; rw [if_pos h1]⟩
    · by_cases h2 : b < a
      · refine .inr (.inl ⟨by simpa using h1, ?_, by unfold cmpS; rw [if_neg h1, if_pos h2]⟩)
        rw [beq_eq_false_iff_ne]
        rintro rfl
        exact List.lt_irrefl _ h2
      · exact .inr (.inr ⟨by simpa using h1, by rw [beq_iff_eq]; exact List.le_antisymm (List.not_lt.1 h2) (List.not_lt.1 h1), by unfold cmpS; rw [if_neg h1, if_neg h2]⟩)
  rcases hways with ⟨h1, h3⟩ | ⟨h1, h2, h3⟩ | ⟨h1, h2, h3⟩
  all_goals
    rw [h3]
    clear h3
    go_enter Tryz.func115, Tryz.ntmps115
    go_wp2
    go_ret
    exact ⟨rfl, rfl⟩
theorem cmpI_any (a b : Int) (w : World) : Calls Tryz.prog 116 #[I a, I b] w fun e w' => e = .returned (I (cmpI a b)) ∧ w' = w := by
  have C := Tryz.cmp_Compare_int a b w
  have e : Lib.compareInt a b = cmpI a b := by unfold Lib.compareInt cmpI; rfl
  rw [e] at C
  exact C
theorem or_any (A : Option Addr) (x y : Int) (c : Nat) (w : World) (hA : Sl w 1 A 2 [I x, I y]) : Calls Tryz.prog 114 #[.slice A 2 c] w fun e w' => e = .returned (I (if x = 0 then y else x)) ∧ w' = w := by
  obtain ⟨b, off, rfl, hb, hc⟩ := hA.2 (by omega)
  have c0 : w.cell? ⟨b, off, none⟩ = some (I x) := hc 0 (by omega)
  have c1 : w.cell? ⟨b, off + 1, none⟩ = some (I y) := hc 1 (by omega)
  clear hc hA
  by_cases h : x = 0
  · rw [if_pos h]
    subst h
    by_cases hy : y = 0
    all_goals
      first | (subst hy; skip) | skip
      go_enter Tryz.func114, Tryz.ntmps114
      go_wp2
      refine wp_loop_rounds 3 ?_
      rw [rounds_succ]
      go_wp2
      rw [rounds_succ]
      go_wp2
      try (rw [rounds_succ]; go_wp2)
      go_ret
      exact ⟨rfl, rfl⟩
  · rw [if_neg h]
    go_enter Tryz.func114, Tryz.ntmps114
    go_wp2
    refine wp_loop_rounds 1 ?_
    rw [rounds_succ]
    go_wp2
    go_ret
    exact ⟨rfl, rfl⟩

set_option maxRecDepth 100000 in
set_option maxHeartbeats 2000000 in
theorem entries1_any (x y : Ent) (w : World) : Calls Tryz.prog 113 #[entV x, entV y] w fun e w' => e = .returned (I (cmpE x y)) ∧ ∃ q os, w' = Go.Sort.grow (w.drewN q) os := by
  have r0 := ((Blk.new w 40 #[S x.path, I x.stage, S x.id, I x.size, I x.stamp]).alloc (.cells #[S y.path, I y.stage, S y.id, I y.size, I y.stamp] 40)).cell
  have r1 := (Blk.new (w.alloc (.cells #[S x.path, I x.stage, S x.id, I x.size, I x.stamp] 40)) 40 #[S y.path, I y.stage, S y.id, I y.size, I y.stamp]).cell
  simp only [World.size_alloc] at r1
  go_enter Tryz.func113, Tryz.ntmps113
  go_wp2
  have hW0 : ∃ os, (w.alloc (.cells #[S x.path, I x.stage, S x.id, I x.size, I x.stamp] 40)).alloc (.cells #[S y.path, I y.stage, S y.id, I y.size, I y.stamp] 40) = Go.Sort.grow w os := ⟨#[_, _], by rw [Go.Sort.alloc_eq_grow, Go.Sort.alloc_eq_grow, Go.Sort.grow_grow]; rfl⟩
  generalize hW : (w.alloc (.cells #[S x.path, I x.stage, S x.id, I x.size, I x.stamp] 40)).alloc (.cells #[S y.path, I y.stage, S y.id, I y.size, I y.stamp] 40) = W at *
  have HW0 := Lib.hid hW0
  clear hW hW0
  refine wp_region_still_tail 10 (by kernel_rfl) (by kernel_rfl) ?_
  simp only [List.take_succ_cons, List.take_zero, List.drop_succ_cons, List.drop_zero]
  repeat still_step
  still_call (cmpS_any x.path y.path _)
  repeat still_step
  still_call (cmpI_any x.stage y.stage _)
  repeat still_step
  refine wpStill_nil ?_
  have hS := Lib.hid (Blk.new W.drew 3 #[I (cmpS x.path y.path), I (cmpI x.stage y.stage)]).sl
  have C : Hid (Calls Tryz.prog 114 #[.slice (some ⟨W.heap.size, 0, none⟩) 2 2] (W.drew.alloc (.cells #[I (cmpS x.path y.path), I (cmpI x.stage y.stage)] 3)) fun e w' => e = .returned (I (cmpE x y)) ∧ w' = W.drew.alloc (.cells #[I (cmpS x.path y.path), I (cmpI x.stage y.stage)] 3)) :=
    Lib.hid (or_any (some ⟨W.heap.size, 0, none⟩) (cmpS x.path y.path) (cmpI x.stage y.stage) 2 (W.drew.alloc (.cells #[I (cmpS x.path y.path), I (cmpI x.stage y.stage)] 3)) hS.out)
  go_wp2_with (go_at_call 114; refine C.out.mono ?_; rintro e w' ⟨rfl, rfl⟩)
  go_ret
  obtain ⟨os, rfl⟩ := HW0.out
  exact ⟨rfl, 1, os ++ #[.cells #[I (cmpS x.path y.path), I (cmpI x.stage y.stage)] 3], by rw [Go.Sort.alloc_eq_grow, Go.Sort.grow_grow]; rfl⟩
end Go.Proofs.YtphnfcgdpdimbaaGreatDoor

/-
  slices.SortFunc at entries of the call's own, no key twice. No condition else.
-/
namespace Go.Proofs.YtphnfcgdpdimbaaGreatDoor
open Go.RowKit Go.Sort Go.Shelf
open IdxLaw (Ent cmpE ltE sortE Uniq)

theorem Tryz.aggEnt (w : World) : (isAgg 40).run Tryz.prog w = .ok true w := by kernel_rfl
theorem Tryz.sizeEnt (w : World) : (Go.sizeOf 40).run Tryz.prog w = .ok 5 w := by kernel_rfl
theorem swoE : SWO (ltOf cmpE) where
  irrefl x := IdxLaw.ltE_irrefl x
  trans x y z h1 h2 := IdxLaw.ltE_trans h1 h2
  ntrans x y z h1 h2 := by
    have := IdxLaw.le_trans (a := z) (b := y) (c := x) (by show (!ltOf cmpE y z) = true; rw [h2]; rfl) (by show (!ltOf cmpE x y) = true; rw [h1]; rfl)
    simpa [ltE, ltOf] using this

theorem sort_any (w0 w : World) (A : Option Addr) (n c : Nat) (l : List Ent) (hO : Ow w0 w 40 5 A n c (ents l)) (hu : Uniq l) (hb : n ≤ 1000000) :
    Calls Tryz.prog 180 #[.slice A n c, .func (.func 113) #[] #[]] w fun e w' => e = .returned (.tuple #[]) ∧ Ow w0 w' 40 5 A n c (ents (sortE l)) := by
  have hn := ents_count hO.sl
  have hcap := hO.cap
  rcases Nat.eq_zero_or_pos n with h0 | h0
  · subst h0
    obtain rfl : l = [] := List.eq_nil_of_length_eq_zero hn
    refine (AnyF.slices_SortFunc_none Tryz.sortEnt A c _ w).mono ?_
    rintro e w' ⟨rfl, rfl⟩
    have e : sortE [] = [] := by simp [sortE]
    exact ⟨rfl, by rw [e]; exact hO⟩
  · obtain ⟨g, rfl, hg0, hg⟩ := hO.form h0
    subst hn
    have hH : HoldsK entC 5 w g 0 l.toArray := by
      unfold HoldsK
      rw [flatK_eq (enc := entC) (k := 5) (fun _ => rfl)]
      rcases hO.1.2 with ⟨hv, _⟩ | ⟨g', cap', cur, hv, hbase, hb, h1, h2, h3, h4⟩
      · cases hv
      · cases hv
        refine holds_own hb ?_
        rw [show (l.toArray.toList.flatMap entC).length = l.length * 5 from ents_len l]
        exact h4
    have hc := AnyQ.slices_SortFunc Tryz.sortEnt 5 Tryz.aggEnt Tryz.sizeEnt entC (fun _ => rfl) (fun x v hv => by simp [entC] at hv; rcases hv with rfl | rfl | rfl | rfl | rfl <;> rfl) cmpE swoE 113 #[] g 0 c l.toArray w
      (enters_of Tryz.func113 (by kernel_rfl) rfl)
      (fun m os dk _ x y => entries1_any x y _) hH hg (by simp; omega)
    refine hc.mono ?_
    rintro e w' ⟨rfl, d', m, os, hp, hs, rfl⟩
    have hd : d'.toList = sortE l := by
      obtain ⟨hsz, _, hperm⟩ := hp
      have e1 : d'.extract 0 l.toArray.size = d' := by rw [← hsz]; exact Array.extract_size
      rw [e1, Array.extract_size] at hperm
      refine IdxLaw.sortE_unique hu (by simpa using hperm) ?_
      rw [List.pairwise_iff_getElem]
      intro i j hi hj hij
      have hi' : i < d'.size := by simpa using hi
      have hj' : j < d'.size := by simpa using hj
      have := hs i j (Nat.zero_le _) hij (by rw [← hsz]; exact hj')
      rw [getElem!_pos d' j hj', getElem!_pos d' i hi'] at this
      show (!ltOf cmpE _ _) = true
      rw [Array.getElem_toList, Array.getElem_toList, this]
      rfl
    have hw : sortWorldK entC 5 w g 0 m d' os = grow (putRow id (Sort.ahead w m) g 0 (ents (sortE l)).toArray) os := by
      unfold sortWorldK putRowK
      rw [flatK_eq (enc := entC) (k := 5) (fun _ => rfl), hd]
      rfl
    rw [hw]
    have hl2 : (ents (sortE l)).length = (ents l).length := by rw [ents_len, ents_len, (IdxLaw.sortE_perm l).length_eq]
    refine ⟨rfl, ?_, hO.2.grown (grown_put _) hO.2.size (fun k e => by cases e; exact hg0)⟩
    exact own_put hO.1 hl2
end Go.Proofs.YtphnfcgdpdimbaaGreatDoor

/-
  index.Entries: maps.Values, slices.Collect, slices.SortedFunc over the map. Condition: the index lies in memory.
-/
namespace Go.Proofs.YtphnfcgdpdimbaaGreatDoor
open Go.RowKit Go.Shelf
open IdxLaw (Ent Key zE sortE)

section
variable {m r n cnt : Nat} {l rest : List (Key × Ent)} {w w' : World}
theorem RangeL.walksI (h : RangeL idxC w m r n l rest cnt) (hk : KeepsWalks w w') : RangeL idxC w' m r n l rest cnt := by
  obtain ⟨D, left, h1, h2⟩ := h
  exact ⟨D, left, h1.of_walks hk, h2⟩
theorem RangeL.iterI (h : RangeL idxC w m r n l rest cnt) : ∃ o : Obj, w.heap[r]? = some o ∧ o.isWalk = true := by
  obtain ⟨D, left, h1, _⟩ := h
  exact h1.iter_walk
end
theorem MapL.walksI {w w' : World} {m n : Nat} {l : List (Key × Ent)} (h : MapL idxC w m n l) (hk : KeepsWalks w w') : MapL idxC w' m n l := by
  obtain ⟨D, ⟨es, clock, h1, h2⟩, h3⟩ := h
  exact ⟨D, ⟨es, clock, hk.same m _ h1 rfl, h2⟩, h3⟩

abbrev encE (x : Ent) : Array Value := #[entV x]
set_option maxRecDepth 100000 in
set_option maxHeartbeats 2000000 in
theorem values1_in (N : Nat) (hN : 1 ≤ N) (lp Bm m n : Nat) (l : List Ent) (J Jx : List Ent → World → Prop)
    (hY : ∀ pre x W, J pre W → pre.length < l.length → YieldAt Fence.wide (N - 1) Tryz.prog lp (encE x) W fun e W' =>
      (e = .returned (.bool true) ∧ J (pre ++ [x]) W' ∧ KeepsWalks W W') ∨ (e = .returned (.bool false) ∧ Jx (pre ++ [x]) W'))
    (W : World) (hJ : AbidesFrom W.heap.size J) (hm : W.cell? ⟨Bm, 0, none⟩ = some (.map (some m))) (hown : MapL idxC W m n (kd l)) (h0 : J [] W) :
    CallsIn Fence.wide N Tryz.prog 181 #[.func (.yield lp) #[] #[], .pointer (some ⟨Bm, 0, none⟩)] W fun e W' => (∃ v, e = .returned v) ∧
      ((∃ xs, xs.Perm l ∧ J xs W') ∨ (∃ pre, True ∧ Jx pre W')) := by
  have HY := Lib.hid hY
  have HJ := Lib.hid hJ
  clear hY hJ
  refine callsIn_of_wp Tryz.func181 rfl trivial ?_ rfl
  simp only [Tryz.ntmps181, List.size_toArray, List.length_cons, List.length_nil, Nat.reduceAdd, Nat.reduceSub, Array.replicate_succ, Array.replicate_zero, List.push_toArray, List.append_toArray, List.nil_append, List.cons_append]
  gi_wp2_with (first
    | (gi_at_range; refine wpListIn_rangeL _ rfl _ 152 rfl idxC Tryz.underlying152 m n _ rfl hown ?_; intro w0 cnt0 hrg0 hg0 hs0)
    | gi_in)
  go_frame
  gi_loopw [4] (fun _ wr => ∃ (rest : List (Key × Ent)) (cnt : Nat) (ps : List Ent), RangeL idxC wr m W.heap.size n (kd l) rest cnt ∧ Hid (l.Perm (ps ++ rest.map (·.2))) ∧ Hid (J ps wr))
    (fun _ wr => wr.rangeLeft m W.heap.size)
  case atStart =>
    exact ⟨_, _, [], hrg0, Lib.hid (by rw [kd_snd]; exact List.Perm.refl _), Lib.hid (HJ.out [] W w0 none h0 hg0 (fun r e => by cases e))⟩
  case round =>
    obtain ⟨rest, cnt, ps, hrg, hC, hJs⟩ := hrel
    gi_wp2_with (first
      | (gi_at_next; refine wpListIn_nextL _ rfl _ rfl idxC idxC_full m W.heap.size n _ _ cnt rfl hrg ?_ ?_)
      | gi_in)
    · rintro rfl
      gi_wp2
      go_end0
      exact ⟨⟨_, rfl⟩, .inl ⟨ps, by have := hC.out; simp at this; exact this.symm, hJs.out⟩⟩
    · intro a b x w2 cnt2 hp2 hgd2 hrg2 hlt hg2 hs2 hen0
      have hen : Sem.run Tryz.prog (Instr.entry (Value.pointer (some { block := W.heap.size, off := 0 }))) w2 = Result.ok (Value.tuple #[keyV (a, b), entV x]) w2 := hen0
      have hJ2 : J ps w2 := HJ.out ps wr w2 (some W.heap.size) hJs.out hg2 (fun r e => by cases e; exact ⟨Nat.le_refl _, hrg.iterI⟩)
      have hperm := strike_perm hrg.keys hp2
      have hpe := hC.out.trans (((hperm.map (·.2))).append_left ps)
      have hlen : ps.length < l.length := by
        have := hpe.length_eq
        simp at this
        omega
      have hJ3a := HJ.out ps w2 (w2.alloc (.cells #[S x.path, I x.stage, S x.id, I x.size, I x.stamp] 40)) none hJ2 (World.grownBy_alloc _ _ none) (fun r e => by cases e)
      obtain ⟨fn, tmps, assign, body, hy, hR⟩ := HY.out ps x _ hJ3a hlen
      dsimp only [encE] at hy
      have Hpe := Lib.hid hpe
      have Hrg2 := Lib.hid hrg2
      clear hs2 hen0 hperm hpe hrg2 hlen hp2
      gi_wp2
      refine hR.mono ?_
      rintro e W3 (⟨rfl, hJ3, hk3⟩ | ⟨rfl, hJx3⟩)
      · gi_wp2
        have hrg3 := (Hrg2.out.step (balloc (Below.refl _ w2) (.cells #[S x.path, I x.stage, S x.id, I x.size, I x.stamp] 40))).walksI hk3
        go_roundw
        case rel => exact ⟨_, cnt2, ps ++ [x], hrg3, Lib.hid (by have := Hpe.out; simpa using this), Lib.hid hJ3⟩
        case measure => rw [hrg3.left_eq, hrg.left_eq]; exact hlt
      · gi_wp2
        refine bodyPost_ret (results_none rfl _ _ _) rfl ?_
        exact ⟨⟨_, rfl⟩, .inr ⟨_, trivial, hJx3⟩⟩

set_option maxHeartbeats 1000000 in
theorem values_any (m : Nat) (w : World) :
    Calls Tryz.prog 112 #[.map (some m)] w fun e w' => e = .returned (.func (.func 181) #[] #[.pointer (some ⟨w.heap.size, 0, none⟩)]) ∧ w' = w.alloc (.cells #[.map (some m)] 152) := by
  go_enter Tryz.func112, Tryz.ntmps112
  go_wp2
  go_ret
  exact ⟨rfl, rfl⟩
theorem values_stops (N : Nat) (hN : 1 ≤ N) (Bm m n : Nat) (l : List Ent) (w : World) (hm : w.cell? ⟨Bm, 0, none⟩ = some (.map (some m))) (hown : MapL idxC w m n (kd l)) :
    SeqStopsK Fence.wide N Tryz.prog 181 #[.pointer (some ⟨Bm, 0, none⟩)] encE KeepsWalks (fun xs => xs.Perm l) (fun _ => True) l.length w := fun lp J Jx W hW hJ _ hY h0 =>
  values1_in N hN lp Bm m n l J Jx hY W hJ ((hW.cell (p := ⟨Bm, 0, none⟩) (World.block_lt_of_cell? _ _ hm)).trans hm) (hown.step hW) h0

attribute [local go_sem] Oper.semAt_some
/-- between two rounds of AppendSeq -/
def ApE (w0 : World) (Bs : Nat) (pre : List Ent) (W : World) : Prop :=
  ∃ (A : Option Addr) (c : Nat), Boxed W Bs 112 (.slice A pre.length c) ∧ W.ownsRow w0.heap.size 40 5 (.slice A pre.length c) pre.length (ents pre) ∧ Below w0.heap.size w0 W
theorem apE_own {w0 : World} {Bs B : Nat} (hB : w0.heap.size ≤ B) : OwnFrom B (ApE w0 Bs) := by
  rintro pre W W' row ⟨A, c, h1, h2, h3⟩ hg hr
  exact ⟨A, c, box_abides h1 hg (fun r e => (hr r e).2), own_abides h2 hg (fun r e => (hr r e).2), h3.grown hg h3.size (fun k e => Nat.le_trans hB (hr k e).1)⟩
theorem Tryz.infoEnt : (Tryz.prog.info? 40).map (fun i => (i.zero, i.size, i.bytes)) = some (some (.agg #[.string ⟨#[]⟩, .int .i64 0, .string ⟨#[]⟩, .int .i64 0, .int .i64 0]), 5, 56) := by kernel_rfl

set_option maxRecDepth 100000 in
set_option maxHeartbeats 4000000 in
theorem appendSeqE_any (w : World) (Bm m n : Nat) (l : List Ent) (hl : l.length ≤ 1000000) (hm : w.cell? ⟨Bm, 0, none⟩ = some (.map (some m))) (hown : MapL idxC w m n (kd l)) :
    Calls Tryz.prog 240 #[.slice none 0 0, .func (.func 181) #[] #[.pointer (some ⟨Bm, 0, none⟩)]] w fun e w' => ∃ (A : Option Addr) (c : Nat) (xs : List Ent), e = .returned (.slice A l.length c) ∧ xs.Perm l ∧ Ow w w' 40 5 A l.length c (ents xs) := by
  refine (callsIn_wide (n := 6)).1 ?_
  refine callsIn_of_wp_marks Tryz.func240 rfl trivial ?_ rfl
  simp only [Tryz.ntmps240, List.size_toArray, List.length_cons, List.length_nil, Nat.reduceAdd, Nat.reduceSub, Array.replicate_succ, Array.replicate_zero, List.push_toArray, List.append_toArray, List.nil_append, List.cons_append]
  have HS := Lib.hid (values_stops 5 (by omega) Bm m n l w hm hown)
  clear hm hown
  gi_wp2
  have bS := Boxed.new w 112 (.slice none 0 0)
  obtain ⟨i0, hi0, hi1, hi2, hi3⟩ := info_parts Tryz.infoEnt
  refine wpIn_rangeFunc_ownH rfl (by omega) (gf := 181) (lb := #[.pointer (some ⟨Bm, 0, none⟩)]) rfl trivial (enters_of Tryz.func181 (by kernel_rfl) rfl)
    HS.out (walksK_t) (walksK_b) (balloc (Below.refl _ w) _) (fun _ => rfl)
    (ApE w w.heap.size)
    (fun _ _ _ => False)
    (apE_own (by simp))
    (fun _ _ _ _ _ hs _ _ => hs)
    ⟨none, 0, bS, World.ownsRow_nil _ _ _ _, balloc (Below.refl _ w) _⟩
    (fun x a' W => ∃ Bx, w.heap.size < Bx ∧ Blk W Bx 40 #[S x.path, I x.stage, S x.id, I x.size, I x.stamp] ∧ a' = { tmps := #[.slice none 0 0, .func (.func 181) #[] #[.pointer (some ⟨Bm, 0, none⟩)], .pointer (some ⟨w.heap.size, 0, none⟩), undef, .slice none 0 0, .pointer (some ⟨Bx, 0, none⟩), .func (.func 181) #[] #[.pointer (some ⟨Bm, 0, none⟩)], entV x, undef, undef, undef, undef, undef], defers := [] })
    ?hax ?assign ?body ?done ?stop
  case hax =>
    intro x a' _ W W' row ⟨Bx, h1, h2, h3⟩ hg hr
    exact ⟨Bx, h1, h2.grown hg (fun e' => by obtain ⟨_, o, ho, hc⟩ := hr Bx e'.symm; unfold Blk at h2; rw [h2] at ho; cases ho; cases hc), h3⟩
  case assign =>
    rintro lp pre x W K ⟨A, c, h1, h2, h3⟩ hK
    gi_wp2
    refine hK _ _ (keepsFrom_below (balloc (Below.refl _ W) _)) (KeepsWalks.alloc _ _) ⟨A, c, h1.alloc _, h2.alloc _, balloc h3 _⟩ ⟨W.heap.size, h1.lt, Blk.new W _ _, rfl⟩
  case body =>
    rintro lp pre x a' W hlp _ ⟨A, c, h1, h2, h3⟩ ⟨Bx, hBx, hX, rfl⟩ hlt
    have hn : pre.length < l.length := hlt
    have q1 : pre.length + 1 ≤ maxLen := by simp only [maxLen]; omega
    have q2 : (pre.length + 1) * 56 ≤ 140737488355328 := by omega
    have rx := hX.cell
    have rc := h1.cell
    have H1 := Lib.hid h1
    have H2 := Lib.hid h2
    have H3 := Lib.hid h3
    have hS1 := Lib.hid (sl_ent W 40 x)
    have hb1 := (h1.alloc (.cells #[S x.path, I x.stage, S x.id, I x.size, I x.stamp] 40))
    have HB1 := Lib.hid hb1
    clear h1 h2 h3 hb1 hX
    gi_wp2_with (gi_at_builtin; refine wpListIn_append_at _ rfl (.tmp 8) (.tmp 10) 112 rfl w.heap.size 40 i0 _ 5 56 Tryz.underlying112 hi0 hi1 hi2 hi3 rfl (by decide) A pre.length c _ rfl (H2.out.alloc _) (Nat.le_trans H3.out.size (by simp)) _ 1 1 (ents [x]) rfl hS1.out (one_ents _) q1 q2 ?_; intro A3 c3 w6 hO3 hg3; have hO7 : Boxed w6 w.heap.size 112 (.slice A pre.length c) := HB1.out.kept hg3 (HB1.out.not_row (by decide) (H2.out.alloc _)); have ro7 := hO7.cell; have fo7 := hO7.frozen)
    have hkw : KeepsWalks W w6 := (KeepsWalks.alloc W _).trans (KeepsWalks.of_grownBy hg3 (own_noWalk (H2.out.alloc _)))
    have hbw : Below w.heap.size w w6 := (balloc H3.out _).grown hg3 (Nat.le_trans H3.out.size (by simp)) (fun k hk => (H2.out.lt k hk).1)
    have hkf : KeepsFrom (w.alloc (.cells #[.slice none 0 0] 112)).heap.size W (w6.setCell ⟨w.heap.size, 0, none⟩ (.slice A3 (pre.length + 1) c3)) :=
      (keepsFrom_below (balloc (Below.refl _ W) (.cells #[S x.path, I x.stage, S x.id, I x.size, I x.stamp] 40))).trans (((KeepsOthers.of_grownBy hg3 (fun j o hj ho => by
        rcases H2.out.2 with ⟨hv, _⟩ | ⟨g, cap, cur, hv, _, hgb, _⟩
        · rw [hv] at hj; simp [Value.ownBlock] at hj
        · rw [hv] at hj
          have : g = j := by simpa [Value.ownBlock] using hj
          subst this
          have hh := (Below.heap_alloc W (.cells #[S x.path, I x.stage, S x.id, I x.size, I x.stamp] 40) g (heap_lt hgb)).trans hgb
          rw [hh] at ho
          cases ho
          rfl)).from _).trans ((KeepsOthers.setCell w6 _ _).from _))
    have hO3' : w6.ownsRow w.heap.size 40 5 (.slice A3 (pre.length + 1) c3) (pre.length + 1) (ents (pre ++ [x])) := by rw [ents_append]; exact hO3
    refine ⟨hkf, hkw.trans (KeepsWalks.setCell _ _ _), A3, c3, by simpa using hO7.set (.slice A3 (pre.length + 1) c3), ?_, hbw.setCell (Nat.le_refl _) _⟩
    have h9 := own_far hO3' (p := ⟨w.heap.size, 0, none⟩) (hO7.not_row (by decide) hO3') (.slice A3 (pre.length + 1) c3)
    simpa using h9
  case done =>
    rintro D zs W hD hz ⟨A, c, h1, h2, h3⟩ hK
    have hc := h1.cell
    gi_wp2
    refine ⟨by simp, .inl ⟨_, _, rfl, run_takeDeferred hK, ?_⟩⟩
    have hzl := hz.length_eq
    refine ⟨_, results_tmp rfl _ _ _, A, c, zs, by rw [← hzl]; rfl, hz, ?_, ?_⟩
    · rw [← hzl]
      exact ownsRow_putObj h2 _ hK rfl
    · exact h3.trans (belowK_b (w := w) (Nat.le_refl _) W D _ _ (by simp at hD; omega) hK rfl rfl)
  case stop =>
    rintro D c pre W _ _ h _
    exact h.elim

theorem collectE_any (w : World) (Bm m n : Nat) (l : List Ent) (hl : l.length ≤ 1000000) (hm : w.cell? ⟨Bm, 0, none⟩ = some (.map (some m))) (hown : MapL idxC w m n (kd l)) :
    Calls Tryz.prog 179 #[.func (.func 181) #[] #[.pointer (some ⟨Bm, 0, none⟩)]] w fun e w' => ∃ (A : Option Addr) (c : Nat) (xs : List Ent), e = .returned (.slice A l.length c) ∧ xs.Perm l ∧ Ow w w' 40 5 A l.length c (ents xs) := by
  have C := Lib.hid (appendSeqE_any w Bm m n l hl hm hown)
  clear hm hown
  go_enter Tryz.func179, Tryz.ntmps179
  go_wp2_with (go_at_call 240; refine C.out.mono ?_; rintro e w2 ⟨A, c, xs, rfl, hp, hO⟩)
  go_ret
  exact ⟨A, c, xs, rfl, hp, hO⟩
set_option maxHeartbeats 1000000 in
theorem sortedFunc_any (w : World) (Bm m n : Nat) (l : List Ent) (hu : IdxLaw.Uniq l) (hl : l.length ≤ 1000000) (hm : w.cell? ⟨Bm, 0, none⟩ = some (.map (some m))) (hown : MapL idxC w m n (kd l)) :
    Calls Tryz.prog 111 #[.func (.func 181) #[] #[.pointer (some ⟨Bm, 0, none⟩)], .func (.func 113) #[] #[]] w fun e w' => ∃ (A : Option Addr) (c : Nat), e = .returned (.slice A l.length c) ∧ Ow w w' 40 5 A l.length c (ents (sortE l)) := by
  have C := Lib.hid (collectE_any w Bm m n l hl hm hown)
  clear hm hown
  go_enter Tryz.func111, Tryz.ntmps111
  go_wp2_with (first
    | (go_at_call 179; refine C.out.mono ?_; rintro e w2 ⟨A, c, xs, rfl, hp, hO⟩; have C2 := Lib.hid (sort_any w w2 A l.length c xs hO (hu.perm hp.symm) hl); have Hp := Lib.hid hp; clear hO hp)
    | (go_at_call 180; refine C2.out.mono ?_; rintro e w3 ⟨rfl, hO3⟩; have HO3 := Lib.hid hO3; clear hO3))
  go_ret
  exact ⟨A, c, rfl, by rw [← IdxLaw.sortE_perm_eq (hu.perm Hp.out.symm) Hp.out]; exact HO3.out⟩
set_option maxHeartbeats 1000000 in
theorem entries_any (w : World) (p m n : Nat) (l : List Ent) (hI : IdxAt w p m l n) (hn : n ≤ 1000000) :
    Calls Tryz.prog 43 #[.pointer (some ⟨p, 0, none⟩)] w fun e w' => ∃ (A : Option Addr) (c : Nat), e = .returned (.slice A l.length c) ∧ Ow w w' 40 5 A l.length c (ents (sortE l)) := by
  have hc := hI.blk.cell
  have hle : l.length ≤ 1000000 := by
    have h1 := hI.map.le
    simp [kd] at h1
    omega
  have hm := hI.map.alloc (.cells #[.map (some m)] 152)
  have C1 := Lib.hid (fun W => values_any m W)
  have C2 := Lib.hid (sortedFunc_any (w.alloc (.cells #[.map (some m)] 152)) w.heap.size m n l hI.uniq hle ((Blk.new w _ _).cell 0) hm)
  clear hI hm
  go_enter Tryz.func43, Tryz.ntmps43
  go_wp2_with (first
    | (go_at_call 112; refine (C1.out _).mono ?_; rintro e w2 ⟨rfl, rfl⟩)
    | (go_at_call 111; refine C2.out.mono ?_; rintro e w3 ⟨A, c, rfl, hO⟩; have HO := Lib.hid hO; clear hO))
  go_ret
  exact ⟨A, c, rfl, HO.out.since (balloc (Below.refl _ w) _)⟩
end Go.Proofs.YtphnfcgdpdimbaaGreatDoor
