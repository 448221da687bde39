/-
  disk: maps.Keys, slices.Collect, slices.Sorted over the files' map; Names. Condition: the disk lies in memory.
-/
import Derived.Test.YtcednfmkiaelnaaGreatDoorTKitD
import Derived.Test.YtcednfmkiaelnaaGreatDoorTKitX
import Derived.Shelf.Abstract
import Derived.RangeFuncMany
namespace Go.Proofs.YtcednfmkiaelnaaGreatDoor
open Go.RowKit Go.Shelf
section
variable {P : Program} (w : World) {F : Fence} {N : Nat} {ops : Array Oper} {rest : List Oper} {o : Oper} {a : Act} {Q : Exit → Act → World → Prop} {k e : TypeId} {κ α : Type} [DecidableEq κ]
theorem wpListIn_rangeL (hg : o.guard = none) (m : Operand) (t : TypeId) (hop : o.op = Op.range t m) (C : Coding P k e κ α) (ht : P.underlying t = some (.map k e)) (b n : Nat) (l : List (κ × α))
  (hm : a.eval m = .map (some b)) (h : MapL C w b n l)
  (hK : ∀ w' cnt, RangeL C w' b w.heap.size n l l cnt → w.grownBy w' none → w'.heap.size = w.heap.size + 1 → wpListIn F N P ops Q rest (a.put o.dst (.pointer (some ⟨w.heap.size, 0, none⟩))) w') :
  wpListIn F N P ops Q (o :: rest) a w := by
 obtain ⟨D, h1, h2⟩ := h
 exact wpListIn_range_own w hg m t hop k e C.keyed ht C.R b n D hm h1 fun w' hr hg' hs => hK w' _ ⟨D, _, hr, h2, h2.nodup, fun _ hp => hp, h2.range⟩ hg' hs
theorem wpListIn_nextL (hg : o.guard = none) (it : Operand) (hop : o.op = Op.next it false) (C : Coding P k e κ α) (Fl : C.Full) (b r n : Nat) (l left : List (κ × α)) (cnt : Nat)
  (hit : a.eval it = .pointer (some ⟨r, 0, none⟩)) (h : RangeL C w b r n l left cnt)
  (hDone : left = [] → wpListIn F N P ops Q rest (a.put o.dst (.tuple #[.bool false])) w)
  (hMore : ∀ (p : κ × α) (w' : World) (cnt' : Nat), p ∈ left → C.good p.1 → RangeL C w' b r n l (strike left p.1) cnt' → cnt' < cnt →
   w.grownBy w' (some r) → w'.heap.size = w.heap.size → (Instr.entry (.pointer (some ⟨r, 0, none⟩))).run P w' = .ok (.tuple #[C.kv p.1, C.vv p.2]) w' → wpListIn F N P ops Q rest (a.put o.dst (.tuple #[.bool true, C.kv p.1, C.vv p.2])) w') :
  wpListIn F N P ops Q (o :: rest) a w := by
 obtain ⟨D, lf, h1, h2, h3, h4, h5⟩ := h
 refine wpListIn_next_ranges w hg it hop k C.keyed C.R (fun x : {x // C.good x} => C.kv x.1) C.vv (fun key kl hkey => ?_) Fl.invV b r n D lf cnt hit h1 (fun _ hl => hDone ?_) (fun x c kl y w' cnt' hkey hlk hv hat hrg hlt hgr hsz hen => ?_)
 ·obtain ⟨x, hx, hgd⟩ := Fl.invK key kl hkey
  exact ⟨⟨x, hgd⟩, hx⟩
 ·rcases left with _ | ⟨p, r⟩
  ·rfl
  ·have := h5 p.1 (h2.good p (h4 p (by simp)))
   rw [hl] at this
   simp at this
 ·obtain ⟨rfl, p, hp, hpx, hpv⟩ := RangeL.came h2 h4 h5 hkey x.2 hlk hv hat
  rw [← hpv, ← hpx]
  rw [← hpv, ← hpx] at hen
  refine hMore p w' cnt' hp (hpx ▸ x.2) ⟨D, _, hrg, h2, nodup_strike h3 _, fun q hq => h4 q (List.mem_filter.1 hq).1, ?_⟩ hlt hgr hsz hen
  rw [← hpx]
  exact RangeL.left_step h5 (hpx ▸ x.2)
end
theorem strike_perm {κ α : Type} [DecidableEq κ] : ∀ {l : List (κ × α)}, (l.map (·.1)).Nodup → ∀ {p : κ × α}, p ∈ l → l.Perm (p :: strike l p.1)
 | [], _, _, h => by simp at h
 | q :: r, hn, p, hp => by
  rw [List.map_cons, List.nodup_cons] at hn
  unfold strike
  rw [List.filter_cons]
  rcases List.mem_cons.1 hp with rfl | hp
  ·simp only [decide_true, Bool.not_true, Bool.false_eq_true, if_false]
   rw [show r.filter (fun x => !decide (x.1 = p.1)) = r from strike_self hn.1]
  ·have hne : q.1 ≠ p.1 := fun e => hn.1 (e ▸ List.mem_map_of_mem hp)
   simp only [hne, decide_false, Bool.not_false, if_true]
   exact (List.Perm.cons q (strike_perm hn.2 hp)).trans (List.Perm.swap p q _)
theorem strs_append1 (l k : List (List UInt8)) : strs (l ++ k) = strs l ++ strs k := by simp [strs]
section
variable {m n r cnt : Nat} {l rest : List (List UInt8 × Hd)} {w w' : World}
theorem RangeL.walks (h : RangeL diskC w m r n l rest cnt) (hk : KeepsWalks w w') : RangeL diskC w' m r n l rest cnt := by
 obtain ⟨D, left, h1, h2⟩ := h
 exact ⟨D, left, h1.of_walks hk, h2⟩
theorem RangeL.iter (h : RangeL diskC w m r n l rest cnt) : ∃ o : Obj, w.heap[r]? = some o ∧ o.isWalk = true := by
 obtain ⟨D, left, h1, _⟩ := h
 exact h1.iter_walk
end
abbrev encN (x : List UInt8) : Array Value := #[S x]
set_option maxRecDepth 100000 in
set_option maxHeartbeats 2000000 in
theorem keys1_in (N : Nat) (hN : 1 ≤ N) (lp Bm m n : Nat) (l : List (List UInt8 × Hd)) (J Jx : List (List UInt8) → World → Prop)
  (hY : ∀ pre x W, J pre W → pre.length < l.length → YieldAt Fence.wide (N - 1) Tryz.prog lp (encN x) W fun e W' =>
   (e = .returned (.bool true) ∧ J (pre ++ [x]) W' ∧ KeepsWalks W W') ∨ (e = .returned (.bool false) ∧ Jx (pre ++ [x]) W'))
  (W : World) (hJ : AbidesFrom W.heap.size J) (hm : W.cell? ⟨Bm, 0, none⟩ = some (.map (some m))) (hown : MapL diskC W m n l) (h0 : J [] W) :
  CallsIn Fence.wide N Tryz.prog 207 #[.func (.yield lp) #[] #[], .pointer (some ⟨Bm, 0, none⟩)] W fun e W' => (∃ v, e = .returned v) ∧
   ((∃ xs, xs.Perm (l.map (·.1)) ∧ J xs W') ∨ (∃ pre, True ∧ Jx pre W')) := by
 have HY := Lib.hid hY
 have HJ := Lib.hid hJ
 clear hY hJ
 refine callsIn_of_wp Tryz.func207 rfl trivial ?_ rfl
 simp only [Tryz.ntmps207, List.size_toArray, List.length_cons, List.length_nil, Nat.reduceAdd, Nat.reduceSub, Array.replicate_succ, Array.replicate_zero, List.push_toArray, List.append_toArray, List.nil_append, List.cons_append]
 gi_wp2_with (first
  | (gi_at_range; refine wpListIn_rangeL _ rfl _ 111 rfl diskC Tryz.underlying111 m n _ rfl hown ?_; intro w0 cnt0 hrg0 hg0 hs0)
  | gi_in)
 go_frame
 gi_loopw [3] (fun _ wr => ∃ (rest : List (List UInt8 × Hd)) (cnt : Nat) (ps : List (List UInt8)), RangeL diskC wr m W.heap.size n l rest cnt ∧ Hid ((l.map (·.1)).Perm (ps ++ rest.map (·.1))) ∧ Hid (J ps wr))
  (fun _ wr => wr.rangeLeft m W.heap.size)
 case atStart =>
  exact ⟨_, _, [], hrg0, Lib.hid (List.Perm.refl _), Lib.hid (HJ.out [] W w0 none h0 hg0 (fun r e => by cases e))⟩
 case round =>
  obtain ⟨rest, cnt, ps, hrg, hC, hJs⟩ := hrel
  gi_wp2_with (first
   | (gi_at_next; refine wpListIn_nextL _ rfl _ rfl diskC diskC_full m W.heap.size n _ _ cnt rfl hrg ?_ ?_)
   | gi_in)
  ·rintro rfl
   gi_wp2
   go_end0
   exact ⟨⟨_, rfl⟩, .inl ⟨ps, by have := hC.out; simp at this; exact this.symm, hJs.out⟩⟩
  ·intro x v2 w2 cnt2 hp2 hgd2 hrg2 hlt hg2 hs2 hen0
   have hen : Sem.run Tryz.prog (Instr.entry (Value.pointer (some { block := W.heap.size, off := 0 }))) w2 = Result.ok (Value.tuple #[S x, diskC.vv v2]) w2 := hen0
   have hJ2 : J ps w2 := HJ.out ps wr w2 (some W.heap.size) hJs.out hg2 (fun r e => by cases e; exact ⟨Nat.le_refl _, hrg.iter⟩)
   have hperm := strike_perm hrg.keys hp2
   have hpe := hC.out.trans (((hperm.map (·.1))).append_left ps)
   have hlen : ps.length < l.length := by
    have := hpe.length_eq
    simp at this
    omega
   obtain ⟨fn, tmps, assign, body, hy, hR⟩ := HY.out ps x _ hJ2 hlen
   dsimp only [encN] at hy
   have Hpe := Lib.hid hpe
   have Hrg2 := Lib.hid hrg2
   clear hs2 hen0 hperm hpe hrg2 hlen hp2
   gi_wp2
   refine hR.mono ?_
   rintro e W3 (⟨rfl, hJ3, hk3⟩ | ⟨rfl, hJx3⟩)
   ·gi_wp2
    have hrg3 := Hrg2.out.walks hk3
    go_roundw
    case rel => exact ⟨_, cnt2, ps ++ [x], hrg3, Lib.hid (by have := Hpe.out; simpa using this), Lib.hid hJ3⟩
    case measure => rw [hrg3.left_eq, hrg.left_eq]; exact hlt
   ·gi_wp2
    refine bodyPost_ret (results_none rfl _ _ _) rfl ?_
    exact ⟨⟨_, rfl⟩, .inr ⟨_, trivial, hJx3⟩⟩
set_option maxHeartbeats 1000000 in
theorem keys_any (m : Nat) (w : World) :
  Calls Tryz.prog 145 #[.map (some m)] w fun e w' => e = .returned (.func (.func 207) #[] #[.pointer (some ⟨w.heap.size, 0, none⟩)]) ∧ w' = w.alloc (.cells #[.map (some m)] 111) := by
 go_enter Tryz.func145, Tryz.ntmps145
 go_wp2
 go_ret
 exact ⟨rfl, rfl⟩
theorem keys_stops (N : Nat) (hN : 1 ≤ N) (Bm m n : Nat) (l : List (List UInt8 × Hd)) (w : World) (hm : w.cell? ⟨Bm, 0, none⟩ = some (.map (some m))) (hown : MapL diskC w m n l) :
  SeqStopsK Fence.wide N Tryz.prog 207 #[.pointer (some ⟨Bm, 0, none⟩)] encN KeepsWalks (fun xs => xs.Perm (l.map (·.1))) (fun _ => True) l.length w := fun lp J Jx W hW hJ _ hY h0 =>
 keys1_in N hN lp Bm m n l J Jx hY W hJ ((hW.cell (p := ⟨Bm, 0, none⟩) (World.block_lt_of_cell? _ _ hm)).trans hm) (hown.step hW) h0
attribute [local go_sem] Oper.semAt_some
def ApI (w0 : World) (Bs : Nat) (pre : List (List UInt8)) (W : World) : Prop :=
 ∃ (A : Option Addr) (c : Nat), Boxed W Bs 45 (.slice A pre.length c) ∧ W.ownsRow w0.heap.size 9 1 (.slice A pre.length c) pre.length (strs pre) ∧ Below w0.heap.size w0 W
theorem apI_own {w0 : World} {Bs B : Nat} (hB : w0.heap.size ≤ B) : OwnFrom B (ApI w0 Bs) := by
 rintro pre W W' row ⟨A, c, h1, h2, h3⟩ hg hr
 exact ⟨A, c, box_abides h1 hg (fun r e => (hr r e).2), own_abides h2 hg (fun r e => (hr r e).2), h3.grown hg h3.size (fun k e => Nat.le_trans hB (hr k e).1)⟩
set_option maxRecDepth 100000 in
set_option maxHeartbeats 4000000 in
theorem appendSeq_any (w : World) (Bm m n : Nat) (l : List (List UInt8 × Hd)) (hl : l.length ≤ 1000000) (hm : w.cell? ⟨Bm, 0, none⟩ = some (.map (some m))) (hown : MapL diskC w m n l) :
  Calls Tryz.prog 127 #[.slice none 0 0, .func (.func 207) #[] #[.pointer (some ⟨Bm, 0, none⟩)]] w fun e w' => ∃ (A : Option Addr) (c : Nat) (xs : List (List UInt8)), e = .returned (.slice A l.length c) ∧ xs.Perm (l.map (·.1)) ∧ Ow w w' 9 1 A l.length c (strs xs) := by
 refine (callsIn_wide (n := 6)).1 ?_
 refine callsIn_of_wp_marks Tryz.func127 rfl trivial ?_ rfl
 simp only [Tryz.ntmps127, List.size_toArray, List.length_cons, List.length_nil, Nat.reduceAdd, Nat.reduceSub, Array.replicate_succ, Array.replicate_zero, List.push_toArray, List.append_toArray, List.nil_append, List.cons_append]
 have HS := Lib.hid (keys_stops 5 (by omega) Bm m n l w hm hown)
 clear hm hown
 gi_wp2
 have bS := Boxed.new w 45 (.slice none 0 0)
 obtain ⟨i0, hi0, hi1, hi2, hi3⟩ := info_parts Tryz.infoStr
 refine wpIn_rangeFunc_ownH rfl (by omega) (gf := 207) (lb := #[.pointer (some ⟨Bm, 0, none⟩)]) rfl trivial (enters_of Tryz.func207 (by kernel_rfl) rfl)
  HS.out (walksK_t) (walksK_b) (balloc (Below.refl _ w) _) (fun _ => rfl)
  (ApI w w.heap.size)
  (fun _ _ _ => False)
  (apI_own (by simp))
  (fun _ _ _ _ _ hs _ _ => hs)
  ⟨none, 0, bS, World.ownsRow_nil _ _ _ _, balloc (Below.refl _ w) _⟩
  (fun x a' _ => a' = { tmps := #[.slice none 0 0, .func (.func 207) #[] #[.pointer (some ⟨Bm, 0, none⟩)], .pointer (some ⟨w.heap.size, 0, none⟩), undef, .slice none 0 0, S x, .func (.func 207) #[] #[.pointer (some ⟨Bm, 0, none⟩)], S x, undef, undef, undef, undef, undef], defers := [] })
  ?hax ?assign ?body ?done ?stop
 case hax =>
  intro x a' _ W W' row h _ _
  exact h
 case assign =>
  rintro lp pre x W K ⟨A, c, h1, h2, h3⟩ hK
  gi_wp2
  refine hK _ _ (KeepsFrom.refl _ _) (KeepsWalks.refl _) ⟨A, c, h1, h2, h3⟩ rfl
 case body =>
  rintro lp pre x a' W hlp _ ⟨A, c, h1, h2, h3⟩ rfl hlt
  have hn : pre.length < l.length := hlt
  have q1 : pre.length + 1 ≤ maxLen := by simp only [maxLen]; omega
  have q2 : (pre.length + 1) * 16 ≤ 140737488355328 := by omega
  have rc := h1.cell
  have H1 := Lib.hid h1
  have H2 := Lib.hid h2
  have H3 := Lib.hid h3
  have hS1 := Lib.hid (sl_one W 9 (S x))
  have hb1 := (h1.alloc (.cells #[S x] 9))
  have HB1 := Lib.hid hb1
  clear h1 h2 h3 hb1
  gi_wp2_with (gi_at_builtin; refine wpListIn_append_at _ rfl (.tmp 8) (.tmp 10) 45 rfl w.heap.size 9 i0 _ 1 16 Tryz.underlying45 hi0 hi1 hi2 hi3 rfl (by decide) A pre.length c _ rfl (H2.out.alloc _) (Nat.le_trans H3.out.size (by simp)) _ 1 1 ([S x]) rfl hS1.out (one_one rfl) q1 q2 ?_; intro A3 c3 w6 hO3 hg3; have hO7 : Boxed w6 w.heap.size 45 (.slice A pre.length c) := HB1.out.kept hg3 (HB1.out.not_row (by decide) (H2.out.alloc _)); have ro7 := hO7.cell; have fo7 := hO7.frozen)
  have hkw : KeepsWalks W w6 := (KeepsWalks.alloc W _).trans (KeepsWalks.of_grownBy hg3 (own_noWalk (H2.out.alloc _)))
  have hbw : Below w.heap.size w w6 := (balloc H3.out _).grown hg3 (Nat.le_trans H3.out.size (by simp)) (fun k hk => (H2.out.lt k hk).1)
  have hkf : KeepsFrom (w.alloc (.cells #[.slice none 0 0] 45)).heap.size W (w6.setCell ⟨w.heap.size, 0, none⟩ (.slice A3 (pre.length + 1) c3)) :=
   (keepsFrom_below (balloc (Below.refl _ W) (.cells #[S x] 9))).trans (((KeepsOthers.of_grownBy hg3 (fun j o hj ho => by
    rcases H2.out.2 with ⟨hv, _⟩ | ⟨g, cap, cur, hv, _, hgb, _⟩
    ·rw [hv] at hj; simp [Value.ownBlock] at hj
    ·rw [hv] at hj
     have : g = j := by simpa [Value.ownBlock] using hj
     subst this
     have hh := (Below.heap_alloc W (.cells #[S x] 9) g (heap_lt hgb)).trans hgb
     rw [hh] at ho
     cases ho
     rfl)).from _).trans ((KeepsOthers.setCell w6 _ _).from _))
  have hO3' : w6.ownsRow w.heap.size 9 1 (.slice A3 (pre.length + 1) c3) (pre.length + 1) (strs (pre ++ [x])) := by rw [strs_append1]; exact hO3
  refine ⟨hkf, hkw.trans (KeepsWalks.setCell _ _ _), A3, c3, by simpa using hO7.set (.slice A3 (pre.length + 1) c3), ?_, hbw.setCell (Nat.le_refl _) _⟩
  have h9 := own_far hO3' (p := ⟨w.heap.size, 0, none⟩) (hO7.not_row (by decide) hO3') (.slice A3 (pre.length + 1) c3)
  simpa using h9
 case done =>
  rintro D zs W hD hz ⟨A, c, h1, h2, h3⟩ hK
  have hc := h1.cell
  gi_wp2
  refine ⟨by simp, .inl ⟨_, _, rfl, run_takeDeferred hK, ?_⟩⟩
  have hzl : zs.length = l.length := by have := hz.length_eq; simpa using this
  refine ⟨_, results_tmp rfl _ _ _, A, c, zs, by rw [← hzl]; rfl, hz, ?_, ?_⟩
  ·rw [← hzl]
   exact ownsRow_putObj h2 _ hK rfl
  ·exact h3.trans (belowK_b (w := w) (Nat.le_refl _) W D _ _ (by simp at hD; omega) hK rfl rfl)
 case stop =>
  rintro D c pre W _ _ h _
  exact h.elim
theorem collect_any (w : World) (Bm m n : Nat) (l : List (List UInt8 × Hd)) (hl : l.length ≤ 1000000) (hm : w.cell? ⟨Bm, 0, none⟩ = some (.map (some m))) (hown : MapL diskC w m n l) :
  Calls Tryz.prog 80 #[.func (.func 207) #[] #[.pointer (some ⟨Bm, 0, none⟩)]] w fun e w' => ∃ (A : Option Addr) (c : Nat) (xs : List (List UInt8)), e = .returned (.slice A l.length c) ∧ xs.Perm (l.map (·.1)) ∧ Ow w w' 9 1 A l.length c (strs xs) := by
 have C := Lib.hid (appendSeq_any w Bm m n l hl hm hown)
 clear hm hown
 go_enter Tryz.func80, Tryz.ntmps80
 go_wp2_with (go_at_call 127; refine C.out.mono ?_; rintro e w2 ⟨A, c, xs, rfl, hp, hO⟩)
 go_ret
 exact ⟨A, c, xs, rfl, hp, hO⟩
theorem sortedS_any (w : World) (Bm m n : Nat) (l : List (List UInt8 × Hd)) (hl : l.length ≤ 1000000) (hm : w.cell? ⟨Bm, 0, none⟩ = some (.map (some m))) (hown : MapL diskC w m n l) :
  Calls Tryz.prog 64 #[.func (.func 207) #[] #[.pointer (some ⟨Bm, 0, none⟩)]] w fun e w' => ∃ (A : Option Addr) (c : Nat) (xs : List (List UInt8)), e = .returned (.slice A l.length c) ∧ xs.Perm (l.map (·.1)) ∧ Ow w w' 9 1 A l.length c (strs (sortS xs)) := by
 have C := Lib.hid (collect_any w Bm m n l hl hm hown)
 clear hm hown
 go_enter Tryz.func64, Tryz.ntmps64
 go_wp2_with (first
  | (go_at_call 80; refine C.out.mono ?_; rintro e w2 ⟨A, c, xs, rfl, hp, hO⟩; have C2 := Lib.hid (sortS_any w w2 A l.length c xs hO (by omega)); have HP := Lib.hid hp; clear hO hp)
  | (go_at_call 111; refine C2.out.mono ?_; rintro e w3 ⟨rfl, hO3⟩; have HO3 := Lib.hid hO3; clear hO3))
 go_ret
 exact ⟨A, c, xs, rfl, HP.out, HO3.out⟩
set_option maxRecDepth 100000 in
theorem dnames_any (w : World) (p m n : Nat) (cap : Int) (L : List DF) (h : DiskAt w p m n cap L) (hl : L.length ≤ 1000000) :
  Calls Tryz.prog 100 #[.pointer (some ⟨p, 0, none⟩)] w fun e w' => ∃ (A : Option Addr) (c : Nat) (ns : List (List UInt8)), e = .returned (.slice A L.length c) ∧ ns.Perm (L.map (·.1)) ∧ ns.Pairwise (· < ·) ∧ Ow w w' 9 1 A L.length c (strs ns) := by
 obtain ⟨ops, hB⟩ := h.blk
 have rc := hB.cell
 have C1 := Lib.hid (fun W hb => made_any W p m hb)
 have C2 := Lib.hid (fun W => keys_any m W)
 have hB1 := (Blk.new w 111 #[.map (some m)]).cell 0
 have hlen : (keyF L).length = L.length := by simp [keyF]
 have C3 := sortedS_any (w.alloc (.cells #[.map (some m)] 111)) w.heap.size m n (keyF L) (by omega) hB1 (h.map.alloc _)
 rw [hlen] at C3
 have HC3 := Lib.hid C3
 have HB := Lib.hid hB
 have hnd := h.keys
 have HN := Lib.hid hnd
 clear h hB hB1 C3 hlen hnd
 go_enter Tryz.func100, Tryz.ntmps100
 go_wp2_with (first
  | (go_at_call 97; refine (C1.out _ (HB.out.cell 1)).mono ?_; rintro e w1 ⟨rfl, rfl⟩)
  | (go_at_call 145; refine (C2.out _).mono ?_; rintro e w1 ⟨rfl, rfl⟩)
  | (go_at_call 64; refine HC3.out.mono ?_; rintro e w3 ⟨A, c, xs, rfl, hp, hO⟩))
 go_ret
 have hp2 : (sortS xs).Perm (L.map (·.1)) := (sortS_perm xs).trans (hp.trans (by rw [keyF, List.map_map]; exact List.Perm.refl _))
 refine ⟨A, c, sortS xs, rfl, hp2, ?_, hO.since (balloc (Below.refl _ w) _)⟩
 have h1 := sortS_le xs
 have h2 : (sortS xs).Pairwise (· ≠ ·) := (hp2.nodup_iff).2 HN.out
 exact (List.Pairwise.and h1 h2).imp fun h => lt_of_le_ne h.1 h.2
end Go.Proofs.YtcednfmkiaelnaaGreatDoor
