/-
  slices.Collect and slices.AppendSeq over whatever iterator of texts. Conditions: the iterator's own contract, and room for what it gives.
-/
import Derived.Test.YtgcbolijdgecgaaTexts
import Derived.RangeFuncBox
import Derived.RangeFuncLeaves
import Derived.Shelf.Abstract
import Derived.OwnWalkIn
import Derived.TacticsInMore
import Derived.LoopNIn
import Derived.LoopIn
namespace Go.Proofs.Ytgcbolijdgecgaa
open Go.RowKit Go.Shelf

attribute [local go_sem] Oper.semAt_some

set_option maxRecDepth 100000 in
set_option maxHeartbeats 2000000 in
/-- AppendSeq(nil, seq) -/
theorem appendSeq_in (gf : Nat) (lb : Array Value) (eg : ∀ args w, (callFunc gf args).run Try.prog w = .ok (.enter gf args) w) (Ss Sp : List (List UInt8) → Prop) (N n₀ : Nat) (w : World)
    (hseq : SeqStopsK Fence.wide 4 Try.prog gf lb (fun x : List UInt8 => #[S x]) (Below n₀) Ss Sp N w) (hn₀ : n₀ ≤ w.heap.size) (hN : N * 16 ≤ 140737488355328) :
    CallsIn Fence.wide 5 Try.prog 35 #[.slice none 0 0, .func (.func gf) #[] lb] w fun e W' => ∃ A c ys, e = .returned (.slice A ys.length c) ∧ Ss ys ∧ Ow w W' 9 1 A ys.length c (strs ys) := by
  have h1 : 1 ≤ 5 := by omega
  obtain ⟨i0, hi, hz0, hz1, hz2⟩ := info_parts Try.infoStr
  refine callsIn_of_wp_marks Try.func35 rfl trivial ?_ rfl
  simp only [Try.ntmps35, List.size_toArray, List.length_cons, List.length_nil, Nat.reduceAdd, Nat.reduceSub, Array.replicate_succ, Array.replicate_zero, List.push_toArray, List.append_toArray, List.nil_append, List.cons_append]
  gi_wp2
  have bO := Boxed.new w 22 (.slice none 0 0)
  have hB0 : Below w.heap.size w (w.alloc (.cells #[.slice none 0 0] 22)) := (Below.refl _ w).alloc (Nat.le_refl _) _
  refine wpIn_rangeFunc_ownG rfl h1 (gf := gf) (lb := lb) rfl trivial eg hseq belowK_t (belowK_b (by simp; omega)) hB0 (fun _ => rfl)
    (fun pre W => (∃ v, Boxed W w.heap.size 22 v ∧ W.ownsRow w.heap.size 9 1 v pre.length (strs pre) ∧ True) ∧ Below w.heap.size w W)
    (fun _ _ _ => False)
    (OwnFrom.and (Own.from (holdsRow_own w.heap.size w.heap.size 22 9 1 (fun pre => pre.length) (fun pre => strs pre) (fun _ _ => True)) _) (ownFrom_below (Nat.le_refl _) (by simp)))
    (fun _ _ _ _ _ hs _ _ => hs)
    ⟨⟨_, bO, World.ownsRow_nil _ _ _ _, trivial⟩, hB0⟩
    (fun x => { tmps := #[.slice none 0 0, .func (.func gf) #[] lb, .pointer (some ⟨w.heap.size, 0, none⟩), undef, .slice none 0 0, S x, .func (.func gf) #[] lb, S x, undef, undef, undef, undef, undef], defers := [] }) ?assign ?body ?done ?stop
  case assign =>
    intro l x W K hK
    gi_wp2
    exact hK
  case body =>
    rintro l pre x W ⟨⟨v, hv, hrow, hnil⟩, hB⟩ hlt
    have hc := hv.cell
    have hm1 : pre.length + 1 ≤ maxLen := by simp only [maxLen]; omega
    have hm2 : (pre.length + 1) * 16 ≤ 140737488355328 := by omega
    have hm3 : w.heap.size ≤ (W.alloc (.cells #[S x] 9)).heap.size := by have := hB.size; simp; omega
    gi_wp2_with (gi_at_builtin; refine wpListIn_append_own _ rfl _ _ 22 rfl w.heap.size 9 i0 (.string ⟨#[]⟩) 1 16 Try.underlying22 hi hz0 hz1 hz2 rfl (by decide) _ _ _ rfl (hrow.alloc _) ⟨W.heap.size, 0, none⟩ 1 1 [S x] rfl rfl (cell_one_new _ _ _) (by simp [Value.oneCell']) hm1 hm2 hm3 ?_; intro v' w1 hown' hgrow _; obtain ⟨g', cap', rfl⟩ := ownsRow_succ hown'; obtain ⟨hv1, hv2, hr2, hk2, hb2⟩ := hv.appended (by decide) hrow hB.size (Nat.le_refl _) hown' hgrow; have hc1 := hv1.cell; have hf1 := hv1.frozen)
    exact ⟨hk2.from _, hb2.mono hn₀, ⟨_, hv2, by simpa using hr2, trivial⟩, hB.trans hb2⟩
  case done =>
    rintro D ys W hD hS ⟨⟨v, hv, hrow, hnil⟩, hB⟩ hK
    have hc := hv.cell
    obtain ⟨A, c, rfl⟩ := own_shape hrow
    gi_wp2
    refine ⟨by simp, .inl ⟨_, _, rfl, run_takeDeferred hK, ?_⟩⟩
    exact ⟨_, results_tmp rfl _ _ _, A, c, ys, rfl, hS, ownsRow_putObj hrow _ hK rfl, hB.trans (belowK_b (w := w) (Nat.le_refl _) W D _ _ (by simp at hD; omega) hK rfl rfl)⟩
  case stop =>
    rintro D c pre W _ _ h _
    exact h.elim

set_option maxHeartbeats 400000 in
theorem collect_any (gf : Nat) (lb : Array Value) (eg : ∀ args w, (callFunc gf args).run Try.prog w = .ok (.enter gf args) w) (Ss Sp : List (List UInt8) → Prop) (N n₀ : Nat) (w : World)
    (hseq : SeqStopsK Fence.wide 4 Try.prog gf lb (fun x : List UInt8 => #[S x]) (Below n₀) Ss Sp N w) (hn₀ : n₀ ≤ w.heap.size) (hN : N * 16 ≤ 140737488355328) :
    Calls Try.prog 21 #[.func (.func gf) #[] lb] w fun e W' => ∃ A c ys, e = .returned (.slice A ys.length c) ∧ Ss ys ∧ Ow w W' 9 1 A ys.length c (strs ys) := by
  have H := Lib.hid (callsIn_wide.1 (appendSeq_in gf lb eg Ss Sp N n₀ w hseq hn₀ hN))
  clear hseq eg
  go_enter Try.func21, Try.ntmps21
  go_wp2_with fail
  refine H.out.mono ?_
  rintro e W' ⟨A, c, ys, rfl, hS, ho⟩
  go_wp2
  go_ret
  exact ⟨A, c, ys, rfl, hS, ho⟩
end Go.Proofs.Ytgcbolijdgecgaa
