/-
  plan.ids: an iterator over those texts of a slice that have 32 bytes. Conditions: the slice reads as a list.
-/
import Derived.Test.YtgcbolijdgecgaaSeq
namespace Go.Proofs.Ytgcbolijdgecgaa
open Go.RowKit Go.Shelf

attribute [local go_sem] Oper.semAt_some

def only32 (ss : List (List UInt8)) : List (List UInt8) := ss.filter fun s => decide (s.length = 32)
theorem only32_hit {ss : List (List UInt8)} {k : Nat} {s : List UInt8} (h : ss[k]? = some s) (h32 : s.length = 32) : only32 (ss.take (k + 1)) = only32 (ss.take k) ++ [s] := by
  simp [only32, List.take_add_one, h, List.filter_append, h32]
theorem only32_miss {ss : List (List UInt8)} {k : Nat} {s : List UInt8} (h : ss[k]? = some s) (h32 : ¬ s.length = 32) : only32 (ss.take (k + 1)) = only32 (ss.take k) := by
  simp [only32, List.take_add_one, h, List.filter_append, h32]
theorem only32_len (ss : List (List UInt8)) (k : Nat) : (only32 (ss.take k)).length ≤ k := by
  have h1 := List.length_filter_le (fun s : List UInt8 => decide (s.length = 32)) (ss.take k)
  have h2 := List.length_take_le k ss
  unfold only32; omega

set_option maxRecDepth 100000 in
set_option maxHeartbeats 2000000 in
theorem ids1_in (l Bs n₀ len cap : Nat) (A : Option Addr) (ss : List (List UInt8)) (hlen : len ≤ 9223372036854775807) (w : World) (hn₀ : w.heap.size = n₀) (hA : Sl w 1 A len (strs ss)) (J Jx : List (List UInt8) → World → Prop)
    (hY : ∀ pre x W, J pre W → pre.length < len → YieldAt Fence.wide 3 Try.prog l #[S x] W fun e W' =>
      (e = .returned (.bool true) ∧ J (pre ++ [x]) W' ∧ Below n₀ W W') ∨ (e = .returned (.bool false) ∧ Jx (pre ++ [x]) W'))
    (W : World) (hW : Below n₀ w W) (hBs : W.cell? ⟨Bs, 0, none⟩ = some (.slice A len cap)) (h0 : J [] W) :
    CallsIn Fence.wide 4 Try.prog 36 #[.func (.yield l) #[] #[], .pointer (some ⟨Bs, 0, none⟩)] W fun e W' => (∃ v, e = .returned v) ∧
      ((∃ ys, ys = only32 ss ∧ J ys W') ∨ (∃ pre, True ∧ Jx pre W')) := by
  have hl := Lib.hid (strs_len hA)
  have Hn := Lib.hid hn₀
  clear hn₀
  refine callsIn_of_wp Try.func36 rfl trivial ?_ rfl
  simp only [Try.ntmps36, List.size_toArray, List.length_cons, List.length_nil, Nat.reduceAdd, Nat.reduceSub, Array.replicate_succ, Array.replicate_zero, List.push_toArray, List.append_toArray, List.nil_append, List.cons_append]
  gi_wp2
  gi_loopw [7] (fun i wr => ∃ k : Nat, k ≤ len ∧ i = .int .i64 k ∧ J (only32 (ss.take k)) wr ∧ Below n₀ W wr)
    (fun i _ => len - (intOf i).toNat)
  case atStart => exact ⟨0, Nat.zero_le _, rfl, h0, Below.refl _ _⟩
  case round =>
    obtain ⟨k, hk, rfl, hJs, hnx⟩ := hrel
    by_cases hlt : k < len
    · have hAr := hA.below (w' := wr) (by rw [Hn.out]; exact hW.trans hnx)
      obtain ⟨b, off, s, rfl, hs, hc⟩ := hAr.str hlt
      have Hs := Lib.hid hs
      clear hs hBs h0
      by_cases h32 : s.length = 32
      · obtain ⟨fn, tmps, assign, body, hy, hR⟩ := hY _ s wr hJs (Nat.lt_of_le_of_lt (only32_len _ _) hlt)
        have H32 := Lib.hid h32
        clear h32
        gi_wp2_with (refine ⟨trivial, ?_⟩; gi_at_call 19; refine (callsIn_wide.2 (isId_yes s _ H32.out)).mono ?_; rintro e w' ⟨rfl, rfl⟩)
        refine hR.mono ?_
        rintro e W3 (⟨rfl, hJ3, hk3⟩ | ⟨rfl, hJx3⟩)
        · gi_wp2
          go_roundw
          case rel => exact ⟨k + 1, by omega, by go_num, by rw [only32_hit Hs.out H32.out]; exact hJ3, hnx.trans hk3⟩
          case measure => simp [intOf]; omega
        · gi_wp2
          refine bodyPost_ret (results_none rfl _ _ _) rfl ?_
          exact ⟨⟨_, rfl⟩, .inr ⟨_, trivial, hJx3⟩⟩
      · have H32 := Lib.hid h32
        clear h32
        gi_wp2_with (refine ⟨trivial, ?_⟩; gi_at_call 19; refine (callsIn_wide.2 (isId_no s _ H32.out)).mono ?_; rintro e w' ⟨rfl, rfl⟩)
        refine ⟨fun _ h => (by cases h), ?_⟩
        gi_wp2
        go_roundw
        case rel => exact ⟨k + 1, by omega, by go_num, by rw [only32_miss Hs.out H32.out]; exact hJs, hnx⟩
        case measure => simp [intOf]; omega
    · gi_wp2
      go_end0
      exact ⟨⟨_, rfl⟩, .inl ⟨_, by rw [List.take_of_length_le (by rw [hl.out]; omega)], hJs⟩⟩

set_option maxHeartbeats 400000 in
theorem ids_any (A : Option Addr) (n c : Nat) (w : World) :
    Calls Try.prog 22 #[.slice A n c] w fun e w' => e = .returned (.func (.func 36) #[] #[.pointer (some ⟨w.heap.size, 0, none⟩)]) ∧ w.alloc (.cells #[.slice A n c] 22) = w' := by
  go_enter Try.func22, Try.ntmps22
  go_wp2
  go_ret
  exact ⟨rfl, rfl⟩

/-- slices.Collect(ids(l)), once ids has been called in w -/
theorem collectIds_any (A : Option Addr) (n c : Nat) (ss : List (List UInt8)) (w w1 : World) (hA : Sl w 1 A n (strs ss)) (hn : n * 16 ≤ 140737488355328) (hb : Below w.heap.size w w1) (B : Nat) (hB : w1.cell? ⟨B, 0, none⟩ = some (.slice A n c)) :
    Calls Try.prog 21 #[.func (.func 36) #[] #[.pointer (some ⟨B, 0, none⟩)]] w1 fun e W' => ∃ A' c', e = .returned (.slice A' (only32 ss).length c') ∧ Ow w1 W' 9 1 A' (only32 ss).length c' (strs (only32 ss)) := by
  have hlt : B < w1.heap.size := by
    rcases Nat.lt_or_ge B w1.heap.size with h | h
    · exact h
    · simp [World.cell?, Array.getElem?_eq_none h] at hB
  have hst : SeqStopsK Fence.wide 4 Try.prog 36 #[.pointer (some ⟨B, 0, none⟩)] (fun x : List UInt8 => #[S x]) (Below w.heap.size) (fun ys => ys = only32 ss) (fun _ => True) n w1 := fun l J Jx W hW _ _ hY h0 =>
    ids1_in l B w.heap.size n c A ss (by omega) w rfl hA J Jx hY W (hb.trans (hW.mono hb.size)) ((hW.cell (p := ⟨B, 0, none⟩) hlt).trans hB) h0
  refine (collect_any 36 _ (enters_of Try.func36 (by kernel_rfl) rfl) _ _ n w.heap.size w1 hst hb.size hn).mono ?_
  rintro e W' ⟨A', c', ys, rfl, rfl, ho⟩
  exact ⟨A', c', rfl, ho⟩
end Go.Proofs.Ytgcbolijdgecgaa
