/-
  slices.IndexFunc, slices.ContainsFunc at texts, files, changes, whatever closure. Conditions: the list can be read; the closure tells a bool of each thing and turns nothing.
-/
import Derived.Test.YtkginbfpokbhcaaGreatDoorFiles
import Derived.Test.YtkginbfpokbhcaaGreatDoorChanges
import Derived.Test.YtkginbfpokbhcaaGreatDoorSortKit
namespace Go.Proofs.YtkginbfpokbhcaaGreatDoor
open Go.RowKit

/-- the first place where f holds; -1: there is none -/
def IsIdx {α : Type} (l : List α) (f : α → Bool) (r : Int) : Prop := (r = -1 ∧ ∀ x ∈ l, f x = false) ∨ ∃ k : Nat, r = k ∧ ∃ x, l[k]? = some x ∧ f x = true ∧ ∀ y ∈ l.take k, f y = false
theorem IsIdx.any {α : Type} {l : List α} {f : α → Bool} {r : Int} (h : IsIdx l f r) : decide (0 ≤ r) = l.any f := by
  rcases h with ⟨rfl, h⟩ | ⟨k, rfl, x, hx, hf, _⟩
  · rw [List.any_eq_false.2 (fun x hx => by rw [h x hx]; simp)]
    rfl
  · rw [List.any_eq_true.2 ⟨x, List.mem_of_getElem? hx, hf⟩]
    simp
set_option maxHeartbeats 1000000 in
set_option maxRecDepth 100000 in
theorem indexFnS (g : FuncId) (lb : Array Value) (eg : ∀ args w, (callFunc g args).run Tryz.prog w = .ok (.enter g args) w) (f : (List UInt8) → Bool) (A : Option Addr) (n c : Nat) (l : List (List UInt8)) (w : World) (hA : Sl w 1 A n (strs l)) (hn : n ≤ 1000000000)
    (hF : ∀ x ∈ l, ∀ W, Below w.heap.size w W → Calls Tryz.prog g (#[S x] ++ lb) W fun e w' => e = .returned (.bool (f x)) ∧ Below W.heap.size W w') :
    Calls Tryz.prog 203 #[.slice A n c, .func (.func g) #[] lb] w fun e w' => ∃ r : Int, e = .returned (I r) ∧ IsIdx l f r ∧ Below w.heap.size w w' := by
  have hlen := Lib.hid (strs_count hA)
  have HA := Lib.hid hA
  have HF := Lib.hid hF
  clear hA hF
  go_enter Tryz.func203, Tryz.ntmps203
  go_wp2
  go_loopw [8] (fun i wr => ∃ k : Nat, k ≤ n ∧ i = .int .i64 k ∧ Below w.heap.size w wr ∧ Hid (∀ y ∈ l.take k, f y = false)) (fun i _ => n - (intOf i).toNat)
  case atStart => exact ⟨0, Nat.zero_le _, rfl, Below.refl _ _, Lib.hid (by simp)⟩
  case round =>
    obtain ⟨k, hk, rfl, hb, ha⟩ := hrel
    have Hb := Lib.hid hb
    by_cases hlt' : k < n
    · obtain ⟨b, off, x, rfl, hx, x0⟩ := (HA.out.below hb).str hlt'
      have Hx := Lib.hid hx
      have C := Lib.hid (HF.out x (List.mem_of_getElem? hx) wr hb)
      clear hx hb
      rcases hd : f x with _ | _
      all_goals
        rw [hd] at C
        have Hd := Lib.hid hd
        clear hd
        go_wp2_with fail
        refine C.out.mono ?_
        rintro e w2 ⟨rfl, b2⟩
        go_wp2
      · go_roundw
        case rel =>
          refine ⟨k + 1, by omega, by go_num, bstep Hb.out b2, Lib.hid (fun y hy => ?_)⟩
          rw [List.take_add_one, Hx.out] at hy
          rcases List.mem_append.1 hy with hy | hy
          · exact ha.out y hy
          · simp at hy
            rw [hy]
            exact Hd.out
        case measure => simp [intOf]; omega
      · go_ret
        exact ⟨k, rfl, .inr ⟨k, rfl, x, Hx.out, Hd.out, ha.out⟩, bstep Hb.out b2⟩
    · obtain rfl : k = n := by omega
      rw [List.take_of_length_le (by rw [hlen.out]; exact Nat.le_refl _)] at ha
      clear hb
      go_wp2
      go_ret
      exact ⟨-1, rfl, .inl ⟨rfl, ha.out⟩, Hb.out⟩
theorem containsFnS (g : FuncId) (lb : Array Value) (eg : ∀ args w, (callFunc g args).run Tryz.prog w = .ok (.enter g args) w) (f : (List UInt8) → Bool) (A : Option Addr) (n c : Nat) (l : List (List UInt8)) (w : World) (hA : Sl w 1 A n (strs l)) (hn : n ≤ 1000000000)
    (hF : ∀ x ∈ l, ∀ W, Below w.heap.size w W → Calls Tryz.prog g (#[S x] ++ lb) W fun e w' => e = .returned (.bool (f x)) ∧ Below W.heap.size W w') :
    Calls Tryz.prog 154 #[.slice A n c, .func (.func g) #[] lb] w fun e w' => e = .returned (.bool (l.any f)) ∧ Below w.heap.size w w' := by
  have C := Lib.hid (indexFnS g lb eg f A n c l w hA hn hF)
  clear hA hF
  go_enter Tryz.func154, Tryz.ntmps154
  go_wp2_with (go_at_call 203; refine C.out.mono ?_; rintro e w2 ⟨r, rfl, hr, b2⟩; have HR := Lib.hid hr; clear hr)
  go_ret
  exact ⟨ret_bool HR.out.any, b2⟩
set_option maxHeartbeats 1000000 in
set_option maxRecDepth 100000 in
theorem indexFnF (g : FuncId) (lb : Array Value) (eg : ∀ args w, (callFunc g args).run Tryz.prog w = .ok (.enter g args) w) (f : Fil → Bool) (A : Option Addr) (n c : Nat) (l : List Fil) (w : World) (hA : Sl w 2 A n (fls l)) (hn : n ≤ 1000000000)
    (hF : ∀ x ∈ l, ∀ W, Below w.heap.size w W → Calls Tryz.prog g (#[.agg #[S x.1, S x.2]] ++ lb) W fun e w' => e = .returned (.bool (f x)) ∧ Below W.heap.size W w') :
    Calls Tryz.prog 57 #[.slice A n c, .func (.func g) #[] lb] w fun e w' => ∃ r : Int, e = .returned (I r) ∧ IsIdx l f r ∧ Below w.heap.size w w' := by
  have hlen := Lib.hid (fls_count hA)
  have HA := Lib.hid hA
  have HF := Lib.hid hF
  clear hA hF
  go_enter Tryz.func57, Tryz.ntmps57
  go_wp2
  go_loopw [8] (fun i wr => ∃ k : Nat, k ≤ n ∧ i = .int .i64 k ∧ Below w.heap.size w wr ∧ Hid (∀ y ∈ l.take k, f y = false)) (fun i _ => n - (intOf i).toNat)
  case atStart => exact ⟨0, Nat.zero_le _, rfl, Below.refl _ _, Lib.hid (by simp)⟩
  case round =>
    obtain ⟨k, hk, rfl, hb, ha⟩ := hrel
    have Hb := Lib.hid hb
    by_cases hlt' : k < n
    · obtain ⟨b, off, x, rfl, _, hx, x0, x1⟩ := (HA.out.below hb).fil hlt'
      have Hx := Lib.hid hx
      have C := Lib.hid (HF.out x (List.mem_of_getElem? hx) wr hb)
      clear hx hb
      rcases hd : f x with _ | _
      all_goals
        rw [hd] at C
        have Hd := Lib.hid hd
        clear hd
        go_wp2_with fail
        refine C.out.mono ?_
        rintro e w2 ⟨rfl, b2⟩
        go_wp2
      · go_roundw
        case rel =>
          refine ⟨k + 1, by omega, by go_num, bstep Hb.out b2, Lib.hid (fun y hy => ?_)⟩
          rw [List.take_add_one, Hx.out] at hy
          rcases List.mem_append.1 hy with hy | hy
          · exact ha.out y hy
          · simp at hy
            rw [hy]
            exact Hd.out
        case measure => simp [intOf]; omega
      · go_ret
        exact ⟨k, rfl, .inr ⟨k, rfl, x, Hx.out, Hd.out, ha.out⟩, bstep Hb.out b2⟩
    · obtain rfl : k = n := by omega
      rw [List.take_of_length_le (by rw [hlen.out]; exact Nat.le_refl _)] at ha
      clear hb
      go_wp2
      go_ret
      exact ⟨-1, rfl, .inl ⟨rfl, ha.out⟩, Hb.out⟩
set_option maxHeartbeats 1000000 in
set_option maxRecDepth 100000 in
theorem indexFnC (g : FuncId) (lb : Array Value) (eg : ∀ args w, (callFunc g args).run Tryz.prog w = .ok (.enter g args) w) (f : Chg3 → Bool) (A : Option Addr) (n c : Nat) (l : List Chg3) (w : World) (hA : Sl w 3 A n (cgs l)) (hn : n ≤ 1000000000)
    (hF : ∀ x ∈ l, ∀ W, Below w.heap.size w W → Calls Tryz.prog g (#[.agg #[S x.1, S x.2.1, S x.2.2]] ++ lb) W fun e w' => e = .returned (.bool (f x)) ∧ Below W.heap.size W w') :
    Calls Tryz.prog 122 #[.slice A n c, .func (.func g) #[] lb] w fun e w' => ∃ r : Int, e = .returned (I r) ∧ IsIdx l f r ∧ Below w.heap.size w w' := by
  have hlen := Lib.hid (cgs_count hA)
  have HA := Lib.hid hA
  have HF := Lib.hid hF
  clear hA hF
  go_enter Tryz.func122, Tryz.ntmps122
  go_wp2
  go_loopw [8] (fun i wr => ∃ k : Nat, k ≤ n ∧ i = .int .i64 k ∧ Below w.heap.size w wr ∧ Hid (∀ y ∈ l.take k, f y = false)) (fun i _ => n - (intOf i).toNat)
  case atStart => exact ⟨0, Nat.zero_le _, rfl, Below.refl _ _, Lib.hid (by simp)⟩
  case round =>
    obtain ⟨k, hk, rfl, hb, ha⟩ := hrel
    have Hb := Lib.hid hb
    by_cases hlt' : k < n
    · obtain ⟨b, off, x, rfl, _, hx, x0, x1, x2⟩ := (HA.out.below hb).cg hlt'
      have Hx := Lib.hid hx
      have C := Lib.hid (HF.out x (List.mem_of_getElem? hx) wr hb)
      clear hx hb
      rcases hd : f x with _ | _
      all_goals
        rw [hd] at C
        have Hd := Lib.hid hd
        clear hd
        go_wp2_with fail
        refine C.out.mono ?_
        rintro e w2 ⟨rfl, b2⟩
        go_wp2
      · go_roundw
        case rel =>
          refine ⟨k + 1, by omega, by go_num, bstep Hb.out b2, Lib.hid (fun y hy => ?_)⟩
          rw [List.take_add_one, Hx.out] at hy
          rcases List.mem_append.1 hy with hy | hy
          · exact ha.out y hy
          · simp at hy
            rw [hy]
            exact Hd.out
        case measure => simp [intOf]; omega
      · go_ret
        exact ⟨k, rfl, .inr ⟨k, rfl, x, Hx.out, Hd.out, ha.out⟩, bstep Hb.out b2⟩
    · obtain rfl : k = n := by omega
      rw [List.take_of_length_le (by rw [hlen.out]; exact Nat.le_refl _)] at ha
      clear hb
      go_wp2
      go_ret
      exact ⟨-1, rfl, .inl ⟨rfl, ha.out⟩, Hb.out⟩
theorem containsFnC (g : FuncId) (lb : Array Value) (eg : ∀ args w, (callFunc g args).run Tryz.prog w = .ok (.enter g args) w) (f : Chg3 → Bool) (A : Option Addr) (n c : Nat) (l : List Chg3) (w : World) (hA : Sl w 3 A n (cgs l)) (hn : n ≤ 1000000000)
    (hF : ∀ x ∈ l, ∀ W, Below w.heap.size w W → Calls Tryz.prog g (#[.agg #[S x.1, S x.2.1, S x.2.2]] ++ lb) W fun e w' => e = .returned (.bool (f x)) ∧ Below W.heap.size W w') :
    Calls Tryz.prog 96 #[.slice A n c, .func (.func g) #[] lb] w fun e w' => e = .returned (.bool (l.any f)) ∧ Below w.heap.size w w' := by
  have C := Lib.hid (indexFnC g lb eg f A n c l w hA hn hF)
  clear hA hF
  go_enter Tryz.func96, Tryz.ntmps96
  go_wp2_with (go_at_call 122; refine C.out.mono ?_; rintro e w2 ⟨r, rfl, hr, b2⟩; have HR := Lib.hid hr; clear hr)
  go_ret
  exact ⟨ret_bool HR.out.any, b2⟩
end Go.Proofs.YtkginbfpokbhcaaGreatDoor
