/-
  work.chosen at texts and at changes, whatever closure. Conditions: the list can be read, no more than 2000000; the closure tells a bool of each thing and turns nothing.
-/
import Derived.Test.YtkginbfpokbhcaaGreatDoorKitX
import Derived.Test.YtkginbfpokbhcaaGreatDoorKitW
namespace Go.Proofs.YtkginbfpokbhcaaGreatDoor
open Go.RowKit

theorem strs_snoc (l : List (List UInt8)) (x : List UInt8) : strs (l ++ [x]) = strs l ++ strs [x] := by simp [strs]
theorem cgs_snoc (l : List Chg3) (x : Chg3) : cgs (l ++ [x]) = cgs l ++ cgs [x] := cgs_append l [x]
set_option maxHeartbeats 4000000 in
set_option maxRecDepth 100000 in
theorem chosenS_any (g : FuncId) (lb : Array Value) (eg : ∀ args w, (callFunc g args).run Tryz.prog w = .ok (.enter g args) w) (f : (List UInt8) → Bool) (A : Option Addr) (n c : Nat) (l : List (List UInt8)) (w : World) (hA : Sl w 1 A n (strs l)) (hn : n ≤ 2000000)
    (hF : ∀ x ∈ l, ∀ W, Below w.heap.size w W → Calls Tryz.prog g (#[S x] ++ lb) W fun e w' => e = .returned (.bool (f x)) ∧ Below W.heap.size W w') :
    Calls Tryz.prog 43 #[.slice A n c, .func (.func g) #[] lb] w fun e w' => ∃ A1 n1 c1, e = .returned (.slice A1 n1 c1) ∧ n1 = (l.filter f).length ∧ Ow w w' 9 1 A1 n1 c1 (strs (l.filter f)) := by
  obtain ⟨i0, hi0, hz0, hz1, hz2⟩ := info_parts Tryz.infoStr
  have hlen := Lib.hid (strs_count hA)
  have HA := Lib.hid hA
  have HF := Lib.hid hF
  clear hA hF
  go_enter Tryz.func43, Tryz.ntmps43
  go_wp2
  go_loopw [5, 10] (fun s5 s10 wr => ∃ (k n1 c1 : Nat) (A1 : Option Addr), k ≤ n ∧ s10 = .int .i64 k ∧ s5 = .slice A1 n1 c1 ∧ Hid (n1 = ((l.take k).filter f).length) ∧ Hid (Ow w wr 9 1 A1 n1 c1 (strs ((l.take k).filter f)))) (fun _ s10 _ => n - (intOf s10).toNat)
  case atStart => exact ⟨0, 0, 0, none, Nat.zero_le _, rfl, rfl, Lib.hid (by simp), Lib.hid (by simp only [List.take_zero, List.filter_nil]; exact Ow.nil_ (Below.refl _ _))⟩
  case round =>
    obtain ⟨k, n1, c1, A1, hk, rfl, rfl, H1, HO⟩ := hrel
    by_cases hlt : k < n
    · obtain ⟨b, off, x, rfl, hx, x0⟩ := (HA.out.below HO.out.2).str hlt
      have Hx := Lib.hid hx
      have hb1 := HO.out.2
      have HO1 := HO
      have C := Lib.hid (HF.out x (List.mem_of_getElem? hx) _ hb1)
      have hbd1 : n1 ≤ 2000000 := by have := H1.out; have := List.length_filter_le f (l.take k); rw [List.length_take] at this; omega
      clear hx hb1
      rcases hd : f x with _ | _
      · rw [hd] at C
        have HE1 : Hid ((l.take (k + 1)).filter f = (l.take k).filter f) := Lib.hid (by rw [List.take_add_one, Hx.out, List.filter_append]; simp [hd])
        clear hd
        go_wp2_with fail
        refine C.out.mono ?_
        rintro e w2 ⟨rfl, b2⟩
        have HO2 := Lib.hid (HO1.out.keep b2)
        clear b2
        go_wp2
        go_roundw
        case rel => exact ⟨k + 1, n1, c1, A1, hlt, by go_num, rfl, Lib.hid (by rw [HE1.out]; exact H1.out), Lib.hid (by rw [HE1.out]; exact HO2.out)⟩
        case measure => simp [intOf]; omega
      · rw [hd] at C
        have HE1 : Hid ((l.take (k + 1)).filter f = (l.take k).filter f ++ [x]) := Lib.hid (by rw [List.take_add_one, Hx.out, List.filter_append]; simp [hd])
        have q1 := Lib.hid (show n1 + 1 ≤ maxLen by simp only [maxLen]; omega)
        have q2 := Lib.hid (show (n1 + 1) * 16 ≤ 140737488355328 by omega)
        clear hd
        go_wp2_with fail
        refine C.out.mono ?_
        rintro e w2 ⟨rfl, b2⟩
        have HS6 := Lib.hid (sl_one w2 9 (S x))
        have HO2 := Lib.hid ((HO1.out.keep b2).alloc (.cells #[S x] 9))
        clear b2
        go_wp2_with (at_builtin; refine wpList_append_sl _ rfl (.tmp 17) (.tmp 19) _ rfl w 9 i0 _ 1 16 Tryz.underlying49 hi0 hz0 hz1 hz2 rfl (by decide) A1 n1 c1 _ rfl HO2.out _ 1 1 (strs [x]) rfl HS6.out (one_strs _) q1.out q2.out ?_; intro A5 c5 w5 hO5 hg5 hat5; have HO5 := Lib.hid hO5; clear hO5 hg5 hat5)
        go_roundw
        case rel => exact ⟨k + 1, n1 + 1, c5, A5, hlt, by go_num, rfl, Lib.hid (by rw [HE1.out, List.length_append, ← H1.out]; rfl), Lib.hid (by rw [HE1.out, strs_snoc]; exact HO5.out)⟩
        case measure => simp [intOf]; omega
    · obtain rfl : k = n := by omega
      rw [List.take_of_length_le (by rw [hlen.out]; exact Nat.le_refl _)] at H1 HO
      go_wp2
      go_ret
      exact ⟨A1, n1, c1, rfl, H1.out, HO.out⟩
set_option maxHeartbeats 4000000 in
set_option maxRecDepth 100000 in
theorem chosenC_any (g : FuncId) (lb : Array Value) (eg : ∀ args w, (callFunc g args).run Tryz.prog w = .ok (.enter g args) w) (f : Chg3 → Bool) (A : Option Addr) (n c : Nat) (l : List Chg3) (w : World) (hA : Sl w 3 A n (cgs l)) (hn : n ≤ 2000000)
    (hF : ∀ x ∈ l, ∀ W, Below w.heap.size w W → Calls Tryz.prog g (#[.agg #[S x.1, S x.2.1, S x.2.2]] ++ lb) W fun e w' => e = .returned (.bool (f x)) ∧ Below W.heap.size W w') :
    Calls Tryz.prog 45 #[.slice A n c, .func (.func g) #[] lb] w fun e w' => ∃ A1 n1 c1, e = .returned (.slice A1 n1 c1) ∧ n1 = (l.filter f).length ∧ Ow w w' 73 3 A1 n1 c1 (cgs (l.filter f)) := by
  obtain ⟨i0, hi0, hz0, hz1, hz2⟩ := info_parts Tryz.infoChg
  have hlen := Lib.hid (cgs_count hA)
  have HA := Lib.hid hA
  have HF := Lib.hid hF
  clear hA hF
  go_enter Tryz.func45, Tryz.ntmps45
  go_wp2
  go_loopw [5, 10] (fun s5 s10 wr => ∃ (k n1 c1 : Nat) (A1 : Option Addr), k ≤ n ∧ s10 = .int .i64 k ∧ s5 = .slice A1 n1 c1 ∧ Hid (n1 = ((l.take k).filter f).length) ∧ Hid (Ow w wr 73 3 A1 n1 c1 (cgs ((l.take k).filter f)))) (fun _ s10 _ => n - (intOf s10).toNat)
  case atStart => exact ⟨0, 0, 0, none, Nat.zero_le _, rfl, rfl, Lib.hid (by simp), Lib.hid (by simp only [List.take_zero, List.filter_nil]; exact Ow.nil_ (Below.refl _ _))⟩
  case round =>
    obtain ⟨k, n1, c1, A1, hk, rfl, rfl, H1, HO⟩ := hrel
    by_cases hlt : k < n
    · obtain ⟨b, off, x, rfl, _, hx, x0, x1, x2⟩ := (HA.out.below HO.out.2).cg hlt
      have Hx := Lib.hid hx
      have hB := Blk.new wr 73 #[S x.1, S x.2.1, S x.2.2]
      have HB := Lib.hid hB
      have hb1 := balloc (HO.out.2) (.cells #[S x.1, S x.2.1, S x.2.2] 73)
      have HO1 := Lib.hid (HO.out.alloc (.cells #[S x.1, S x.2.1, S x.2.2] 73))
      have C := Lib.hid (HF.out x (List.mem_of_getElem? hx) _ hb1)
      have hbd1 : n1 ≤ 2000000 := by have := H1.out; have := List.length_filter_le f (l.take k); rw [List.length_take] at this; omega
      clear hx hb1 hB
      rcases hd : f x with _ | _
      · rw [hd] at C
        have HE1 : Hid ((l.take (k + 1)).filter f = (l.take k).filter f) := Lib.hid (by rw [List.take_add_one, Hx.out, List.filter_append]; simp [hd])
        clear hd
        go_wp2_with fail
        refine C.out.mono ?_
        rintro e w2 ⟨rfl, b2⟩
        have HO2 := Lib.hid (HO1.out.keep b2)
        clear b2
        go_wp2
        go_roundw
        case rel => exact ⟨k + 1, n1, c1, A1, hlt, by go_num, rfl, Lib.hid (by rw [HE1.out]; exact H1.out), Lib.hid (by rw [HE1.out]; exact HO2.out)⟩
        case measure => simp [intOf]; omega
      · rw [hd] at C
        have HE1 : Hid ((l.take (k + 1)).filter f = (l.take k).filter f ++ [x]) := Lib.hid (by rw [List.take_add_one, Hx.out, List.filter_append]; simp [hd])
        have q1 := Lib.hid (show n1 + 1 ≤ maxLen by simp only [maxLen]; omega)
        have q2 := Lib.hid (show (n1 + 1) * 48 ≤ 140737488355328 by omega)
        clear hd
        go_wp2_with fail
        refine C.out.mono ?_
        rintro e w2 ⟨rfl, b2⟩
        have r2 := (HB.out.step b2).cell
        have HS6 := Lib.hid (sl_cg w2 73 x)
        have HO2 := Lib.hid ((HO1.out.keep b2).alloc (.cells #[S x.1, S x.2.1, S x.2.2] 73))
        clear b2
        go_wp2_with (at_builtin; refine wpList_append_sl _ rfl (.tmp 17) (.tmp 19) _ rfl w 73 i0 _ 3 48 Tryz.underlying63 hi0 hz0 hz1 hz2 rfl (by decide) A1 n1 c1 _ rfl HO2.out _ 1 1 (cgs [x]) rfl HS6.out (one_cgs _) q1.out q2.out ?_; intro A5 c5 w5 hO5 hg5 hat5; have HO5 := Lib.hid hO5; clear hO5 hg5 hat5)
        go_roundw
        case rel => exact ⟨k + 1, n1 + 1, c5, A5, hlt, by go_num, rfl, Lib.hid (by rw [HE1.out, List.length_append, ← H1.out]; rfl), Lib.hid (by rw [HE1.out, cgs_snoc]; exact HO5.out)⟩
        case measure => simp [intOf]; omega
    · obtain rfl : k = n := by omega
      rw [List.take_of_length_le (by rw [hlen.out]; exact Nat.le_refl _)] at H1 HO
      go_wp2
      go_ret
      exact ⟨A1, n1, c1, rfl, H1.out, HO.out⟩
end Go.Proofs.YtkginbfpokbhcaaGreatDoor
