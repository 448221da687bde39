/-
  The program's index where there is none: a nil pointer. No condition.
-/
import Derived.Test.YtjcelelgebohkaaGreatDoorIdxConf
import Derived.Test.YtjcelelgebohkaaGreatDoorIdxLists
namespace Go.Proofs.YtjcelelgebohkaaGreatDoor
open Go.RowKit
open IdxLaw (Ent Key zE three drop conflict)

theorem find_nil (q : List UInt8) (st : Int) (w : World) :
    Calls Tryz.prog 10 #[.pointer none, S q, I st] w fun e w' => e = .returned (.tuple #[entV zE, .bool false]) ∧ Below w.heap.size w w' := by
  go_enter Tryz.func10, Tryz.ntmps10
  go_wp2
  refine bodyPost_ret (v := .tuple #[entV zE, .bool false]) (by simp [results, Tryz.results10, go_sem]; exact ⟨rfl, rfl, rfl, rfl, rfl⟩) rfl ⟨rfl, ?_⟩
  exact balloc (Below.refl _ w) _
theorem set_nil (x : Ent) (w : World) :
    Calls Tryz.prog 11 #[.pointer none, entV x] w fun e w' => e = .returned (I 1) ∧ Below w.heap.size w w' := by
  go_enter Tryz.func11, Tryz.ntmps11
  go_wp2
  go_ret
  exact ⟨rfl, balloc (Below.refl _ w) _⟩
theorem drop_nil (v : Value) (w : World) :
    Calls Tryz.prog 43 #[.pointer none, v] w fun e w' => e = .returned (.bool false) ∧ w' = w := by
  go_enter Tryz.func43, Tryz.ntmps43
  go_wp2
  go_ret
  exact ⟨rfl, rfl⟩
theorem dropm_nil (q : List UInt8) (w : World) :
    Calls Tryz.prog 14 #[.pointer none, S q] w fun e w' => e = .returned (.bool false) ∧ Below w.heap.size w w' := by
  have C := Lib.hid drop_nil
  go_enter Tryz.func14, Tryz.ntmps14
  go_wp2_with (go_at_call 43; refine (C.out _ _).mono ?_; rintro e w2 ⟨rfl, rfl⟩)
  go_ret
  exact ⟨rfl, balloc (Below.refl _ w) _⟩
theorem entries_nil (w : World) :
    Calls Tryz.prog 15 #[.pointer none] w fun e w' => e = .returned (.slice none 0 0) ∧ w' = w := by
  go_enter Tryz.func15, Tryz.ntmps15
  go_wp2
  go_ret
  exact ⟨rfl, rfl⟩
theorem files_nil (w : World) :
    Calls Tryz.prog 16 #[.pointer none] w fun e w' => e = .returned (.slice none 0 0) ∧ Below w.heap.size w w' := by
  have C := Lib.hid entries_nil
  go_enter Tryz.func16, Tryz.ntmps16
  go_wp2_with (go_at_call 15; refine (C.out _).mono ?_; rintro e w2 ⟨rfl, rfl⟩)
  go_loopw [3, 9] (fun o i wr => o = .slice none 0 0 ∧ i = .int .i64 0 ∧ wr = w2) (fun _ _ _ => 0)
  case atStart => exact ⟨rfl, rfl, rfl⟩
  case round =>
    obtain ⟨rfl, rfl, rfl⟩ := hrel
    go_wp2
    go_ret
    exact ⟨rfl, Below.refl _ _⟩
theorem conflicts_nil (w : World) :
    Calls Tryz.prog 17 #[.pointer none] w fun e w' => ∃ (A : Option Addr) (c : Nat), e = .returned (.slice A 0 c) ∧ Below w.heap.size w w' := by
  have C := Lib.hid entries_nil
  have C2 := Lib.hid (fun W => compact_any W W none 0 0 [] (Ow.nil_ (Below.refl _ W)) (by omega))
  go_enter Tryz.func17, Tryz.ntmps17
  go_wp2_with (go_at_call 15; refine (C.out _).mono ?_; rintro e w2 ⟨rfl, rfl⟩)
  go_loopw [3, 9] (fun o i wr => o = .slice none 0 0 ∧ i = .int .i64 0 ∧ wr = w2) (fun _ _ _ => 0)
  case atStart => exact ⟨rfl, rfl, rfl⟩
  case round =>
    obtain ⟨rfl, rfl, rfl⟩ := hrel
    go_wp2_with (go_at_call 51; refine (C2.out _).mono ?_; rintro e w3 ⟨t, rfl, ht, _, b3⟩)
    obtain rfl : t = 0 := ht
    go_ret
    exact ⟨none, 0, rfl, b3⟩
set_option maxRecDepth 100000 in
set_option maxHeartbeats 4000000 in
theorem conflict_nil (w : World) (q a b c : List UInt8) :
    Calls Tryz.prog 13 #[.pointer none, S q, S a, S b, S c] w fun e w' => e = .returned (I 1) ∧ Below w.heap.size w w' := by
  obtain ⟨i0, hi0, hi1, hi2, hi3⟩ := info_parts Tryz.infoEnt
  have HS0 := Lib.hid (Blk.new w 9 #[S a, S b, S c])
  go_enter Tryz.func13, Tryz.ntmps13
  go_wp2
  go_loopw [11, 21] (fun o i wr => ∃ (k co t : Nat) (Ao : Option Addr), i = .int .i64 k ∧ o = .slice Ao t co ∧ Hid (k ≤ 3) ∧ Hid (t = (some3 ((full3 q a b c).take k)).length) ∧ Hid (Ow (w.alloc (.cells #[S a, S b, S c] 9)) wr 36 5 Ao t co (ents (some3 ((full3 q a b c).take k))))) (fun _ i _ => 3 - (intOf i).toNat)
  case atStart => exact ⟨0, 0, 0, none, rfl, rfl, Lib.hid (by omega), Lib.hid rfl, Lib.hid (Ow.nil_ (Below.refl _ _))⟩
  case round =>
    obtain ⟨k, co, t, Ao, rfl, rfl, hk, ht, hO⟩ := hrel
    have rs := (HS0.out.step (hO.out.2)).cell
    by_cases hlt : k < 3
    · obtain ⟨i, hi, hf⟩ := full3_at (p := q) (a := a) (b := b) (c := c) hlt
      have Hf := Lib.hid hf
      have hci : wr.cell? ⟨w.heap.size, k, none⟩ = some (S i) := by
        have h1 := rs k
        have h2 : (#[S a, S b, S c] : Array Value)[k]? = ([a, b, c][k]?).map S := by
          have : k = 0 ∨ k = 1 ∨ k = 2 := by omega
          rcases this with rfl | rfl | rfl <;> rfl
        rw [h1, h2, hi]
        rfl
      have hd3 : decide ((k : Int) < 3) = true := by simp; omega
      clear rs hi hf
      rcases i with _ | ⟨x, r⟩
      · go_wp2
        go_roundw
        case rel => exact ⟨k + 1, co, t, Ao, by go_num, rfl, Lib.hid hlt, Lib.hid (by rw [some3_snoc Hf.out, if_pos rfl, List.append_nil]; exact ht.out), Lib.hid (by rw [some3_snoc Hf.out, if_pos rfl, List.append_nil]; exact hO.out)⟩
        case measure => simp [intOf]; omega
      · have hk1 : (k : Int) + 1 ≤ 3 := by omega
        have hk0 : 0 ≤ (k : Int) + 1 := by omega
        have hbd : t ≤ 3 := by
          have h1 := some3_len (full3 q a b c) k
          have h2 := ht.out
          omega
        have q1 : t + 1 ≤ maxLen := by simp only [maxLen]; omega
        have q2 : (t + 1) * 56 ≤ 140737488355328 := by omega
        have HS6 := Lib.hid (sl_ent wr 36 ⟨q, (k : Int) + 1, x :: r, 0, 0⟩)
        have HO6 := Lib.hid (hO.out.alloc (.cells #[S q, I ((k : Int) + 1), S (x :: r), I 0, I 0] 36))
        go_wp2_with (at_builtin; refine wpList_append_sl _ rfl (.tmp 28) (.tmp 34) _ rfl (w.alloc (.cells #[S a, S b, S c] 9)) 36 i0 _ 5 56 Tryz.underlying44 hi0 hi1 hi2 hi3 rfl (by decide) Ao t co _ rfl HO6.out _ 1 1 (ents [⟨q, (k : Int) + 1, x :: r, 0, 0⟩]) rfl HS6.out (one_ents _) q1 q2 ?_; intro A5 c5 w5 hO5 hg5 hat5; have HO5 := Lib.hid hO5; clear hO5 hg5 hat5)
        go_roundw
        case rel => exact ⟨k + 1, c5, t + 1, A5, by go_num, rfl, Lib.hid hlt, Lib.hid (by rw [some3_snoc Hf.out, if_neg (by simp), List.length_append, ← ht.out]; rfl), Lib.hid (by rw [some3_snoc Hf.out, if_neg (by simp), ents_append]; exact HO5.out)⟩
        case measure => simp [intOf]; omega
    · obtain rfl : k = 3 := by have := hk.out; omega
      have Hb := Lib.hid (bstep (balloc (Below.refl _ w) _) hO.out.2)
      clear rs
      go_wp2
      go_ret
      exact ⟨rfl, Hb.out⟩
end Go.Proofs.YtjcelelgebohkaaGreatDoor
