/-
  The small functions of the plan laws: mine, id, awake. Conditions: the plan's steps read as a list.
-/
import Derived.Test.YtgcbolijdgecgaaPlanNext
namespace Go.Proofs.Ytgcbolijdgecgaa
open Go.RowKit Go.Shelf

/-- an id of one byte -/
def idOf (x : UInt8) : List UInt8 := List.replicate 32 x
theorem idOf_len (x : UInt8) : (idOf x).length = 32 := by simp [idOf]

set_option maxHeartbeats 400000 in
theorem id_any (x : UInt8) (w : World) :
    Calls Try.prog 18 #[U8 x] w fun e w' => e = .returned (S (idOf x)) ∧ Below w.heap.size w w' := by
  obtain ⟨i0, hi0, hz0, hz1, hz2⟩ := info_parts Try.infoU8
  go_enter Try.func18, Try.ntmps18
  go_wp2
  go_loopw [3, 4] (fun v i wr => ∃ (k : Nat) (A : Option Addr) (c : Nat), k ≤ 32 ∧ i = .int .i64 k ∧ v = .slice A k c ∧ Ow w wr 5 1 A k c (u8s (List.replicate k x))) (fun _ i _ => 32 - (intOf i).toNat)
  case atStart => exact ⟨0, none, 0, by omega, rfl, rfl, Ow.nil_ (Below.refl _ _)⟩
  case round =>
    obtain ⟨k, A, c, hk, rfl, rfl, hO⟩ := hrel
    by_cases hlt : k < 32
    · have ho := hO.alloc (.cells #[U8 x] 5)
      have hm' : k + 1 ≤ maxLen := by simp only [maxLen]; omega
      have hn' : (k + 1) * 1 ≤ 140737488355328 := by omega
      go_wp2_with (at_builtin; refine wpList_append_sl _ rfl (.tmp 9) (.tmp 11) _ rfl w 5 i0 _ 1 1 Try.underlying34 hi0 hz0 hz1 hz2 rfl Nat.one_pos _ _ _ _ rfl ho _ 1 1 [U8 x] rfl (sl_one _ _ _) (one_one rfl) hm' hn' ?_; intro A' c' w1 hown1 hg1 hat1)
      go_roundw
      case rel => exact ⟨k + 1, A', c', by omega, by go_num, rfl, by rw [List.replicate_succ', u8s, List.map_append]; exact hown1⟩
      case measure => simp [intOf]; omega
    · obtain rfl : k = 32 := by omega
      have hcv := run_conv_str (P := Try.prog) wr 34 9 5 A 32 c _ Try.underlying34 Try.underlying5 Try.underlying9 hO.sl
      rw [show List.replicate 32 x = idOf x from rfl] at hcv
      go_wp2
      go_ret
      exact ⟨rfl, hO.2⟩

theorem id_num (x : UInt8) (n : Int) (h : (x.toNat : Int) = n) (w : World) :
    Calls Try.prog 18 #[.int .u8 n] w fun e w' => e = .returned (S (idOf x)) ∧ Below w.heap.size w w' := by
  subst h; exact id_any x w

set_option maxHeartbeats 400000 in
theorem mine_any (kind : Int) (A : Option Addr) (n c : Nat) (at_ : Int) (orig who : List UInt8) (stamp : Int) (w : World) :
    Calls Try.prog 6 #[plV kind A n c at_ orig who stamp] w fun e w' => e = .returned (plV kind A n c at_ orig who stamp) ∧ Below w.heap.size w w' := by
  go_enter Try.func6, Try.ntmps6
  go_wp2
  refine bodyPost_ret (v := plV kind A n c at_ orig who stamp) (by simp [results, Try.results6, go_sem]) rfl ⟨rfl, ?_⟩
  exact ((Below.refl _ _).alloc (Nat.le_refl _) _).alloc (by simp) _

theorem ok_one_ : PlanOk ⟨1, [idOf 1, idOf 2], (0 : Nat), idOf 3, [], 0⟩ := by
  refine ⟨⟨?_, ?_, ?_, ?_, idOf_len 3, ?_, ?_, ?_⟩, ?_, ?_, ?_⟩ <;> simp [idOf_len]
theorem ok_two_ : PlanOk ⟨1, [idOf 1, idOf 2], (1 : Nat), idOf 3, [], 0⟩ := by
  refine ⟨⟨?_, ?_, ?_, ?_, idOf_len 3, ?_, ?_, ?_⟩, ?_, ?_, ?_⟩ <;> simp [idOf_len]
theorem no_zero : ¬ PlanOk ⟨0, [], 0, [], [], 0⟩ := fun h => by have := h.2.1; simp at this

set_option maxHeartbeats 2000000 in
set_option maxRecDepth 100000 in
theorem awake_any (w : World) : Calls Try.prog 5 #[] w fun e w' => e = .returned (.bool true) ∧ Below w.heap.size w w' := by
  go_enter Try.func5, Try.ntmps5
  go_wp2_with fail
  refine (id_num 1 _ rfl _).mono ?_
  rintro e w1 ⟨rfl, b1⟩
  go_wp2_with fail
  refine (id_num 2 _ rfl _).mono ?_
  rintro e w2 ⟨rfl, b2⟩
  go_wp2_with fail
  refine (id_num 3 _ rfl _).mono ?_
  rintro e w3 ⟨rfl, b3⟩
  have q3 := Lib.hid (bstep (balloc (bstep b1 b2) _) b3)
  have HS := Lib.hid (((Blk.new w2 9 #[S (idOf 1), S (idOf 2)]).step b3))
  clear b1 b2 b3
  go_wp2_with fail
  refine (next_more 1 (some ⟨w2.heap.size, 0, none⟩) 2 2 0 (idOf 3) [] 0 [idOf 1, idOf 2] (idOf 1) _ (HS.out.alloc _).sl ok_one_ (by omega) rfl).mono ?_
  rintro e w4 ⟨A4, c4, rfl, hO4⟩
  have hS4 := hO4.sl
  have b4 := hO4.2
  clear hO4
  have hP4 := (Blk.new w3 26 _).step b4
  have HS4 := Lib.hid hS4
  have HS0 := Lib.hid ((HS.out.alloc _).step b4)
  have q4 := Lib.hid (bstep (balloc q3.out _) b4)
  have HP4 := Lib.hid hP4
  clear b4 hP4 hS4 q3 HS
  go_wp2_with fail
  refine (next_last 1 A4 2 c4 1 (idOf 3) [] 0 [idOf 1, idOf 2] (idOf 2) _ (HS4.out.alloc _) ok_two_ rfl rfl).mono ?_
  rintro e w5 ⟨rfl, b5⟩
  have HP5 := Lib.hid ((HP4.out.alloc _).step b5)
  have HQ5 := Lib.hid ((Blk.new w4 26 _).step b5)
  have q5 := Lib.hid (bstep (balloc q4.out _) b5)
  have HS5 := Lib.hid ((HS0.out.alloc _).step b5)
  clear b5 q4 HP4 HS4 HS0
  go_wp2_with fail
  refine (next_no 0 none 0 0 0 [] [] 0 [] _ Sl.nil_ no_zero).mono ?_
  rintro e w6 ⟨rfl, b6⟩
  have HP6 := Lib.hid ((HP5.out.alloc _).step b6)
  have HQ6 := Lib.hid ((HQ5.out.alloc _).step b6)
  have HR6 := Lib.hid ((Blk.new w5 26 _).step b6)
  have q6 := Lib.hid (bstep (balloc q5.out _) b6)
  have HS6 := Lib.hid ((HS5.out.alloc _).step b6)
  clear b6 q5 HP5 HQ5 HS5
  go_wp2_with fail
  refine (id_num 1 _ rfl _).mono ?_
  rintro e w7 ⟨rfl, b7⟩
  have HP7 := Lib.hid ((HP6.out.alloc _).step b7)
  have hQ7 := ((HQ6.out.alloc _).step b7).cell
  have HR7 := Lib.hid ((HR6.out.alloc _).step b7)
  have q7 := Lib.hid (bstep (balloc q6.out _) b7)
  have HS7 := Lib.hid ((HS6.out.alloc _).step b7)
  clear b7 q6 HP6 HQ6 HR6 HS6
  go_wp2_with fail
  refine (id_num 2 _ rfl _).mono ?_
  rintro e w8 ⟨rfl, b8⟩
  have hP8 := (HP7.out.step b8).cell
  have HR8 := Lib.hid (HR7.out.step b8)
  have q8 := Lib.hid (bstep q7.out b8)
  have HS8 := Lib.hid (HS7.out.step b8)
  clear b8 q7 HP7 hQ7 HR7 HS7
  go_wp2_with fail
  refine (check_ok 1 (some ⟨w2.heap.size, 0, none⟩) 2 2 0 (idOf 3) [] 0 [idOf 1, idOf 2] _ HS8.out.sl ok_one_).mono ?_
  rintro e w9 ⟨rfl, b9⟩
  have hR9 := (HR8.out.step b9).cell
  have q9 := Lib.hid (bstep q8.out b9)
  clear b9 q8 hP8 HR8 HS8
  go_wp2_with fail
  refine (check_no 0 none 0 0 0 [] [] 0 [] _ Sl.nil_ no_zero).mono ?_
  rintro e w10 ⟨rfl, b10⟩
  go_wp2
  go_ret
  exact ⟨rfl, bstep q9.out b10⟩
end Go.Proofs.Ytgcbolijdgecgaa
