/-
  strings.Split at a slash; object.Part, tree.Named, tree.Under. Conditions: a path is shorter than 2147483648 bytes; internal/bytealg.MaxLen holds an int.
-/
import Derived.Test.YtkginbfpokbhcaaGreatDoorMaxL
import Derived.Test.YtkginbfpokbhcaaGreatDoorKitW
namespace Go.Proofs.YtkginbfpokbhcaaGreatDoor
open Go.RowKit
open PathLaw (pc under)

theorem str_mk (x : ByteArray) : Value.string x = S x.data.toList := by cases x; simp
theorem strs_of (l : List ByteArray) : l.map Value.string = strs (l.map (·.data.toList)) := by
  simp only [strs, List.map_map]
  exact List.map_congr_left (fun x _ => str_mk x)

set_option maxHeartbeats 400000 in
theorem split_any (b : List UInt8) (w : World) (hb : b.length < 4294967281) (hM : MaxL w) :
    Calls Tryz.prog 82 #[S b, S [47]] w fun e w' => e = .returned (.slice (some ⟨w.heap.size, 0, none⟩) (pc b).length (pc b).length) ∧ w' = w.alloc (.cells (strs (pc b)).toArray 9) := by
  obtain ⟨m, hm⟩ := hM
  have hsz : (⟨b.toArray⟩ : ByteArray).size = b.length := size_mk b
  have hle := Lib.countB_le ⟨#[47]⟩ (by decide) (⟨b.toArray⟩ : ByteArray).size ⟨b.toArray⟩ (Nat.le_refl _)
  have hlen := Lib.splitB_all ⟨#[47]⟩ (by decide) 0 _ ⟨b.toArray⟩ rfl
  have c := Tryz.strings_genSplit ⟨b.toArray⟩ ⟨#[47]⟩ 0 (-1) (Lib.countB ⟨b.toArray⟩ ⟨#[47]⟩ + 1) m w (by omega) hm (by decide) (by decide) (by decide) (by decide) (by rw [if_pos (by decide)]; omega)
  have hd := Lib.splitB_data ⟨#[47]⟩ 0 (Lib.countB ⟨b.toArray⟩ ⟨#[47]⟩) ⟨b.toArray⟩
  have hsa : Lib.splitK [47] 0 (Lib.countB ⟨b.toArray⟩ ⟨#[47]⟩) b = pc b := PathLaw.split_pc _ _ rfl
  dsimp only at hd
  rw [hsa] at hd
  have hl2 : (pc b).length = Lib.countB ⟨b.toArray⟩ ⟨#[47]⟩ + 1 := by rw [← hd, List.length_map, hlen]
  rw [Nat.add_sub_cancel, hlen] at c
  have e2 : Lib.cellsOf (Lib.splitB ⟨#[47]⟩ 0 (Lib.countB ⟨b.toArray⟩ ⟨#[47]⟩) ⟨b.toArray⟩) (Lib.countB ⟨b.toArray⟩ ⟨#[47]⟩ + 1) = (strs (pc b)).toArray := by rw [← hd, ← strs_of, ← hlen]; exact Lib.cellsOf_full _
  rw [e2, ← hl2] at c
  have C := Lib.hid c
  clear c hlen hle hd hsa e2 hl2 hm
  go_enter Tryz.func82, Tryz.ntmps82
  go_wp2_with fail
  refine C.out.mono ?_
  rintro e w' ⟨rfl, hw⟩
  rw [hw]
  go_wp2
  go_ret
  exact ⟨rfl, rfl⟩
theorem indexByte_at (s : List UInt8) (c : UInt8) (n : Int) (hn : n = (c.toNat : Int)) (w : World) :
    Calls Tryz.prog 143 #[S s, .int .u8 n] w fun e w' => e = .returned (I (Lib.indexByte s c)) ∧ w = w' := by
  subst hn
  exact indexByte_any s c w
set_option maxHeartbeats 1000000 in
set_option maxRecDepth 100000 in
theorem part_any (s : List UInt8) (w : World) :
    Calls Tryz.prog 83 #[S s] w fun e w' => e = .returned (.bool (PathLaw.part s)) ∧ w = w' := by
  have C1 := Lib.hid (fun W => indexByte_at s 47 47 rfl W)
  have C2 := Lib.hid (fun W => indexByte_at s 0 0 rfl W)
  go_enter Tryz.func83, Tryz.ntmps83
  go_wp2_with (go_at_call 143; first | ((with_reducible refine (C1.out _).mono ?_); rintro e w' ⟨rfl, rfl⟩) | ((with_reducible refine (C2.out _).mono ?_); rintro e w' ⟨rfl, rfl⟩))
  all_goals
    go_ret
    refine ⟨ret_bool ?_, rfl⟩
    unfold PathLaw.part
    clear C1 C2
    grind
theorem all_take_succ {α : Type} {f : α → Bool} {l : List α} {k : Nat} {x : α} (h : (l.take k).all f = true) (hx : l[k]? = some x) (hk : f x = true) : (l.take (k + 1)).all f = true := by
  rw [List.take_add_one, List.all_append, h, hx]
  simp [hk]
theorem all_not {α : Type} {f : α → Bool} {l : List α} {k : Nat} {x : α} (hx : l[k]? = some x) (hk : f x = false) : l.all f = false := by
  rw [List.all_eq_false]
  exact ⟨x, List.mem_of_getElem? hx, by simp [hk]⟩
set_option maxHeartbeats 1000000 in
theorem named_any (s : List UInt8) (w : World) (hs : s.length ≤ 2147483648) (hM : MaxL w) :
    Calls Tryz.prog 38 #[S s] w fun e w' => e = .returned (.bool (PathLaw.named s)) ∧ Below w.heap.size w w' := by
  have C1 := Lib.hid (fun W (h : MaxL W) => split_any s W (by omega) h)
  have hl := PathLaw.pc_len s
  have hS := Lib.hid ((Blk.new w 9 (strs (pc s)).toArray).sl)
  have hlen : Hid ((strs (pc s)).length = (pc s).length) := Lib.hid (by simp [strs])
  rw [hlen.out] at hS
  generalize hn : (pc s).length = n at *
  have Hn := Lib.hid hn
  clear hn
  go_enter Tryz.func38, Tryz.ntmps38
  go_wp2_with (go_at_call 82; refine (C1.out _ hM).mono ?_; rintro e w' ⟨rfl, rfl⟩)
  go_loop [10] (fun i => ∃ k : Nat, i = .int .i64 k ∧ k ≤ n ∧ Hid (((pc s).take k).all PathLaw.part = true)) (fun i => n - (intOf i).toNat)
  case atStart => exact ⟨0, rfl, Nat.zero_le _, Lib.hid rfl⟩
  case round =>
    obtain ⟨k, rfl, hk, ha⟩ := hrel
    by_cases hlt : k < n
    · obtain ⟨b, off, x, e1, hx, hc⟩ := hS.out.str hlt
      cases e1
      have Hx := Lib.hid hx
      rw [Nat.zero_add] at hc
      clear hx
      cases hp : PathLaw.part x with
      | true =>
        have C2 := part_any x
        rw [hp] at C2
        have C3 := Lib.hid C2
        have Hp := Lib.hid hp
        clear C2 hp
        go_wp2_with (go_at_call 83; refine (C3.out _).mono ?_; rintro e w' ⟨rfl, rfl⟩)
        go_round
        case rel => exact ⟨k + 1, by go_num, hlt, Lib.hid (all_take_succ ha.out Hx.out Hp.out)⟩
        case measure => simp [intOf]; omega
      | false =>
        have C2 := part_any x
        rw [hp] at C2
        have C3 := Lib.hid C2
        have Hp := Lib.hid hp
        clear C2 hp
        go_wp2_with (go_at_call 83; refine (C3.out _).mono ?_; rintro e w' ⟨rfl, rfl⟩)
        go_ret
        refine ⟨ret_bool ?_, balloc (Below.refl _ w) _⟩
        unfold PathLaw.named
        rw [all_not Hx.out Hp.out]
        rfl
    · obtain rfl : k = n := by omega
      have ha2 : Hid ((pc s).all PathLaw.part = true) := by
        have := ha.out
        rwa [List.take_of_length_le (by rw [Hn.out]; exact Nat.le_refl _)] at this
      clear hlt
      go_wp2
      all_goals
        go_ret
        refine ⟨ret_bool ?_, balloc (Below.refl _ w) _⟩
        unfold PathLaw.named
        rw [ha2.out, Hn.out]
        clear C1 hS hlen Hn ha2 ha
        grind
set_option maxRecDepth 100000 in
set_option maxHeartbeats 400000 in
theorem under_any (p d : List UInt8) (w : World) (hd : d.length ≤ 2147483648) :
    Calls Tryz.prog 98 #[S p, S d] w fun e w' => e = .returned (.bool (under p d)) ∧ w = w' := by
  have h1 : d.length + 1 ≤ maxLen := by unfold maxLen; omega
  go_enter Tryz.func98, Tryz.ntmps98
  go_wp2_with fail
  have e : (⟨d.toArray⟩ ++ ⟨#[47]⟩ : ByteArray) = ⟨(d ++ [47]).toArray⟩ := by
    apply ByteArray.ext
    simp
  rw [e]
  have C := Tryz.strings_HasPrefix ⟨p.toArray⟩ ⟨(d ++ [47]).toArray⟩ w
  have C2 : Calls Tryz.prog 76 #[S p, S (d ++ [47])] w fun e w' => e = .returned (.bool (under p d)) ∧ w = w' := C.mono fun e w' ⟨h1, h2⟩ => ⟨by rw [h1]; simp [under, Lib.hasPrefix], h2.symm⟩
  clear C
  refine C2.mono ?_
  rintro e w' ⟨rfl, rfl⟩
  go_wp2
  go_ret
  exact ⟨rfl, rfl⟩
end Go.Proofs.YtkginbfpokbhcaaGreatDoor
