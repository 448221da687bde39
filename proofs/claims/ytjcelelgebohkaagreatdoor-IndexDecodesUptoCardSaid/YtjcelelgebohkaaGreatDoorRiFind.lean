/-
  The document's index: Find, Fresh. Conditions: paths are shorter than 2147483648 bytes; no more than 1000000 entries.
-/
import Derived.Test.YtjcelelgebohkaaGreatDoorRiBook
namespace Go.Proofs.YtjcelelgebohkaaGreatDoor
open Go.RowKit
open IdxLaw (Ent Key zE)

theorem find_step {l : List Ent} {k : Nat} {x : Ent} {ky : Key} (h : (l.take k).find? (fun e => decide (e.key = ky)) = none) (hx : l[k]? = some x) (hn : x.key ≠ ky) : (l.take (k + 1)).find? (fun e => decide (e.key = ky)) = none := by
  rw [List.take_add_one, List.find?_append, h, hx]
  simp [hn]
theorem find_here {l : List Ent} {k : Nat} {x : Ent} {ky : Key} (h : (l.take k).find? (fun e => decide (e.key = ky)) = none) (hx : l[k]? = some x) (hn : x.key = ky) : IdxLaw.find l ky = some x := by
  unfold IdxLaw.find
  obtain ⟨hk, e⟩ := List.getElem?_eq_some_iff.1 hx
  rw [← List.take_append_drop k l, List.find?_append, h, List.drop_eq_getElem_cons hk, e]
  simp [hn]

set_option maxRecDepth 100000 in
set_option maxHeartbeats 4000000 in
theorem rfind_any (E : Nat → Prop) (w : World) (q : Nat) (l : List Ent) (path : List UInt8) (st : Int) (hR : RIx E w q l) (hn : l.length ≤ 1000000) :
    Calls Tryz.prog 27 #[.pointer (some ⟨q, 0, none⟩), S path, I st] w fun e w' => e = .returned (.tuple #[entV ((IdxLaw.find l (path, st)).getD zE), .bool (IdxLaw.find l (path, st)).isSome]) ∧ Below w.heap.size w w' := by
  obtain ⟨_, _, A, c, hB, hc, hS⟩ := hR
  have rb := (hB.alloc (.cells #[S [], I 0, S [], I 0, I 0] 32)).cell
  have HS := Lib.hid (hS.1.alloc (.cells #[S [], I 0, S [], I 0, I 0] 32))
  have HF : Hid (∀ o, IdxLaw.find l (path, st) = o → entV ((IdxLaw.find l (path, st)).getD zE) = entV (o.getD zE) ∧ (IdxLaw.find l (path, st)).isSome = o.isSome) := Lib.hid (fun o h => by rw [h]; exact ⟨rfl, rfl⟩)
  clear hB hc hS
  go_enter Tryz.func27, Tryz.ntmps27
  go_wp2
  go_loop [8] (fun i => ∃ k : Nat, k ≤ l.length ∧ i = .int .i64 k ∧ Hid ((l.take k).find? (fun e => decide (e.key = (path, st))) = none)) (fun i => l.length - (intOf i).toNat)
  case atStart => exact ⟨0, Nat.zero_le _, rfl, Lib.hid rfl⟩
  case round =>
    obtain ⟨k, hk, rfl, ha⟩ := hrel
    by_cases hlt : k < l.length
    · obtain ⟨b, off, x, rfl, _, hx, x0, x1, x2, x3, x4⟩ := HS.out.ent hlt
      have Hx := Lib.hid hx
      clear hx
      obtain ⟨xp, xs, xi, xz, xt⟩ := x
      by_cases hxp : xp = path
      · subst hxp
        by_cases hxs : xs = st
        · subst hxs
          have h1 := Lib.hid (HF.out _ (find_here ha.out Hx.out rfl))
          go_wp2
          refine bodyPost_ret (v := .tuple #[entV ⟨xp, xs, xi, xz, xt⟩, .bool true]) (by simp [results, Tryz.results27, go_sem]) rfl ⟨?_, ?_⟩
          · rw [h1.out.1, h1.out.2]; rfl
          · exact balloc (Below.refl _ w) _
        · have h1 := Lib.hid (find_step ha.out Hx.out (fun e => hxs (Prod.mk.inj e).2))
          go_wp2
          go_round
          case rel => exact ⟨k + 1, by omega, by go_num, h1⟩
          case measure => simp [intOf]; omega
      · have h1 := Lib.hid (find_step ha.out Hx.out (fun e => hxp (Prod.mk.inj e).1))
        go_wp2
        go_round
        case rel => exact ⟨k + 1, by omega, by go_num, h1⟩
        case measure => simp [intOf]; omega
    · obtain rfl : k = l.length := by omega
      have hf : IdxLaw.find l (path, st) = none := by have := ha.out; rwa [List.take_length] at this
      have h1 := Lib.hid (HF.out _ hf)
      clear hf
      go_wp2
      refine bodyPost_ret (v := .tuple #[.agg #[S [], I 0, S [], I 0, I 0], .bool false]) (by simp [results, Tryz.results27, go_sem]) rfl ⟨?_, ?_⟩
      · rw [h1.out.1, h1.out.2]; rfl
      · exact balloc (Below.refl _ w) _
set_option maxRecDepth 100000 in
set_option maxHeartbeats 1000000 in
theorem rfresh_any (E : Nat → Prop) (w : World) (q : Nat) (l : List Ent) (path : List UInt8) (size stamp now : Int) (hR : RIx E w q l) (hn : l.length ≤ 1000000) :
    Calls Tryz.prog 29 #[.pointer (some ⟨q, 0, none⟩), S path, I size, I stamp, I now] w fun e w' => e = .returned (.bool (freshB (IdxLaw.find l (path, 0)) size stamp now)) ∧ Below w.heap.size w w' := by
  have C1 := rfind_any E w q l path 0 hR hn
  clear hR
  rcases hf : IdxLaw.find l (path, 0) with _ | x
  · rw [hf] at C1
    have C := Lib.hid C1
    clear C1 hf
    go_enter Tryz.func29, Tryz.ntmps29
    go_wp2_with (go_at_call 27; refine C.out.mono ?_; rintro e w2 ⟨rfl, b2⟩; have B2 := Lib.hid b2; clear b2)
    go_ret
    exact ⟨rfl, balloc B2.out _⟩
  · rw [hf] at C1
    have C := Lib.hid C1
    clear C1 hf
    obtain ⟨path, stage, id, sz, sp⟩ := x
    by_cases h1 : sz = size <;> by_cases h2 : sp = stamp
    all_goals
      go_enter Tryz.func29, Tryz.ntmps29
      go_wp2_with (go_at_call 27; refine C.out.mono ?_; rintro e w2 ⟨rfl, b2⟩; have B2 := Lib.hid b2; clear b2)
    all_goals
      go_ret
      refine ⟨ret_bool ?_, balloc B2.out _⟩
      clear B2 C
      unfold freshB
      grind
end Go.Proofs.YtjcelelgebohkaaGreatDoor
