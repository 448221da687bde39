/-
  The document's index: Drop, clear. Conditions: paths are shorter than 2147483648 bytes; no more than 1000000 entries.
-/
import Derived.Test.YtjcelelgebohkaaGreatDoorRiFind
import Derived.Test.YtjcelelgebohkaaGreatDoorIdxDrop
namespace Go.Proofs.YtjcelelgebohkaaGreatDoor
open Go.RowKit
open PathLaw (under)
open IdxLaw (Ent Key zE)

def AnyB (e : Ending) : Prop := ∃ b, e = .returned (.bool b)
theorem AnyB.mk (b : Bool) : AnyB (.returned (.bool b)) := ⟨b, rfl⟩
theorem Tryz.infoREnt : (Tryz.prog.info? 32).map (fun i => (i.zero, i.size, i.bytes)) = some (some (.agg #[.string ⟨#[]⟩, .int .i64 0, .string ⟨#[]⟩, .int .i64 0, .int .i64 0]), 5, 56) := by kernel_rfl
theorem filter_step {l : List Ent} {f : Ent → Bool} {k : Nat} {x : Ent} (hx : l[k]? = some x) : (l.take (k + 1)).filter f = (l.take k).filter f ++ (if f x = true then [x] else []) := by
  rw [List.take_add_one, hx, List.filter_append]
  by_cases h : f x = true <;> simp [h]
theorem filter_le (l : List Ent) (f : Ent → Bool) (k : Nat) : ((l.take k).filter f).length ≤ k := Nat.le_trans (List.length_filter_le _ _) (List.length_take_le _ _)

set_option maxRecDepth 100000 in
set_option maxHeartbeats 4000000 in
theorem rdrop_any (E : Nat → Prop) (w : World) (q : Nat) (l : List Ent) (path : List UInt8) (hR : RIx E w q l) (hn : l.length ≤ 1000000) :
    Calls Tryz.prog 26 #[.pointer (some ⟨q, 0, none⟩), S path] w fun e w' => e = .returned (.bool (fewer (IdxLaw.drop l path) l)) ∧ RIx E w' q (IdxLaw.drop l path) ∧ Fr (fun k => k = q) w w' := by
  obtain ⟨i0, hi0, hi1, hi2, hi3⟩ := info_parts Tryz.infoREnt
  have HR := Lib.hid hR
  obtain ⟨_, _, A, c, hB, hc, hS⟩ := hR
  have HB := Lib.hid hB
  have HS := Lib.hid hS.1
  have HD : Hid (IdxLaw.drop l path = l.filter (fun e => !decide (e.path = path))) := Lib.hid rfl
  clear hB hc hS
  go_enter Tryz.func26, Tryz.ntmps26
  go_wp2
  go_loopw [5, 6] (fun o i wr => ∃ (k co t : Nat) (Ao : Option Addr), i = .int .i64 k ∧ o = .slice Ao t co ∧ Hid (k ≤ l.length) ∧ Hid (t = ((l.take k).filter (fun e => !decide (e.path = path))).length) ∧ Hid (Ow w wr 32 5 Ao t co (ents ((l.take k).filter (fun e => !decide (e.path = path)))))) (fun _ i _ => l.length - (intOf i).toNat)
  case atStart => exact ⟨0, 0, 0, none, rfl, rfl, Lib.hid (Nat.zero_le _), Lib.hid rfl, Lib.hid (Ow.nil_ (Below.refl _ _))⟩
  case round =>
    obtain ⟨k, co, t, Ao, rfl, rfl, hk, ht, hO⟩ := hrel
    have rb := (HB.out.step hO.out.2).cell
    have rf := (HB.out.step hO.out.2).frozen
    by_cases hlt : k < l.length
    · obtain ⟨b, off, x, rfl, _, hx, x0, x1, x2, x3, x4⟩ := (HS.out.below hO.out.2).ent hlt
      have Hx := Lib.hid (filter_step (f := fun e => !decide (e.path = path)) hx)
      have hbd : t ≤ 1000000 := by
        have h1 := filter_le l (fun e => !decide (e.path = path)) k
        have h2 := ht.out
        have h3 := hk.out
        omega
      clear hx
      obtain ⟨xp, xs, xi, xz, xt⟩ := x
      by_cases hxp : xp = path
      · have Hy : Hid ((l.take (k + 1)).filter (fun e => !decide (e.path = path)) = (l.take k).filter (fun e => !decide (e.path = path))) := Lib.hid (by rw [Hx.out]; simp [hxp])
        subst hxp
        go_wp2
        go_roundw
        case rel => exact ⟨k + 1, co, t, Ao, by go_num, rfl, Lib.hid hlt, Lib.hid (by rw [Hy.out]; exact ht.out), Lib.hid (by rw [Hy.out]; exact hO.out)⟩
        case measure => simp [intOf]; omega
      · have Hy : Hid ((l.take (k + 1)).filter (fun e => !decide (e.path = path)) = (l.take k).filter (fun e => !decide (e.path = path)) ++ [⟨xp, xs, xi, xz, xt⟩]) := Lib.hid (by rw [Hx.out]; simp [hxp])
        have hq : (xp == path) = false := beq_eq_false_iff_ne.2 hxp
        have q1 : t + 1 ≤ maxLen := by simp only [maxLen]; omega
        have q2 : (t + 1) * 56 ≤ 140737488355328 := by omega
        have HS6 := Lib.hid (sl_ent wr 32 ⟨xp, xs, xi, xz, xt⟩)
        have HO6 := Lib.hid (hO.out.alloc (.cells #[S xp, I xs, S xi, I xz, I xt] 32))
        go_wp2_with (at_builtin; refine wpList_append_sl _ rfl (.tmp 27) (.tmp 35) _ rfl w 32 i0 _ 5 56 Tryz.underlying27 hi0 hi1 hi2 hi3 rfl (by decide) Ao t co _ rfl HO6.out _ 1 1 (ents [⟨xp, xs, xi, xz, xt⟩]) rfl HS6.out (one_ents _) q1 q2 ?_; intro A5 c5 w5 hO5 hg5 hat5; have HO5 := Lib.hid hO5; clear hO5 hg5 hat5)
        go_roundw
        case rel => exact ⟨k + 1, c5, t + 1, A5, by go_num, rfl, Lib.hid hlt, Lib.hid (by rw [Hy.out, List.length_append, ← ht.out]; rfl), Lib.hid (by rw [Hy.out, ents_append]; exact HO5.out)⟩
        case measure => simp [intOf]; omega
    · obtain rfl : k = l.length := by have := hk.out; omega
      rw [List.take_length] at ht hO
      rw [← HD.out] at ht hO
      go_wp2
      go_ret
      refine ⟨ret_bool ?_, HR.out.put hO.out, fr_put hO.out q _⟩
      unfold fewer
      rw [← ht.out]

/-- what stays when a path is cleared -/
def rkeep (files : Bool) (path : List UInt8) (e : Ent) : Bool := !decide (e.path = path) && !(files && (decide (e.stage = 0) && (under e.path path || under path e.path)))
set_option maxRecDepth 100000 in
set_option maxHeartbeats 8000000 in
theorem rclear_any (E : Nat → Prop) (w : World) (q : Nat) (l : List Ent) (path : List UInt8) (files : Bool) (hR : RIx E w q l) (hn : l.length ≤ 1000000) (hp : path.length ≤ maxLen) (hl : ∀ e ∈ l, e.path.length ≤ maxLen) :
    Calls Tryz.prog 63 #[.pointer (some ⟨q, 0, none⟩), S path, .bool files] w fun e w' => e = .returned (.tuple #[]) ∧ RIx E w' q (l.filter (rkeep files path)) ∧ Fr (fun k => k = q) w w' := by
  obtain ⟨i0, hi0, hi1, hi2, hi3⟩ := info_parts Tryz.infoREnt
  have HR := Lib.hid hR
  obtain ⟨_, _, A, c, hB, hc, hS⟩ := hR
  have HB := Lib.hid hB
  have HS := Lib.hid hS.1
  have HP := Lib.hid hp
  have HL := Lib.hid hl
  clear hB hc hS hp hl
  go_enter Tryz.func63, Tryz.ntmps63
  go_wp2
  go_loopw [6, 7, 8, 9] (fun o i p8 p9 wr => ∃ (k co t : Nat) (Ao : Option Addr), i = .int .i64 k ∧ o = .slice Ao t co ∧ Hid (k ≤ l.length) ∧ Hid (t = ((l.take k).filter (rkeep files path)).length) ∧ Hid (Ow w wr 32 5 Ao t co (ents ((l.take k).filter (rkeep files path))))) (fun _ i _ _ _ => l.length - (intOf i).toNat)
  case atStart => exact ⟨0, 0, 0, none, rfl, rfl, Lib.hid (Nat.zero_le _), Lib.hid rfl, Lib.hid (Ow.nil_ (Below.refl _ _))⟩
  case round =>
    obtain ⟨k, co, t, Ao, rfl, rfl, hk, ht, hO⟩ := hrel
    have rb := (HB.out.step hO.out.2).cell
    have rf := (HB.out.step hO.out.2).frozen
    by_cases hlt : k < l.length
    · obtain ⟨b, off, x, rfl, _, hx, x0, x1, x2, x3, x4⟩ := (HS.out.below hO.out.2).ent hlt
      have Hx := Lib.hid (filter_step (f := rkeep files path) hx)
      have C1 := fun W => runder_any x.path path W (HL.out x (List.mem_of_getElem? hx))
      have C2 := fun W => runder_any path x.path W HP.out
      have hbd : t ≤ 1000000 := by
        have h1 := filter_le l (rkeep files path) k
        have h2 := ht.out
        have h3 := hk.out
        omega
      clear hx
      obtain ⟨xp, xs, xi, xz, xt⟩ := x
      obtain ⟨u1, h1⟩ : ∃ u, u = under xp path := ⟨_, rfl⟩
      obtain ⟨u2, h2⟩ : ∃ u, u = under path xp := ⟨_, rfl⟩
      have Hk : Hid (rkeep files path ⟨xp, xs, xi, xz, xt⟩ = (!decide (xp = path) && !(files && (decide (xs = 0) && (u1 || u2))))) := Lib.hid (by rw [h1, h2]; rfl)
      simp only [← h1] at C1
      simp only [← h2] at C2
      have D1 := Lib.hid C1
      have D2 := Lib.hid C2
      clear C1 C2 h1 h2
      have q1 : t + 1 ≤ maxLen := by simp only [maxLen]; omega
      have q2 : (t + 1) * 56 ≤ 140737488355328 := by omega
      have HS6 := Lib.hid (sl_ent wr 32 ⟨xp, xs, xi, xz, xt⟩)
      have HO6 := Lib.hid (hO.out.alloc (.cells #[S xp, I xs, S xi, I xz, I xt] 32))
      have hcase : (xp = path) ∨ (¬ xp = path ∧ files = false) ∨ (¬ xp = path ∧ files = true ∧ ¬ xs = 0) ∨ (¬ xp = path ∧ files = true ∧ xs = 0) := by
        cases files <;> by_cases h1 : xp = path <;> by_cases h2 : xs = 0 <;> simp [h1, h2]
      rcases hcase with hxp | ⟨hxp, hf⟩ | ⟨hxp, hf, hxs⟩ | ⟨hxp, hf, hxs⟩
      · have Hy : Hid ((l.take (k + 1)).filter (rkeep files path) = (l.take k).filter (rkeep files path)) := Lib.hid (by rw [Hx.out, Hk.out]; simp [hxp])
        clear Hx Hk
        subst hxp
        go_wp2_with (go_at_call 79; first | ((with_reducible refine (D1.out _).mono ?_); rintro e w' ⟨rfl, rfl⟩) | ((with_reducible refine (D2.out _).mono ?_); rintro e w' ⟨rfl, rfl⟩))
        all_goals
          go_roundw
          case rel => exact ⟨k + 1, co, t, Ao, by go_num, rfl, Lib.hid hlt, Lib.hid (by rw [Hy.out]; exact ht.out), Lib.hid (by rw [Hy.out]; exact hO.out)⟩
          case measure => simp [intOf]; omega
      · have Hy : Hid ((l.take (k + 1)).filter (rkeep files path) = (l.take k).filter (rkeep files path) ++ [⟨xp, xs, xi, xz, xt⟩]) := Lib.hid (by rw [Hx.out, Hk.out]; simp [hxp, hf])
        have hq : (xp == path) = false := beq_eq_false_iff_ne.2 hxp
        clear Hx Hk hxp
        subst hf
        go_wp2_with (first
          | (go_at_call 79; first | ((with_reducible refine (D1.out _).mono ?_); rintro e w' ⟨rfl, rfl⟩) | ((with_reducible refine (D2.out _).mono ?_); rintro e w' ⟨rfl, rfl⟩))
          | (at_builtin; refine wpList_append_sl _ rfl (.tmp 56) (.tmp 64) _ rfl w 32 i0 _ 5 56 Tryz.underlying27 hi0 hi1 hi2 hi3 rfl (by decide) Ao t co _ rfl HO6.out _ 1 1 (ents [_]) rfl HS6.out (one_ents _) q1 q2 ?_; intro A5 c5 w5 hO5 hg5 hat5; have HO5 := Lib.hid hO5; clear hO5 hg5 hat5))
        all_goals
          go_roundw
          case rel => exact ⟨k + 1, c5, t + 1, A5, by go_num, rfl, Lib.hid hlt, Lib.hid (by rw [Hy.out, List.length_append, ← ht.out]; rfl), Lib.hid (by rw [Hy.out, ents_append]; exact HO5.out)⟩
          case measure => simp [intOf]; omega
      · have Hy : Hid ((l.take (k + 1)).filter (rkeep files path) = (l.take k).filter (rkeep files path) ++ [⟨xp, xs, xi, xz, xt⟩]) := Lib.hid (by rw [Hx.out, Hk.out]; simp [hxp, hxs])
        have hq : (xp == path) = false := beq_eq_false_iff_ne.2 hxp
        have hq2 : (xs == 0) = false := beq_eq_false_iff_ne.2 hxs
        clear Hx Hk hxp
        subst hf
        go_wp2_with (first
          | (go_at_call 79; first | ((with_reducible refine (D1.out _).mono ?_); rintro e w' ⟨rfl, rfl⟩) | ((with_reducible refine (D2.out _).mono ?_); rintro e w' ⟨rfl, rfl⟩))
          | (at_builtin; refine wpList_append_sl _ rfl (.tmp 56) (.tmp 64) _ rfl w 32 i0 _ 5 56 Tryz.underlying27 hi0 hi1 hi2 hi3 rfl (by decide) Ao t co _ rfl HO6.out _ 1 1 (ents [_]) rfl HS6.out (one_ents _) q1 q2 ?_; intro A5 c5 w5 hO5 hg5 hat5; have HO5 := Lib.hid hO5; clear hO5 hg5 hat5))
        all_goals
          go_roundw
          case rel => exact ⟨k + 1, c5, t + 1, A5, by go_num, rfl, Lib.hid hlt, Lib.hid (by rw [Hy.out, List.length_append, ← ht.out]; rfl), Lib.hid (by rw [Hy.out, ents_append]; exact HO5.out)⟩
          case measure => simp [intOf]; omega
      · have hq : (xp == path) = false := beq_eq_false_iff_ne.2 hxp
        subst hf hxs
        have hcase : (u1 || u2) = true ∨ (u1 = false ∧ u2 = false) := by cases u1 <;> cases u2 <;> simp
        rcases hcase with hu | ⟨rfl, rfl⟩
        · have Hy : Hid ((l.take (k + 1)).filter (rkeep true path) = (l.take k).filter (rkeep true path)) := Lib.hid (by rw [Hx.out, Hk.out]; simp [hu])
          clear Hx Hk hxp
          cases u1 with
          | true =>
            go_wp2_with (go_at_call 79; first | ((with_reducible refine (D1.out _).mono ?_); rintro e w' ⟨rfl, rfl⟩) | ((with_reducible refine (D2.out _).mono ?_); rintro e w' ⟨rfl, rfl⟩))
            all_goals
              go_roundw
              case rel => exact ⟨k + 1, co, t, Ao, by go_num, rfl, Lib.hid hlt, Lib.hid (by rw [Hy.out]; exact ht.out), Lib.hid (by rw [Hy.out]; exact hO.out)⟩
              case measure => simp [intOf]; omega
          | false =>
            obtain rfl : u2 = true := by simpa using hu
            go_wp2_with (go_at_call 79; first | ((with_reducible refine (D1.out _).mono ?_); rintro e w' ⟨rfl, rfl⟩) | ((with_reducible refine (D2.out _).mono ?_); rintro e w' ⟨rfl, rfl⟩))
            all_goals
              go_roundw
              case rel => exact ⟨k + 1, co, t, Ao, by go_num, rfl, Lib.hid hlt, Lib.hid (by rw [Hy.out]; exact ht.out), Lib.hid (by rw [Hy.out]; exact hO.out)⟩
              case measure => simp [intOf]; omega
        · have Hy : Hid ((l.take (k + 1)).filter (rkeep true path) = (l.take k).filter (rkeep true path) ++ [⟨xp, 0, xi, xz, xt⟩]) := Lib.hid (by rw [Hx.out, Hk.out]; simp [hxp])
          clear Hx Hk hxp
          go_wp2_with (first
            | (go_at_call 79; first | ((with_reducible refine (D1.out _).mono ?_); rintro e w' ⟨rfl, rfl⟩) | ((with_reducible refine (D2.out _).mono ?_); rintro e w' ⟨rfl, rfl⟩))
            | (at_builtin; refine wpList_append_sl _ rfl (.tmp 56) (.tmp 64) _ rfl w 32 i0 _ 5 56 Tryz.underlying27 hi0 hi1 hi2 hi3 rfl (by decide) Ao t co _ rfl HO6.out _ 1 1 (ents [_]) rfl HS6.out (one_ents _) q1 q2 ?_; intro A5 c5 w5 hO5 hg5 hat5; have HO5 := Lib.hid hO5; clear hO5 hg5 hat5))
          all_goals
            go_roundw
            case rel => exact ⟨k + 1, c5, t + 1, A5, by go_num, rfl, Lib.hid hlt, Lib.hid (by rw [Hy.out, List.length_append, ← ht.out]; rfl), Lib.hid (by rw [Hy.out, ents_append]; exact HO5.out)⟩
            case measure => simp [intOf]; omega
    · obtain rfl : k = l.length := by have := hk.out; omega
      rw [List.take_length] at ht hO
      go_wp2
      go_end0
      exact ⟨rfl, HR.out.put hO.out, fr_put hO.out q _⟩
end Go.Proofs.YtjcelelgebohkaaGreatDoor
