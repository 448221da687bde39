/-
  The document's Conflicts. Condition: no more than 1000000 entries.
-/
import Derived.Test.YtjcelelgebohkaaGreatDoorIdxTheirs
import Derived.Test.YtjcelelgebohkaaGreatDoorIdxLists
import Derived.BigQuiet
namespace Go.Proofs.YtjcelelgebohkaaGreatDoor
open Go.RowKit
open IdxLaw (Ent)

section
variable {α : Type} [Inhabited α] [DecidableEq α]
theorem upTo_congr {d e : Array α} : ∀ (m : Nat), (∀ j, j < m → d[j]! = e[j]!) → Lib.compactUpTo d m = Lib.compactUpTo e m
  | 0, _ => rfl
  | m + 1, h => by
    rw [Lib.compactUpTo_succ, Lib.compactUpTo_succ, upTo_congr m (fun j hj => h j (by omega)), h m (by omega)]
    have : Lib.keeps d m = Lib.keeps e m := by
      unfold Lib.keeps
      rcases Nat.eq_zero_or_pos m with h0 | h0
      · subst h0; simp
      · rw [h m (by omega), h (m - 1) (by omega)]
    rw [this]
theorem compact_snoc (zs : List α) (x : α) : Lib.compact (zs ++ [x]) = Lib.compact zs ++ (if zs.getLast? = some x then [] else [x]) := by
  unfold Lib.compact
  have h1 : (zs ++ [x]).length = zs.length + 1 := by simp
  rw [h1, Lib.compactUpTo_succ]
  have h2 : Lib.compactUpTo (zs ++ [x]).toArray zs.length = Lib.compactUpTo zs.toArray zs.length := upTo_congr _ (fun j hj => by
    simp only [List.getElem!_toArray]
    rw [List.getElem!_eq_getElem?_getD, List.getElem!_eq_getElem?_getD, List.getElem?_append_left hj])
  have h3 : (zs ++ [x]).toArray[zs.length]! = x := by simp
  rw [h2, h3]
  congr 1
  rcases Nat.eq_zero_or_pos zs.length with h0 | h0
  · have hz : zs = [] := List.eq_nil_of_length_eq_zero h0
    subst hz
    simp [Lib.keeps]
  · have h4 : (zs ++ [x]).toArray[zs.length - 1]! = zs[zs.length - 1]'(by omega) := by
      simp only [List.getElem!_toArray]
      rw [List.getElem!_eq_getElem?_getD, List.getElem?_append_left (by omega), List.getElem?_eq_getElem (by omega)]
      rfl
    have h5 : zs.getLast? = some (zs[zs.length - 1]'(by omega)) := by rw [List.getLast?_eq_getElem?, List.getElem?_eq_getElem (by omega)]
    unfold Lib.keeps
    rw [h3, h4, h5]
    by_cases hx : zs[zs.length - 1]'(by omega) = x
    · rw [if_pos (congrArg some hx), if_neg]
      intro hd
      rcases of_decide_eq_true hd with h | h
      · omega
      · exact h hx.symm
    · rw [if_neg (fun e => hx (Option.some.inj e)), if_pos]
      exact decide_eq_true (.inr (fun e => hx e.symm))
theorem compact_last : ∀ (n : Nat) (zs : List α), zs.length = n → (Lib.compact zs).getLast? = zs.getLast?
  | 0, zs, h => by
    have hz : zs = [] := List.eq_nil_of_length_eq_zero h
    subst hz
    rfl
  | n + 1, zs, h => by
    have hne : zs ≠ [] := fun e => by rw [e] at h; cases h
    obtain ⟨ys, x, rfl⟩ : ∃ ys x, zs = ys ++ [x] := ⟨zs.dropLast, zs.getLast hne, (List.dropLast_concat_getLast hne).symm⟩
    rw [compact_snoc]
    by_cases hx : ys.getLast? = some x
    · rw [if_pos hx, List.append_nil, compact_last n ys (by simpa using h), hx]
      simp
    · rw [if_neg hx]
      simp
end
/-- the paths in conflict, each once -/
def confs1 (l : List Ent) : List (List UInt8) := Lib.compact (confsOf l)
theorem confs1_no {l : List Ent} {k : Nat} {x : Ent} (h : l[k]? = some x) (hx : ¬ 0 < x.stage) : confs1 (l.take (k + 1)) = confs1 (l.take k) := by
  unfold confs1
  rw [confsOf_snoc h, if_neg hx, List.append_nil]
theorem confs1_same {l : List Ent} {k : Nat} {x : Ent} (h : l[k]? = some x) (hx : 0 < x.stage) (hl : (confs1 (l.take k)).getLast? = some x.path) : confs1 (l.take (k + 1)) = confs1 (l.take k) := by
  unfold confs1 at hl ⊢
  rw [compact_last _ _ rfl] at hl
  rw [confsOf_snoc h, if_pos hx, compact_snoc, if_pos hl, List.append_nil]
theorem confs1_new {l : List Ent} {k : Nat} {x : Ent} (h : l[k]? = some x) (hx : 0 < x.stage) (hl : (confs1 (l.take k)).getLast? ≠ some x.path) : confs1 (l.take (k + 1)) = confs1 (l.take k) ++ [x.path] := by
  unfold confs1 at hl ⊢
  rw [compact_last _ _ rfl] at hl
  rw [confsOf_snoc h, if_pos hx, compact_snoc, if_neg hl]
theorem confs1_len (l : List Ent) (k : Nat) : (confs1 (l.take k)).length ≤ k := Nat.le_trans (Lib.compact_length_le _) (confsOf_len l k)

set_option maxRecDepth 100000 in
set_option maxHeartbeats 8000000 in
theorem rconflicts_any (E : Nat → Prop) (w : World) (q : Nat) (l : List Ent) (hR : RIx E w q l) (hn : l.length ≤ 1000000) :
    Calls Tryz.prog 35 #[.pointer (some ⟨q, 0, none⟩)] w fun e w' => ∃ (A : Option Addr) (t c : Nat), e = .returned (.slice A t c) ∧ t = (confs1 l).length ∧ Ow w w' 9 1 A t c (strs (confs1 l)) := by
  obtain ⟨i0, hi0, hi1, hi2, hi3⟩ := info_parts Tryz.infoStr
  obtain ⟨_, _, A, c, hB, hc, hS⟩ := hR
  have HQ := Lib.hid hB
  have HA := Lib.hid hS.1
  clear hB hc hS
  go_enter Tryz.func35, Tryz.ntmps35
  go_wp2
  go_loopw [3, 4] (fun o i wr => ∃ (k co t : Nat) (Ao : Option Addr), i = .int .i64 k ∧ o = .slice Ao t co ∧ Hid (k ≤ l.length) ∧ Hid (t = (confs1 (l.take k)).length) ∧ Hid (Ow w wr 9 1 Ao t co (strs (confs1 (l.take k))))) (fun _ i _ => l.length - (intOf i).toNat)
  case atStart => exact ⟨0, 0, 0, none, rfl, rfl, Lib.hid (Nat.zero_le _), Lib.hid rfl, Lib.hid (Ow.nil_ (Below.refl _ _))⟩
  case round =>
    obtain ⟨k, co, t, Ao, rfl, rfl, hk, ht, hO⟩ := hrel
    have rb := (HQ.out.step hO.out.2).cell
    by_cases hlt : k < l.length
    · obtain ⟨b, off, x, rfl, _, hx, x0, x1, x2, x3, x4⟩ := (HA.out.below hO.out.2).ent hlt
      have Hx := Lib.hid hx
      have hbd : t ≤ 1000000 := by
        have h1 := confs1_len l k
        have h2 := ht.out
        have h3 := hk.out
        omega
      clear hx
      obtain ⟨xp, xs, xi, xz, xt⟩ := x
      have q1 : t + 1 ≤ maxLen := by simp only [maxLen]; omega
      have q2 : (t + 1) * 16 ≤ 140737488355328 := by omega
      by_cases hs : 0 < xs
      · have hd : decide (0 < xs) = true := decide_eq_true hs
        rcases Nat.eq_zero_or_pos t with h0 | h0
        · have Hy := Lib.hid (confs1_new Hx.out hs (by rw [List.eq_nil_of_length_eq_zero (ht.out.symm.trans h0)]; simp))
          subst h0
          clear hs
          go_wp2
          go_quiet (fail)
          obtain ⟨WQ, hWQ⟩ : ∃ WQ, WQ = wr.drewN nq := ⟨_, rfl⟩
          have hbq := (hO.out.drewN nq).2
          rw [← hWQ] at hbq
          have rq := (HQ.out.step hbq).cell
          obtain ⟨b2, off2, x2', e1, _, hx2, z0, _, _, _, _⟩ := (HA.out.below hbq).ent hlt
          cases e1
          obtain rfl := Option.some.inj (hx2.symm.trans Hx.out)
          have HS6 := Lib.hid (sl_one WQ 9 (S xp))
          have HO6 : Hid (Ow w (WQ.alloc (.cells #[S xp] 9)) 9 1 _ _ co _) := Lib.hid ((show Ow w WQ _ _ _ _ _ _ from by rw [hWQ]; exact hO.out.drewN nq).alloc (.cells #[S xp] 9))
          simp only [← hWQ]
          clear hWQ hbq hx2 x0 x1 x2 x3 x4 rb
          go_wp2_with (at_builtin; refine wpList_append_sl _ rfl (.tmp 45) (.tmp 54) _ rfl w 9 i0 _ 1 16 Tryz.underlying48 hi0 hi1 hi2 hi3 rfl (by decide) _ (0) co _ rfl HO6.out _ 1 1 [S xp] rfl HS6.out (one_one rfl) q1 q2 ?_; intro A5 c5 w5 hO5 hg5 hat5; have HO5 := Lib.hid hO5; clear hO5 hg5 hat5)
          go_roundw
          case rel => exact ⟨k + 1, c5, 0 + 1, A5, by go_num, rfl, Lib.hid hlt, Lib.hid (by rw [Hy.out, List.length_append, ← ht.out]; rfl), Lib.hid (by rw [Hy.out]; have := HO5.out; simpa [strs] using this)⟩
          case measure => simp [intOf]; omega
        · obtain ⟨t', rfl⟩ : ∃ t', t = t' + 1 := ⟨t - 1, by omega⟩
          obtain ⟨bo, offo, y, rfl, hy, y0⟩ := hO.out.sl.str (show t' < t' + 1 by omega)
          have hlast : (confs1 (l.take k)).getLast? = some y := by
            rw [List.getLast?_eq_getElem?, ← ht.out]
            exact hy
          have hz : (((t' : Nat) : Int) + 1 == 0) = false := beq_eq_false_iff_ne.2 (by omega)
          have hwv : IntKind.i64.wrap ((t' : Nat) : Int) = t' := IntWalk.i64_in _ (by omega)
          by_cases hxy : y = xp
          · have Hy := Lib.hid (confs1_same Hx.out hs (by rw [hlast, hxy]))
            subst hxy
            clear hs hlast hy
            go_wp2
            go_quiet (fail)
            go_wp2
            go_roundw
            case rel => exact ⟨k + 1, co, t' + 1, _, by go_num, rfl, Lib.hid hlt, Lib.hid (by rw [Hy.out]; exact ht.out), Lib.hid (by rw [Hy.out]; exact hO.out.drewN _)⟩
            case measure => simp [intOf]; omega
          · have Hy := Lib.hid (confs1_new Hx.out hs (by rw [hlast]; exact fun e => hxy (Option.some.inj e)))
            have hq : (y == xp) = false := beq_eq_false_iff_ne.2 hxy
            clear hs hlast hy
            go_wp2
            go_quiet (fail)
            clear y0
            obtain ⟨WQ, hWQ⟩ : ∃ WQ, WQ = wr.drewN nq := ⟨_, rfl⟩
            have hbq := (hO.out.drewN nq).2
            rw [← hWQ] at hbq
            have rq := (HQ.out.step hbq).cell
            obtain ⟨b2, off2, x2', e1, _, hx2, z0, _, _, _, _⟩ := (HA.out.below hbq).ent hlt
            cases e1
            obtain rfl := Option.some.inj (hx2.symm.trans Hx.out)
            have HS6 := Lib.hid (sl_one WQ 9 (S xp))
            have HO6 : Hid (Ow w (WQ.alloc (.cells #[S xp] 9)) 9 1 _ _ co _) := Lib.hid ((show Ow w WQ _ _ _ _ _ _ from by rw [hWQ]; exact hO.out.drewN nq).alloc (.cells #[S xp] 9))
            simp only [← hWQ]
            clear hWQ hbq hx2 x0 x1 x2 x3 x4 rb
            go_wp2_with (at_builtin; refine wpList_append_sl _ rfl (.tmp 45) (.tmp 54) _ rfl w 9 i0 _ 1 16 Tryz.underlying48 hi0 hi1 hi2 hi3 rfl (by decide) _ (t' + 1) co _ rfl HO6.out _ 1 1 [S xp] rfl HS6.out (one_one rfl) q1 q2 ?_; intro A5 c5 w5 hO5 hg5 hat5; have HO5 := Lib.hid hO5; clear hO5 hg5 hat5)
            go_roundw
            case rel => exact ⟨k + 1, c5, t' + 1 + 1, A5, by go_num, rfl, Lib.hid hlt, Lib.hid (by rw [Hy.out, List.length_append, ← ht.out]; rfl), Lib.hid (by rw [Hy.out]; have := HO5.out; simpa [strs] using this)⟩
            case measure => simp [intOf]; omega
      · have hd : decide (0 < xs) = false := decide_eq_false hs
        have Hy := Lib.hid (confs1_no Hx.out hs)
        clear hs
        go_wp2
        go_quiet (fail)
        go_wp2
        go_roundw
        case rel => exact ⟨k + 1, co, t, Ao, by go_num, rfl, Lib.hid hlt, Lib.hid (by rw [Hy.out]; exact ht.out), Lib.hid (by rw [Hy.out]; exact hO.out.drewN _)⟩
        case measure => simp [intOf]; omega
    · obtain rfl : k = l.length := by have := hk.out; omega
      rw [List.take_length] at ht hO
      go_wp2
      go_ret
      exact ⟨Ao, t, co, rfl, ht.out, hO.out⟩
end Go.Proofs.YtjcelelgebohkaaGreatDoor
