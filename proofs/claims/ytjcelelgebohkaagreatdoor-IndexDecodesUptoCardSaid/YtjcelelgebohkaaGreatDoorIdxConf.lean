/-
  index.Conflict. Conditions: paths are shorter than 2147483648 bytes; MaxLen holds an int.
-/
import Derived.Test.YtjcelelgebohkaaGreatDoorIdxEntries
namespace Go.Proofs.YtjcelelgebohkaaGreatDoor
open Go.RowKit
open IdxLaw (Ent Key zE three drop conflict)

theorem conf1_any (x : Ent) (w : World) (hx : x.path.length ≤ 2147483648) (hM : MaxL w) :
    Calls Tryz.prog 42 #[entV x] w fun e w' => e = .returned (.bool (!IdxLaw.right x)) ∧ Below w.heap.size w w' := by
  have C := Lib.hid (right_any x (w.alloc (.cells #[S x.path, I x.stage, S x.id, I x.size, I x.stamp] 36)) hx (hM.step (balloc (Below.refl _ w) _)))
  clear hM
  go_enter Tryz.func42, Tryz.ntmps42
  go_wp2_with (go_at_call 38; refine C.out.mono ?_; rintro e w2 ⟨rfl, b2⟩; have B2 := Lib.hid b2; clear b2)
  go_ret
  exact ⟨rfl, bstep (balloc (Below.refl _ w) _) B2.out⟩

set_option maxHeartbeats 1000000 in
set_option maxRecDepth 100000 in
theorem idxFunc_any (A : Option Addr) (n c : Nat) (l : List Ent) (w : World) (hA : Sl w 5 A n (ents l)) (hn : n ≤ 1000000) (hl : ∀ e ∈ l, e.path.length ≤ 2147483648) (hM : MaxL w) :
    Calls Tryz.prog 71 #[.slice A n c, .func (.func 42) #[] #[]] w fun e w' => ∃ r : Int, e = .returned (I r) ∧ decide (0 ≤ r) = l.any (fun x => !IdxLaw.right x) ∧ Below w.heap.size w w' := by
  have hlen := Lib.hid (ents_count hA)
  have HA := Lib.hid hA
  have HL := Lib.hid hl
  have HM := Lib.hid hM
  clear hA hl hM
  go_enter Tryz.func71, Tryz.ntmps71
  go_wp2
  go_loopw [8] (fun i wr => ∃ k : Nat, k ≤ n ∧ i = .int .i64 k ∧ Below w.heap.size w wr ∧ Hid ((l.take k).any (fun x => !IdxLaw.right x) = false)) (fun i _ => n - (intOf i).toNat)
  case atStart => exact ⟨0, Nat.zero_le _, rfl, Below.refl _ _, Lib.hid rfl⟩
  case round =>
    obtain ⟨k, hk, rfl, hb, ha⟩ := hrel
    have Hb := Lib.hid hb
    by_cases hlt' : k < n
    · obtain ⟨b, off, x, rfl, _, hx, x0, x1, x2, x3, x4⟩ := (HA.out.below hb).ent hlt'
      have Hx := Lib.hid hx
      have hxp := HL.out x (List.mem_of_getElem? hx)
      have hMr := HM.out.step hb
      clear hx hb
      rcases hd : IdxLaw.right x with _ | _
      all_goals
        have C := Lib.hid (conf1_any x wr hxp hMr)
        rw [hd] at C
        have Hd := Lib.hid hd
        clear hd hMr
        go_wp2_with (go_at_call 42; refine C.out.mono ?_; rintro e w2 ⟨rfl, b2⟩)
      · go_ret
        refine ⟨k, rfl, ?_, bstep Hb.out b2⟩
        have h1 : l.any (fun x => !IdxLaw.right x) = true := List.any_eq_true.2 ⟨x, List.mem_of_getElem? Hx.out, by rw [Hd.out]; rfl⟩
        rw [h1]
        simp
      · go_roundw
        case rel => exact ⟨k + 1, by omega, by go_num, bstep Hb.out b2, Lib.hid (by rw [List.take_add_one, Hx.out, List.any_append, ha.out]; simp [Hd.out])⟩
        case measure => simp [intOf]; omega
    · obtain rfl : k = n := by omega
      rw [List.take_of_length_le (by rw [hlen.out]; exact Nat.le_refl _)] at ha
      clear hb
      go_wp2
      go_ret
      exact ⟨-1, rfl, by rw [ha.out]; rfl, Hb.out⟩
theorem contFunc_any (A : Option Addr) (n c : Nat) (l : List Ent) (w : World) (hA : Sl w 5 A n (ents l)) (hn : n ≤ 1000000) (hl : ∀ e ∈ l, e.path.length ≤ 2147483648) (hM : MaxL w) :
    Calls Tryz.prog 41 #[.slice A n c, .func (.func 42) #[] #[]] w fun e w' => e = .returned (.bool (l.any (fun x => !IdxLaw.right x))) ∧ Below w.heap.size w w' := by
  have C := Lib.hid (idxFunc_any A n c l w hA hn hl hM)
  clear hA hl hM
  generalize l.any (fun x => !IdxLaw.right x) = o at *
  go_enter Tryz.func41, Tryz.ntmps41
  go_wp2_with (go_at_call 71; refine C.out.mono ?_; rintro e w2 ⟨r, rfl, hr, b2⟩)
  go_ret
  exact ⟨rfl, b2⟩

/-- what the three are -/
def full3 (p a b c : List UInt8) : List Ent := [⟨p, 1, a, 0, 0⟩, ⟨p, 2, b, 0, 0⟩, ⟨p, 3, c, 0, 0⟩]
def some3 (l : List Ent) : List Ent := l.filter (fun e => !decide (e.id = []))
theorem full3_at {p a b c : List UInt8} {k : Nat} (hk : k < 3) : ∃ i, [a, b, c][k]? = some i ∧ (full3 p a b c)[k]? = some ⟨p, (k : Int) + 1, i, 0, 0⟩ := by
  have : k = 0 ∨ k = 1 ∨ k = 2 := by omega
  rcases this with rfl | rfl | rfl
  · exact ⟨a, rfl, rfl⟩
  · exact ⟨b, rfl, rfl⟩
  · exact ⟨c, rfl, rfl⟩
theorem some3_snoc {l : List Ent} {k : Nat} {x : Ent} (h : l[k]? = some x) : some3 (l.take (k + 1)) = some3 (l.take k) ++ (if x.id = [] then [] else [x]) := by
  unfold some3
  rw [List.take_add_one, h, List.filter_append]
  by_cases hx : x.id = [] <;> simp [hx]
theorem some3_len (l : List Ent) (k : Nat) : (some3 (l.take k)).length ≤ k := by
  unfold some3
  exact Nat.le_trans (List.length_filter_le _ _) (List.length_take_le _ _)

theorem conf_step {l : List Ent} {q a b c : List UInt8} {k : Nat} {x : Ent} (hx : (three q a b c)[k]? = some x) :
    x :: (((three q a b c).take k).reverse ++ drop l q).filter (fun e => !decide (e.key = x.key)) = ((three q a b c).take (k + 1)).reverse ++ drop l q := by
  rw [List.take_add_one, hx, List.reverse_append]
  simp only [Option.toList_some, List.reverse_cons, List.reverse_nil, List.nil_append, List.cons_append]
  congr 1
  rw [List.filter_eq_self]
  intro e he
  have hne : e.key ≠ x.key := by
    intro hk
    rcases List.mem_append.1 he with he | he
    · have he := List.mem_reverse.1 he
      obtain ⟨j, hj, hje⟩ := List.getElem_of_mem he
      have hjk : j < k := by simp at hj; omega
      have h1 : (three q a b c)[j]? = some e := by
        rw [List.getElem_take] at hje
        rw [← hje]
        exact List.getElem?_eq_getElem _
      have hu := IdxLaw.three_uniq (p := q) (a := a) (b := b) (c := c)
      have h2 : ((three q a b c).map Ent.key)[j]? = some e.key := by rw [List.getElem?_map, h1]; rfl
      have h3 : ((three q a b c).map Ent.key)[k]? = some x.key := by rw [List.getElem?_map, hx]; rfl
      have hkl := (List.getElem?_eq_some_iff.1 h3).1
      have hjl := (List.getElem?_eq_some_iff.1 h2).1
      have h4 := List.pairwise_iff_getElem.1 (show ((three q a b c).map Ent.key).Pairwise (· ≠ ·) from hu) j k hjl hkl hjk
      rw [List.getElem?_eq_getElem hjl] at h2
      rw [List.getElem?_eq_getElem hkl] at h3
      exact h4 ((Option.some.inj h2).trans (hk.trans (Option.some.inj h3).symm))
    · have h1 := (List.mem_filter.1 he).2
      have h2 := IdxLaw.three_path x (List.mem_of_getElem? hx)
      have h3 : e.path = x.path := congrArg Prod.fst hk
      simp [h3, h2] at h1
  simp [hne]

set_option maxRecDepth 100000 in
set_option maxHeartbeats 4000000 in
theorem conflict_any (w : World) (p m n : Nat) (l : List Ent) (q a b c : List UInt8) (hI : IdxAt w p m l n) (hn : n ≤ 999990) (hq : q.length ≤ 2147483648) (hM : MaxL w) :
    Calls Tryz.prog 13 #[.pointer (some ⟨p, 0, none⟩), S q, S a, S b, S c] w fun e w' => e = .returned (I ((conflict l q a b c).1 : Nat)) ∧ IdxAt w' p m (conflict l q a b c).2 (n + 3) ∧ Fr (fun j => j = m) w w' := by
  obtain ⟨i0, hi0, hi1, hi2, hi3⟩ := info_parts Tryz.infoEnt
  have HI := Lib.hid hI
  have HM := Lib.hid hM
  have HS0 := Lib.hid (Blk.new w 9 #[S a, S b, S c])
  clear hI hM
  go_enter Tryz.func13, Tryz.ntmps13
  go_wp2
  go_loopw [11, 21] (fun o i wr => ∃ (k co t : Nat) (Ao : Option Addr), i = .int .i64 k ∧ o = .slice Ao t co ∧ Hid (k ≤ 3) ∧ Hid (t = (some3 ((full3 q a b c).take k)).length) ∧ Hid (Ow (w.alloc (.cells #[S a, S b, S c] 9)) wr 36 5 Ao t co (ents (some3 ((full3 q a b c).take k))))) (fun _ i _ => 3 - (intOf i).toNat)
  case atStart => exact ⟨0, 0, 0, none, rfl, rfl, Lib.hid (by omega), Lib.hid rfl, Lib.hid (Ow.nil_ (Below.refl _ _))⟩
  case round =>
    obtain ⟨k, co, t, Ao, rfl, rfl, hk, ht, hO⟩ := hrel
    have rs := (HS0.out.step (hO.out.2)).cell
    by_cases hlt : k < 3
    · obtain ⟨i, hi, hf⟩ := full3_at (p := q) (a := a) (b := b) (c := c) hlt
      have Hf := Lib.hid hf
      have hci : wr.cell? ⟨w.heap.size, k, none⟩ = some (S i) := by
        have h1 := rs k
        have h2 : (#[S a, S b, S c] : Array Value)[k]? = ([a, b, c][k]?).map S := by
          have : k = 0 ∨ k = 1 ∨ k = 2 := by omega
          rcases this with rfl | rfl | rfl <;> rfl
        rw [h1, h2, hi]
        rfl
      have hd3 : decide ((k : Int) < 3) = true := by simp; omega
      clear rs hi hf
      rcases i with _ | ⟨x, r⟩
      · go_wp2
        go_roundw
        case rel => exact ⟨k + 1, co, t, Ao, by go_num, rfl, Lib.hid hlt, Lib.hid (by rw [some3_snoc Hf.out, if_pos rfl, List.append_nil]; exact ht.out), Lib.hid (by rw [some3_snoc Hf.out, if_pos rfl, List.append_nil]; exact hO.out)⟩
        case measure => simp [intOf]; omega
      · have hk1 : (k : Int) + 1 ≤ 3 := by omega
        have hk0 : 0 ≤ (k : Int) + 1 := by omega
        have hbd : t ≤ 3 := by
          have h1 := some3_len (full3 q a b c) k
          have h2 := ht.out
          omega
        have q1 : t + 1 ≤ maxLen := by simp only [maxLen]; omega
        have q2 : (t + 1) * 56 ≤ 140737488355328 := by omega
        have HS6 := Lib.hid (sl_ent wr 36 ⟨q, (k : Int) + 1, x :: r, 0, 0⟩)
        have HO6 := Lib.hid (hO.out.alloc (.cells #[S q, I ((k : Int) + 1), S (x :: r), I 0, I 0] 36))
        go_wp2_with (at_builtin; refine wpList_append_sl _ rfl (.tmp 28) (.tmp 34) _ rfl (w.alloc (.cells #[S a, S b, S c] 9)) 36 i0 _ 5 56 Tryz.underlying44 hi0 hi1 hi2 hi3 rfl (by decide) Ao t co _ rfl HO6.out _ 1 1 (ents [⟨q, (k : Int) + 1, x :: r, 0, 0⟩]) rfl HS6.out (one_ents _) q1 q2 ?_; intro A5 c5 w5 hO5 hg5 hat5; have HO5 := Lib.hid hO5; clear hO5 hg5 hat5)
        go_roundw
        case rel => exact ⟨k + 1, c5, t + 1, A5, by go_num, rfl, Lib.hid hlt, Lib.hid (by rw [some3_snoc Hf.out, if_neg (by simp), List.length_append, ← ht.out]; rfl), Lib.hid (by rw [some3_snoc Hf.out, if_neg (by simp), ents_append]; exact HO5.out)⟩
        case measure => simp [intOf]; omega
    · obtain rfl : k = 3 := by have := hk.out; omega
      have hfull : some3 ((full3 q a b c).take 3) = three q a b c := rfl
      rw [hfull] at ht hO
      have hTp : ∀ e ∈ three q a b c, e.path.length ≤ 2147483648 := fun e he => by rw [IdxLaw.three_path e he]; exact hq
      have hU := Lib.hid (fun (k : Nat) (x : Ent) => conf_step (l := l) (q := q) (a := a) (b := b) (c := c) (k := k) (x := x))
      have hbd : t ≤ 3 := by
        have h1 := IdxLaw.three_len (p := q) (a := a) (b := b) (c := c)
        have h2 := ht.out
        omega
      have hcf : conflict l q a b c = if three q a b c = [] ∨ (three q a b c).any (fun e => !IdxLaw.right e) = true then (1, l) else (0, (three q a b c).reverse ++ drop l q) := rfl
      have Hb := Lib.hid (bstep (balloc (Below.refl _ w) _) hO.out.2)
      have hIr := HI.out.step Hb.out
      have hF := Lib.hid (Fr.of_below (E := fun j => j = m) Hb.out)
      generalize three q a b c = T at *
      have C1 := Lib.hid (contFunc_any Ao t co T wr hO.out.sl (by omega) hTp (HM.out.step Hb.out))
      have hsl : Hid (SlF (fun j => j = m) wr 5 Ao t (ents T)) := Lib.hid ⟨hO.out.sl, fun b' off h0 e hb' => by
        obtain ⟨g, hg, _, _⟩ := hO.out.form h0
        rw [e] at hg
        cases hg
        exact hIr.map.ne_own hO.out.1 (by rw [e, hb']; rfl)⟩
      have HIr := Lib.hid hIr
      clear rs hTp hfull hIr
      rcases hT : T.any (fun e => !IdxLaw.right e) with _ | _
      · rw [hT] at C1 hcf
        by_cases h0 : t = 0
        · have hT0 : T = [] := List.eq_nil_of_length_eq_zero (by have := ht.out; omega)
          rw [if_pos (.inl hT0)] at hcf
          subst h0
          have Hcf := Lib.hid hcf
          clear hT hT0 hcf
          go_wp2_with (go_at_call 41; refine C1.out.mono ?_; rintro e w2 ⟨rfl, b2⟩)
          go_ret
          exact ⟨by rw [Hcf.out]; rfl, by rw [Hcf.out]; exact HIr.out.mono (by omega), hF.out⟩
        · have hT0 : ¬ T = [] := fun e => h0 (by have := ht.out; rw [e] at this; simpa using this)
          rw [if_neg (by simp [hT0])] at hcf
          have ht0 : ((t : Int) == 0) = false := by simpa using h0
          have HT := Lib.hid hT
          have Hcf := Lib.hid hcf
          clear hT hT0 hcf h0
          go_wp2_with (first
            | (go_at_call 41; refine C1.out.mono ?_; rintro e w2 ⟨rfl, b2⟩; have B2 := Lib.hid b2; clear b2)
            | (go_at_call 14; refine (dropm_any _ p m n l q (HIr.out.step B2.out)).mono ?_; rintro e w3 ⟨rfl, hI3, hF3⟩; have HI3 := Lib.hid hI3; have HF3 := Lib.hid hF3; clear hI3 hF3))
          have HS3 := Lib.hid ((hsl.out.step B2.out).fr HF3.out)
          have HF30 := Lib.hid ((hF.out.step B2.out).trans HF3.out)
          go_loopw [53] (fun i wr => ∃ k : Nat, i = .int .i64 k ∧ Hid (k ≤ t) ∧ Hid (IdxAt wr p m ((T.take k).reverse ++ drop l q) (n + k)) ∧ Hid (Fr (fun j => j = m) w3 wr)) (fun i _ => t - (intOf i).toNat)
          case atStart => exact ⟨0, rfl, Lib.hid (Nat.zero_le _), Lib.hid (by simpa using HI3.out), Lib.hid (Fr.refl _ _)⟩
          case round =>
            obtain ⟨k, rfl, hk, hI4, hF4⟩ := hrel
            have HS4 := Lib.hid (HS3.out.fr hF4.out)
            by_cases hlt : k < t
            · obtain ⟨b', off, x, e1, _, hx, x0, x1, x2, x3, x4⟩ := HS4.out.1.ent hlt
              subst e1
              have Hx := Lib.hid hx
              have hgx : goodK x.key := right_good (by
                have := List.any_eq_false.1 HT.out x (List.mem_of_getElem? hx)
                simpa using this)
              have C4 := Lib.hid (lay_any (wr.alloc (.cells #[S x.path, I x.stage, S x.id, I x.size, I x.stamp] 36)) p m (n + k) _ x (hI4.out.step (balloc (Below.refl _ wr) _)) (by have := hk.out; omega) hgx)
              clear hx hgx
              go_wp2_with (go_at_call 40; refine C4.out.mono ?_; rintro e w5 ⟨rfl, hI5, hF5⟩; have HI5 := Lib.hid hI5; have HF5 := Lib.hid hF5; clear hI5 hF5)
              go_roundw
              case rel => exact ⟨k + 1, by go_num, Lib.hid hlt, Lib.hid (by rw [← hU.out k x Hx.out]; exact HI5.out), Lib.hid ((hF4.out.step (balloc (Below.refl _ wr) _)).trans HF5.out)⟩
              case measure => simp [intOf]; omega
            · obtain rfl : k = t := by have := hk.out; omega
              have hI6 := hI4.out
              rw [List.take_of_length_le (by rw [← ht.out]; exact Nat.le_refl _)] at hI6
              have HI6 := Lib.hid hI6
              clear hI6
              go_wp2
              go_ret
              exact ⟨by rw [Hcf.out]; rfl, by rw [Hcf.out]; exact HI6.out.mono (by omega), HF30.out.trans hF4.out⟩
      · rw [hT] at C1 hcf
        rw [if_pos (.inr rfl)] at hcf
        have Hcf := Lib.hid hcf
        by_cases h0 : t = 0
        · subst h0
          clear hT hcf
          go_wp2_with (go_at_call 41; refine C1.out.mono ?_; rintro e w2 ⟨rfl, b2⟩)
          go_ret
          exact ⟨by rw [Hcf.out]; rfl, by rw [Hcf.out]; exact HIr.out.mono (by omega), hF.out⟩
        · have ht0 : ((t : Int) == 0) = false := by simpa using h0
          clear hT hcf h0
          go_wp2_with (go_at_call 41; refine C1.out.mono ?_; rintro e w2 ⟨rfl, b2⟩; have B2 := Lib.hid b2; clear b2)
          go_ret
          exact ⟨by rw [Hcf.out]; rfl, by rw [Hcf.out]; exact (HIr.out.step B2.out).mono (by omega), hF.out.step B2.out⟩
end Go.Proofs.YtjcelelgebohkaaGreatDoor
