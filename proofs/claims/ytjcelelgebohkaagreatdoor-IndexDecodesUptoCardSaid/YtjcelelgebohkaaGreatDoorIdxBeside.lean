/-
  index.beside: may an entry stand beside all that are there? Conditions: paths are shorter than 2147483648 bytes.
-/
import Derived.Test.YtjcelelgebohkaaGreatDoorIdxDecLaw
namespace Go.Proofs.YtjcelelgebohkaaGreatDoor
open Go.RowKit
open PathLaw (under)
open IdxLaw (Ent Key zE)

def besK (k : Key) (e : Ent) : Bool := !((decide (k.1 = e.path) && (decide (k.2 = 0) || decide (e.stage = 0))) || ((decide (k.2 = 0) && decide (e.stage = 0)) && (under e.path k.1 || under k.1 e.path)))
theorem besK_key (k e : Ent) : bes1 k e = besK k.key e := rfl
set_option maxHeartbeats 4000000 in
set_option maxRecDepth 100000 in
theorem beside_any (w : World) (p m n : Nat) (l : List Ent) (x : Ent) (hI : IdxAt w p m l n) (hx : x.path.length ≤ 2147483648) (hl : ∀ e ∈ l, e.path.length ≤ 2147483648) :
    Calls Tryz.prog 54 #[.pointer (some ⟨p, 0, none⟩), entV x] w fun e w' => e = .returned (.bool (l.all (fun k => bes1 k x))) ∧ Below w.heap.size w w' := by
  obtain ⟨xp, xs, xi, xz, xt⟩ := x
  simp only at hx
  have b0 := balloc (Below.refl _ w) (.cells #[S xp, I xs, S xi, I xz, I xt] 36)
  have HX := Lib.hid (Blk.new w 36 #[S xp, I xs, S xi, I xz, I xt])
  have hI0 := hI.step b0
  have HI := Lib.hid hI0
  have hp := hI0.blk.cell
  have hm := hI0.map
  have HL := Lib.hid hl
  have hpz : p < w.heap.size := hI.blk.lt
  clear hI hI0 hl
  obtain ⟨g, hg⟩ : ∃ g, g = w.heap.size := ⟨_, rfl⟩
  obtain ⟨W, hW⟩ : ∃ W, W = w.alloc (.cells #[S xp, I xs, S xi, I xz, I xt] 36) := ⟨_, rfl⟩
  have hWz : W.heap.size = g + 1 := by rw [hW, World.size_alloc, hg]
  have HWz := Lib.hid hWz
  have HXE : Hid (g = w.heap.size ∧ W = w.alloc (.cells #[S xp, I xs, S xi, I xz, I xt] 36)) := Lib.hid ⟨hg, hW⟩
  rw [← hW] at HI hp hm b0
  rw [← hW, ← hg] at HX
  have B0 := Lib.hid b0
  clear hg hW hWz b0
  go_enter Tryz.func54, Tryz.ntmps54
  go_upto_region 1 with fail
  rw [← HXE.out.2, ← HXE.out.1]
  go_wp2_with (at_range; refine wpList_rangeL _ rfl _ 63 rfl idxC Tryz.underlying63 m n _ rfl hm ?_; intro w0 cnt0 hrg0 hg0 hs0)
  go_frame
  have HF0 := Lib.hid (show Fr (fun _ => False) W w0 from Fr.of_grown hg0 (fun k e => by cases e))
  clear hs0 hg0 hp
  go_loopw [5, 6] (fun s5 s6 wr => ∃ (rest : List (Key × Ent)) (cnt : Nat), Hid (RangeL idxC wr m W.heap.size n (kd l) rest cnt) ∧ Hid (∀ x ∈ rest, x ∈ kd l) ∧ Hid (∀ k ∈ l.map Ent.key, k ∉ rest.map (·.1) → besK k ⟨xp, xs, xi, xz, xt⟩ = true) ∧ Hid (Fr (fun _ => False) W wr)) (fun _ _ wr => wr.rangeLeft m W.heap.size)
  case atStart => exact ⟨kd l, cnt0, Lib.hid hrg0, Lib.hid (fun _ h => h), Lib.hid (fun k hk hn => by rw [kd_keys] at hn; exact absurd hk hn), HF0⟩
  case round =>
    obtain ⟨rest, cnt, hR, hsub, hB, hF⟩ := hrel
    have hR' := hR.out
    go_wp2_with (first
      | (at_next; refine wpList_nextL _ rfl _ rfl idxC idxC_full m W.heap.size n _ _ cnt rfl hR' ?_ ?_)
      | fail)
    · rintro rfl
      clear hR'
      go_wp2
      go_ret
      refine ⟨ret_bool ?_, ?_⟩
      · refine (List.all_eq_true.2 (fun k hk => ?_)).symm
        rw [besK_key]
        exact hB.out k.key (List.mem_map_of_mem hk) (by simp)
      · exact bstep B0.out (hF.out.below (Nat.le_refl _) (fun k h => h.elim))
    · intro a b e w1 cnt1 hp1 hgd1 hR1 hlt1 hg1 hs1 hen0
      have hen : Sem.run Tryz.prog (Instr.entry (Value.pointer (some { block := W.heap.size, off := 0 }))) w1 = Result.ok (Value.tuple #[keyV (a, b), entV e]) w1 := hen0
      have Hp1 := Lib.hid hp1
      have HR1 := Lib.hid hR1
      have hF1 := Lib.hid (hF.out.grow hg1 (fun k e => by cases e; exact .inl (Nat.le_refl _)))
      clear hen0 hp1 hR1 hs1 hR'
      have hmem : Hid ((a, b) ∈ l.map Ent.key) := Lib.hid (by
        have := List.mem_map_of_mem (f := (·.1)) (hsub.out _ Hp1.out)
        rwa [kd_keys] at this)
      have hal : a.length ≤ 2147483648 := by
        obtain ⟨k, hk, e1⟩ := List.mem_map.1 hmem.out
        have h1 := HL.out k hk
        have h2 : k.path = a := congrArg Prod.fst e1
        rw [← h2]; exact h1
      have rx := ((hF1.out.blk HX.out (fun h => h)).alloc (.cells #[S a, I b] 77)).cell
      have hb1 := Lib.hid (balloc (hF1.out.below (Nat.le_refl _) (fun k h => h.elim)) (.cells #[S a, I b] 77))
      have D1 := fun W => under_any xp a W hal
      have D2 := fun W => under_any a xp W hx
      obtain ⟨u1, h1⟩ : ∃ u, u = under xp a := ⟨_, rfl⟩
      obtain ⟨u2, h2⟩ : ∃ u, u = under a xp := ⟨_, rfl⟩
      obtain ⟨ba, h3⟩ : ∃ u, u = (a == xp) := ⟨_, rfl⟩
      obtain ⟨bb, h4⟩ : ∃ u, u = (b == 0) := ⟨_, rfl⟩
      obtain ⟨bs, h5⟩ : ∃ u, u = (xs == 0) := ⟨_, rfl⟩
      have Hk : Hid (besK (a, b) ⟨xp, xs, xi, xz, xt⟩ = !((ba && (bb || bs)) || ((bb && bs) && (u1 || u2)))) := Lib.hid (by rw [h1, h2, h3, h4, h5]; simp [besK, Bool.beq_eq_decide_eq])
      have C1 : Hid (∀ W, Calls Tryz.prog 70 #[S xp, S a] W fun e w' => e = .returned (.bool u1) ∧ W = w') := Lib.hid (by rw [h1]; exact D1)
      have C2 : Hid (∀ W, Calls Tryz.prog 70 #[S a, S xp] W fun e w' => e = .returned (.bool u2) ∧ W = w') := Lib.hid (by rw [h2]; exact D2)
      have q3 : (a == xp) = ba := h3.symm
      have q4 : (b == 0) = bb := h4.symm
      have q5 : (xs == 0) = bs := h5.symm
      clear D1 D2 h1 h2 h3 h4 h5 hal
      have hcase : ((ba = true ∧ bb = false ∧ bs = false) ∨ (ba = false ∧ bb = true ∧ bs = false) ∨ (ba = false ∧ bb = false ∧ bs = true) ∨ (ba = false ∧ bb = false ∧ bs = false) ∨ (ba = false ∧ bb = true ∧ bs = true ∧ u1 = false ∧ u2 = false)) ∨
          ((ba = true ∧ bb = true ∧ bs = true) ∨ (ba = true ∧ bb = true ∧ bs = false) ∨ (ba = true ∧ bb = false ∧ bs = true) ∨ (ba = false ∧ bb = true ∧ bs = true ∧ u1 = true) ∨ (ba = false ∧ bb = true ∧ bs = true ∧ u1 = false ∧ u2 = true)) := by
        cases ba <;> cases bb <;> cases bs <;> cases u1 <;> cases u2 <;> simp
      rcases hcase with h | h
      · have HB2 : Hid (∀ k ∈ l.map Ent.key, k ∉ (strike rest (a, b)).map (·.1) → besK k ⟨xp, xs, xi, xz, xt⟩ = true) := Lib.hid (fun k hk hn => by
          by_cases e2 : k = (a, b)
          · rw [e2, Hk.out]
            rcases h with ⟨rfl, rfl, rfl⟩ | ⟨rfl, rfl, rfl⟩ | ⟨rfl, rfl, rfl⟩ | ⟨rfl, rfl, rfl⟩ | ⟨rfl, rfl, rfl, rfl, rfl⟩ <;> simp
          · refine hB.out k hk (fun hr => hn ?_)
            rw [strike_keys]
            simp [hr, e2])
        have hle := HR1.out.left_eq
        rcases h with ⟨rfl, rfl, rfl⟩ | ⟨rfl, rfl, rfl⟩ | ⟨rfl, rfl, rfl⟩ | ⟨rfl, rfl, rfl⟩ | ⟨rfl, rfl, rfl, rfl, rfl⟩
        all_goals
          clear hle
          go_wp2_with (go_at_call 70; first | ((with_reducible refine (C1.out _).mono ?_); rintro e9 w' ⟨rfl, rfl⟩) | ((with_reducible refine (C2.out _).mono ?_); rintro e9 w' ⟨rfl, rfl⟩))
          go_roundw
          case rel => exact ⟨strike rest (a, b), cnt1, Lib.hid (HR1.out.step (balloc (Below.refl _ w1) _)), Lib.hid (fun x hx => hsub.out x (List.mem_filter.1 hx).1), HB2, Lib.hid (hF1.out.alloc _)⟩
          case measure => rw [(HR1.out.step (balloc (Below.refl _ w1) _)).left_eq, hR.out.left_eq]; exact hlt1
      · have HB2 : Hid (l.all (fun k => bes1 k ⟨xp, xs, xi, xz, xt⟩) = false) := Lib.hid (by
          obtain ⟨k, hk, e1⟩ := List.mem_map.1 hmem.out
          refine Bool.eq_false_iff.2 (fun ht => ?_)
          have h1 := List.all_eq_true.1 ht k hk
          rw [besK_key, e1, Hk.out] at h1
          rcases h with ⟨rfl, rfl, rfl⟩ | ⟨rfl, rfl, rfl⟩ | ⟨rfl, rfl, rfl⟩ | ⟨rfl, rfl, rfl, rfl⟩ | ⟨rfl, rfl, rfl, rfl, rfl⟩ <;> simp at h1)
        rcases h with ⟨rfl, rfl, rfl⟩ | ⟨rfl, rfl, rfl⟩ | ⟨rfl, rfl, rfl⟩ | ⟨rfl, rfl, rfl, rfl⟩ | ⟨rfl, rfl, rfl, rfl, rfl⟩
        all_goals
          go_wp2_with (go_at_call 70; first | ((with_reducible refine (C1.out _).mono ?_); rintro e9 w' ⟨rfl, rfl⟩) | ((with_reducible refine (C2.out _).mono ?_); rintro e9 w' ⟨rfl, rfl⟩))
          go_ret
          exact ⟨by rw [HB2.out]; rfl, bstep B0.out hb1.out⟩
end Go.Proofs.YtjcelelgebohkaaGreatDoor
