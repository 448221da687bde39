/-
  pair's matcher: pair, exact, where one change alone is gone. Conditions: the matcher lies in its block, the change in a row of its own.
-/
import Derived.Test.YtkginbfpokbhcaaGreatDoorPairDelete
import Derived.Test.YtkginbfpokbhcaaGreatDoorPairMem
import Derived.Test.YtkginbfpokbhcaaGreatDoorIndexFn
import Derived.Test.YtkginbfpokbhcaaGreatDoorKitW
import Derived.Test.YtkginbfpokbhcaaGreatDoorAppendIn
import Derived.StillTailTactics
import Derived.Shelf.Abstract
namespace Go.Proofs.YtkginbfpokbhcaaGreatDoor
open Go.RowKit Go.Shelf

theorem own_step9 {w w' : World} {base sz n : Nat} {e : TypeId} {v : Value} {xs : List Value} (h : w.ownsRow base e sz v n xs) (hb : Below w.heap.size w w') : w'.ownsRow base e sz v n xs :=
  h.kept (row := none) ⟨hb.os, hb.tape, hb.output, hb.size, fun i hi _ => hb.block i hi⟩ (by cases v.ownBlock <;> simp)
abbrev oneRow (w : World) (b0 g c1 : Nat) (x : Chg3) : Prop := w.ownsRow b0 73 3 (.slice (some ⟨g, 0, none⟩) 1 c1) 1 (cgs [x])
theorem one_cells {w : World} {b0 g c1 : Nat} {x : Chg3} (h : oneRow w b0 g c1 x) : w.cell? ⟨g, 0, none⟩ = some (S x.1) ∧ w.cell? ⟨g, 1, none⟩ = some (S x.2.1) ∧ w.cell? ⟨g, 2, none⟩ = some (S x.2.2) :=
  ⟨h.cellAt 0 (by omega), h.cellAt 1 (by omega), h.cellAt 2 (by omega)⟩
theorem one_cap {w : World} {b0 g c1 : Nat} {x : Chg3} (h : oneRow w b0 g c1 x) : 1 ≤ c1 ∧ c1 ≤ 9223372036854775807 := by
  rcases h.2 with ⟨hv, _⟩ | ⟨g', cap', cur, hv, hbase, hb, h1, h2, h3, h4⟩
  · cases hv
  · cases hv
    simp only [maxLen] at h2
    omega
theorem one_some {w : World} {b0 g c1 : Nat} {x : Chg3} (h : oneRow w b0 g c1 x) : ∀ j, j < 3 → (w.cell? ⟨g, 0 + j, none⟩).isSome = true := by
  intro j hj
  have h1 := h.cellAt (0 + j) (by omega)
  rw [h1]
  have : 0 + j < (cgs [x]).length := by simp [cgs, cgC]; omega
  rw [List.getElem?_eq_getElem this]
  rfl
set_option maxHeartbeats 2000000 in
set_option maxRecDepth 100000 in
theorem mpair_any (w : World) (b0 mb g pm c1 cnt a : Nat) (sv lm : Value) (x c : Chg3) (sc : Int) (f : Int → Option Ren) (hB : Blk w mb 149 #[sv, .slice (some ⟨g, 0, none⟩) 1 c1, lm, .map (some pm)]) (hR : oneRow w b0 g c1 x) (hM : MapIs pairC w pm cnt f) (ha : a ≤ 1000000000) (hcnt : cnt ≤ 1000000000) :
    Calls Tryz.prog 124 #[.pointer (some ⟨mb, 0, none⟩), I a, I 0, .agg #[S c.1, S c.2.1, S c.2.2], I sc] w fun e w' => e = .returned (.tuple #[]) ∧ Blk w' mb 149 #[sv, .slice (some ⟨g, 0, none⟩) 0 c1, lm, .map (some pm)] ∧ MapIs pairC w' pm (cnt + 1) (upd f a (some (x.1, c.1, sc))) ∧ Fr (fun j => j = mb ∨ j = pm ∨ j = g) w w' := by
  obtain ⟨hcap1, hcap2⟩ := one_cap hR
  have hgl := (hR.lt g rfl).2
  have hgm : g ≠ mb := by
    rintro rfl
    rcases hR.2 with ⟨hv, _⟩ | ⟨g', cap', cur, hv, hbase, hb, _⟩
    · cases hv
    · cases hv
      unfold Blk at hB
      rw [hb] at hB
      injection hB with hB
      injection hB with _ ht
      exact absurd ht (by decide)
  have hpm : pm ≠ mb := hM.ne_blk hB
  have hpg : some pm ≠ (Value.slice (some ⟨g, 0, none⟩) 1 c1).ownBlock := hM.ne_own hR
  have b1 := balloc (Below.refl _ w) (.cells #[S c.1, S c.2.1, S c.2.2] 73)
  have HB1 := Lib.hid (hB.step b1)
  have HR1 := Lib.hid (own_step9 hR b1)
  have HM1 := Lib.hid (hM.step b1)
  have Hbox := Lib.hid (Blk.new w 73 #[S c.1, S c.2.1, S c.2.2])
  obtain ⟨W, hW⟩ : ∃ W, W = w.alloc (.cells #[S c.1, S c.2.1, S c.2.2] 73) := ⟨_, rfl⟩
  obtain ⟨bx, hbx⟩ : ∃ bx, bx = w.heap.size := ⟨_, rfl⟩
  rw [← hW] at HB1 HR1 HM1 Hbox b1
  rw [← hbx] at Hbox
  have HF1 := Lib.hid (Fr.of_below (E := fun j => j = mb ∨ j = pm ∨ j = g) b1)
  have hcm : cnt < maxLen := by simp only [maxLen]; omega
  have hga := small_good a ha
  clear hB hR hM b1
  go_enter Tryz.func124, Tryz.ntmps124
  go_wp2
  rw [← hW, ← hbx]
  have Hgm := Lib.hid hgm
  have Hpm := Lib.hid hpm
  have Hpg := Lib.hid hpg
  clear hW hbx hgm hpm hpg hgl
  have r1 := HB1.out.cell
  obtain ⟨r2, r3, r4⟩ := one_cells HR1.out
  have r5 := Hbox.out.cell
  go_still_tail 17, (by kernel_rfl)
  have hm1 := HM1.out
  clear r1 r2 r3 r4 r5
  go_wp2_with (at_mapUpdate; refine wpList_store _ rfl _ _ _ 147 rfl pairC Tryz.underlying147 pm cnt _ rfl hm1.drew hcm (a : Int) rfl hga (x.1, c.1, sc) rfl ?_; intro W2 hm2 hg2; have HM2 := Lib.hid hm2; have HB2 := Lib.hid (HB1.out.drew.grown hg2 (fun e => Hpm.out (Option.some.inj e).symm)); have HR2 := Lib.hid ((own_step9 HR1.out (Below.refl _ _).drew).kept hg2 (.inr (fun e => Hpg.out e.symm))); have HF2 := Lib.hid (HF1.out.drew.trans (Fr.of_grown (E := fun j => j = mb ∨ j = pm ∨ j = g) hg2 (fun k e => by cases e; exact .inr (.inl rfl)))); have r2 := HB2.out.cell; have C2 := Lib.hid (delete1_any g c1 W2 hcap1 hcap2 (one_some HR2.out) (fun j _ => HR2.out.frozenAt (0 + j))); clear hm2 hg2)
  go_wp2_with (go_at_call 185; refine C2.out.mono ?_; rintro e w3 ⟨rfl, f3⟩; have HB3 := Lib.hid (f3.blk HB2.out (fun e => Hgm.out e.symm)); have HM3 := Lib.hid (HM2.out.fr f3 (fun e => Hpg.out (by rw [e]; rfl))); have HF3 := Lib.hid (HF2.out.trans (f3.weak (F := fun j => j = mb ∨ j = pm ∨ j = g) (fun k e => .inr (.inr e)))); have r3 := HB3.out.cell; have r3f := HB3.out.frozen; have r3l := HB3.out.lt; clear f3 r2)
  go_end0
  refine ⟨rfl, HB3.out.set_ 1 (.slice (some ⟨g, 0, none⟩) 0 c1), HM3.out.far (by exact fun e => Hpm.out e) _, HF3.out.setCell (p := ⟨mb, 1, none⟩) (.inl rfl) _⟩
theorem idx_one {α : Type} {x : α} {f : α → Bool} {r : Int} (h : IsIdx [x] f r) (hf : f x = true) : r = 0 := by
  rcases h with ⟨_, h⟩ | ⟨k, rfl, y, hy, _, _⟩
  · rw [h x (by simp)] at hf
    cases hf
  · have := (List.getElem?_eq_some_iff.1 hy).1
    simp at this
    omega
set_option maxRecDepth 100000 in
theorem exact1_any (x c : Chg3) (B : Nat) (w : World) (hB : Blk w B 73 #[S c.1, S c.2.1, S c.2.2]) :
    Calls Tryz.prog 123 #[.agg #[S x.1, S x.2.1, S x.2.2], .pointer (some ⟨B, 0, none⟩)] w fun e w' => e = .returned (.bool (decide (x.2.1 = c.2.2))) ∧ Below w.heap.size w w' := by
  have hr := (hB.alloc (.cells #[S x.1, S x.2.1, S x.2.2] 73)).cell
  clear hB
  go_enter Tryz.func123, Tryz.ntmps123
  go_wp2
  go_ret
  refine ⟨ret_bool ?_, balloc (Below.refl _ w) _⟩
  rw [Bool.eq_iff_iff]
  simp
set_option maxHeartbeats 2000000 in
set_option maxRecDepth 100000 in
theorem exact_yes (w : World) (b0 mb g pm c1 cnt a : Nat) (sv lm : Value) (x c : Chg3) (f : Int → Option Ren) (hB : Blk w mb 149 #[sv, .slice (some ⟨g, 0, none⟩) 1 c1, lm, .map (some pm)]) (hR : oneRow w b0 g c1 x) (hM : MapIs pairC w pm cnt f) (ha : a ≤ 1000000000) (hcnt : cnt ≤ 1000000000) (hxc : x.2.1 = c.2.2) :
    Calls Tryz.prog 70 #[.pointer (some ⟨mb, 0, none⟩), I a, .agg #[S c.1, S c.2.1, S c.2.2]] w fun e w' => e = .returned (.tuple #[]) ∧ Blk w' mb 149 #[sv, .slice (some ⟨g, 0, none⟩) 0 c1, lm, .map (some pm)] ∧ MapIs pairC w' pm (cnt + 1) (upd f a (some (x.1, c.1, 100))) ∧ Fr (fun j => j = mb ∨ j = pm ∨ j = g) w w' := by
  have b1 := balloc (Below.refl _ w) (.cells #[S c.1, S c.2.1, S c.2.2] 73)
  have HB1 := Lib.hid (hB.step b1)
  have Hbox := Lib.hid (Blk.new w 73 #[S c.1, S c.2.1, S c.2.2])
  have B1 := Lib.hid b1
  have C1 := Lib.hid (indexFnC 123 #[.pointer (some ⟨w.heap.size, 0, none⟩)] (enters_of Tryz.func123 (by kernel_rfl) rfl) (fun y => decide (y.2.1 = c.2.2)) (some ⟨g, 0, none⟩) 1 c1 [x] _ (Sl.of_own (own_step9 hR b1)) (by omega) (fun y _ W hb => exact1_any y c _ W (Hbox.out.step hb)))
  have C2 := Lib.hid (fun W (hb : Below w.heap.size w W) => mpair_any W b0 mb g pm c1 cnt a sv lm x c 100 f (hB.step hb) (own_step9 hR hb) (hM.step hb) ha hcnt)
  have Hx := Lib.hid hxc
  have r1 := HB1.out.cell
  clear hB hR hM b1 hxc
  go_enter Tryz.func70, Tryz.ntmps70
  go_wp2_with (first
    | (go_at_call 122; refine C1.out.mono ?_; rintro e w2 ⟨r, rfl, hr, b2⟩; obtain rfl : r = 0 := idx_one hr (decide_eq_true Hx.out); have B2 := Lib.hid (bstep B1.out b2); have r5 := (Hbox.out.step b2).cell; clear b2 hr r1)
    | (go_at_call 124; refine (C2.out _ B2.out).mono ?_; rintro e w3 ⟨rfl, h1, h2, h3⟩))
  go_end0
  exact ⟨rfl, h1, h2, (Fr.of_below B2.out).trans h3⟩
end Go.Proofs.YtkginbfpokbhcaaGreatDoor
