/-
  index's reader: num, text. Conditions: the reader's block is known whole, its bytes read as a list.
-/
import Derived.Test.YtjcelelgebohkaaGreatDoorIdxDecLaw
namespace Go.Proofs.YtjcelelgebohkaaGreatDoor
open Go.RowKit

/-- block R is a reader of r's bytes -/
def RdAt (w : World) (R W0 : Nat) (r : Rd) : Prop :=
  ∃ A n c, Blk w R 97 #[.slice A n c, I (if r.bad then 2 else 0)] ∧ Sl w 1 A n (u8s r.b) ∧ n ≤ c ∧ n ≤ 140737488355328 ∧ (0 < n → ∀ a, A = some a → a.block < W0 ∨ BlkT w a.block 5) ∧ W0 ≤ R

theorem only_set {a w : World} {g : Nat} (h : a.grownBy w (some g)) {p : Addr} (hp : p.block = g) (u : Value) : a.grownBy (w.setCell p u) (some g) :=
  ⟨h.os, h.tape, h.output, by simpa [World.setCell] using h.size, fun i hi hne => (Below.heap_setCell w p u i (by rintro rfl; exact hne (by rw [hp]))).trans (h.block i hi hne)⟩
theorem only_below {a w : World} (h : Below a.heap.size a w) (row : Option Nat) : a.grownBy w row := ⟨h.os, h.tape, h.output, h.size, fun i hi _ => h.block i hi⟩
theorem only_drew {a w : World} {row : Option Nat} (h : a.grownBy w row) : a.grownBy w.drew row := ⟨h.os, h.tape, h.output, h.size, h.block⟩
theorem Sl.far {w : World} {sz n : Nat} {A : Option Addr} {xs : List Value} (h : Sl w sz A n xs) {p : Addr} (hp : 0 < n → ∀ a, A = some a → a.block ≠ p.block) (u : Value) : Sl (w.setCell p u) sz A n xs := by
  refine ⟨h.1, fun hn => ?_⟩
  obtain ⟨b, off, rfl, hb, hc⟩ := h.2 hn
  refine ⟨b, off, rfl, by rw [setCell_size]; exact hb, fun k hk => ?_⟩
  rw [← hc k hk]
  exact World.cell?_of_block (Below.heap_setCell w p u b (hp hn _ rfl))

theorem takeText_len {b s r : List UInt8} {m : Nat} (h : takeText b m = some (s, r)) : r.length ≤ b.length := by
  unfold takeText at h
  split at h
  · cases h
  · rename_i n r' ht
    split at h
    · cases h; have := takeNum_len ht; simp; omega
    · cases h

theorem Sl.pre_ {α : Type} {f : α → Value} {w : World} {A : Option Addr} {n : Nat} {l : List α} (h : Sl w 1 A n (l.map f)) {k : Nat} (hk : k ≤ n) : Sl w 1 A k ((l.take k).map f) := by
  have hl : l.length = n := by simpa using h.len
  refine ⟨by simp; omega, fun hn => ?_⟩
  obtain ⟨b, off, rfl, hb, hc⟩ := h.2 (by omega)
  refine ⟨b, off, rfl, hb, fun j hj => ?_⟩
  rw [hc j (by omega), List.map_take, List.getElem?_take_of_lt (by omega)]

/-- what a method of the reader returns -/
def RetRd (w : World) (R W0 : Nat) (v : Value) (r : Rd) (e : Ending) (w' : World) : Prop := e = .returned v ∧ RdAt w' R W0 r ∧ w.grownBy w' (some R)

set_option maxHeartbeats 1000000 in
set_option maxRecDepth 100000 in
theorem rdNum_any (R W0 : Nat) (r : Rd) (w : World) (h : RdAt w R W0 r) : Calls Tryz.prog 52 #[.pointer (some ⟨R, 0, none⟩)] w (RetRd w R W0 (I r.num.1) r.num.2) := by
  obtain ⟨A, n, c, hB, hS, hc, hn, hne, hW0⟩ := h
  obtain ⟨ev, hev⟩ : ∃ ev : Int, ev = if r.bad then 2 else 0 := ⟨_, rfl⟩
  rw [← hev] at hB
  have hev0 : 0 ≤ ev := by rw [hev]; split <;> omega
  have hev2 : ev ≤ 2 := by rw [hev]; split <;> omega
  have Hev := Lib.hid hev
  have HB := Lib.hid hB
  have r0 := hB.cell
  have r1 := hB.frozen
  have hlt := hB.lt
  clear hev hB
  go_enter Tryz.func52, Tryz.ntmps52
  go_wp2_with fail
  refine (takeNum_any A n c r.b _ hS hc hn).mono ?_
  rintro e w1 (⟨v, rest, A1, m1, c1, ht, rfl, ho⟩ | ⟨ht, rfl, hb⟩)
  · have hnum : r.num = (v, ⟨rest, r.bad⟩) := by simp only [Rd.num, ht]
    have HN := Lib.hid hnum
    have hB1 := HB.out.step ho.2
    have s0 := hB1.cell
    have s1 := hB1.frozen
    have HO := Lib.hid ho
    have HB1 := Lib.hid hB1
    have hmle := Lib.hid (show m1 ≤ 140737488355328 by
      have h1 := ow_len ho
      have h2 := takeNum_len ht
      have h3 := u8s_len hS
      omega)
    clear ht hnum ho hB1 r0 r1
    go_wp2
    go_ret
    refine ⟨by rw [HN.out]; rfl, ?_, ?_⟩
    · rw [HN.out]
      refine ⟨A1, m1, c1, ?_, ?_, HO.out.cap.1, hmle.out, fun _ a ha => .inr (((HO.out.blkT ha).set_ _ _).set_ _ _), hW0⟩
      · rw [← Hev.out, show max ev 0 = ev from Int.max_eq_left hev0]; exact (HB1.out.set_ 0 _).set_ 1 _
      · have hf : 0 < m1 → ∀ a, A1 = some a → a.block ≠ R := fun _ a ha => by have := HO.out.blk ha; omega
        exact (HO.out.sl.far (p := ⟨R, 0, none⟩) hf _).far (p := ⟨R, 1, none⟩) hf _
    · exact only_set (p := ⟨R, 1, none⟩) (only_set (p := ⟨R, 0, none⟩) (only_below HO.out.2 _) rfl _) rfl _
  · have hnum : r.num = (0, ⟨[], true⟩) := by simp only [Rd.num, ht]
    have HN := Lib.hid hnum
    have hB1 := HB.out.step hb
    have s0 := hB1.cell
    have s1 := hB1.frozen
    have Hb := Lib.hid hb
    have HB1 := Lib.hid hB1
    have hcase : ev = 0 ∨ ev = 2 := by rw [Hev.out]; split <;> simp
    clear ht hnum hb hB1 r0 r1
    rcases hcase with rfl | rfl
    all_goals
      go_wp2
      go_ret
      refine ⟨by rw [HN.out]; rfl, ?_, ?_⟩
      · rw [HN.out]
        exact ⟨none, 0, 0, (HB1.out.set_ 0 _).set_ 1 _, Sl.nil_, Nat.le_refl _, Nat.zero_le _, fun _ a ha => (by cases ha), hW0⟩
      · exact only_set (p := ⟨R, 1, none⟩) (only_set (p := ⟨R, 0, none⟩) (only_below Hb.out _) rfl _) rfl _

set_option maxHeartbeats 1000000 in
set_option maxRecDepth 100000 in
theorem rdText_any (R W0 : Nat) (r : Rd) (w : World) (h : RdAt w R W0 r) : Calls Tryz.prog 53 #[.pointer (some ⟨R, 0, none⟩)] w (RetRd w R W0 (S r.text.1) r.text.2) := by
  obtain ⟨A, n, c, hB, hS, hc, hn, hne, hW0⟩ := h
  obtain ⟨ev, hev⟩ : ∃ ev : Int, ev = if r.bad then 2 else 0 := ⟨_, rfl⟩
  rw [← hev] at hB
  have hev0 : 0 ≤ ev := by rw [hev]; split <;> omega
  have hev2 : ev ≤ 2 := by rw [hev]; split <;> omega
  have Hev := Lib.hid hev
  have HB := Lib.hid hB
  have r0 := hB.cell
  have r1 := hB.frozen
  have hlt := hB.lt
  clear hev hB
  go_enter Tryz.func53, Tryz.ntmps53
  go_wp2_with fail
  refine (takeText_any A n c 1000 r.b _ hS hc hn).mono ?_
  rintro e w1 (⟨t, rest, A1, m1, c1, ht, rfl, hS1, hc1, hblk, hb⟩ | ⟨ht, rfl, hb⟩)
  · have hnum : r.text = (t, ⟨rest, r.bad⟩) := by simp only [Rd.text, ht]
    have HN := Lib.hid hnum
    have hB1 := HB.out.step hb
    have s0 := hB1.cell
    have s1 := hB1.frozen
    have Hb := Lib.hid hb
    have HS1 := Lib.hid hS1
    have HB1 := Lib.hid hB1
    have hf : 0 < m1 → ∀ a, A1 = some a → a.block ≠ R := fun _ a ha => (hblk a ha).ne_ hB1 (by decide)
    have Hblk := Lib.hid hblk
    have Hf := Lib.hid hf
    have hmle := Lib.hid (show m1 ≤ 140737488355328 by
      have h1 := u8s_len hS1
      have h2 := takeText_len ht
      have h3 := u8s_len hS
      omega)
    clear ht hnum hb hS1 hB1 r0 r1 hf hblk
    go_wp2
    go_ret
    refine ⟨by rw [HN.out]; rfl, ?_, ?_⟩
    · rw [HN.out]
      refine ⟨A1, m1, c1, ?_, ?_, hc1, hmle.out, fun _ a ha => .inr (((Hblk.out a ha).set_ _ _).set_ _ _), hW0⟩
      · rw [← Hev.out, show max ev 0 = ev from Int.max_eq_left hev0]; exact (HB1.out.set_ 0 _).set_ 1 _
      · exact (HS1.out.far (p := ⟨R, 0, none⟩) Hf.out _).far (p := ⟨R, 1, none⟩) Hf.out _
    · exact only_set (p := ⟨R, 1, none⟩) (only_set (p := ⟨R, 0, none⟩) (only_below Hb.out _) rfl _) rfl _
  · have hnum : r.text = ([], ⟨[], true⟩) := by simp only [Rd.text, ht]
    have HN := Lib.hid hnum
    have hB1 := HB.out.step hb
    have s0 := hB1.cell
    have s1 := hB1.frozen
    have Hb := Lib.hid hb
    have HB1 := Lib.hid hB1
    have hcase : ev = 0 ∨ ev = 2 := by rw [Hev.out]; split <;> simp
    clear ht hnum hb hB1 r0 r1
    rcases hcase with rfl | rfl
    all_goals
      go_wp2
      go_ret
      refine ⟨by rw [HN.out]; rfl, ?_, ?_⟩
      · rw [HN.out]
        exact ⟨none, 0, 0, (HB1.out.set_ 0 _).set_ 1 _, Sl.nil_, Nat.le_refl _, Nat.zero_le _, fun _ a ha => (by cases ha), hW0⟩
      · exact only_set (p := ⟨R, 1, none⟩) (only_set (p := ⟨R, 0, none⟩) (only_below Hb.out _) rfl _) rfl _

theorem rdNum_at {R W0 : Nat} {r r' : Rd} {v : Nat} {w : World} (h : RdAt w R W0 r) (e : r.num = (v, r')) : Calls Tryz.prog 52 #[.pointer (some ⟨R, 0, none⟩)] w (RetRd w R W0 (I v) r') := by
  have := rdNum_any R W0 r w h; rwa [e] at this
theorem rdText_at {R W0 : Nat} {r r' : Rd} {v : List UInt8} {w : World} (h : RdAt w R W0 r) (e : r.text = (v, r')) : Calls Tryz.prog 53 #[.pointer (some ⟨R, 0, none⟩)] w (RetRd w R W0 (S v) r') := by
  have := rdText_any R W0 r w h; rwa [e] at this
theorem RdAt.step {w w' : World} {R W0 : Nat} {r : Rd} (h : RdAt w R W0 r) (hb : Below w.heap.size w w') : RdAt w' R W0 r := by
  obtain ⟨A, n, c, hB, hS, hc, hn, hne, hW⟩ := h
  exact ⟨A, n, c, hB.step hb, hS.below hb, hc, hn, fun h0 a ha => (hne h0 a ha).imp (fun h => h) (fun h => h.step hb), hW⟩
theorem RdAt.lt {w : World} {R W0 : Nat} {r : Rd} (h : RdAt w R W0 r) : R < w.heap.size := by
  obtain ⟨A, n, c, hB, _⟩ := h; exact hB.lt
/-- a map that changes beside a reader -/
theorem RdAt.fr {w w' : World} {R W0 m n : Nat} {r : Rd} {P : Program} {k e : TypeId} {κ α : Type} {C : Coding P k e κ α} {f : κ → Option α} (h : RdAt w R W0 r) (hF : Fr (fun j => j = m) w w') (hm : MapIs C w m n f) (hlo : W0 ≤ m) : RdAt w' R W0 r := by
  obtain ⟨A, n', c, hB, hS, hc, hn, hne, hW⟩ := h
  have hRm : R ≠ m := fun e => hm.ne_blk hB e.symm
  have hbm : ∀ a, 0 < n' → A = some a → a.block ≠ m := fun a h0 ha e => by
    rcases hne h0 a ha with h1 | ⟨cs, fr, h1⟩
    · omega
    · rw [e] at h1
      exact hm.no_cells cs fr h1
  refine ⟨A, n', c, hF.blk hB hRm, ⟨hS.1, fun h0 => ?_⟩, hc, hn, fun h0 a ha => ?_, hW⟩
  · obtain ⟨b, off, rfl, hb, hcell⟩ := hS.2 h0
    exact ⟨b, off, rfl, Nat.lt_of_lt_of_le hb hF.size, fun j hj => (World.cell?_of_block (hF.block b hb (hbm _ h0 rfl))).trans (hcell j hj)⟩
  · rcases hne h0 a ha with h1 | ⟨cs, fr, h1⟩
    · exact .inl h1
    · refine .inr ⟨cs, fr, ?_⟩
      have hlt : a.block < w.heap.size := by
        rcases Nat.lt_or_ge a.block w.heap.size with h | h
        · exact h
        · rw [Array.getElem?_eq_none h] at h1; cases h1
      rw [hF.block _ hlt (hbm a h0 ha)]
      exact h1
end Go.Proofs.YtjcelelgebohkaaGreatDoor
