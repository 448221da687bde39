/-
  dolmenlaw14.made: an index that a script was done to: it lies in memory, its entries stand beside one another. Conditions: paths are shorter than 2147483648 bytes; MaxLen holds an int.
-/
import Derived.Test.YtjcelelgebohkaaGreatDoorIdxStep
namespace Go.Proofs.YtjcelelgebohkaaGreatDoor
open Go.RowKit
open IdxLaw (Ent Key zE Inv)

def opL (o : OpG) : List Value := [I o.what, S o.e.path, I o.e.stage, S o.e.id, I o.e.size, I o.e.stamp, S o.a, S o.b, S o.c, I o.n]
def opsC (l : List OpG) : List Value := l.flatMap opL
theorem opL_len (l : List OpG) : ∀ x ∈ l, (opL x).length = 10 := fun _ _ => rfl
theorem opsC_len (l : List OpG) : (opsC l).length = l.length * 10 := flat_len (opL_len l)
theorem opsC_at {l : List OpG} {k j : Nat} {c : OpG} (h : l[k]? = some c) (hj : j < 10) : (opsC l)[k * 10 + j]? = (opL c)[j]? := flat_at (opL_len l) h hj
theorem opsC_count {w : World} {A : Option Addr} {m : Nat} {l : List OpG} (h : Sl w 10 A m (opsC l)) : l.length = m := by have := h.1; rw [opsC_len] at this; omega
theorem Sl.opg {w : World} {A : Option Addr} {m k : Nat} {l : List OpG} (h : Sl w 10 A m (opsC l)) (hk : k < m) : ∃ b off o, A = some ⟨b, off, none⟩ ∧ b < w.heap.size ∧ l[k]? = some o ∧
    w.cell? ⟨b, off + k * 10, none⟩ = some (I o.what) ∧ w.cell? ⟨b, off + k * 10 + 1, none⟩ = some (S o.e.path) ∧ w.cell? ⟨b, off + k * 10 + 2, none⟩ = some (I o.e.stage) ∧ w.cell? ⟨b, off + k * 10 + 3, none⟩ = some (S o.e.id) ∧ w.cell? ⟨b, off + k * 10 + 4, none⟩ = some (I o.e.size) ∧
    w.cell? ⟨b, off + k * 10 + 5, none⟩ = some (I o.e.stamp) ∧ w.cell? ⟨b, off + k * 10 + 6, none⟩ = some (S o.a) ∧ w.cell? ⟨b, off + k * 10 + 7, none⟩ = some (S o.b) ∧ w.cell? ⟨b, off + k * 10 + 8, none⟩ = some (S o.c) ∧ w.cell? ⟨b, off + k * 10 + 9, none⟩ = some (I o.n) := by
  obtain ⟨b, off, rfl, hb, hc⟩ := h.2 (by omega)
  have hl := opsC_count h
  obtain ⟨x, hx⟩ : ∃ x, l[k]? = some x := ⟨l[k]'(by omega), List.getElem?_eq_getElem _⟩
  have g : ∀ j, j < 10 → w.cell? ⟨b, off + (k * 10 + j), none⟩ = (opL x)[j]? := fun j hj => (hc (k * 10 + j) (by omega)).trans (opsC_at hx hj)
  exact ⟨b, off, x, rfl, hb, hx, g 0 (by omega), g 1 (by omega), g 2 (by omega), g 3 (by omega), g 4 (by omega), g 5 (by omega), g 6 (by omega), g 7 (by omega), g 8 (by omega), g 9 (by omega)⟩

/-- what is asked of an operation -/
def OpG.ok (o : OpG) : Prop := o.e.path.length ≤ 2147483648 ∧ (Lit.int .i64 o.n).wf = true
theorem playL_inv {l : List Ent} (h : Inv l) (o : OpG) : Inv (playL o l) := by
  unfold playL
  split
  · exact IdxLaw.inv_conflict h _ _ _ _
  · split
    · exact h.filter _
    · split
      · exact h
      · split
        · exact h
        · exact IdxLaw.inv_set h _
def Short (r : List Ent) (z : Nat) : Prop := r.length ≤ z ∧ ∀ e ∈ r, e.path.length ≤ 2147483648
theorem Short.filter {r : List Ent} {z : Nat} (h : Short r z) (f : Ent → Bool) : Short (r.filter f) z := ⟨Nat.le_trans (List.length_filter_le _ _) h.1, fun e he => h.2 e (List.mem_filter.1 he).1⟩
theorem Short.ins {r : List Ent} {z : Nat} (h : Short r z) {x : Ent} (hx : x.path.length ≤ 2147483648) : Short (insE x r) (z + 1) := ⟨by rw [insE_len]; have := h.1; omega, fun e he => by
  rcases insE_mem.1 he with rfl | he
  · exact hx
  · exact h.2 e he⟩
theorem Short.all : ∀ (es : List Ent) {r : List Ent} {z : Nat}, Short r z → (∀ e ∈ es, e.path.length ≤ 2147483648) → Short (addAll r es) (z + es.length)
  | [], r, z, h, _ => h
  | e :: es, r, z, h, hx => by
    have h1 := Short.all es (h.ins (hx e (by simp))) (fun x hm => hx x (by simp [hm]))
    rw [show z + 1 + es.length = z + (e :: es).length by simp; omega] at h1
    exact h1
theorem Short.mono {r : List Ent} {z z' : Nat} (h : Short r z) (hz : z ≤ z') : Short r z' := ⟨Nat.le_trans h.1 hz, h.2⟩
theorem playR_ok {r : List Ent} {z : Nat} (h : Short r z) {o : OpG} (ho : o.ok) : Short (playR o r) (z + 3) := by
  unfold playR
  split
  · unfold rconf
    split
    · exact h.mono (Nat.le_add_right _ _)
    · refine (Short.all _ (h.filter _) (fun e he => ?_)).mono ?_
      · rw [IdxLaw.three_path e he]; exact ho.1
      · have := IdxLaw.three_len (p := o.e.path) (a := o.a) (b := o.b) (c := o.c)
        omega
  · split
    · exact (h.filter _).mono (Nat.le_add_right _ _)
    · split
      · exact h.mono (Nat.le_add_right _ _)
      · split
        · exact h.mono (Nat.le_add_right _ _)
        · unfold rset
          split
          · exact ((h.filter _).ins ho.1).mono (by omega)
          · exact h.mono (Nat.le_add_right _ _)

theorem MaxL.lt' {w : World} (h : MaxL w) : 0 < w.heap.size := by
  obtain ⟨m, hm⟩ := h
  rcases Nat.lt_or_ge 0 w.heap.size with h | h
  · exact h
  · simp [World.cell?, Array.getElem?_eq_none h] at hm
set_option maxHeartbeats 2000000 in
set_option maxRecDepth 100000 in
theorem made_any (w : World) (A : Option Addr) (n c : Nat) (os : List OpG) (hA : Sl w 10 A n (opsC os)) (hO : ∀ o ∈ os, o.ok) (hM : MaxL w) :
    Calls Tryz.prog 20 #[.slice A n c] w fun e w' => ∃ (p m : Nat) (l : List Ent), e = .returned (.pointer (some ⟨p, 0, none⟩)) ∧ IdxAt w' p m l 180 ∧ Inv l ∧ w.heap.size ≤ p ∧ w.heap.size ≤ m ∧ Below w.heap.size w w' := by
  have HA := Lib.hid hA
  have HO := Lib.hid hO
  have HM := Lib.hid hM
  have hl := hM.lt'
  clear hA hO hM
  go_enter Tryz.func20, Tryz.ntmps20
  go_wp2_with (go_at_call 7; refine (new_any w).mono ?_; rintro e w1 ⟨p, m, rfl, hI1, hp1, hm1, b1⟩)
  have hq0 : w1.heap.size = w1.heap.size := rfl
  obtain ⟨q, hq⟩ : ∃ q, q = w1.heap.size := ⟨_, rfl⟩
  have hmq : m < q := hq ▸ hI1.map.lt
  have hpq : p < q := hq ▸ hI1.blk.lt
  have hb2 := balloc (Below.refl w1.heap.size w1) (.cells #[.slice none 0 0] 29)
  have T0 : Two (w1.alloc (.cells #[.slice none 0 0] 29)) p m q [] [] 0 := by
    refine ⟨hI1.step hb2, ?_, by omega, by omega⟩
    rw [hq]
    exact RIx.new w1 (fun k => k = m) (fun k e => e ▸ hI1.map.lt)
  have HB1 := Lib.hid (bstep b1 hb2)
  have HT0 := Lib.hid T0
  have hwq : w.heap.size ≤ q := hq ▸ b1.size
  simp only [← hq]
  clear b1 hb2 hI1 T0 hq hq0
  go_loopw [5] (fun i wr => ∃ k : Nat, i = .int .i64 k ∧ Hid (k ≤ 60) ∧ Hid (k ≤ n) ∧ Hid (∃ l r, Two wr p m q l r (3 * k) ∧ Inv l ∧ Short r (3 * k)) ∧ Hid (Below w.heap.size w wr)) (fun i _ => 60 - (intOf i).toNat)
  case atStart => exact ⟨0, rfl, Lib.hid (by omega), Lib.hid (by omega), Lib.hid ⟨[], [], HT0.out, IdxLaw.inv_nil, Nat.le_refl _, by simp⟩, HB1⟩
  case round =>
    obtain ⟨k, rfl, hk, hkn, hTk, hb⟩ := hrel
    by_cases hlt : k < n ∧ k < 60
    · obtain ⟨h1, h2⟩ := hlt
      obtain ⟨b, off, o, rfl, hbz, hx, y0, y1, y2, y3, y4, y5, y6, y7, y8, y9⟩ := HA.out.opg h1
      have x0 := (hb.out.cell (p := ⟨b, off + k * 10, none⟩) hbz).trans y0
      have x1 := (hb.out.cell (p := ⟨b, off + k * 10 + 1, none⟩) hbz).trans y1
      have x2 := (hb.out.cell (p := ⟨b, off + k * 10 + 2, none⟩) hbz).trans y2
      have x3 := (hb.out.cell (p := ⟨b, off + k * 10 + 3, none⟩) hbz).trans y3
      have x4 := (hb.out.cell (p := ⟨b, off + k * 10 + 4, none⟩) hbz).trans y4
      have x5 := (hb.out.cell (p := ⟨b, off + k * 10 + 5, none⟩) hbz).trans y5
      have x6 := (hb.out.cell (p := ⟨b, off + k * 10 + 6, none⟩) hbz).trans y6
      have x7 := (hb.out.cell (p := ⟨b, off + k * 10 + 7, none⟩) hbz).trans y7
      have x8 := (hb.out.cell (p := ⟨b, off + k * 10 + 8, none⟩) hbz).trans y8
      have x9 := (hb.out.cell (p := ⟨b, off + k * 10 + 9, none⟩) hbz).trans y9
      have hok := HO.out o (List.mem_of_getElem? hx)
      obtain ⟨l, r, hT, hI, hS⟩ := hTk.out
      have HI2 := Lib.hid (playL_inv hI o)
      have HS2 := Lib.hid (playR_ok hS hok)
      have C1 := Lib.hid (step_any wr p m q (3 * k) l r o hT (by omega) (by have := hS.1; omega) hI.right (fun e he => Nat.le_trans (hS.2 e he) (by decide)) hok.1 hok.2 (HM.out.step hb.out))
      clear y0 y1 y2 y3 y4 y5 y6 y7 y8 y9 hx hT hI hS hok
      go_wp2_with (go_at_call 8; refine C1.out.mono ?_; rintro e w2 ⟨rfl, hT2, hF2⟩)
      go_roundw
      case rel => exact ⟨k + 1, by go_num, Lib.hid (by omega), Lib.hid (by omega), Lib.hid ⟨_, _, hT2, HI2.out, HS2.out⟩, Lib.hid (hb.out.trans (hF2.below hb.out.size (fun j h => by rcases h with h | h <;> omega)))⟩
      case measure => simp [intOf]; omega
    · have HBf : Hid (∃ l, IdxAt wr p m l 180 ∧ Inv l) := Lib.hid (by
        obtain ⟨l, r, h, hI, _⟩ := hTk.out
        exact ⟨l, h.idx.mono (by have := hk.out; omega), hI⟩)
      by_cases h1 : k < n
      · have h2 : ¬ k < 60 := fun h => hlt ⟨h1, h⟩
        clear hlt
        go_wp2
        go_ret
        obtain ⟨l, h3, h4⟩ := HBf.out
        exact ⟨p, m, l, rfl, h3, h4, by omega, by omega, hb.out⟩
      · clear hlt
        go_wp2
        go_ret
        obtain ⟨l, h3, h4⟩ := HBf.out
        exact ⟨p, m, l, rfl, h3, h4, by omega, by omega, hb.out⟩
end Go.Proofs.YtjcelelgebohkaaGreatDoor
