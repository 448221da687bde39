/-
  refs' reader: num, text, value, many. Conditions: the reader's block is known whole, its bytes read as a list.
-/
import Derived.Test.YtegehaokfcamfaaGreatDoorRefsDecLaw
namespace Go.Proofs.YtegehaokfcamfaaGreatDoor
open Go.RowKit

/-- block R is a reader of r's bytes -/
def RdAt (w : World) (R W0 : Nat) (r : Rd) : Prop :=
  ∃ A n c, Blk w R 86 #[.slice A n c, I (if r.bad then 2 else 0)] ∧ Sl w 1 A n (u8s r.b) ∧ n ≤ c ∧ n ≤ 140737488355328 ∧ (0 < n → ∀ a, A = some a → a.block < W0 ∨ BlkT w a.block 5) ∧ W0 ≤ R

theorem Sl.far {w : World} {sz n : Nat} {A : Option Addr} {xs : List Value} (h : Sl w sz A n xs) {p : Addr} (hp : 0 < n → ∀ a, A = some a → a.block ≠ p.block) (u : Value) : Sl (w.setCell p u) sz A n xs := by
  refine ⟨h.1, fun hn => ?_⟩
  obtain ⟨b, off, rfl, hb, hc⟩ := h.2 hn
  refine ⟨b, off, rfl, by rw [setCell_size]; exact hb, fun k hk => ?_⟩
  rw [← hc k hk]
  exact World.cell?_of_block (Below.heap_setCell w p u b (hp hn _ rfl))

theorem takeText_len {b s r : List UInt8} {m : Nat} (h : takeText b m = some (s, r)) : r.length ≤ b.length := by
  unfold takeText at h
  split at h
  · cases h
  · rename_i n r' ht
    split at h
    · cases h; have := takeNum_len ht; simp; omega
    · cases h

theorem Sl.pre_ {α : Type} {f : α → Value} {w : World} {A : Option Addr} {n : Nat} {l : List α} (h : Sl w 1 A n (l.map f)) {k : Nat} (hk : k ≤ n) : Sl w 1 A k ((l.take k).map f) := by
  have hl : l.length = n := by simpa using h.len
  refine ⟨by simp; omega, fun hn => ?_⟩
  obtain ⟨b, off, rfl, hb, hc⟩ := h.2 (by omega)
  refine ⟨b, off, rfl, hb, fun j hj => ?_⟩
  rw [hc j (by omega), List.map_take, List.getElem?_take_of_lt (by omega)]

/-- what a method of the reader returns -/
def RetRd (w : World) (R W0 : Nat) (v : Value) (r : Rd) (e : Ending) (w' : World) : Prop := e = .returned v ∧ RdAt w' R W0 r ∧ Fr (fun k => k = R) w w'

set_option maxHeartbeats 1000000 in
set_option maxRecDepth 100000 in
theorem rdNum_any (R W0 : Nat) (r : Rd) (w : World) (h : RdAt w R W0 r) : Calls Tryz.prog 62 #[.pointer (some ⟨R, 0, none⟩)] w (RetRd w R W0 (I r.num.1) r.num.2) := by
  obtain ⟨A, n, c, hB, hS, hc, hn, hne, hW0⟩ := h
  obtain ⟨ev, hev⟩ : ∃ ev : Int, ev = if r.bad then 2 else 0 := ⟨_, rfl⟩
  rw [← hev] at hB
  have hev0 : 0 ≤ ev := by rw [hev]; split <;> omega
  have hev2 : ev ≤ 2 := by rw [hev]; split <;> omega
  have Hev := Lib.hid hev
  have HB := Lib.hid hB
  have r0 := hB.cell
  have r1 := hB.frozen
  have hlt := hB.lt
  clear hev hB
  go_enter Tryz.func62, Tryz.ntmps62
  go_wp2_with fail
  refine (takeNum_any A n c r.b _ hS hc hn).mono ?_
  rintro e w1 (⟨v, rest, A1, m1, c1, ht, rfl, ho⟩ | ⟨ht, rfl, hb⟩)
  · have hnum : r.num = (v, ⟨rest, r.bad⟩) := by simp only [Rd.num, ht]
    have HN := Lib.hid hnum
    have hB1 := HB.out.step ho.2
    have s0 := hB1.cell
    have s1 := hB1.frozen
    have HO := Lib.hid ho
    have HB1 := Lib.hid hB1
    have hmle := Lib.hid (show m1 ≤ 140737488355328 by
      have h1 := ow_len ho
      have h2 := takeNum_len ht
      have h3 := u8s_len hS
      omega)
    clear ht hnum ho hB1 r0 r1
    go_wp2
    go_ret
    refine ⟨by rw [HN.out]; rfl, ?_, ?_⟩
    · rw [HN.out]
      refine ⟨A1, m1, c1, ?_, ?_, HO.out.cap.1, hmle.out, fun _ a ha => .inr (((HO.out.blkT ha).set_ _ _).set_ _ _), hW0⟩
      · rw [← Hev.out, show max ev 0 = ev from Int.max_eq_left hev0]; exact (HB1.out.set_ 0 _).set_ 1 _
      · have hf : 0 < m1 → ∀ a, A1 = some a → a.block ≠ R := fun _ a ha => by have := HO.out.blk ha; omega
        exact (HO.out.sl.far (p := ⟨R, 0, none⟩) hf _).far (p := ⟨R, 1, none⟩) hf _
    · exact ((Fr.of_below (E := fun k => k = R) HO.out.2).setCell (p := ⟨R, 0, none⟩) rfl _).setCell (p := ⟨R, 1, none⟩) rfl _
  · have hnum : r.num = (0, ⟨[], true⟩) := by simp only [Rd.num, ht]
    have HN := Lib.hid hnum
    have hB1 := HB.out.step hb
    have s0 := hB1.cell
    have s1 := hB1.frozen
    have Hb := Lib.hid hb
    have HB1 := Lib.hid hB1
    have hcase : ev = 0 ∨ ev = 2 := by rw [Hev.out]; split <;> simp
    clear ht hnum hb hB1 r0 r1
    rcases hcase with rfl | rfl
    all_goals
      go_wp2
      go_ret
      refine ⟨by rw [HN.out]; rfl, ?_, ?_⟩
      · rw [HN.out]
        exact ⟨none, 0, 0, (HB1.out.set_ 0 _).set_ 1 _, Sl.nil_, Nat.le_refl _, Nat.zero_le _, fun _ a ha => (by cases ha), hW0⟩
      · exact ((Fr.of_below (E := fun k => k = R) Hb.out).setCell (p := ⟨R, 0, none⟩) rfl _).setCell (p := ⟨R, 1, none⟩) rfl _

set_option maxHeartbeats 1000000 in
set_option maxRecDepth 100000 in
theorem rdText_any (R W0 : Nat) (r : Rd) (w : World) (h : RdAt w R W0 r) : Calls Tryz.prog 35 #[.pointer (some ⟨R, 0, none⟩)] w (RetRd w R W0 (S r.text.1) r.text.2) := by
  obtain ⟨A, n, c, hB, hS, hc, hn, hne, hW0⟩ := h
  obtain ⟨ev, hev⟩ : ∃ ev : Int, ev = if r.bad then 2 else 0 := ⟨_, rfl⟩
  rw [← hev] at hB
  have hev0 : 0 ≤ ev := by rw [hev]; split <;> omega
  have hev2 : ev ≤ 2 := by rw [hev]; split <;> omega
  have Hev := Lib.hid hev
  have HB := Lib.hid hB
  have r0 := hB.cell
  have r1 := hB.frozen
  have hlt := hB.lt
  clear hev hB
  go_enter Tryz.func35, Tryz.ntmps35
  go_wp2_with fail
  refine (takeText_any A n c 1048576 r.b _ hS hc hn).mono ?_
  rintro e w1 (⟨t, rest, A1, m1, c1, ht, rfl, hS1, hc1, hblk, hb⟩ | ⟨ht, rfl, hb⟩)
  · have hnum : r.text = (t, ⟨rest, r.bad⟩) := by simp only [Rd.text, ht]
    have HN := Lib.hid hnum
    have hB1 := HB.out.step hb
    have s0 := hB1.cell
    have s1 := hB1.frozen
    have Hb := Lib.hid hb
    have HS1 := Lib.hid hS1
    have HB1 := Lib.hid hB1
    have hf : 0 < m1 → ∀ a, A1 = some a → a.block ≠ R := fun _ a ha => (hblk a ha).ne_ hB1 (by decide)
    have Hblk := Lib.hid hblk
    have Hf := Lib.hid hf
    have hmle := Lib.hid (show m1 ≤ 140737488355328 by
      have h1 := u8s_len hS1
      have h2 := takeText_len ht
      have h3 := u8s_len hS
      omega)
    clear ht hnum hb hS1 hB1 r0 r1 hf hblk
    go_wp2
    go_ret
    refine ⟨by rw [HN.out]; rfl, ?_, ?_⟩
    · rw [HN.out]
      refine ⟨A1, m1, c1, ?_, ?_, hc1, hmle.out, fun _ a ha => .inr (((Hblk.out a ha).set_ _ _).set_ _ _), hW0⟩
      · rw [← Hev.out, show max ev 0 = ev from Int.max_eq_left hev0]; exact (HB1.out.set_ 0 _).set_ 1 _
      · exact (HS1.out.far (p := ⟨R, 0, none⟩) Hf.out _).far (p := ⟨R, 1, none⟩) Hf.out _
    · exact ((Fr.of_below (E := fun k => k = R) Hb.out).setCell (p := ⟨R, 0, none⟩) rfl _).setCell (p := ⟨R, 1, none⟩) rfl _
  · have hnum : r.text = ([], ⟨[], true⟩) := by simp only [Rd.text, ht]
    have HN := Lib.hid hnum
    have hB1 := HB.out.step hb
    have s0 := hB1.cell
    have s1 := hB1.frozen
    have Hb := Lib.hid hb
    have HB1 := Lib.hid hB1
    have hcase : ev = 0 ∨ ev = 2 := by rw [Hev.out]; split <;> simp
    clear ht hnum hb hB1 r0 r1
    rcases hcase with rfl | rfl
    all_goals
      go_wp2
      go_ret
      refine ⟨by rw [HN.out]; rfl, ?_, ?_⟩
      · rw [HN.out]
        exact ⟨none, 0, 0, (HB1.out.set_ 0 _).set_ 1 _, Sl.nil_, Nat.le_refl _, Nat.zero_le _, fun _ a ha => (by cases ha), hW0⟩
      · exact ((Fr.of_below (E := fun k => k = R) Hb.out).setCell (p := ⟨R, 0, none⟩) rfl _).setCell (p := ⟨R, 1, none⟩) rfl _

theorem RdAt.step {w w' : World} {R W0 : Nat} {r : Rd} (h : RdAt w R W0 r) (hb : Below w.heap.size w w') : RdAt w' R W0 r := by
  obtain ⟨A, n, c, hB, hS, hc, hn, hne, hW⟩ := h
  exact ⟨A, n, c, hB.step hb, hS.below hb, hc, hn, fun h0 a ha => (hne h0 a ha).imp (fun h => h) (fun h => h.step hb), hW⟩
theorem RdAt.lt {w : World} {R W0 : Nat} {r : Rd} (h : RdAt w R W0 r) : R < w.heap.size := by
  obtain ⟨A, n, c, hB, _⟩ := h; exact hB.lt
/-- what changes beside a reader -/
theorem RdAt.fr {w w' : World} {R W0 : Nat} {E : Nat → Prop} {r : Rd} (h : RdAt w R W0 r) (hF : Fr E w w') (hE : ∀ k, E k → W0 ≤ k ∧ k ≠ R ∧ ¬ BlkT w k 5) : RdAt w' R W0 r := by
  obtain ⟨A, n', c, hB, hS, hc, hn, hne, hW⟩ := h
  have hbm : ∀ a, 0 < n' → A = some a → ¬ E a.block := fun a h0 ha e => by
    obtain ⟨h1, h2, h3⟩ := hE _ e
    rcases hne h0 a ha with h4 | h4
    · omega
    · exact h3 h4
  refine ⟨A, n', c, hF.blk hB (fun e => (hE _ e).2.1 rfl), ⟨hS.1, fun h0 => ?_⟩, hc, hn, fun h0 a ha => ?_, hW⟩
  · obtain ⟨b, off, rfl, hb, hcell⟩ := hS.2 h0
    exact ⟨b, off, rfl, Nat.lt_of_lt_of_le hb hF.size, fun j hj => (World.cell?_of_block (hF.block b hb (hbm _ h0 rfl))).trans (hcell j hj)⟩
  · rcases hne h0 a ha with h1 | h1
    · exact .inl h1
    · refine .inr ?_
      have hlt := h1.lt
      obtain ⟨cs, fr, h1⟩ := h1
      refine ⟨cs, fr, ?_⟩
      rw [hF.block _ hlt (hbm a h0 ha)]
      exact h1
theorem rdNum_at {R W0 : Nat} {r r' : Rd} {v : Nat} {w : World} (h : RdAt w R W0 r) (e : r.num = (v, r')) : Calls Tryz.prog 62 #[.pointer (some ⟨R, 0, none⟩)] w (RetRd w R W0 (I v) r') := by
  have := rdNum_any R W0 r w h; rwa [e] at this
theorem rdText_at {R W0 : Nat} {r r' : Rd} {v : List UInt8} {w : World} (h : RdAt w R W0 r) (e : r.text = (v, r')) : Calls Tryz.prog 35 #[.pointer (some ⟨R, 0, none⟩)] w (RetRd w R W0 (S v) r') := by
  have := rdText_any R W0 r w h; rwa [e] at this
theorem Blk.ne_ {w : World} {g g' : Nat} {t t' : TypeId} {cs cs' : Array Value} (h : Blk w g t cs) (h' : Blk w g' t' cs') (hne : t ≠ t') : g ≠ g' := by
  rintro rfl
  have h1 : w.heap[g]? = _ := h
  have h2 : w.heap[g]? = _ := h'
  rw [h1] at h2
  cases h2
  exact hne rfl
theorem Fr.new {E : Nat → Prop} {w w' : World} (h : Fr E w w') {p : Addr} (hp : w.heap.size ≤ p.block) (u : Value) : Fr E w (w'.setCell p u) :=
  ⟨h.os, h.tape, h.output, by rw [setCell_size]; exact h.size, fun k hk he => (Below.heap_setCell w' p u k (by omega)).trans (h.block k hk he)⟩
theorem RdAt.far {w : World} {R W0 g : Nat} {t : TypeId} {cs : Array Value} {r : Rd} (h : RdAt w R W0 r) (hB : Blk w g t cs) (h1 : t ≠ 5) (h2 : t ≠ 86) (hg : W0 ≤ g) {p : Addr} (hp : p.block = g) (u : Value) : RdAt (w.setCell p u) R W0 r := by
  refine h.fr (E := fun k => k = g) ((Fr.refl _ w).setCell hp u) (fun k e => ?_)
  subst e
  refine ⟨hg, ?_, fun h3 => h3.ne_ hB (fun e => h1 e.symm) rfl⟩
  obtain ⟨_, _, _, hBR, _⟩ := h
  exact hB.ne_ hBR h2
/-- wrong from now on -/
theorem RdAt.mark {w : World} {R W0 : Nat} {r : Rd} (h : RdAt w R W0 r) : RdAt (w.setCell ⟨R, 1, none⟩ (I 2)) R W0 (r.mark false) := by
  obtain ⟨A, n, c, hB, hS, hc, hn, hne, hW⟩ := h
  refine ⟨A, n, c, ?_, ?_, hc, hn, fun h0 a ha => (hne h0 a ha).imp (fun h => h) (fun h => h.set_ _ _), hW⟩
  · have := hB.set_ 1 (I 2)
    simpa [Rd.mark] using this
  · refine hS.far (p := ⟨R, 1, none⟩) (fun h0 a ha => ?_) _
    rcases hne h0 a ha with h1 | h1
    · show a.block ≠ R; omega
    · exact h1.ne_ hB (by decide)
theorem Rd.mark_true (r : Rd) : r.mark true = r := by simp [Rd.mark]
set_option maxHeartbeats 1000000 in
theorem rdValue_any (R W0 : Nat) (r : Rd) (w : World) (h : RdAt w R W0 r) : Calls Tryz.prog 36 #[.pointer (some ⟨R, 0, none⟩)] w (RetRd w R W0 (vV r.value.1) r.value.2) := by
  have H := Lib.hid h
  have B0 := Lib.hid (balloc (Below.refl _ w) (.cells #[S [], S []] 43))
  have H0 := Lib.hid (H.out.step B0.out)
  have HV := Lib.hid (Blk.new w 43 #[S [], S []])
  have hlt := h.lt
  clear h
  go_enter Tryz.func36, Tryz.ntmps36
  go_wp2_with fail
  refine (rdText_any R W0 r _ H0.out).mono ?_
  rintro e w1 ⟨rfl, h1, f1⟩
  have H1 := Lib.hid h1
  have F1 := Lib.hid f1
  have V1 := Lib.hid (f1.blk HV.out (by omega))
  clear h1 f1
  go_wp2_with fail
  refine (rdText_any R W0 _ w1 H1.out).mono ?_
  rintro e w2 ⟨rfl, h2, f2⟩
  have H2 := Lib.hid h2
  have V2 := f2.blk V1.out (by omega)
  have F2 := Lib.hid (F1.out.trans f2)
  have v2 := V2.cell
  have v3 := V2.frozen
  have HV2 := Lib.hid V2
  have hz := H0.out.lt
  have hw0 : W0 ≤ R := by obtain ⟨_, _, _, _, _, _, _, _, h⟩ := H2.out; exact h
  clear h2 f2 V2
  go_wp2
  have hB1 := HV2.out.set_ 0 (S r.text.1)
  have hB2 := hB1.set_ 1 (S r.text.2.text.1)
  have c2 := hB2.cell
  refine bodyPost_ret (v := vV r.value.1) ?_ rfl ⟨rfl, ?_, ?_⟩
  · simp [results, Tryz.results36, go_sem, c2, Rd.value]
  · exact (H2.out.far (p := ⟨w.heap.size, 0, none⟩) HV2.out (by decide) (by decide) (by omega) rfl _).far (p := ⟨w.heap.size, 1, none⟩) hB1 (by decide) (by decide) (by omega) rfl _
  · exact (((Fr.of_below (E := fun k => k = R) B0.out).trans F2.out).new (p := ⟨w.heap.size, 0, none⟩) (Nat.le_refl _) _).new (p := ⟨w.heap.size, 1, none⟩) (Nat.le_refl _) _

set_option maxHeartbeats 1000000 in
set_option maxRecDepth 100000 in
theorem many_any (R W0 : Nat) (g : FuncId) (lb : Array Value) (r : Rd) (w : World) (h : RdAt w R W0 r) (eg : ∀ args w, (callFunc g args).run Tryz.prog w = .ok (.enter g args) w) (P : Nat → Rd → World → Prop)
    (h0 : ∀ w', RdAt w' R W0 r.num.2 → Fr (fun k => k = R) w w' → P r.num.1 r.num.2 w')
    (hP : ∀ k r w, P k r w → RdAt w R W0 r)
    (hF : ∀ k r W, P (k + 1) r W → r.bad = false → Calls Tryz.prog g lb W fun e W' => ∃ (b : Bool) (r' : Rd), e = .returned (.bool b) ∧ RdAt W' R W0 r' ∧ (b = true → P k r' W') ∧ (b = false → P k (r'.mark false) (W'.setCell ⟨R, 1, none⟩ (I 2)))) :
    Calls Tryz.prog 33 #[.pointer (some ⟨R, 0, none⟩), .func (.func g) #[] lb] w fun e w' => e = .returned (.tuple #[]) ∧ ∃ k r', P k r' w' ∧ (k = 0 ∨ r'.bad = true) := by
  have H := Lib.hid h
  have H0 := Lib.hid h0
  have HP := Lib.hid hP
  have HF := Lib.hid hF
  have hN := num_lt r
  unfold top62 at hN
  clear h h0 hP hF
  go_enter Tryz.func33, Tryz.ntmps33
  go_wp2_with fail
  refine (rdNum_any R W0 r w H.out).mono ?_
  rintro e w1 ⟨rfl, h1, f1⟩
  have H1 := Lib.hid (H0.out w1 h1 f1)
  obtain ⟨N, hNe⟩ : ∃ N, N = r.num.1 := ⟨_, rfl⟩
  rw [← hNe] at hN H1 ⊢
  clear h1 f1 hNe
  go_wp2
  go_loopw [4] (fun s4 wr => ∃ (k : Nat) (r : Rd), s4 = .int .i64 k ∧ Hid (k ≤ N) ∧ Hid (P k r wr)) (fun s4 _ => (intOf s4).toNat)
  case atStart => exact ⟨N, _, rfl, Lib.hid (Nat.le_refl _), H1⟩
  case round =>
    obtain ⟨k, r, rfl, hk, hp⟩ := hrel
    have hkN := hk.out
    obtain ⟨A, n, c, hB, _⟩ := HP.out _ _ _ hp.out
    have rc := hB.cell
    clear hB
    obtain ⟨rb, bad⟩ := r
    rcases k with _ | k
    · cases bad
      all_goals
        go_wp2
        go_end0
        exact ⟨rfl, 0, _, hp.out, .inl rfl⟩
    · cases bad
      · have C := Lib.hid (HF.out k _ wr hp.out rfl)
        go_wp2_with fail
        refine C.out.mono ?_
        rintro e w2 ⟨b, r', rfl, hr, ht, hf⟩
        clear rc
        cases b
        · have hp2 := Lib.hid (hf rfl)
          obtain ⟨A, n, c, hB, _⟩ := hr
          have rc := hB.cell
          have rf := hB.frozen
          have rl := hB.lt
          clear hB ht hf
          go_wp2
          go_roundw
          case rel => exact ⟨k, _, by go_num, Lib.hid (by omega), hp2⟩
          case measure => simp [intOf]
        · have hp2 := Lib.hid (ht rfl)
          clear hr ht hf
          go_wp2
          go_roundw
          case rel => exact ⟨k, _, by go_num, Lib.hid (by omega), hp2⟩
          case measure => simp [intOf]
      · go_wp2
        go_end0
        exact ⟨rfl, _, _, hp.out, .inr rfl⟩
end Go.Proofs.YtegehaokfcamfaaGreatDoor
