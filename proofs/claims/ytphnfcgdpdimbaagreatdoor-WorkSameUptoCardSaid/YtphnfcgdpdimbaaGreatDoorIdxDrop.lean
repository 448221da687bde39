/-
  index.Index in memory; New, the closures of clear and Drop, drop, clear, Drop. Conditions: paths are shorter than 2147483648 bytes.
-/
import Derived.Test.YtphnfcgdpdimbaaGreatDoorKitX
import Derived.Test.YtphnfcgdpdimbaaGreatDoorIdxMem
import Derived.Test.YtphnfcgdpdimbaaGreatDoorKitW
import Derived.Shelf.AbstractIn
import Derived.RegionTactic
import Derived.StillTailTactics
import Derived.WalkSpells
import Derived.Deep.DeepFit
namespace Go.Proofs.YtphnfcgdpdimbaaGreatDoor
open Go.RowKit
open IdxLaw (Ent Key zE Inv inWay)
open PathLaw (under)

theorem Fr.grow {E : Nat → Prop} {a w w' : World} {row : Option Nat} (h : Fr E a w) (hg : w.grownBy w' row) (hr : ∀ k, row = some k → a.heap.size ≤ k ∨ E k) : Fr E a w' :=
  ⟨hg.os.trans h.os, hg.tape.trans h.tape, hg.output.trans h.output, Nat.le_trans h.size hg.size, fun k hk he => (hg.block k (Nat.lt_of_lt_of_le hk h.size) (fun e => by
    rcases hr k e.symm with h1 | h1
    · omega
    · exact he h1)).trans (h.block k hk he)⟩
/-- an index lies at block p, its map at block m -/
structure IdxAt (w : World) (p m : Nat) (l : List Ent) (n : Nat) : Prop where
  blk : Blk w p 154 #[.map (some m)]
  map : MapL idxC w m n (kd l)
section
variable {w w' : World} {p m n : Nat} {l : List Ent}
theorem IdxAt.fr {E : Nat → Prop} (h : IdxAt w p m l n) (hf : Fr E w w') (hp : ¬ E p) (hm : ¬ E m) : IdxAt w' p m l n := ⟨hf.blk h.blk hp, h.map.fr hf hm⟩
theorem IdxAt.step (h : IdxAt w p m l n) (hb : Below w.heap.size w w') : IdxAt w' p m l n := h.fr (E := fun _ => False) (.of_below hb) (fun h => h) (fun h => h)
theorem IdxAt.ne (h : IdxAt w p m l n) : m ≠ p := h.map.ne_blk h.blk
theorem IdxAt.mono {n' : Nat} (h : IdxAt w p m l n) (hn : n ≤ n') : IdxAt w p m l n' := ⟨h.blk, h.map.mono hn⟩
theorem IdxAt.uniq (h : IdxAt w p m l n) : IdxLaw.Uniq l := by have := h.map.nodup; rwa [kd_keys] at this
end

set_option maxHeartbeats 1000000 in
theorem new_any (w : World) : Calls Tryz.prog 23 #[] w fun e w' => ∃ p m, e = .returned (.pointer (some ⟨p, 0, none⟩)) ∧ IdxAt w' p m [] 0 ∧ w.heap.size ≤ p ∧ w.heap.size ≤ m ∧ Below w.heap.size w w' := by
  have hmm := @run_makeMap Tryz.prog
  go_enter Tryz.func23, Tryz.ntmps23
  go_wp2
  go_ret
  refine ⟨_, w.heap.size, rfl, ⟨?_, ?_⟩, ?_, Nat.le_refl _, balloc (balloc (Below.refl _ w) _) _⟩
  · have hb := Blk.new (w.alloc (.map #[] 0)) 154 #[.map (some w.heap.size)]
    simpa using hb
  · exact (MapL.made idxC w).alloc _
  · simp

set_option maxRecDepth 100000 in
set_option maxHeartbeats 1000000 in
theorem clear1_any (k : Key) (q : List UInt8) (B : Nat) (w : World) (hB : w.cell? ⟨B, 0, none⟩ = some (S q)) (hk : k.1.length ≤ 2147483648) (hq : q.length ≤ 2147483648) :
    Calls Tryz.prog 107 #[keyV k, .pointer (some ⟨B, 0, none⟩)] w fun e w' => e = .returned (.bool (inWay q k)) ∧ Below w.heap.size w w' := by
  have hlt : B < w.heap.size := World.block_lt_of_cell? _ _ hB
  have hne : w.heap.size ≠ B := by omega
  have C1 := Lib.hid (fun W => under_any k.1 q W hq)
  have C2 := Lib.hid (fun W => under_any q k.1 W hk)
  obtain ⟨kp, ks⟩ := k
  simp only at C1 C2 hk
  go_enter Tryz.func107, Tryz.ntmps107
  go_wp2_with (go_at_call 108; first | ((with_reducible refine (C1.out _).mono ?_); rintro e w' ⟨rfl, rfl⟩) | ((with_reducible refine (C2.out _).mono ?_); rintro e w' ⟨rfl, rfl⟩))
  all_goals
    go_ret
    refine ⟨ret_bool ?_, balloc (Below.refl _ w) _⟩
    unfold inWay
    simp_all

theorem drop_step {l : List Ent} {rest : List (Key × Ent)} {so : Key → Bool} {x : Key} : (if so x = true then (l.filter (fun e => !so e.key || decide (e.key ∈ rest.map (·.1)))).filter (fun e => !decide (e.key = x)) else l.filter (fun e => !so e.key || decide (e.key ∈ rest.map (·.1)))) = l.filter (fun e => !so e.key || decide (e.key ∈ (strike rest x).map (·.1))) := by
  rw [strike_keys]
  have hmem : ∀ y, y ≠ x → (y ∈ (rest.map (·.1)).filter (fun y => !decide (y = x)) ↔ y ∈ rest.map (·.1)) := by
    intro y hy
    rw [List.mem_filter]
    exact ⟨fun h => h.1, fun h => ⟨h, by simp [hy]⟩⟩
  by_cases h : so x = true
  · rw [if_pos h, List.filter_filter]
    refine List.filter_congr fun e _ => ?_
    by_cases hx : e.key = x
    · rw [hx, h]; simp
    · have h2 : decide (e.key ∈ (rest.map (·.1)).filter (fun y => !decide (y = x))) = decide (e.key ∈ rest.map (·.1)) := by rw [Bool.eq_iff_iff]; simp only [decide_eq_true_eq]; exact hmem _ hx
      rw [h2]; simp [hx]
  · rw [if_neg h]
    refine List.filter_congr fun e _ => ?_
    by_cases hx : e.key = x
    · rw [hx]; simp [h]
    · have h2 : decide (e.key ∈ (rest.map (·.1)).filter (fun y => !decide (y = x))) = decide (e.key ∈ rest.map (·.1)) := by rw [Bool.eq_iff_iff]; simp only [decide_eq_true_eq]; exact hmem _ hx
      rw [h2]
def fewer (a b : List Ent) : Bool := decide (a.length < b.length)
set_option maxRecDepth 100000 in
set_option maxHeartbeats 2000000 in
theorem drop_any (w : World) (p m n : Nat) (l : List Ent) (g : FuncId) (lb : Array Value) (so : Key → Bool) (hI : IdxAt w p m l n) (eg : ∀ args w, (callFunc g args).run Tryz.prog w = .ok (.enter g args) w)
    (hso : ∀ (k : Key) (W : World), k ∈ l.map Ent.key → Fr (fun j => j = m) w W → Calls Tryz.prog g (#[keyV k] ++ lb) W fun e W' => e = .returned (.bool (so k)) ∧ Below W.heap.size W W') :
    Calls Tryz.prog 106 #[.pointer (some ⟨p, 0, none⟩), .func (.func g) #[] lb] w fun e w' => e = .returned (.bool (fewer (l.filter (fun e => !so e.key)) l)) ∧ IdxAt w' p m (l.filter (fun e => !so e.key)) n ∧ Fr (fun j => j = m) w w' := by
  have HI := Lib.hid hI
  have hp := hI.blk.cell
  have hne := hI.ne
  have hm := hI.map
  have hmle : l.length ≤ n := by have := hm.le; simpa [kd] using this
  clear hI
  go_enter Tryz.func106, Tryz.ntmps106
  go_wp2_with (first
    | (at_len; refine wpList_lenL _ rfl _ _ rfl idxC Tryz.underlying152 m n _ rfl hm ?_)
    | (at_range; refine wpList_rangeL _ rfl _ 152 rfl idxC Tryz.underlying152 m n _ rfl hm ?_; intro w0 cnt0 hrg0 hg0 hs0))
  go_frame
  have HF0 := Lib.hid (show Fr (fun j => j = m) w w0 from Fr.of_grown hg0 (fun k e => by cases e))
  have HB0 := Lib.hid (HI.out.blk.grown hg0 (by simp))
  have hz : w0.heap.size = w.heap.size + 1 := hs0
  have Hz := Lib.hid hz
  have Hne := Lib.hid hne
  have hml := Lib.hid (hm.lt)
  clear hs0 hg0 hp hz hne
  go_loopw [6] (fun _ wr => ∃ (rest : List (Key × Ent)) (cnt : Nat), Hid (RangeL idxC wr m w.heap.size n (kd (l.filter (fun e => !so e.key || decide (e.key ∈ rest.map (·.1))))) rest cnt) ∧ Hid (∀ x ∈ rest, x ∈ kd l) ∧ Hid (Blk wr p 154 #[.map (some m)]) ∧ Hid (Fr (fun j => j = m) w wr)) (fun _ wr => wr.rangeLeft m w.heap.size)
  case atStart =>
    refine ⟨kd l, cnt0, Lib.hid ?_, Lib.hid (fun _ h => h), HB0, HF0⟩
    have e : l.filter (fun e => !so e.key || decide (e.key ∈ (kd l).map (·.1))) = l := by
      rw [List.filter_eq_self]
      intro e he
      rw [kd_keys, decide_eq_true (List.mem_map_of_mem he)]
      simp
    rw [e]
    exact hrg0
  case round =>
    obtain ⟨rest, cnt, hR, hsub, hB, hF⟩ := hrel
    have hp := hB.out.cell
    have hR' := hR.out
    go_wp2_with (first
      | (at_next; refine wpList_nextL _ rfl _ rfl idxC idxC_full m w.heap.size n _ _ cnt rfl hR' ?_ ?_)
      | fail)
    · rintro rfl
      have e1 : l.filter (fun e => !so e.key || decide (e.key ∈ ([] : List (Key × Ent)).map (·.1))) = l.filter (fun e => !so e.key) := List.filter_congr fun e _ => by simp
      rw [e1] at hR'
      have hM1 := hR'.map
      have hl1 : (kd (l.filter (fun e => !so e.key))).length = (l.filter (fun e => !so e.key)).length := by simp [kd]
      have hl2 : (kd l).length = l.length := by simp [kd]
      have Hl1 := Lib.hid hl1
      have Hl2 := Lib.hid hl2
      have HM1 := Lib.hid hM1
      clear hl1 hl2 hR' e1
      go_wp2_with (at_len; refine wpList_lenL _ rfl _ _ rfl idxC Tryz.underlying152 m n _ rfl hM1 ?_)
      go_ret
      refine ⟨ret_bool ?_, ⟨hB.out, HM1.out⟩, hF.out⟩
      rw [Hl1.out, Hl2.out]
      rfl
    · intro a b e w1 cnt1 hp1 hgd1 hR1 hlt1 hg1 hs1 hen0
      have hen : Sem.run Tryz.prog (Instr.entry (Value.pointer (some { block := w.heap.size, off := 0 }))) w1 = Result.ok (Value.tuple #[keyV (a, b), entV e]) w1 := hen0
      have Hp1 := Lib.hid hp1
      have HR1 := Lib.hid hR1
      have hF1 := Lib.hid (hF.out.grow hg1 (fun k e => by cases e; exact .inl (Nat.le_refl _)))
      clear hen0 hp1 hR1 hs1 hR'
      have hmem : Hid ((a, b) ∈ l.map Ent.key) := Lib.hid (by
        have := List.mem_map_of_mem (f := (·.1)) (hsub.out _ Hp1.out)
        rwa [kd_keys] at this)
      have C := Lib.hid (fun W => hso (a, b) W hmem.out)
      have hne1 := Lib.hid HR1.out.map.lt
      have Hstep := Lib.hid (drop_step (l := l) (rest := rest) (so := so) (x := (a, b)))
      rcases hs : so (a, b) with _ | _
      all_goals
        rw [hs] at C Hstep
        have Hs := Lib.hid hs
        clear hs
        go_wp2_with fail
        refine (C.out _ (hF1.out.step (balloc (Below.refl _ w1) _))).mono ?_
        rintro e2 w2 ⟨rfl, b2⟩
        have q2 := Lib.hid (bstep (balloc (Below.refl _ w1) (.cells #[S a, I b] 190)) b2)
        have hRa := HR1.out.step q2.out
        have HBa := Lib.hid ((hB.out.grown hg1 (by have := hB.out.lt; have := Hz.out; simp; have := HF0.out.lt HI.out.blk.lt; have := HI.out.blk.lt; omega)).step q2.out)
        have hpa := HBa.out.cell
        have hka := ((Blk.new w1 190 #[S a, I b]).step b2).cell
        clear b2
      · go_wp2
        go_roundw
        case rel => exact ⟨strike rest (a, b), cnt1, Lib.hid (by rw [← Hstep.out]; exact hRa), Lib.hid (fun x hx => hsub.out x (List.mem_filter.1 hx).1), HBa, Lib.hid (hF1.out.step q2.out)⟩
        case measure => rw [hRa.left_eq, hR.out.left_eq]; exact hlt1
      · go_wp2
        go_still_tail 5, (by kernel_rfl)
        have hno : (a, b) ∉ (strike rest (a, b)).map (·.1) := by rw [strike_keys]; simp
        go_wp2_with (at_delete; refine wpList_deleteL _ rfl _ _ 152 rfl idxC Tryz.underlying152 m w.heap.size n _ _ cnt1 rfl (hRa.step ((Below.refl _ w2).drew)) (a, b) rfl hgd1 hno ?_; intro w3 cnt3 hR3 hle3 hg3)
        go_frame
        go_roundw
        case rel => exact ⟨strike rest (a, b), cnt3, Lib.hid (by rw [← Hstep.out, if_pos trivial, ← kd_strike]; exact hR3), Lib.hid (fun x hx => hsub.out x (List.mem_filter.1 hx).1), Lib.hid (HBa.out.drew.grown hg3 (fun e => Hne.out (by cases e; rfl))), Lib.hid ((hF1.out.step q2.out).drew.grow hg3 (fun k e => by cases e; exact .inr rfl))⟩
        case measure => rw [hR3.left_eq, hR.out.left_eq]; omega

theorem Fr.box {m : Nat} {w W : World} {B : Nat} {t : TypeId} {v : Value} (hf : Fr (fun j => j = m) (w.alloc (.cells #[v] t)) W) (hB : B = w.heap.size) (hm : m < w.heap.size) : W.cell? ⟨B, 0, none⟩ = some v := by
  subst hB
  have h := hf.cell (p := ⟨w.heap.size, 0, none⟩) (by simp) (by show ¬ w.heap.size = m; omega)
  rw [h]
  simp
set_option maxHeartbeats 1000000 in
theorem clear_any (w : World) (p m n : Nat) (l : List Ent) (q : List UInt8) (hI : IdxAt w p m l n) (hq : q.length ≤ 2147483648) (hl : ∀ e ∈ l, e.path.length ≤ 2147483648) :
    Calls Tryz.prog 40 #[.pointer (some ⟨p, 0, none⟩), S q] w fun e w' => e = .returned (.tuple #[]) ∧ IdxAt w' p m (IdxLaw.clear l q) n ∧ Fr (fun j => j = m) w w' := by
  have hm := hI.map.lt
  have C := Lib.hid (drop_any (w.alloc (.cells #[S q] 9)) p m n l 107 #[.pointer (some ⟨w.heap.size, 0, none⟩)] (inWay q) (hI.step (balloc (Below.refl _ w) _)) (enters_of Tryz.func107 (by kernel_rfl) rfl)
    (fun k W hk hf => clear1_any k q w.heap.size W (hf.box rfl hm) (by obtain ⟨e, he, rfl⟩ := List.mem_map.1 hk; exact hl e he) hq))
  clear hI
  go_enter Tryz.func40, Tryz.ntmps40
  go_wp2_with (go_at_call 106; refine C.out.mono ?_; rintro e w2 ⟨rfl, hI2, hF2⟩)
  go_end0
  exact ⟨rfl, hI2, (Fr.of_below (balloc (Below.refl _ w) _)).trans hF2⟩
end Go.Proofs.YtphnfcgdpdimbaaGreatDoor
