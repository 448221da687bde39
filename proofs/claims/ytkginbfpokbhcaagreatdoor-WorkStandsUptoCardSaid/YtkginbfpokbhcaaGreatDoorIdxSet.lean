/-
  index: lay, Set, Find, Fresh. Conditions: paths are shorter than 2147483648 bytes; MaxLen holds an int.
-/
import Derived.Test.YtkginbfpokbhcaaGreatDoorIdxRight
namespace Go.Proofs.YtkginbfpokbhcaaGreatDoor
open Go.RowKit
open IdxLaw (Ent Key zE Inv inWay inN)

set_option maxRecDepth 100000 in
set_option maxHeartbeats 2000000 in
theorem lay_any (w : World) (p m n : Nat) (l : List Ent) (x : Ent) (hI : IdxAt w p m l n) (hn : n ≤ 1000000) (hg : goodK x.key) :
    Calls Tryz.prog 74 #[.pointer (some ⟨p, 0, none⟩), entV x] w fun e w' => e = .returned (.tuple #[]) ∧ IdxAt w' p m (x :: l.filter (fun e => !decide (e.key = x.key))) (n + 1) ∧ Fr (fun j => j = m) w w' := by
  have hb := hI.blk.alloc (.cells #[S x.path, I x.stage, S x.id, I x.size, I x.stamp] 54)
  have hc := hb.cell
  have HB := Lib.hid hb
  have hm := hI.map.alloc (.cells #[S x.path, I x.stage, S x.id, I x.size, I x.stamp] 54)
  have qT : ∀ (w : World) (r : Option Nat), (binOp .eql 120 (.map r) (.map none)).run Tryz.prog w = .ok (.bool r.isNone) w := fun w r => Go.run_eql_map_nil w _ _ _ r Tryz.underlying120
  have hne := Lib.hid hI.ne
  have hn' : n < maxLen := by unfold maxLen; omega
  clear hI hb
  go_enter Tryz.func74, Tryz.ntmps74
  go_wp2
  generalize hW1 : w.alloc (.cells #[S x.path, I x.stage, S x.id, I x.size, I x.stamp] 54) = W1 at *
  have HF := Lib.hid (show Fr (fun j => j = m) w W1 from hW1 ▸ Fr.of_below (balloc (Below.refl _ w) _))
  have hx := Lib.hid (show Blk W1 w.heap.size 54 #[S x.path, I x.stage, S x.id, I x.size, I x.stamp] from hW1 ▸ Blk.new w _ _)
  have rx := hx.out.cell
  clear hW1
  go_still_tail 10, (by kernel_rfl)
  go_wp2_with (at_mapUpdate; refine wpList_storeL _ rfl _ _ _ 120 rfl idxC Tryz.underlying120 m n _ rfl hm.drew hn' x.key rfl hg x rfl ?_; intro W2 hm2 hg2)
  go_end0
  rw [layL, kd_strike] at hm2
  exact ⟨rfl, ⟨HB.out.drew.grown hg2 (fun e => hne.out (by cases e; rfl)), hm2⟩, HF.out.drew.trans (Fr.of_grown hg2 (fun k e => by cases e; rfl))⟩

theorem right_path {x : Ent} (h : IdxLaw.right x = true) : x.path.length ≤ 150 := by
  unfold IdxLaw.right PathLaw.named at h
  simp only [Bool.and_eq_true, decide_eq_true_eq] at h
  exact h.1.2.2
theorem right_good {x : Ent} (h : IdxLaw.right x = true) : goodK x.key := by
  have h1 := right_path h
  refine ⟨?_, ?_⟩
  · show x.path.length ≤ maxLen
    unfold maxLen
    omega
  · unfold IdxLaw.right at h
    simp only [Bool.and_eq_true, decide_eq_true_eq] at h
    show (Lit.int .i64 x.stage).wf = true
    exact WalkArith.wf_i64 (by omega)
theorem set_yes {l : List Ent} {x : Ent} (h : IdxLaw.right x = true) (h0 : x.stage = 0) : IdxLaw.set l x = (0, x :: IdxLaw.clear l x.path) := by rw [IdxLaw.set, if_pos ⟨h, h0⟩]
theorem set_no {l : List Ent} {x : Ent} (h : IdxLaw.right x = false ∨ x.stage ≠ 0) : IdxLaw.set l x = (1, l) := by
  rw [IdxLaw.set, if_neg]
  rintro ⟨h1, h2⟩
  rcases h with h | h
  · rw [h1] at h; cases h
  · exact h h2
theorem clear_no (l : List Ent) (x : Ent) : (IdxLaw.clear l x.path).filter (fun e => !decide (e.key = x.key)) = IdxLaw.clear l x.path := by
  rw [List.filter_eq_self]
  intro e he
  have h := IdxLaw.inWay_no (by simpa using (List.mem_filter.1 he).2)
  have : e.key ≠ x.key := fun h2 => h.1 (congrArg Prod.fst h2)
  simp [this]

set_option maxRecDepth 100000 in
set_option maxHeartbeats 2000000 in
theorem set_any (w : World) (p m n : Nat) (l : List Ent) (x : Ent) (hI : IdxAt w p m l n) (hn : n ≤ 1000000) (hl : ∀ e ∈ l, IdxLaw.right e = true) (hx : x.path.length ≤ 2147483648) (hM : MaxL w) :
    Calls Tryz.prog 31 #[.pointer (some ⟨p, 0, none⟩), entV x] w fun e w' => e = .returned (I ((IdxLaw.set l x).1 : Nat)) ∧ IdxAt w' p m (IdxLaw.set l x).2 (n + 1) ∧ Fr (fun j => j = m) w w' := by
  have hm := hI.map.lt
  have HI := Lib.hid (hI.step (balloc (Below.refl _ w) (.cells #[S x.path, I x.stage, S x.id, I x.size, I x.stamp] 54)))
  have HM := Lib.hid (hM.step (balloc (Below.refl _ w) (.cells #[S x.path, I x.stage, S x.id, I x.size, I x.stamp] 54)))
  have HX := Lib.hid (Blk.new w 54 #[S x.path, I x.stage, S x.id, I x.size, I x.stamp])
  have C1 := Lib.hid (fun W h => right_any x W hx h)
  have Hl := Lib.hid hl
  clear hI hM hl
  have hcase : IdxLaw.right x = false ∨ (IdxLaw.right x = true ∧ x.stage ≠ 0) ∨ (IdxLaw.right x = true ∧ x.stage = 0) := by
    cases IdxLaw.right x <;> simp <;> omega
  rcases hcase with h | ⟨h, h0⟩ | ⟨h, h0⟩
  · rw [set_no (.inl h)]
    rw [h] at C1
    go_enter Tryz.func31, Tryz.ntmps31
    go_wp2_with (go_at_call 72; refine (C1.out _ HM.out).mono ?_; rintro e w2 ⟨rfl, b2⟩; have B2 := Lib.hid b2; clear b2)
    go_ret
    exact ⟨rfl, (HI.out.step B2.out).mono (Nat.le_succ n), Fr.of_below (bstep (balloc (Below.refl _ w) _) B2.out)⟩
  · rw [set_no (.inr h0)]
    rw [h] at C1
    go_enter Tryz.func31, Tryz.ntmps31
    go_wp2_with (go_at_call 72; refine (C1.out _ HM.out).mono ?_; rintro e w2 ⟨rfl, b2⟩; have B2 := Lib.hid b2; have rx := (HX.out.step b2).cell; clear b2)
    go_ret
    exact ⟨rfl, (HI.out.step B2.out).mono (Nat.le_succ n), Fr.of_below (bstep (balloc (Below.refl _ w) _) B2.out)⟩
  · rw [set_yes h h0]
    have HG := Lib.hid (right_good h)
    have HP := Lib.hid (right_path h)
    rw [h] at C1
    have C2 := Lib.hid (fun W h => clear_any W p m n l x.path h hx (fun e he => Nat.le_trans (right_path (Hl.out e he)) (by omega)))
    have C3 := Lib.hid (fun W h => lay_any W p m n (IdxLaw.clear l x.path) x h hn HG.out)
    rw [clear_no] at C3
    have h0' : (x.stage == 0) = true := beq_iff_eq.2 h0
    have H0 := Lib.hid h0
    clear h h0
    go_enter Tryz.func31, Tryz.ntmps31
    go_wp2_with (first
      | (go_at_call 72; refine (C1.out _ HM.out).mono ?_; rintro e w2 ⟨rfl, b2⟩; have B2 := Lib.hid b2; have hx2 := HX.out.step b2; have rx := hx2.cell; have HX2 := Lib.hid hx2; clear b2 hx2)
      | (go_at_call 73; refine (C2.out _ (HI.out.step B2.out)).mono ?_; rintro e w3 ⟨rfl, hI3, hF3⟩; have HI3 := Lib.hid hI3; have HF3 := Lib.hid hF3; have rx3 := (hF3.blk HX2.out (by show ¬ w.heap.size = m; omega)).cell; clear hI3 hF3)
      | (go_at_call 74; refine (C3.out _ HI3.out).mono ?_; rintro e w4 ⟨rfl, hI4, hF4⟩; have HI4 := Lib.hid hI4; have HF4 := Lib.hid hF4; clear hI4 hF4))
    go_ret
    exact ⟨rfl, HI4.out, ((Fr.of_below (bstep (balloc (Below.refl _ w) _) B2.out)).trans HF3.out).trans HF4.out⟩

theorem Tryz.zeroE (w : World) : (zeroValue 54).run Tryz.prog w = .ok (idxC.vv zE) w := by kernel_rfl
set_option maxHeartbeats 1000000 in
theorem find_any (w : World) (p m n : Nat) (l : List Ent) (q : List UInt8) (st : Int) (hI : IdxAt w p m l n) (hg : goodK (q, st)) :
    Calls Tryz.prog 21 #[.pointer (some ⟨p, 0, none⟩), S q, I st] w fun e w' => e = .returned (.tuple #[entV ((IdxLaw.find l (q, st)).getD zE), .bool (IdxLaw.find l (q, st)).isSome]) ∧ Below w.heap.size w w' := by
  have hb := (hI.blk.alloc (.cells #[S [], I 0, S [], I 0, I 0] 54)).cell
  have hm := hI.map.is.alloc (.cells #[S [], I 0, S [], I 0, I 0] 54)
  generalize hf : IdxLaw.find l (q, st) = o
  have e0 : lk (kd l) (q, st) = o := (lk_kd l (q, st)).trans hf
  generalize hx : o.getD zE = x
  generalize ho : o.isSome = b
  have e1 := Lib.hid (show idxC.vv ((lk (kd l) (q, st)).getD zE) = .agg #[S x.path, I x.stage, S x.id, I x.size, I x.stamp] by rw [e0, hx]; rfl)
  have e2 := Lib.hid (show (lk (kd l) (q, st)).isSome = b by rw [e0, ho])
  clear hI hf e0 hx ho
  go_enter Tryz.func21, Tryz.ntmps21
  go_wp2_with (at_lookup; refine wpList_look_ok _ rfl _ _ 120 rfl idxC Tryz.underlying120 zE (Tryz.zeroE _) m n _ rfl hm (q, st) rfl hg ?_; rw [e1.out, e2.out])
  refine bodyPost_ret (v := .tuple #[entV x, .bool b]) (by simp [results, Tryz.results21, go_sem]) rfl ⟨rfl, ?_⟩
  exact balloc (balloc (Below.refl _ w) _) _

def freshB (o : Option Ent) (size stamp now : Int) : Bool := match o with
  | none => false
  | some e => decide (e.size = size) && (decide (e.stamp = stamp) && decide (stamp < now))
set_option maxRecDepth 100000 in
set_option maxHeartbeats 1000000 in
theorem fresh_any (w : World) (p m n : Nat) (l : List Ent) (q : List UInt8) (size stamp now : Int) (hI : IdxAt w p m l n) (hg : q.length ≤ maxLen) :
    Calls Tryz.prog 78 #[.pointer (some ⟨p, 0, none⟩), S q, I size, I stamp, I now] w fun e w' => e = .returned (.bool (freshB (IdxLaw.find l (q, 0)) size stamp now)) ∧ Below w.heap.size w w' := by
  have C1 := find_any w p m n l q 0 hI ⟨hg, WalkArith.wf_i64 (by omega)⟩
  clear hI
  rcases hf : IdxLaw.find l (q, 0) with _ | x
  · rw [hf] at C1
    have C := Lib.hid C1
    clear C1 hf
    go_enter Tryz.func78, Tryz.ntmps78
    go_wp2_with (go_at_call 21; refine C.out.mono ?_; rintro e w2 ⟨rfl, b2⟩; have B2 := Lib.hid b2; clear b2)
    go_ret
    exact ⟨rfl, balloc B2.out _⟩
  · rw [hf] at C1
    have C := Lib.hid C1
    clear C1 hf
    obtain ⟨path, stage, id, sz, sp⟩ := x
    by_cases h1 : sz = size <;> by_cases h2 : sp = stamp
    all_goals
      go_enter Tryz.func78, Tryz.ntmps78
      go_wp2_with (go_at_call 21; refine C.out.mono ?_; rintro e w2 ⟨rfl, b2⟩; have B2 := Lib.hid b2; clear b2)
    all_goals
      go_ret
      refine ⟨ret_bool ?_, balloc B2.out _⟩
      clear B2 C
      unfold freshB
      grind
end Go.Proofs.YtkginbfpokbhcaaGreatDoor
