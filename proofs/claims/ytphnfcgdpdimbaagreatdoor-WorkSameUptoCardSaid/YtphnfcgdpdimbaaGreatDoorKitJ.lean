/-
  Base texts, merged by a program (mkkit.py): words for slices, blocks, maps, regions that draw their order, the plain law of paths and of an index. Conditions: each lemma's own.
-/
import Derived.Test.YtphnfcgdpdimbaaGreatDoorIdxDrop
import Derived.Maps.Ext
import Derived.Test.YtphnfcgdpdimbaaGreatDoorKitI
import Derived.BigQuiet
/-
  index: Entry.right. Conditions: paths are shorter than 2147483648 bytes; MaxLen holds an int.
-/
namespace Go.Proofs.YtphnfcgdpdimbaaGreatDoor
open Go.RowKit
open IdxLaw (Ent Key zE Inv inWay inN)

theorem inN_any (n : Int) (w : World) : Calls Tryz.prog 104 #[I n] w fun e w' => e = .returned (.bool (inN n)) ∧ w = w' := by
  go_enter Tryz.func104, Tryz.ntmps104
  go_wp2
  all_goals
    go_ret
    refine ⟨ret_bool ?_, rfl⟩
    unfold inN
    grind

set_option maxRecDepth 100000 in
set_option maxHeartbeats 2000000 in
theorem right_any (x : Ent) (w : World) (hx : x.path.length ≤ 2147483648) (hM : MaxL w) :
    Calls Tryz.prog 39 #[entV x] w fun e w' => e = .returned (.bool (IdxLaw.right x)) ∧ Below w.heap.size w w' := by
  have C1 := Lib.hid (fun W (h : MaxL W) => named_any x.path W hx h)
  have C2 := Lib.hid (fun W => inN_any x.size W)
  have C3 := Lib.hid (fun W => inN_any x.stamp W)
  have HM := Lib.hid (hM.step (balloc (Below.refl _ w) (.cells #[S x.path, I x.stage, S x.id, I x.size, I x.stamp] 40)))
  have hR := Blk.new w 40 #[S x.path, I x.stage, S x.id, I x.size, I x.stamp]
  have HR := Lib.hid hR
  clear hR
  obtain ⟨path, stage, id, size, stamp⟩ := x
  simp only at *
  have hcase : stage = 0 ∨ (stage ≠ 0 ∧ size = 0) ∨ (stage ≠ 0 ∧ size ≠ 0) := by omega
  rcases hcase with rfl | ⟨h0, rfl⟩ | ⟨h0, h1⟩
  all_goals
    go_enter Tryz.func39, Tryz.ntmps39
    go_wp2_with (first
      | (go_at_call 105; refine (C1.out _ HM.out).mono ?_; rintro e w2 ⟨rfl, b2⟩; have B2 := Lib.hid (bstep (balloc (Below.refl _ w) _) b2); have hc2 := (HR.out.step b2).cell; clear b2)
      | (go_at_call 104; first | ((with_reducible refine (C2.out _).mono ?_); rintro e w' ⟨rfl, rfl⟩) | ((with_reducible refine (C3.out _).mono ?_); rintro e w' ⟨rfl, rfl⟩)))
  all_goals
    go_ret
    refine ⟨ret_bool ?_, B2.out⟩
    clear B2 hc2 C1 C2 C3 HM HR
    unfold IdxLaw.right IdxLaw.bare
    grind
end Go.Proofs.YtphnfcgdpdimbaaGreatDoor

/-
  index: lay, Set, Find, Fresh. Conditions: paths are shorter than 2147483648 bytes; MaxLen holds an int.
-/
namespace Go.Proofs.YtphnfcgdpdimbaaGreatDoor
open Go.RowKit
open IdxLaw (Ent Key zE Inv inWay inN)

set_option maxRecDepth 100000 in
set_option maxHeartbeats 2000000 in
theorem lay_any (w : World) (p m n : Nat) (l : List Ent) (x : Ent) (hI : IdxAt w p m l n) (hn : n ≤ 1000000) (hg : goodK x.key) :
    Calls Tryz.prog 41 #[.pointer (some ⟨p, 0, none⟩), entV x] w fun e w' => e = .returned (.tuple #[]) ∧ IdxAt w' p m (x :: l.filter (fun e => !decide (e.key = x.key))) (n + 1) ∧ Fr (fun j => j = m) w w' := by
  have hb := hI.blk.alloc (.cells #[S x.path, I x.stage, S x.id, I x.size, I x.stamp] 40)
  have hc := hb.cell
  have HB := Lib.hid hb
  have hm := hI.map.alloc (.cells #[S x.path, I x.stage, S x.id, I x.size, I x.stamp] 40)
  have qT : ∀ (w : World) (r : Option Nat), (binOp .eql 152 (.map r) (.map none)).run Tryz.prog w = .ok (.bool r.isNone) w := fun w r => Go.run_eql_map_nil w _ _ _ r Tryz.underlying152
  have hne := Lib.hid hI.ne
  have hn' : n < maxLen := by unfold maxLen; omega
  clear hI hb
  go_enter Tryz.func41, Tryz.ntmps41
  go_wp2
  generalize hW1 : w.alloc (.cells #[S x.path, I x.stage, S x.id, I x.size, I x.stamp] 40) = W1 at *
  have HF := Lib.hid (show Fr (fun j => j = m) w W1 from hW1 ▸ Fr.of_below (balloc (Below.refl _ w) _))
  have hx := Lib.hid (show Blk W1 w.heap.size 40 #[S x.path, I x.stage, S x.id, I x.size, I x.stamp] from hW1 ▸ Blk.new w _ _)
  have rx := hx.out.cell
  clear hW1
  go_still_tail 10, (by kernel_rfl)
  go_wp2_with (at_mapUpdate; refine wpList_storeL _ rfl _ _ _ 152 rfl idxC Tryz.underlying152 m n _ rfl hm.drew hn' x.key rfl hg x rfl ?_; intro W2 hm2 hg2)
  go_end0
  rw [layL, kd_strike] at hm2
  exact ⟨rfl, ⟨HB.out.drew.grown hg2 (fun e => hne.out (by cases e; rfl)), hm2⟩, HF.out.drew.trans (Fr.of_grown hg2 (fun k e => by cases e; rfl))⟩

theorem right_path {x : Ent} (h : IdxLaw.right x = true) : x.path.length ≤ 150 := by
  unfold IdxLaw.right PathLaw.named at h
  simp only [Bool.and_eq_true, decide_eq_true_eq] at h
  exact h.1.2.2
theorem right_good {x : Ent} (h : IdxLaw.right x = true) : goodK x.key := by
  have h1 := right_path h
  refine ⟨?_, ?_⟩
  · show x.path.length ≤ maxLen
    unfold maxLen
    omega
  · unfold IdxLaw.right at h
    simp only [Bool.and_eq_true, decide_eq_true_eq] at h
    show (Lit.int .i64 x.stage).wf = true
    exact WalkArith.wf_i64 (by omega)
theorem set_yes {l : List Ent} {x : Ent} (h : IdxLaw.right x = true) (h0 : x.stage = 0) : IdxLaw.set l x = (0, x :: IdxLaw.clear l x.path) := by rw [IdxLaw.set, if_pos ⟨h, h0⟩]
theorem set_no {l : List Ent} {x : Ent} (h : IdxLaw.right x = false ∨ x.stage ≠ 0) : IdxLaw.set l x = (1, l) := by
  rw [IdxLaw.set, if_neg]
  rintro ⟨h1, h2⟩
  rcases h with h | h
  · rw [h1] at h; cases h
  · exact h h2
theorem clear_no (l : List Ent) (x : Ent) : (IdxLaw.clear l x.path).filter (fun e => !decide (e.key = x.key)) = IdxLaw.clear l x.path := by
  rw [List.filter_eq_self]
  intro e he
  have h := IdxLaw.inWay_no (by simpa using (List.mem_filter.1 he).2)
  have : e.key ≠ x.key := fun h2 => h.1 (congrArg Prod.fst h2)
  simp [this]

set_option maxRecDepth 100000 in
set_option maxHeartbeats 2000000 in
theorem set_any (w : World) (p m n : Nat) (l : List Ent) (x : Ent) (hI : IdxAt w p m l n) (hn : n ≤ 1000000) (hl : ∀ e ∈ l, IdxLaw.right e = true) (hx : x.path.length ≤ 2147483648) (hM : MaxL w) :
    Calls Tryz.prog 9 #[.pointer (some ⟨p, 0, none⟩), entV x] w fun e w' => e = .returned (I ((IdxLaw.set l x).1 : Nat)) ∧ IdxAt w' p m (IdxLaw.set l x).2 (n + 1) ∧ Fr (fun j => j = m) w w' := by
  have hm := hI.map.lt
  have HI := Lib.hid (hI.step (balloc (Below.refl _ w) (.cells #[S x.path, I x.stage, S x.id, I x.size, I x.stamp] 40)))
  have HM := Lib.hid (hM.step (balloc (Below.refl _ w) (.cells #[S x.path, I x.stage, S x.id, I x.size, I x.stamp] 40)))
  have HX := Lib.hid (Blk.new w 40 #[S x.path, I x.stage, S x.id, I x.size, I x.stamp])
  have C1 := Lib.hid (fun W h => right_any x W hx h)
  have Hl := Lib.hid hl
  clear hI hM hl
  have hcase : IdxLaw.right x = false ∨ (IdxLaw.right x = true ∧ x.stage ≠ 0) ∨ (IdxLaw.right x = true ∧ x.stage = 0) := by
    cases IdxLaw.right x <;> simp <;> omega
  rcases hcase with h | ⟨h, h0⟩ | ⟨h, h0⟩
  · rw [set_no (.inl h)]
    rw [h] at C1
    go_enter Tryz.func9, Tryz.ntmps9
    go_wp2_with (go_at_call 39; refine (C1.out _ HM.out).mono ?_; rintro e w2 ⟨rfl, b2⟩; have B2 := Lib.hid b2; clear b2)
    go_ret
    exact ⟨rfl, (HI.out.step B2.out).mono (Nat.le_succ n), Fr.of_below (bstep (balloc (Below.refl _ w) _) B2.out)⟩
  · rw [set_no (.inr h0)]
    rw [h] at C1
    go_enter Tryz.func9, Tryz.ntmps9
    go_wp2_with (go_at_call 39; refine (C1.out _ HM.out).mono ?_; rintro e w2 ⟨rfl, b2⟩; have B2 := Lib.hid b2; have rx := (HX.out.step b2).cell; clear b2)
    go_ret
    exact ⟨rfl, (HI.out.step B2.out).mono (Nat.le_succ n), Fr.of_below (bstep (balloc (Below.refl _ w) _) B2.out)⟩
  · rw [set_yes h h0]
    have HG := Lib.hid (right_good h)
    have HP := Lib.hid (right_path h)
    rw [h] at C1
    have C2 := Lib.hid (fun W h => clear_any W p m n l x.path h hx (fun e he => Nat.le_trans (right_path (Hl.out e he)) (by omega)))
    have C3 := Lib.hid (fun W h => lay_any W p m n (IdxLaw.clear l x.path) x h hn HG.out)
    rw [clear_no] at C3
    have h0' : (x.stage == 0) = true := beq_iff_eq.2 h0
    have H0 := Lib.hid h0
    clear h h0
    go_enter Tryz.func9, Tryz.ntmps9
    go_wp2_with (first
      | (go_at_call 39; refine (C1.out _ HM.out).mono ?_; rintro e w2 ⟨rfl, b2⟩; have B2 := Lib.hid b2; have hx2 := HX.out.step b2; have rx := hx2.cell; have HX2 := Lib.hid hx2; clear b2 hx2)
      | (go_at_call 40; refine (C2.out _ (HI.out.step B2.out)).mono ?_; rintro e w3 ⟨rfl, hI3, hF3⟩; have HI3 := Lib.hid hI3; have HF3 := Lib.hid hF3; have rx3 := (hF3.blk HX2.out (by show ¬ w.heap.size = m; omega)).cell; clear hI3 hF3)
      | (go_at_call 41; refine (C3.out _ HI3.out).mono ?_; rintro e w4 ⟨rfl, hI4, hF4⟩; have HI4 := Lib.hid hI4; have HF4 := Lib.hid hF4; clear hI4 hF4))
    go_ret
    exact ⟨rfl, HI4.out, ((Fr.of_below (bstep (balloc (Below.refl _ w) _) B2.out)).trans HF3.out).trans HF4.out⟩

theorem Tryz.zeroE (w : World) : (zeroValue 40).run Tryz.prog w = .ok (idxC.vv zE) w := by kernel_rfl
set_option maxHeartbeats 1000000 in
theorem find_any (w : World) (p m n : Nat) (l : List Ent) (q : List UInt8) (st : Int) (hI : IdxAt w p m l n) (hg : goodK (q, st)) :
    Calls Tryz.prog 48 #[.pointer (some ⟨p, 0, none⟩), S q, I st] w fun e w' => e = .returned (.tuple #[entV ((IdxLaw.find l (q, st)).getD zE), .bool (IdxLaw.find l (q, st)).isSome]) ∧ Below w.heap.size w w' := by
  have hb := (hI.blk.alloc (.cells #[S [], I 0, S [], I 0, I 0] 40)).cell
  have hm := hI.map.is.alloc (.cells #[S [], I 0, S [], I 0, I 0] 40)
  generalize hf : IdxLaw.find l (q, st) = o
  have e0 : lk (kd l) (q, st) = o := (lk_kd l (q, st)).trans hf
  generalize hx : o.getD zE = x
  generalize ho : o.isSome = b
  have e1 := Lib.hid (show idxC.vv ((lk (kd l) (q, st)).getD zE) = .agg #[S x.path, I x.stage, S x.id, I x.size, I x.stamp] by rw [e0, hx]; rfl)
  have e2 := Lib.hid (show (lk (kd l) (q, st)).isSome = b by rw [e0, ho])
  clear hI hf e0 hx ho
  go_enter Tryz.func48, Tryz.ntmps48
  go_wp2_with (at_lookup; refine wpList_look_ok _ rfl _ _ 152 rfl idxC Tryz.underlying152 zE (Tryz.zeroE _) m n _ rfl hm (q, st) rfl hg ?_; rw [e1.out, e2.out])
  refine bodyPost_ret (v := .tuple #[entV x, .bool b]) (by simp [results, Tryz.results48, go_sem]) rfl ⟨rfl, ?_⟩
  exact balloc (balloc (Below.refl _ w) _) _

def freshB (o : Option Ent) (size stamp now : Int) : Bool := match o with
  | none => false
  | some e => decide (e.size = size) && (decide (e.stamp = stamp) && decide (stamp < now))
set_option maxRecDepth 100000 in
set_option maxHeartbeats 1000000 in
theorem fresh_any (w : World) (p m n : Nat) (l : List Ent) (q : List UInt8) (size stamp now : Int) (hI : IdxAt w p m l n) (hg : q.length ≤ maxLen) :
    Calls Tryz.prog 49 #[.pointer (some ⟨p, 0, none⟩), S q, I size, I stamp, I now] w fun e w' => e = .returned (.bool (freshB (IdxLaw.find l (q, 0)) size stamp now)) ∧ Below w.heap.size w w' := by
  have C1 := find_any w p m n l q 0 hI ⟨hg, WalkArith.wf_i64 (by omega)⟩
  clear hI
  rcases hf : IdxLaw.find l (q, 0) with _ | x
  · rw [hf] at C1
    have C := Lib.hid C1
    clear C1 hf
    go_enter Tryz.func49, Tryz.ntmps49
    go_wp2_with (go_at_call 48; refine C.out.mono ?_; rintro e w2 ⟨rfl, b2⟩; have B2 := Lib.hid b2; clear b2)
    go_ret
    exact ⟨rfl, balloc B2.out _⟩
  · rw [hf] at C1
    have C := Lib.hid C1
    clear C1 hf
    obtain ⟨path, stage, id, sz, sp⟩ := x
    by_cases h1 : sz = size <;> by_cases h2 : sp = stamp
    all_goals
      go_enter Tryz.func49, Tryz.ntmps49
      go_wp2_with (go_at_call 48; refine C.out.mono ?_; rintro e w2 ⟨rfl, b2⟩; have B2 := Lib.hid b2; clear b2)
    all_goals
      go_ret
      refine ⟨ret_bool ?_, balloc B2.out _⟩
      clear B2 C
      unfold freshB
      grind
end Go.Proofs.YtphnfcgdpdimbaaGreatDoor

/-
  The document's index in memory: its entries as a list; right, Find, Fresh. Conditions: paths are shorter than 2147483648 bytes; no more than 1000000 entries.
-/
namespace Go.Proofs.YtphnfcgdpdimbaaGreatDoor
open Go.RowKit
open IdxLaw (Ent Key zE)

/-- the document's index at block q: its entries are l; E: blocks that others turn, and q -/
def RIx (E : Nat → Prop) (w : World) (q : Nat) (l : List Ent) : Prop :=
  E q ∧ (∀ k, E k → k < w.heap.size) ∧ ∃ A c, Blk w q 95 #[.slice A l.length c] ∧ l.length ≤ c ∧ SlF E w 5 A l.length (ents l)
section
variable {E F : Nat → Prop} {w w0 w' : World} {q : Nat} {l l' : List Ent}
theorem RIx.fr (h : RIx E w q l) (hf : Fr F w w') (hF : ∀ k, F k → E k) (hq : ¬ F q) : RIx E w' q l := by
  obtain ⟨h1, h2, A, c, hB, hc, hS⟩ := h
  refine ⟨h1, fun k hk => Nat.lt_of_lt_of_le (h2 k hk) hf.size, A, c, hf.blk hB hq, hc, ((hS.weak hF).fr hf).1, fun b off hn e => hS.2 b off hn e⟩
theorem RIx.step (h : RIx E w q l) (hb : Below w.heap.size w w') : RIx E w' q l := h.fr (F := fun _ => False) (.of_below hb) (fun _ h => h.elim) (fun h => h)
theorem RIx.put {e : TypeId} {n c : Nat} {A : Option Addr} (h : RIx E w0 q l) (hO : Ow w0 w e 5 A n c (ents l')) : RIx E (w.setCell ⟨q, 0, none⟩ (.slice A n c)) q l' := by
  obtain ⟨h1, h2, A0, c0, hB, _, _⟩ := h
  obtain rfl : l'.length = n := ents_count hO.sl
  have hb := (hB.step hO.2).set_ 0 (.slice A l'.length c)
  have hne : ∀ b off, 0 < l'.length → A = some ⟨b, off, none⟩ → ¬ E b := fun b off hn e hE => by
    have h3 := hO.blk e
    have h4 := h2 b hE
    simp only at h3
    omega
  refine ⟨h1, fun k hk => ?_, A, c, by simpa using hb, hO.cap.1, ?_⟩
  · have h3 := h2 k hk
    have h4 := hO.2.size
    rw [setCell_size]
    omega
  · have h5 : SlF (fun k => k = q) w 5 A l'.length (ents l') := ⟨hO.sl, fun b off hn e hE => hne b off hn e (by rw [hE]; exact h1)⟩
    exact ⟨(h5.fr (Fr.setCell (E := fun k => k = q) (p := ⟨q, 0, none⟩) (Fr.refl _ w) rfl (.slice A l'.length c))).1, hne⟩
theorem RIx.new (w : World) (F : Nat → Prop) (hF : ∀ k, F k → k < w.heap.size) : RIx (fun k => F k ∨ k = w.heap.size) (w.alloc (.cells #[.slice none 0 0] 95)) w.heap.size [] :=
  ⟨.inr rfl, fun k hk => by
    rw [World.size_alloc]
    rcases hk with h | h
    · have := hF k h; omega
    · omega, none, 0, Blk.new w 95 #[.slice none 0 0], Nat.le_refl _, SlF.nil_⟩
theorem fr_put {e : TypeId} {n c : Nat} {A : Option Addr} {xs : List Value} (hO : Ow w0 w e 5 A n c xs) (q : Nat) (v : Value) : Fr (fun k => k = q) w0 (w.setCell ⟨q, 0, none⟩ v) := Fr.setCell (E := fun k => k = q) (p := ⟨q, 0, none⟩) (Fr.of_below hO.2) rfl v
end

set_option maxRecDepth 100000 in
set_option maxHeartbeats 4000000 in
theorem rright_any (x : Ent) (w : World) (hx : x.path.length ≤ 2147483648) :
    Calls Tryz.prog 90 #[entV x] w fun e w' => e = .returned (.bool (IdxLaw.right x)) ∧ Below w.heap.size w w' := by
  have C1 := Lib.hid (fun W => rnamed_any x.path W hx)
  have hR := Blk.new w 100 #[S x.path, I x.stage, S x.id, I x.size, I x.stamp]
  have HR := Lib.hid hR
  clear hR
  obtain ⟨path, stage, id, size, stamp⟩ := x
  simp only at *
  have hcase : stage = 0 ∨ (stage ≠ 0 ∧ size = 0) ∨ (stage ≠ 0 ∧ size ≠ 0) := by omega
  rcases hcase with rfl | ⟨h0, rfl⟩ | ⟨h0, h1⟩
  all_goals
    go_enter Tryz.func90, Tryz.ntmps90
    go_wp2_with (go_at_call 153; refine (C1.out _).mono ?_; rintro e w2 ⟨rfl, b2⟩; have B2 := Lib.hid (bstep (balloc (Below.refl _ w) _) b2); have hc2 := (HR.out.step b2).cell; clear b2)
  all_goals
    go_ret
    refine ⟨ret_bool ?_, B2.out⟩
    clear B2 hc2 C1 HR
    unfold IdxLaw.right IdxLaw.bare IdxLaw.inN
    grind
end Go.Proofs.YtphnfcgdpdimbaaGreatDoor

/-
  The document's index: Find, Fresh. Conditions: paths are shorter than 2147483648 bytes; no more than 1000000 entries.
-/
namespace Go.Proofs.YtphnfcgdpdimbaaGreatDoor
open Go.RowKit
open IdxLaw (Ent Key zE)

theorem find_step {l : List Ent} {k : Nat} {x : Ent} {ky : Key} (h : (l.take k).find? (fun e => decide (e.key = ky)) = none) (hx : l[k]? = some x) (hn : x.key ≠ ky) : (l.take (k + 1)).find? (fun e => decide (e.key = ky)) = none := by
  rw [List.take_add_one, List.find?_append, h, hx]
  simp [hn]
theorem find_here {l : List Ent} {k : Nat} {x : Ent} {ky : Key} (h : (l.take k).find? (fun e => decide (e.key = ky)) = none) (hx : l[k]? = some x) (hn : x.key = ky) : IdxLaw.find l ky = some x := by
  unfold IdxLaw.find
  obtain ⟨hk, e⟩ := List.getElem?_eq_some_iff.1 hx
  rw [← List.take_append_drop k l, List.find?_append, h, List.drop_eq_getElem_cons hk, e]
  simp [hn]

end Go.Proofs.YtphnfcgdpdimbaaGreatDoor

/-
  The document's index: Drop, clear. Conditions: paths are shorter than 2147483648 bytes; no more than 1000000 entries.
-/
namespace Go.Proofs.YtphnfcgdpdimbaaGreatDoor
open Go.RowKit
open PathLaw (under)
open IdxLaw (Ent Key zE)

def AnyB (e : Ending) : Prop := ∃ b, e = .returned (.bool b)
theorem AnyB.mk (b : Bool) : AnyB (.returned (.bool b)) := ⟨b, rfl⟩
theorem Tryz.infoREnt : (Tryz.prog.info? 100).map (fun i => (i.zero, i.size, i.bytes)) = some (some (.agg #[.string ⟨#[]⟩, .int .i64 0, .string ⟨#[]⟩, .int .i64 0, .int .i64 0]), 5, 56) := by kernel_rfl
theorem filter_step {l : List Ent} {f : Ent → Bool} {k : Nat} {x : Ent} (hx : l[k]? = some x) : (l.take (k + 1)).filter f = (l.take k).filter f ++ (if f x = true then [x] else []) := by
  rw [List.take_add_one, hx, List.filter_append]
  by_cases h : f x = true <;> simp [h]
theorem filter_le (l : List Ent) (f : Ent → Bool) (k : Nat) : ((l.take k).filter f).length ≤ k := Nat.le_trans (List.length_filter_le _ _) (List.length_take_le _ _)

/-- what stays when a path is cleared -/
def rkeep (files : Bool) (path : List UInt8) (e : Ent) : Bool := !decide (e.path = path) && !(files && (decide (e.stage = 0) && (under e.path path || under path e.path)))
set_option maxRecDepth 100000 in
set_option maxHeartbeats 8000000 in
theorem rclear_any (E : Nat → Prop) (w : World) (q : Nat) (l : List Ent) (path : List UInt8) (files : Bool) (hR : RIx E w q l) (hn : l.length ≤ 1000000) (hp : path.length ≤ maxLen) (hl : ∀ e ∈ l, e.path.length ≤ maxLen) :
    Calls Tryz.prog 91 #[.pointer (some ⟨q, 0, none⟩), S path, .bool files] w fun e w' => e = .returned (.tuple #[]) ∧ RIx E w' q (l.filter (rkeep files path)) ∧ Fr (fun k => k = q) w w' := by
  obtain ⟨i0, hi0, hi1, hi2, hi3⟩ := info_parts Tryz.infoREnt
  have HR := Lib.hid hR
  obtain ⟨_, _, A, c, hB, hc, hS⟩ := hR
  have HB := Lib.hid hB
  have HS := Lib.hid hS.1
  have HP := Lib.hid hp
  have HL := Lib.hid hl
  clear hB hc hS hp hl
  go_enter Tryz.func91, Tryz.ntmps91
  go_wp2
  go_loopw [6, 7, 8, 9] (fun o i p8 p9 wr => ∃ (k co t : Nat) (Ao : Option Addr), i = .int .i64 k ∧ o = .slice Ao t co ∧ Hid (k ≤ l.length) ∧ Hid (t = ((l.take k).filter (rkeep files path)).length) ∧ Hid (Ow w wr 100 5 Ao t co (ents ((l.take k).filter (rkeep files path))))) (fun _ i _ _ _ => l.length - (intOf i).toNat)
  case atStart => exact ⟨0, 0, 0, none, rfl, rfl, Lib.hid (Nat.zero_le _), Lib.hid rfl, Lib.hid (Ow.nil_ (Below.refl _ _))⟩
  case round =>
    obtain ⟨k, co, t, Ao, rfl, rfl, hk, ht, hO⟩ := hrel
    have rb := (HB.out.step hO.out.2).cell
    have rf := (HB.out.step hO.out.2).frozen
    by_cases hlt : k < l.length
    · obtain ⟨b, off, x, rfl, _, hx, x0, x1, x2, x3, x4⟩ := (HS.out.below hO.out.2).ent hlt
      have Hx := Lib.hid (filter_step (f := rkeep files path) hx)
      have C1 := fun W => runder_any x.path path W (HL.out x (List.mem_of_getElem? hx))
      have C2 := fun W => runder_any path x.path W HP.out
      have hbd : t ≤ 1000000 := by
        have h1 := filter_le l (rkeep files path) k
        have h2 := ht.out
        have h3 := hk.out
        omega
      clear hx
      obtain ⟨xp, xs, xi, xz, xt⟩ := x
      obtain ⟨u1, h1⟩ : ∃ u, u = under xp path := ⟨_, rfl⟩
      obtain ⟨u2, h2⟩ : ∃ u, u = under path xp := ⟨_, rfl⟩
      have Hk : Hid (rkeep files path ⟨xp, xs, xi, xz, xt⟩ = (!decide (xp = path) && !(files && (decide (xs = 0) && (u1 || u2))))) := Lib.hid (by rw [h1, h2]; rfl)
      simp only [← h1] at C1
      simp only [← h2] at C2
      have D1 := Lib.hid C1
      have D2 := Lib.hid C2
      clear C1 C2 h1 h2
      have q1 : t + 1 ≤ maxLen := by simp only [maxLen]; omega
      have q2 : (t + 1) * 56 ≤ 140737488355328 := by omega
      have HS6 := Lib.hid (sl_ent wr 100 ⟨xp, xs, xi, xz, xt⟩)
      have HO6 := Lib.hid (hO.out.alloc (.cells #[S xp, I xs, S xi, I xz, I xt] 100))
      have hcase : (xp = path) ∨ (¬ xp = path ∧ files = false) ∨ (¬ xp = path ∧ files = true ∧ ¬ xs = 0) ∨ (¬ xp = path ∧ files = true ∧ xs = 0) := by
        cases files <;> by_cases h1 : xp = path <;> by_cases h2 : xs = 0 <;> simp [h1, h2]
      rcases hcase with hxp | ⟨hxp, hf⟩ | ⟨hxp, hf, hxs⟩ | ⟨hxp, hf, hxs⟩
      · have Hy : Hid ((l.take (k + 1)).filter (rkeep files path) = (l.take k).filter (rkeep files path)) := Lib.hid (by rw [Hx.out, Hk.out]; simp [hxp])
        clear Hx Hk
        subst hxp
        go_wp2_with (go_at_call 160; first | ((with_reducible refine (D1.out _).mono ?_); rintro e w' ⟨rfl, rfl⟩) | ((with_reducible refine (D2.out _).mono ?_); rintro e w' ⟨rfl, rfl⟩))
        all_goals
          go_roundw
          case rel => exact ⟨k + 1, co, t, Ao, by go_num, rfl, Lib.hid hlt, Lib.hid (by rw [Hy.out]; exact ht.out), Lib.hid (by rw [Hy.out]; exact hO.out)⟩
          case measure => simp [intOf]; omega
      · have Hy : Hid ((l.take (k + 1)).filter (rkeep files path) = (l.take k).filter (rkeep files path) ++ [⟨xp, xs, xi, xz, xt⟩]) := Lib.hid (by rw [Hx.out, Hk.out]; simp [hxp, hf])
        have hq : (xp == path) = false := beq_eq_false_iff_ne.2 hxp
        clear Hx Hk hxp
        subst hf
        go_wp2_with (first
          | (go_at_call 160; first | ((with_reducible refine (D1.out _).mono ?_); rintro e w' ⟨rfl, rfl⟩) | ((with_reducible refine (D2.out _).mono ?_); rintro e w' ⟨rfl, rfl⟩))
          | (at_builtin; refine wpList_append_sl _ rfl (.tmp 56) (.tmp 64) _ rfl w 100 i0 _ 5 56 Tryz.underlying93 hi0 hi1 hi2 hi3 rfl (by decide) Ao t co _ rfl HO6.out _ 1 1 (ents [_]) rfl HS6.out (one_ents _) q1 q2 ?_; intro A5 c5 w5 hO5 hg5 hat5; have HO5 := Lib.hid hO5; clear hO5 hg5 hat5))
        all_goals
          go_roundw
          case rel => exact ⟨k + 1, c5, t + 1, A5, by go_num, rfl, Lib.hid hlt, Lib.hid (by rw [Hy.out, List.length_append, ← ht.out]; rfl), Lib.hid (by rw [Hy.out, ents_append]; exact HO5.out)⟩
          case measure => simp [intOf]; omega
      · have Hy : Hid ((l.take (k + 1)).filter (rkeep files path) = (l.take k).filter (rkeep files path) ++ [⟨xp, xs, xi, xz, xt⟩]) := Lib.hid (by rw [Hx.out, Hk.out]; simp [hxp, hxs])
        have hq : (xp == path) = false := beq_eq_false_iff_ne.2 hxp
        have hq2 : (xs == 0) = false := beq_eq_false_iff_ne.2 hxs
        clear Hx Hk hxp
        subst hf
        go_wp2_with (first
          | (go_at_call 160; first | ((with_reducible refine (D1.out _).mono ?_); rintro e w' ⟨rfl, rfl⟩) | ((with_reducible refine (D2.out _).mono ?_); rintro e w' ⟨rfl, rfl⟩))
          | (at_builtin; refine wpList_append_sl _ rfl (.tmp 56) (.tmp 64) _ rfl w 100 i0 _ 5 56 Tryz.underlying93 hi0 hi1 hi2 hi3 rfl (by decide) Ao t co _ rfl HO6.out _ 1 1 (ents [_]) rfl HS6.out (one_ents _) q1 q2 ?_; intro A5 c5 w5 hO5 hg5 hat5; have HO5 := Lib.hid hO5; clear hO5 hg5 hat5))
        all_goals
          go_roundw
          case rel => exact ⟨k + 1, c5, t + 1, A5, by go_num, rfl, Lib.hid hlt, Lib.hid (by rw [Hy.out, List.length_append, ← ht.out]; rfl), Lib.hid (by rw [Hy.out, ents_append]; exact HO5.out)⟩
          case measure => simp [intOf]; omega
      · have hq : (xp == path) = false := beq_eq_false_iff_ne.2 hxp
        subst hf hxs
        have hcase : (u1 || u2) = true ∨ (u1 = false ∧ u2 = false) := by cases u1 <;> cases u2 <;> simp
        rcases hcase with hu | ⟨rfl, rfl⟩
        · have Hy : Hid ((l.take (k + 1)).filter (rkeep true path) = (l.take k).filter (rkeep true path)) := Lib.hid (by rw [Hx.out, Hk.out]; simp [hu])
          clear Hx Hk hxp
          cases u1 with
          | true =>
            go_wp2_with (go_at_call 160; first | ((with_reducible refine (D1.out _).mono ?_); rintro e w' ⟨rfl, rfl⟩) | ((with_reducible refine (D2.out _).mono ?_); rintro e w' ⟨rfl, rfl⟩))
            all_goals
              go_roundw
              case rel => exact ⟨k + 1, co, t, Ao, by go_num, rfl, Lib.hid hlt, Lib.hid (by rw [Hy.out]; exact ht.out), Lib.hid (by rw [Hy.out]; exact hO.out)⟩
              case measure => simp [intOf]; omega
          | false =>
            obtain rfl : u2 = true := by simpa using hu
            go_wp2_with (go_at_call 160; first | ((with_reducible refine (D1.out _).mono ?_); rintro e w' ⟨rfl, rfl⟩) | ((with_reducible refine (D2.out _).mono ?_); rintro e w' ⟨rfl, rfl⟩))
            all_goals
              go_roundw
              case rel => exact ⟨k + 1, co, t, Ao, by go_num, rfl, Lib.hid hlt, Lib.hid (by rw [Hy.out]; exact ht.out), Lib.hid (by rw [Hy.out]; exact hO.out)⟩
              case measure => simp [intOf]; omega
        · have Hy : Hid ((l.take (k + 1)).filter (rkeep true path) = (l.take k).filter (rkeep true path) ++ [⟨xp, 0, xi, xz, xt⟩]) := Lib.hid (by rw [Hx.out, Hk.out]; simp [hxp])
          clear Hx Hk hxp
          go_wp2_with (first
            | (go_at_call 160; first | ((with_reducible refine (D1.out _).mono ?_); rintro e w' ⟨rfl, rfl⟩) | ((with_reducible refine (D2.out _).mono ?_); rintro e w' ⟨rfl, rfl⟩))
            | (at_builtin; refine wpList_append_sl _ rfl (.tmp 56) (.tmp 64) _ rfl w 100 i0 _ 5 56 Tryz.underlying93 hi0 hi1 hi2 hi3 rfl (by decide) Ao t co _ rfl HO6.out _ 1 1 (ents [_]) rfl HS6.out (one_ents _) q1 q2 ?_; intro A5 c5 w5 hO5 hg5 hat5; have HO5 := Lib.hid hO5; clear hO5 hg5 hat5))
          all_goals
            go_roundw
            case rel => exact ⟨k + 1, c5, t + 1, A5, by go_num, rfl, Lib.hid hlt, Lib.hid (by rw [Hy.out, List.length_append, ← ht.out]; rfl), Lib.hid (by rw [Hy.out, ents_append]; exact HO5.out)⟩
            case measure => simp [intOf]; omega
    · obtain rfl : k = l.length := by have := hk.out; omega
      rw [List.take_length] at ht hO
      go_wp2
      go_end0
      exact ⟨rfl, HR.out.put hO.out, fr_put hO.out q _⟩
end Go.Proofs.YtphnfcgdpdimbaaGreatDoor

/-
  The document's index: add (an entry in its place), Set. Conditions: paths are shorter than 2147483648 bytes; no more than 1000000 entries.
-/
namespace Go.Proofs.YtphnfcgdpdimbaaGreatDoor
open Go.RowKit
open PathLaw (under)
open IdxLaw (Ent Key zE ltE)

theorem while_cut {α : Type} {p : α → Bool} : ∀ {l : List α} {k : Nat}, (∀ e ∈ l.take k, p e = true) → (∀ e, l[k]? = some e → p e = false) → l.takeWhile p = l.take k ∧ l.dropWhile p = l.drop k
  | [], k, _, _ => by simp
  | a :: t, 0, _, h => by
    have := h a rfl
    simp [this]
  | a :: t, k + 1, h1, h2 => by
    have ha := h1 a (by simp)
    have ih := while_cut (l := t) (k := k) (fun e he => h1 e (by simp [he])) (fun e he => h2 e (by simpa using he))
    simp [ha, ih.1, ih.2]
theorem Sl.top {w : World} {sz : Nat} {A : Option Addr} {n k : Nat} {xs : List Value} (h : Sl w sz A n xs) (hk : k ≤ n) : Sl w sz A k (xs.take (k * sz)) := by
  have hm : k * sz ≤ n * sz := Nat.mul_le_mul_right _ hk
  refine ⟨by rw [List.length_take, h.1]; omega, fun hn => ?_⟩
  obtain ⟨b, off, e, hb, hc⟩ := h.2 (by omega)
  exact ⟨b, off, e, hb, fun j hj => by rw [hc j (by omega), List.getElem?_take, if_pos hj]⟩
theorem ents_cut : ∀ (l : List Ent) (k : Nat), (ents l).drop (k * 5) = ents (l.drop k) ∧ (ents l).take (k * 5) = ents (l.take k)
  | l, 0 => by simp [ents]
  | [], k + 1 => by simp [ents]
  | a :: t, k + 1 => by
    obtain ⟨h1, h2⟩ := ents_cut t k
    have e : (k + 1) * 5 = k * 5 + 1 + 1 + 1 + 1 + 1 := by omega
    have e0 : ∀ r, ents (a :: r) = S a.path :: I a.stage :: S a.id :: I a.size :: I a.stamp :: ents r := fun r => by simp [ents, entC]
    rw [e, e0]
    simp only [List.drop_succ_cons, List.take_succ_cons]
    rw [e0, h2]
    exact ⟨h1, rfl⟩
theorem Tryz.sizeREnt (w : World) : (Go.sizeOf 100).run Tryz.prog w = .ok 5 w := by kernel_rfl
/-- an entry in its place -/
def insE (x : Ent) (l : List Ent) : List Ent := l.takeWhile (fun y => ltE y x) ++ x :: l.dropWhile (fun y => ltE y x)
theorem insE_at {x : Ent} {l : List Ent} {k : Nat} (h1 : ∀ e ∈ l.take k, ltE e x = true) (h2 : ∀ e, l[k]? = some e → ltE e x = false) : insE x l = l.take k ++ x :: l.drop k := by
  obtain ⟨a, b⟩ := while_cut (p := fun y => ltE y x) h1 h2
  unfold insE
  rw [a, b]
theorem insE_perm (x : Ent) (l : List Ent) : (insE x l).Perm (x :: l) := by
  unfold insE
  refine List.perm_middle.trans ?_
  rw [List.takeWhile_append_dropWhile]
theorem lt_yes {y x : Ent} (h : y.path < x.path ∨ (y.path = x.path ∧ y.stage < x.stage)) : ltE y x = true := IdxLaw.ltE_iff.2 h
theorem lt_no {y x : Ent} (h : ¬ (y.path < x.path ∨ (y.path = x.path ∧ y.stage < x.stage))) : ltE y x = false := by
  cases e : ltE y x with
  | false => rfl
  | true => exact absurd (IdxLaw.ltE_iff.1 e) h
theorem all_more {l : List Ent} {k : Nat} {x y : Ent} (h : ∀ e ∈ l.take k, ltE e x = true) (hy : l[k]? = some y) (hl : ltE y x = true) : ∀ e ∈ l.take (k + 1), ltE e x = true := by
  intro e he
  rw [List.take_add_one, hy] at he
  simp only [Option.toList_some, List.mem_append, List.mem_singleton] at he
  rcases he with he | rfl
  · exact h e he
  · exact hl

set_option maxRecDepth 100000 in
set_option maxHeartbeats 8000000 in
theorem radd_any (E : Nat → Prop) (w : World) (q : Nat) (l : List Ent) (x : Ent) (hR : RIx E w q l) (hn : l.length ≤ 1000000) :
    Calls Tryz.prog 92 #[.pointer (some ⟨q, 0, none⟩), entV x] w fun e w' => e = .returned (.tuple #[]) ∧ RIx E w' q (insE x l) ∧ Fr (fun k => k = q) w w' := by
  obtain ⟨i0, hi0, hi1, hi2, hi3⟩ := info_parts Tryz.infoREnt
  have HR := Lib.hid hR
  obtain ⟨_, _, A, c, hB, hc, hS⟩ := hR
  have HB := Lib.hid (hB.alloc (.cells #[S x.path, I x.stage, S x.id, I x.size, I x.stamp] 100))
  have HS := Lib.hid (hS.1.alloc (.cells #[S x.path, I x.stage, S x.id, I x.size, I x.stamp] 100))
  have HE := Lib.hid (Blk.new w 100 #[S x.path, I x.stage, S x.id, I x.size, I x.stamp])
  have B1 := Lib.hid (balloc (Below.refl _ w) (.cells #[S x.path, I x.stage, S x.id, I x.size, I x.stamp] 100))
  have HI : Hid (∀ k, (∀ e ∈ l.take k, ltE e x = true) → (∀ e, l[k]? = some e → ltE e x = false) → insE x l = l.take k ++ x :: l.drop k) := Lib.hid (fun k h1 h2 => insE_at h1 h2)
  clear hB hS
  obtain ⟨xp, xs, xi, xz, xt⟩ := x
  simp only at HB HS HE B1
  go_enter Tryz.func92, Tryz.ntmps92
  obtain ⟨w1, hw1⟩ : ∃ w1, w1 = w.alloc (.cells #[S xp, I xs, S xi, I xz, I xt] 100) := ⟨_, rfl⟩
  obtain ⟨g, hg⟩ : ∃ g, g = w.heap.size := ⟨_, rfl⟩
  go_wp2
  rw [← hw1] at HB HS HE B1
  rw [← hg] at HE
  simp only [← hw1]
  simp only [← hg]
  clear hw1 hg
  have rb := HB.out.cell
  have re := HE.out.cell
  go_loopw [4] (fun i wr => ∃ (k m : Nat), k ≤ l.length ∧ i = .int .i64 k ∧ wr = w1.drewN m ∧ Hid (∀ e ∈ l.take k, ltE e ⟨xp, xs, xi, xz, xt⟩ = true)) (fun i _ => l.length - (intOf i).toNat)
  case atStart => exact ⟨0, 0, Nat.zero_le _, rfl, rfl, Lib.hid (fun e he => by simp at he)⟩
  case round =>
    obtain ⟨k, mm, hk, rfl, rfl, HK⟩ := hrel
    by_cases hki : k < l.length
    · obtain ⟨b, off, y, rfl, _, hy, y0, y1, y2, y3, y4⟩ := HS.out.ent hki
      have Hy := Lib.hid hy
      clear hy y2 y3 y4
      obtain ⟨yp, ys, yi, yz, yt⟩ := y
      by_cases h1 : yp < xp
      · have HK2 := Lib.hid (all_more HK.out Hy.out (lt_yes (.inl h1)))
        have d1 : Op.bytesLess yp xp = true := by rw [Go.Proofs.bytesLess_eq]; exact decide_eq_true h1
        clear HK h1
        go_wp2
        go_quiet (fail)
        go_wp2
        go_roundw
        case rel => exact ⟨k + 1, _, by omega, by go_num, rfl, HK2⟩
        case measure => simp [intOf]; omega
      · have d1 : Op.bytesLess yp xp = false := by rw [Go.Proofs.bytesLess_eq]; exact decide_eq_false h1
        by_cases h2 : yp = xp
        · have d2 : (yp == xp) = true := beq_iff_eq.2 h2
          by_cases h3 : ys < xs
          · have HK2 := Lib.hid (all_more HK.out Hy.out (lt_yes (.inr ⟨h2, h3⟩)))
            have d3 : decide (ys < xs) = true := decide_eq_true h3
            clear HK h1 h2 h3
            go_wp2
            go_quiet (fail)
            go_wp2
            go_roundw
            case rel => exact ⟨k + 1, _, by omega, by go_num, rfl, HK2⟩
            case measure => simp [intOf]; omega
          · have HN := Lib.hid (HI.out k HK.out (fun e he => by
              rw [Hy.out] at he
              cases he
              exact lt_no (by rintro (h | ⟨_, h⟩); exact h1 h; exact h3 h)))
            have d3 : decide (ys < xs) = false := decide_eq_false h3
            clear HK h1 h2 h3
            have sK := HS.out.top hk
            have sI := HS.out.cut (l := k) (r := l.length) (c := c) hk (Nat.le_refl _) hc
            rw [(ents_cut l k).2] at sK
            rw [(ents_cut l k).1, List.take_of_length_le (by rw [ents_len, List.length_drop]; exact Nat.le_refl _)] at sI
            have kL := fun W : World => run_cut_l (P := Tryz.prog) W Tryz.underlying93 Tryz.sizeREnt (some ⟨b, off, none⟩) l.length c .i64 k hk
            obtain ⟨XI, hXI⟩ : ∃ X, cutA (some ⟨b, off, none⟩) c k 5 = X := ⟨_, rfl⟩
            obtain ⟨nI, hnI⟩ : ∃ nI, l.length - k = nI := ⟨_, rfl⟩
            rw [hXI, hnI] at kL sI
            have SK := Lib.hid sK
            have SI := Lib.hid sI
            have q1 : 0 + k ≤ maxLen := by simp only [maxLen]; omega
            have q2 : (0 + k) * 56 ≤ 140737488355328 := by omega
            have q3 : k + 1 ≤ maxLen := by simp only [maxLen]; omega
            have q4 : (k + 1) * 56 ≤ 140737488355328 := by omega
            have q5 : k + 1 + nI ≤ maxLen := by simp only [maxLen]; omega
            have q6 : (k + 1 + nI) * 56 ≤ 140737488355328 := by omega
            clear sK sI hXI hnI
            go_wp2
            go_quiet (fail)
            obtain ⟨w9, hw9⟩ : ∃ w9, (w1.drewN mm).drewN nq = w9 := ⟨_, rfl⟩
            have b9 : Below w1.heap.size w1 w9 := by rw [← hw9]; exact below_drewN (below_drewN (Below.refl _ _) _) _
            rw [hw9]
            have SK9 := Lib.hid (SK.out.below b9)
            have SI9 := Lib.hid (SI.out.below b9)
            have HB9 := Lib.hid (HB.out.step b9)
            have HE9 := Lib.hid (HE.out.step b9)
            have B9 := Lib.hid (bstep B1.out b9)
            have rb9 := HB9.out.cell
            clear hw9 b9 rb re
            go_wp2_with (first
              | (at_builtin; refine wpList_append_sl _ rfl (.tmp 54) (.tmp 60) _ rfl w9 100 i0 _ 5 56 Tryz.underlying93 hi0 hi1 hi2 hi3 rfl (by omega) none 0 0 [] rfl (Ow.nil_ (Below.refl _ _)) (some ⟨b, off, none⟩) k _ (ents (l.take k)) rfl SK9.out (one_ents _) q1 q2 ?_; intro A3 c3 w3 hO3 hg3 hat3; rw [Nat.zero_add, List.nil_append] at hO3; have re3 := (HE9.out.step hO3.2).cell)
              | (at_builtin; refine wpList_append_sl _ rfl (.tmp 62) (.tmp 64) _ rfl w9 100 i0 _ 5 56 Tryz.underlying93 hi0 hi1 hi2 hi3 rfl (by omega) A3 k c3 (ents (l.take k)) rfl (hO3.alloc _) (some ⟨w3.heap.size, 0, none⟩) 1 _ (ents [⟨xp, xs, xi, xz, xt⟩]) rfl (sl_ent w3 _ ⟨xp, xs, xi, xz, xt⟩) (one_ents _) q3 q4 ?_; intro A4 c4 w4 hO4 hg4 hat4; have rb4 := (HB9.out.step hO4.2).cell)
              | (at_builtin; refine wpList_append_sl _ rfl (.tmp 67) (.tmp 73) _ rfl w9 100 i0 _ 5 56 Tryz.underlying93 hi0 hi1 hi2 hi3 rfl (by omega) A4 (k + 1) c4 (ents (l.take k) ++ ents [⟨xp, xs, xi, xz, xt⟩]) rfl hO4 XI nI _ (ents (l.drop k)) rfl (SI9.out.below hO4.2) (one_ents _) q5 q6 ?_; intro A5 c5 w5 hO5 hg5 hat5; have rb5 := (HB9.out.step hO5.2).cell; have rf5 := (HB9.out.step hO5.2).frozen))
            have hO6 : Ow w w5 100 5 A5 (k + 1 + nI) c5 (ents (insE ⟨xp, xs, xi, xz, xt⟩ l)) := by
              rw [HN.out, ← List.singleton_append, ents_append, ents_append, ← List.append_assoc]
              exact hO5.since B9.out
            have HO6 := Lib.hid hO6
            clear hO6
            go_end0
            exact ⟨rfl, HR.out.put HO6.out, fr_put HO6.out q _⟩
        · have HN := Lib.hid (HI.out k HK.out (fun e he => by
            rw [Hy.out] at he
            cases he
            exact lt_no (by rintro (h | ⟨h, _⟩); exact h1 h; exact h2 h)))
          have d2 : (yp == xp) = false := beq_eq_false_iff_ne.2 h2
          clear HK h1 h2
          have sK := HS.out.top hk
          have sI := HS.out.cut (l := k) (r := l.length) (c := c) hk (Nat.le_refl _) hc
          rw [(ents_cut l k).2] at sK
          rw [(ents_cut l k).1, List.take_of_length_le (by rw [ents_len, List.length_drop]; exact Nat.le_refl _)] at sI
          have kL := fun W : World => run_cut_l (P := Tryz.prog) W Tryz.underlying93 Tryz.sizeREnt (some ⟨b, off, none⟩) l.length c .i64 k hk
          obtain ⟨XI, hXI⟩ : ∃ X, cutA (some ⟨b, off, none⟩) c k 5 = X := ⟨_, rfl⟩
          obtain ⟨nI, hnI⟩ : ∃ nI, l.length - k = nI := ⟨_, rfl⟩
          rw [hXI, hnI] at kL sI
          have SK := Lib.hid sK
          have SI := Lib.hid sI
          have q1 : 0 + k ≤ maxLen := by simp only [maxLen]; omega
          have q2 : (0 + k) * 56 ≤ 140737488355328 := by omega
          have q3 : k + 1 ≤ maxLen := by simp only [maxLen]; omega
          have q4 : (k + 1) * 56 ≤ 140737488355328 := by omega
          have q5 : k + 1 + nI ≤ maxLen := by simp only [maxLen]; omega
          have q6 : (k + 1 + nI) * 56 ≤ 140737488355328 := by omega
          clear sK sI hXI hnI
          go_wp2
          go_quiet (fail)
          obtain ⟨w9, hw9⟩ : ∃ w9, (w1.drewN mm).drewN nq = w9 := ⟨_, rfl⟩
          have b9 : Below w1.heap.size w1 w9 := by rw [← hw9]; exact below_drewN (below_drewN (Below.refl _ _) _) _
          rw [hw9]
          have SK9 := Lib.hid (SK.out.below b9)
          have SI9 := Lib.hid (SI.out.below b9)
          have HB9 := Lib.hid (HB.out.step b9)
          have HE9 := Lib.hid (HE.out.step b9)
          have B9 := Lib.hid (bstep B1.out b9)
          have rb9 := HB9.out.cell
          clear hw9 b9 rb re
          go_wp2_with (first
            | (at_builtin; refine wpList_append_sl _ rfl (.tmp 54) (.tmp 60) _ rfl w9 100 i0 _ 5 56 Tryz.underlying93 hi0 hi1 hi2 hi3 rfl (by omega) none 0 0 [] rfl (Ow.nil_ (Below.refl _ _)) (some ⟨b, off, none⟩) k _ (ents (l.take k)) rfl SK9.out (one_ents _) q1 q2 ?_; intro A3 c3 w3 hO3 hg3 hat3; rw [Nat.zero_add, List.nil_append] at hO3; have re3 := (HE9.out.step hO3.2).cell)
            | (at_builtin; refine wpList_append_sl _ rfl (.tmp 62) (.tmp 64) _ rfl w9 100 i0 _ 5 56 Tryz.underlying93 hi0 hi1 hi2 hi3 rfl (by omega) A3 k c3 (ents (l.take k)) rfl (hO3.alloc _) (some ⟨w3.heap.size, 0, none⟩) 1 _ (ents [⟨xp, xs, xi, xz, xt⟩]) rfl (sl_ent w3 _ ⟨xp, xs, xi, xz, xt⟩) (one_ents _) q3 q4 ?_; intro A4 c4 w4 hO4 hg4 hat4; have rb4 := (HB9.out.step hO4.2).cell)
            | (at_builtin; refine wpList_append_sl _ rfl (.tmp 67) (.tmp 73) _ rfl w9 100 i0 _ 5 56 Tryz.underlying93 hi0 hi1 hi2 hi3 rfl (by omega) A4 (k + 1) c4 (ents (l.take k) ++ ents [⟨xp, xs, xi, xz, xt⟩]) rfl hO4 XI nI _ (ents (l.drop k)) rfl (SI9.out.below hO4.2) (one_ents _) q5 q6 ?_; intro A5 c5 w5 hO5 hg5 hat5; have rb5 := (HB9.out.step hO5.2).cell; have rf5 := (HB9.out.step hO5.2).frozen))
          have hO6 : Ow w w5 100 5 A5 (k + 1 + nI) c5 (ents (insE ⟨xp, xs, xi, xz, xt⟩ l)) := by
            rw [HN.out, ← List.singleton_append, ents_append, ents_append, ← List.append_assoc]
            exact hO5.since B9.out
          have HO6 := Lib.hid hO6
          clear hO6
          go_end0
          exact ⟨rfl, HR.out.put HO6.out, fr_put HO6.out q _⟩
    · have HN := Lib.hid (HI.out k HK.out (fun e he => by rw [List.getElem?_eq_none (by omega)] at he; cases he))
      have d0 : decide (k < l.length) = false := decide_eq_false hki
      clear HK
      have sK := HS.out.top hk
      have sI := HS.out.cut (l := k) (r := l.length) (c := c) hk (Nat.le_refl _) hc
      rw [(ents_cut l k).2] at sK
      rw [(ents_cut l k).1, List.take_of_length_le (by rw [ents_len, List.length_drop]; exact Nat.le_refl _)] at sI
      have kL := fun W : World => run_cut_l (P := Tryz.prog) W Tryz.underlying93 Tryz.sizeREnt (A) l.length c .i64 k hk
      obtain ⟨XI, hXI⟩ : ∃ X, cutA (A) c k 5 = X := ⟨_, rfl⟩
      obtain ⟨nI, hnI⟩ : ∃ nI, l.length - k = nI := ⟨_, rfl⟩
      rw [hXI, hnI] at kL sI
      have SK := Lib.hid sK
      have SI := Lib.hid sI
      have q1 : 0 + k ≤ maxLen := by simp only [maxLen]; omega
      have q2 : (0 + k) * 56 ≤ 140737488355328 := by omega
      have q3 : k + 1 ≤ maxLen := by simp only [maxLen]; omega
      have q4 : (k + 1) * 56 ≤ 140737488355328 := by omega
      have q5 : k + 1 + nI ≤ maxLen := by simp only [maxLen]; omega
      have q6 : (k + 1 + nI) * 56 ≤ 140737488355328 := by omega
      clear sK sI hXI hnI
      go_wp2
      go_quiet (fail)
      obtain ⟨w9, hw9⟩ : ∃ w9, (w1.drewN mm).drewN nq = w9 := ⟨_, rfl⟩
      have b9 : Below w1.heap.size w1 w9 := by rw [← hw9]; exact below_drewN (below_drewN (Below.refl _ _) _) _
      rw [hw9]
      have SK9 := Lib.hid (SK.out.below b9)
      have SI9 := Lib.hid (SI.out.below b9)
      have HB9 := Lib.hid (HB.out.step b9)
      have HE9 := Lib.hid (HE.out.step b9)
      have B9 := Lib.hid (bstep B1.out b9)
      have rb9 := HB9.out.cell
      clear hw9 b9 rb re
      go_wp2_with (first
        | (at_builtin; refine wpList_append_sl _ rfl (.tmp 54) (.tmp 60) _ rfl w9 100 i0 _ 5 56 Tryz.underlying93 hi0 hi1 hi2 hi3 rfl (by omega) none 0 0 [] rfl (Ow.nil_ (Below.refl _ _)) (A) k _ (ents (l.take k)) rfl SK9.out (one_ents _) q1 q2 ?_; intro A3 c3 w3 hO3 hg3 hat3; rw [Nat.zero_add, List.nil_append] at hO3; have re3 := (HE9.out.step hO3.2).cell)
        | (at_builtin; refine wpList_append_sl _ rfl (.tmp 62) (.tmp 64) _ rfl w9 100 i0 _ 5 56 Tryz.underlying93 hi0 hi1 hi2 hi3 rfl (by omega) A3 k c3 (ents (l.take k)) rfl (hO3.alloc _) (some ⟨w3.heap.size, 0, none⟩) 1 _ (ents [⟨xp, xs, xi, xz, xt⟩]) rfl (sl_ent w3 _ ⟨xp, xs, xi, xz, xt⟩) (one_ents _) q3 q4 ?_; intro A4 c4 w4 hO4 hg4 hat4; have rb4 := (HB9.out.step hO4.2).cell)
        | (at_builtin; refine wpList_append_sl _ rfl (.tmp 67) (.tmp 73) _ rfl w9 100 i0 _ 5 56 Tryz.underlying93 hi0 hi1 hi2 hi3 rfl (by omega) A4 (k + 1) c4 (ents (l.take k) ++ ents [⟨xp, xs, xi, xz, xt⟩]) rfl hO4 XI nI _ (ents (l.drop k)) rfl (SI9.out.below hO4.2) (one_ents _) q5 q6 ?_; intro A5 c5 w5 hO5 hg5 hat5; have rb5 := (HB9.out.step hO5.2).cell; have rf5 := (HB9.out.step hO5.2).frozen))
      have hO6 : Ow w w5 100 5 A5 (k + 1 + nI) c5 (ents (insE ⟨xp, xs, xi, xz, xt⟩ l)) := by
        rw [HN.out, ← List.singleton_append, ents_append, ents_append, ← List.append_assoc]
        exact hO5.since B9.out
      have HO6 := Lib.hid hO6
      clear hO6
      go_end0
      exact ⟨rfl, HR.out.put HO6.out, fr_put HO6.out q _⟩
end Go.Proofs.YtphnfcgdpdimbaaGreatDoor

/-
  The document's index: Set, Conflict. Conditions: paths are shorter than 2147483648 bytes; no more than 1000000 entries.
-/
namespace Go.Proofs.YtphnfcgdpdimbaaGreatDoor
open Go.RowKit
open PathLaw (under)
open IdxLaw (Ent Key zE ltE)

theorem insE_len (x : Ent) (l : List Ent) : (insE x l).length = l.length + 1 := (insE_perm x l).length_eq
theorem insE_mem {x y : Ent} {l : List Ent} : y ∈ insE x l ↔ y = x ∨ y ∈ l := by rw [(insE_perm x l).mem_iff]; simp
/-- what the document's Set answers and leaves -/
def rset (l : List Ent) (x : Ent) : Nat × List Ent := if IdxLaw.right x = true ∧ x.stage = 0 then (0, insE x (l.filter (rkeep true x.path))) else (1, l)
theorem rset_yes {l : List Ent} {x : Ent} (h : IdxLaw.right x = true) (h0 : x.stage = 0) : rset l x = (0, insE x (l.filter (rkeep true x.path))) := if_pos ⟨h, h0⟩
theorem rset_no {l : List Ent} {x : Ent} (h : IdxLaw.right x = false ∨ x.stage ≠ 0) : rset l x = (1, l) := if_neg (fun ⟨h1, h2⟩ => h.elim (fun h => by rw [h1] at h; cases h) (fun h => h h2))

set_option maxRecDepth 100000 in
set_option maxHeartbeats 2000000 in
theorem rset_any (E : Nat → Prop) (w : World) (q : Nat) (l : List Ent) (x : Ent) (hR : RIx E w q l) (hn : l.length ≤ 1000000) (hx : x.path.length ≤ 2147483648) (hl : ∀ e ∈ l, e.path.length ≤ maxLen) :
    Calls Tryz.prog 34 #[.pointer (some ⟨q, 0, none⟩), entV x] w fun e w' => e = .returned (I ((rset l x).1 : Nat)) ∧ RIx E w' q (rset l x).2 ∧ Fr (fun k => k = q) w w' := by
  have hq := hR.2.1 q hR.1
  have HI := Lib.hid (hR.step (balloc (Below.refl _ w) (.cells #[S x.path, I x.stage, S x.id, I x.size, I x.stamp] 100)))
  have HX := Lib.hid (Blk.new w 100 #[S x.path, I x.stage, S x.id, I x.size, I x.stamp])
  have C1 := Lib.hid (fun W => rright_any x W hx)
  have Hl := Lib.hid hl
  clear hR hl
  have hcase : IdxLaw.right x = false ∨ (IdxLaw.right x = true ∧ x.stage ≠ 0) ∨ (IdxLaw.right x = true ∧ x.stage = 0) := by
    cases IdxLaw.right x <;> simp <;> omega
  rcases hcase with h | ⟨h, h0⟩ | ⟨h, h0⟩
  · rw [rset_no (.inl h)]
    rw [h] at C1
    go_enter Tryz.func34, Tryz.ntmps34
    go_wp2_with (go_at_call 90; refine (C1.out _).mono ?_; rintro e w2 ⟨rfl, b2⟩; have B2 := Lib.hid b2; clear b2)
    go_ret
    exact ⟨rfl, HI.out.step B2.out, Fr.of_below (bstep (balloc (Below.refl _ w) _) B2.out)⟩
  · rw [rset_no (.inr h0)]
    rw [h] at C1
    have h0' : (x.stage == 0) = false := beq_eq_false_iff_ne.2 h0
    go_enter Tryz.func34, Tryz.ntmps34
    go_wp2_with (go_at_call 90; refine (C1.out _).mono ?_; rintro e w2 ⟨rfl, b2⟩; have B2 := Lib.hid b2; have rx := (HX.out.step b2).cell; clear b2)
    go_ret
    exact ⟨rfl, HI.out.step B2.out, Fr.of_below (bstep (balloc (Below.refl _ w) _) B2.out)⟩
  · rw [rset_yes h h0]
    rw [h] at C1
    have C2 := Lib.hid (fun W h => rclear_any E W q l x.path true h hn (Nat.le_trans hx (by decide)) Hl.out)
    have C3 := Lib.hid (fun W h => radd_any E W q (l.filter (rkeep true x.path)) x h (Nat.le_trans (List.length_filter_le _ _) hn))
    have h0' : (x.stage == 0) = true := beq_iff_eq.2 h0
    clear h h0
    go_enter Tryz.func34, Tryz.ntmps34
    go_wp2_with (first
      | (go_at_call 90; refine (C1.out _).mono ?_; rintro e w2 ⟨rfl, b2⟩; have B2 := Lib.hid b2; have hx2 := HX.out.step b2; have rx := hx2.cell; have HX2 := Lib.hid hx2; clear b2 hx2)
      | (go_at_call 91; refine (C2.out _ (HI.out.step B2.out)).mono ?_; rintro e w3 ⟨rfl, hI3, hF3⟩; have HI3 := Lib.hid hI3; have HF3 := Lib.hid hF3; have rx3 := (hF3.blk HX2.out (by show ¬ w.heap.size = q; omega)).cell; clear hI3 hF3)
      | (go_at_call 92; refine (C3.out _ HI3.out).mono ?_; rintro e w4 ⟨rfl, hI4, hF4⟩; have HI4 := Lib.hid hI4; have HF4 := Lib.hid hF4; clear hI4 hF4))
    go_ret
    exact ⟨rfl, HI4.out, ((Fr.of_below (bstep (balloc (Below.refl _ w) _) B2.out)).trans HF3.out).trans HF4.out⟩
end Go.Proofs.YtphnfcgdpdimbaaGreatDoor
