/-
  dolmenlaw14.step: an operation on the program's index and on the document's: what both are afterwards. Conditions: paths are shorter than 2147483648 bytes; MaxLen holds an int.
-/
import Derived.Test.YtjcelelgebohkaaGreatDoorRiConf
import Derived.Test.YtjcelelgebohkaaGreatDoorIdxConf
import Derived.Test.YtjcelelgebohkaaGreatDoorIdxEq
import Derived.Test.YtjcelelgebohkaaGreatDoorAwake14
import Derived.Shelf.RegionOpen
import Derived.Test.YtjcelelgebohkaaGreatDoorKit
namespace Go.Proofs.YtjcelelgebohkaaGreatDoor
open Go.RowKit
open IdxLaw (Ent Key zE)

/-- both indexes -/
structure Two (w : World) (p m q : Nat) (l r : List Ent) (n : Nat) : Prop where
  idx : IdxAt w p m l n
  ref : RIx (fun k => k = m ∨ k = q) w q r
  np : p ≠ q
  nm : m ≠ q
section
variable {w w' : World} {p m q n n' : Nat} {l r l' r' : List Ent}
theorem Two.step (h : Two w p m q l r n) (hb : Below w.heap.size w w') : Two w' p m q l r n := ⟨h.idx.step hb, h.ref.step hb, h.np, h.nm⟩
theorem Two.one (h : Two w p m q l r n) (hI : IdxAt w' p m l' n') (hF : Fr (fun k => k = m) w w') : Two w' p m q l' r n' := ⟨hI, h.ref.fr hF (fun _ h => .inl h) (fun e => h.nm e.symm), h.np, h.nm⟩
theorem Two.two (h : Two w p m q l r n) (hI : RIx (fun k => k = m ∨ k = q) w' q r') (hF : Fr (fun k => k = q) w w') : Two w' p m q l r' n := ⟨h.idx.fr hF h.np h.nm, hI, h.np, h.nm⟩
theorem Two.mono (h : Two w p m q l r n) (hn : n ≤ n') : Two w p m q l r n' := ⟨h.idx.mono hn, h.ref, h.np, h.nm⟩
end
/-- an operation: what, the entry, the three ids, a number -/
structure OpG where
  what : Int
  e : Ent
  a : List UInt8
  b : List UInt8
  c : List UInt8
  n : Int
abbrev opC (o : OpG) : Array Value := #[I o.what, S o.e.path, I o.e.stage, S o.e.id, I o.e.size, I o.e.stamp, S o.a, S o.b, S o.c, I o.n]
abbrev opV (o : OpG) : Value := .agg (opC o)
def kind (o : OpG) : Int := bits BinOp.and IntKind.i64 o.what 7
/-- what the operation leaves of the program's entries, and of the document's -/
def playL (o : OpG) (l : List Ent) : List Ent := if kind o = 3 then (IdxLaw.conflict l o.e.path o.a o.b o.c).2 else if kind o = 4 then IdxLaw.drop l o.e.path else if kind o = 5 then l else if kind o = 6 then l else (IdxLaw.set l o.e).2
def playR (o : OpG) (r : List Ent) : List Ent := if kind o = 3 then (rconf r o.e.path o.a o.b o.c).2 else if kind o = 4 then IdxLaw.drop r o.e.path else if kind o = 5 then r else if kind o = 6 then r else (rset r o.e).2
/-- are the answers alike? -/
def stepB (o : OpG) (l r : List Ent) : Bool :=
  if kind o = 3 then ((((IdxLaw.conflict l o.e.path o.a o.b o.c).1 : Nat) : Int) == (((rconf r o.e.path o.a o.b o.c).1 : Nat) : Int))
  else if kind o = 4 then (fewer (IdxLaw.drop l o.e.path) l == fewer (IdxLaw.drop r o.e.path) r)
  else if kind o = 5 then (eqE ((IdxLaw.find l (o.e.path, o.n)).getD zE) ((IdxLaw.find r (o.e.path, o.n)).getD zE) && ((IdxLaw.find l (o.e.path, o.n)).isSome == (IdxLaw.find r (o.e.path, o.n)).isSome))
  else if kind o = 6 then (freshB (IdxLaw.find l (o.e.path, 0)) o.e.size o.e.stamp o.n == freshB (IdxLaw.find r (o.e.path, 0)) o.e.size o.e.stamp o.n)
  else ((((IdxLaw.set l o.e).1 : Nat) : Int) == (((rset r o.e).1 : Nat) : Int))
def Stepped (w : World) (p m q : Nat) (l r : List Ent) (n : Nat) (o : OpG) (e : Ending) (w' : World) : Prop := e = .returned (.bool (stepB o l r)) ∧ Two w' p m q (playL o l) (playR o r) (n + 3) ∧ Fr (fun k => k = m ∨ k = q) w w'

theorem MaxL.fr {E : Nat → Prop} {w w' : World} (h : MaxL w) (hF : Fr E w w') (hE : ¬ E 0) : MaxL w' := by
  obtain ⟨m, hm⟩ := h
  exact ⟨m, (World.cell?_of_block (hF.block _ (by
    rcases Nat.lt_or_ge 0 w.heap.size with h | h
    · exact h
    · simp [World.cell?, Array.getElem?_eq_none h] at hm) hE)).trans hm⟩
/-- how far conflict has come on both indexes -/
def PJ (W : World) (p m q g : Nat) (T : TypeId) (cs : Array Value) (l1 r r1 : List Ent) (n : Nat) : Nat → World → Prop
  | 0, w => Below W.heap.size W w ∧ Blk w g T cs
  | 1, w => Two w p m q l1 r n ∧ Fr (fun k => k = m ∨ k = q) W w ∧ Blk w g T cs
  | _, w => Two w p m q l1 r1 n ∧ Fr (fun k => k = m ∨ k = q) W w ∧ Blk w g T cs
theorem PJ.step {W : World} {p m q g n : Nat} {T : TypeId} {cs : Array Value} {l1 r r1 : List Ent} : ∀ (k : Nat) (w w' : World), PJ W p m q g T cs l1 r r1 n k w → Below w.heap.size w w' → PJ W p m q g T cs l1 r r1 n k w'
  | 0, _, _, h, hb => ⟨bstep h.1 hb, h.2.step hb⟩
  | 1, _, _, h, hb => ⟨h.1.step hb, h.2.1.step hb, h.2.2.step hb⟩
  | (_ + 2), _, _, h, hb => ⟨h.1.step hb, h.2.1.step hb, h.2.2.step hb⟩
theorem PJ.blk {W : World} {p m q g n : Nat} {T : TypeId} {cs : Array Value} {l1 r r1 : List Ent} : ∀ (k : Nat) (w : World), PJ W p m q g T cs l1 r r1 n k w → Blk w g T cs
  | 0, _, h => h.2
  | 1, _, h => h.2.2
  | (_ + 2), _, h => h.2.2
theorem fls_tru (b : Bool) : b = false ∨ b = true := by cases b <;> simp
/-- every slot that is written is there -/
def dstAll' (ops : Array Oper) (n : Nat) : Bool := ops.all (fun o => match o.dst with | some d => decide (d < n) | none => true)
theorem dst_lt' {ops : Array Oper} {n : Nat} (h : dstAll' ops n = true) (i : Nat) (o : Oper) (d : Nat) (ho : ops[i]? = some o) (hd : o.dst = some d) : d < n := by
  have h1 := Array.all_eq_true_iff_forall_mem.1 h o (Array.mem_of_getElem? ho)
  rw [hd] at h1
  simpa using h1
def st3Phi (p q g : Nat) (path sa sb sc : List UInt8) (a1 a2 : Int) (bq : Bool) : Nat → Value → World → Prop
  | 0, v, _ => v = .pointer (some ⟨p, 0, none⟩)
  | 1, v, _ => v = .pointer (some ⟨g, 1, none⟩)
  | 2, v, _ => v = .pointer (some ⟨g, 1, none⟩)
  | 3, v, _ => v = S path
  | 4, v, _ => v = .pointer (some ⟨g, 6, none⟩)
  | 5, v, _ => v = S sa
  | 6, v, _ => v = .pointer (some ⟨g, 7, none⟩)
  | 7, v, _ => v = S sb
  | 8, v, _ => v = .pointer (some ⟨g, 8, none⟩)
  | 9, v, _ => v = S sc
  | 10, v, _ => v = I a1
  | 11, v, _ => v = .pointer (some ⟨q, 0, none⟩)
  | 12, v, _ => v = .pointer (some ⟨g, 1, none⟩)
  | 13, v, _ => v = .pointer (some ⟨g, 1, none⟩)
  | 14, v, _ => v = S path
  | 15, v, _ => v = .pointer (some ⟨g, 6, none⟩)
  | 16, v, _ => v = S sa
  | 17, v, _ => v = .pointer (some ⟨g, 7, none⟩)
  | 18, v, _ => v = S sb
  | 19, v, _ => v = .pointer (some ⟨g, 8, none⟩)
  | 20, v, _ => v = S sc
  | 21, v, _ => v = I a2
  | 22, v, _ => v = .bool bq
  | _, _, _ => True
theorem st3Phi_mono {p q g : Nat} {path sa sb sc : List UInt8} {a1 a2 : Int} {bq : Bool} : ∀ (j : Nat) (v : Value) (w w' : World), st3Phi p q g path sa sb sc a1 a2 bq j v w → Below w.heap.size w w' → st3Phi p q g path sa sb sc a1 a2 bq j v w' := by
  intro j v w w' h _
  match j, h with
  | 0, h => exact h
  | 1, h => exact h
  | 2, h => exact h
  | 3, h => exact h
  | 4, h => exact h
  | 5, h => exact h
  | 6, h => exact h
  | 7, h => exact h
  | 8, h => exact h
  | 9, h => exact h
  | 10, h => exact h
  | 11, h => exact h
  | 12, h => exact h
  | 13, h => exact h
  | 14, h => exact h
  | 15, h => exact h
  | 16, h => exact h
  | 17, h => exact h
  | 18, h => exact h
  | 19, h => exact h
  | 20, h => exact h
  | 21, h => exact h
  | 22, h => exact h
  | (n + 23), _ => trivial
def st9Phi (x1 x2 : IdxLaw.Ent) (s1 s2 bE bq : Bool) : Nat → Value → World → Prop
  | 0, v, _ => v = entV x1
  | 1, v, _ => v = entV x2
  | 2, v, _ => v = entV x2
  | 3, v, _ => v = .bool bE
  | 4, v, _ => v = .bool bE
  | 5, v, _ => (bE = true → v = .bool s1)
  | 6, v, _ => (bE = true → v = .bool s2)
  | 7, v, _ => (bE = true → v = .bool bq)
  | 8, v, _ => v = .bool (bE && bq)
  | _, _, _ => True
theorem st9Phi_mono {x1 x2 : IdxLaw.Ent} {s1 s2 bE bq : Bool} : ∀ (j : Nat) (v : Value) (w w' : World), st9Phi x1 x2 s1 s2 bE bq j v w → Below w.heap.size w w' → st9Phi x1 x2 s1 s2 bE bq j v w' := by
  intro j v w w' h _
  match j, h with
  | 0, h => exact h
  | 1, h => exact h
  | 2, h => exact h
  | 3, h => exact h
  | 4, h => exact h
  | 5, h => exact h
  | 6, h => exact h
  | 7, h => exact h
  | 8, h => exact h
  | (n + 9), _ => trivial
def st11Phi (p q g : Nat) (path : List UInt8) (size stamp num : Int) (b1 b2 bq : Bool) : Nat → Value → World → Prop
  | 0, v, _ => v = .pointer (some ⟨p, 0, none⟩)
  | 1, v, _ => v = .pointer (some ⟨g, 1, none⟩)
  | 2, v, _ => v = .pointer (some ⟨g, 1, none⟩)
  | 3, v, _ => v = S path
  | 4, v, _ => v = .pointer (some ⟨g, 1, none⟩)
  | 5, v, _ => v = .pointer (some ⟨g, 4, none⟩)
  | 6, v, _ => v = I size
  | 7, v, _ => v = .pointer (some ⟨g, 1, none⟩)
  | 8, v, _ => v = .pointer (some ⟨g, 5, none⟩)
  | 9, v, _ => v = I stamp
  | 10, v, _ => v = .pointer (some ⟨g, 9, none⟩)
  | 11, v, _ => v = I num
  | 12, v, _ => v = .bool b1
  | 13, v, _ => v = .pointer (some ⟨q, 0, none⟩)
  | 14, v, _ => v = .pointer (some ⟨g, 1, none⟩)
  | 15, v, _ => v = .pointer (some ⟨g, 1, none⟩)
  | 16, v, _ => v = S path
  | 17, v, _ => v = .pointer (some ⟨g, 1, none⟩)
  | 18, v, _ => v = .pointer (some ⟨g, 4, none⟩)
  | 19, v, _ => v = I size
  | 20, v, _ => v = .pointer (some ⟨g, 1, none⟩)
  | 21, v, _ => v = .pointer (some ⟨g, 5, none⟩)
  | 22, v, _ => v = I stamp
  | 23, v, _ => v = .pointer (some ⟨g, 9, none⟩)
  | 24, v, _ => v = I num
  | 25, v, _ => v = .bool b2
  | 26, v, _ => v = .bool bq
  | _, _, _ => True
theorem st11Phi_mono {p q g : Nat} {path : List UInt8} {size stamp num : Int} {b1 b2 bq : Bool} : ∀ (j : Nat) (v : Value) (w w' : World), st11Phi p q g path size stamp num b1 b2 bq j v w → Below w.heap.size w w' → st11Phi p q g path size stamp num b1 b2 bq j v w' := by
  intro j v w w' h _
  match j, h with
  | 0, h => exact h
  | 1, h => exact h
  | 2, h => exact h
  | 3, h => exact h
  | 4, h => exact h
  | 5, h => exact h
  | 6, h => exact h
  | 7, h => exact h
  | 8, h => exact h
  | 9, h => exact h
  | 10, h => exact h
  | 11, h => exact h
  | 12, h => exact h
  | 13, h => exact h
  | 14, h => exact h
  | 15, h => exact h
  | 16, h => exact h
  | 17, h => exact h
  | 18, h => exact h
  | 19, h => exact h
  | 20, h => exact h
  | 21, h => exact h
  | 22, h => exact h
  | 23, h => exact h
  | 24, h => exact h
  | 25, h => exact h
  | 26, h => exact h
  | (n + 27), _ => trivial

set_option maxRecDepth 100000 in
set_option maxHeartbeats 8000000 in
theorem step_any (w : World) (p m q n : Nat) (l r : List Ent) (o : OpG) (hT : Two w p m q l r n) (hn : n ≤ 999000) (hr : r.length ≤ 999000) (hl : ∀ e ∈ l, IdxLaw.right e = true) (hrl : ∀ e ∈ r, e.path.length ≤ maxLen) (ho : o.e.path.length ≤ 2147483648) (hnum : (Lit.int .i64 o.n).wf = true) (hM : MaxL w) :
    Calls Tryz.prog 8 #[.pointer (some ⟨p, 0, none⟩), .pointer (some ⟨q, 0, none⟩), opV o] w (Stepped w p m q l r n o) := by
  have hq := hT.ref.2.1 q hT.ref.1
  have hm := hT.ref.2.1 m (.inl rfl)
  have HO := Lib.hid (Blk.new w 34 (opC o))
  have B1 := Lib.hid (balloc (Below.refl _ w) (.cells (opC o) 34))
  have HT := Lib.hid (hT.step B1.out)
  have HM := Lib.hid (hM.step B1.out)
  obtain ⟨what, ⟨path, stage, id, size, stamp⟩, sa, sb, sc, num⟩ := o
  simp only at ho hnum
  have hpath := ho
  obtain ⟨g, hg⟩ : ∃ g, g = w.heap.size := ⟨_, rfl⟩
  have Hgm : Hid (¬ g = m) := Lib.hid (by omega)
  have Hgq : Hid (¬ g = q) := Lib.hid (by omega)
  obtain ⟨W, hW⟩ : ∃ W, W = w.alloc (.cells #[I what, S path, I stage, S id, I size, I stamp, S sa, S sb, S sc, I num] 34) := ⟨_, rfl⟩
  have HX : Hid (g = w.heap.size ∧ W = w.alloc (.cells #[I what, S path, I stage, S id, I size, I stamp, S sa, S sb, S sc, I num] 34)) := Lib.hid ⟨hg, hW⟩
  rw [← hg, ← hW] at HO
  rw [← hW] at B1 HT HM
  clear hg hW hq hm
  have HF := Lib.hid (Fr.of_below (E := fun k => k = m ∨ k = q) B1.out)
  have r0 := HO.out.cell
  have Hbd : Hid (Below W.heap.size W W.drew) := Lib.hid (Below.refl _ W).drew
  by_cases h3 : kind ⟨what, ⟨path, stage, id, size, stamp⟩, sa, sb, sc, num⟩ = 3
  · have e1 : Hid (playL ⟨what, ⟨path, stage, id, size, stamp⟩, sa, sb, sc, num⟩ l = (IdxLaw.conflict l path sa sb sc).2) := Lib.hid (if_pos h3)
    have e2 : Hid (playR ⟨what, ⟨path, stage, id, size, stamp⟩, sa, sb, sc, num⟩ r = (rconf r path sa sb sc).2) := Lib.hid (if_pos h3)
    have e3 : Hid (stepB ⟨what, ⟨path, stage, id, size, stamp⟩, sa, sb, sc, num⟩ l r = ((((IdxLaw.conflict l path sa sb sc).1 : Nat) : Int) == (((rconf r path sa sb sc).1 : Nat) : Int))) := Lib.hid (if_pos h3)
    have hk : (bits BinOp.and IntKind.i64 what 7 == 3) = true := beq_iff_eq.2 h3
    have C1 := Lib.hid (fun W' (h : Below W.heap.size W W') => conflict_any W' p m n l path sa sb sc (HT.out.step h).idx (by omega) ho (HM.out.step h))
    go_enter Tryz.func8, Tryz.ntmps8
    go_upto_region 1 with fail
    rw [← HX.out.2, ← HX.out.1]
    go_wp2
    obtain ⟨a1, ha1⟩ : ∃ a1 : Int, a1 = (((IdxLaw.conflict l path sa sb sc).1 : Nat) : Int) := ⟨_, rfl⟩
    obtain ⟨a2, ha2⟩ : ∃ a2 : Int, a2 = (((rconf r path sa sb sc).1 : Nat) : Int) := ⟨_, rfl⟩
    obtain ⟨bq, hbq0⟩ : ∃ bq, bq = (a1 == a2) := ⟨_, rfl⟩
    have hbq := Lib.hid hbq0
    have Ha1 := Lib.hid ha1
    have Ha2 := Lib.hid ha2
    clear hbq0 ha1 ha2 r0
    refine wp_region_pair (by kernel_rfl) 23 (by kernel_rfl) ?_ (fun j v => st3Phi p q g path sa sb sc a1 a2 bq j v W) 10 21 (by kernel_rfl) (PJ W p m q g 34 _ (IdxLaw.conflict l path sa sb sc).2 r (rconf r path sa sb sc).2 (n + 3)) PJ.step ⟨Hbd.out, HO.out.step Hbd.out⟩ (fun i o hi hi1 hi2 ho a w k hk hk2 hs hm => ?_) (fun o ho a w hj hs hm => ?_) (fun o ho a w hj hs hm => ?_) (fun o ho a w hj hs hm => ?_)
    · exact dst_lt' (n := 122) (by kernel_rfl)
    · have hb0 := PJ.blk k w hk
      exact match i, hi, ho, hi1, hi2 with
    | 0, _, ho, _, _ => by
        cases ho
        rw [if_pos (wanted_none _ rfl)]
        refine wp_value (st_move rfl ((hs.keeps (by kernel_rfl)).trans rfl)) ⟨_, rfl, rfl, Below.refl _ _⟩
    | 1, _, ho, _, _ => by
        cases ho
        rw [if_pos (wanted_none _ rfl)]
        refine wp_value (st_field rfl ((hs.keeps (by kernel_rfl)).trans rfl) (by kernel_rfl)) ⟨_, rfl, rfl, Below.refl _ _⟩
    | 2, _, ho, _, _ => by
        cases ho
        rw [if_pos (wanted_none _ rfl)]
        refine wp_value (st_field rfl (hm.get 1 17 (by kernel_rfl)) (by kernel_rfl)) ⟨_, rfl, rfl, Below.refl _ _⟩
    | 3, _, ho, _, _ => by
        cases ho
        rw [if_pos (wanted_none _ rfl)]
        have hx : w.cell? ⟨g, 1, none⟩ = some (S path) := hb0.cell 1; refine wp_value (st_load rfl (hm.get 2 18 (by kernel_rfl)) (by go_simp)) ⟨_, rfl, rfl, Below.refl _ _⟩
    | 4, _, ho, _, _ => by
        cases ho
        rw [if_pos (wanted_none _ rfl)]
        refine wp_value (st_field rfl ((hs.keeps (by kernel_rfl)).trans rfl) (by kernel_rfl)) ⟨_, rfl, rfl, Below.refl _ _⟩
    | 5, _, ho, _, _ => by
        cases ho
        rw [if_pos (wanted_none _ rfl)]
        have hx : w.cell? ⟨g, 6, none⟩ = some (S sa) := hb0.cell 6; refine wp_value (st_load rfl (hm.get 4 20 (by kernel_rfl)) (by go_simp)) ⟨_, rfl, rfl, Below.refl _ _⟩
    | 6, _, ho, _, _ => by
        cases ho
        rw [if_pos (wanted_none _ rfl)]
        refine wp_value (st_field rfl ((hs.keeps (by kernel_rfl)).trans rfl) (by kernel_rfl)) ⟨_, rfl, rfl, Below.refl _ _⟩
    | 7, _, ho, _, _ => by
        cases ho
        rw [if_pos (wanted_none _ rfl)]
        have hx : w.cell? ⟨g, 7, none⟩ = some (S sb) := hb0.cell 7; refine wp_value (st_load rfl (hm.get 6 22 (by kernel_rfl)) (by go_simp)) ⟨_, rfl, rfl, Below.refl _ _⟩
    | 8, _, ho, _, _ => by
        cases ho
        rw [if_pos (wanted_none _ rfl)]
        refine wp_value (st_field rfl ((hs.keeps (by kernel_rfl)).trans rfl) (by kernel_rfl)) ⟨_, rfl, rfl, Below.refl _ _⟩
    | 9, _, ho, _, _ => by
        cases ho
        rw [if_pos (wanted_none _ rfl)]
        have hx : w.cell? ⟨g, 8, none⟩ = some (S sc) := hb0.cell 8; refine wp_value (st_load rfl (hm.get 8 24 (by kernel_rfl)) (by go_simp)) ⟨_, rfl, rfl, Below.refl _ _⟩
    | 10, _, _, h, _ => absurd rfl h
    | 11, _, ho, _, _ => by
        cases ho
        rw [if_pos (wanted_none _ rfl)]
        refine wp_value (st_move rfl ((hs.keeps (by kernel_rfl)).trans rfl)) ⟨_, rfl, rfl, Below.refl _ _⟩
    | 12, _, ho, _, _ => by
        cases ho
        rw [if_pos (wanted_none _ rfl)]
        refine wp_value (st_field rfl ((hs.keeps (by kernel_rfl)).trans rfl) (by kernel_rfl)) ⟨_, rfl, rfl, Below.refl _ _⟩
    | 13, _, ho, _, _ => by
        cases ho
        rw [if_pos (wanted_none _ rfl)]
        refine wp_value (st_field rfl (hm.get 12 28 (by kernel_rfl)) (by kernel_rfl)) ⟨_, rfl, rfl, Below.refl _ _⟩
    | 14, _, ho, _, _ => by
        cases ho
        rw [if_pos (wanted_none _ rfl)]
        have hx : w.cell? ⟨g, 1, none⟩ = some (S path) := hb0.cell 1; refine wp_value (st_load rfl (hm.get 13 29 (by kernel_rfl)) (by go_simp)) ⟨_, rfl, rfl, Below.refl _ _⟩
    | 15, _, ho, _, _ => by
        cases ho
        rw [if_pos (wanted_none _ rfl)]
        refine wp_value (st_field rfl ((hs.keeps (by kernel_rfl)).trans rfl) (by kernel_rfl)) ⟨_, rfl, rfl, Below.refl _ _⟩
    | 16, _, ho, _, _ => by
        cases ho
        rw [if_pos (wanted_none _ rfl)]
        have hx : w.cell? ⟨g, 6, none⟩ = some (S sa) := hb0.cell 6; refine wp_value (st_load rfl (hm.get 15 31 (by kernel_rfl)) (by go_simp)) ⟨_, rfl, rfl, Below.refl _ _⟩
    | 17, _, ho, _, _ => by
        cases ho
        rw [if_pos (wanted_none _ rfl)]
        refine wp_value (st_field rfl ((hs.keeps (by kernel_rfl)).trans rfl) (by kernel_rfl)) ⟨_, rfl, rfl, Below.refl _ _⟩
    | 18, _, ho, _, _ => by
        cases ho
        rw [if_pos (wanted_none _ rfl)]
        have hx : w.cell? ⟨g, 7, none⟩ = some (S sb) := hb0.cell 7; refine wp_value (st_load rfl (hm.get 17 33 (by kernel_rfl)) (by go_simp)) ⟨_, rfl, rfl, Below.refl _ _⟩
    | 19, _, ho, _, _ => by
        cases ho
        rw [if_pos (wanted_none _ rfl)]
        refine wp_value (st_field rfl ((hs.keeps (by kernel_rfl)).trans rfl) (by kernel_rfl)) ⟨_, rfl, rfl, Below.refl _ _⟩
    | 20, _, ho, _, _ => by
        cases ho
        rw [if_pos (wanted_none _ rfl)]
        have hx : w.cell? ⟨g, 8, none⟩ = some (S sc) := hb0.cell 8; refine wp_value (st_load rfl (hm.get 19 35 (by kernel_rfl)) (by go_simp)) ⟨_, rfl, rfl, Below.refl _ _⟩
    | 21, _, _, _, h => absurd rfl h
    | 22, _, ho, _, _ => by
        cases ho
        rw [if_pos (wanted_none _ rfl)]
        have h1 := eval_getD (hm.get 10 26 (by kernel_rfl)); have h2 := eval_getD (hm.get 21 37 (by kernel_rfl)); unfold Oper.wp; simp only [execOp]; go_simp; exact ⟨_, rfl, (show Value.bool _ = Value.bool _ by rw [hbq.out]), Below.refl _ _⟩
    | (n + 23), hi, _, _, _ => absurd hi (by omega)
    · cases ho
      have h1 := eval_getD (hm.get 0 16 (by kernel_rfl)); have h2 := eval_getD (hm.get 3 19 (by kernel_rfl)); have h3 := eval_getD (hm.get 5 21 (by kernel_rfl)); have h4 := eval_getD (hm.get 7 23 (by kernel_rfl)); have h5 := eval_getD (hm.get 9 25 (by kernel_rfl))
      unfold Oper.wp
      simp only [execOp]
      go_simp
      refine (conflict_any w p m n l path sa sb sc (HT.out.step hj.1).idx (by omega) hpath (HM.out.step hj.1)).mono ?_
      rintro e w' ⟨rfl, hI, hF1⟩
      exact ⟨_, rfl, show Value.int _ _ = Value.int _ _ by rw [Ha1.out], (HT.out.step hj.1).one hI hF1, (Fr.of_below hj.1).trans (hF1.weak (fun _ h => .inl h)), hF1.blk hj.2 Hgm.out⟩
    · cases ho
      have h1 := eval_getD (hm.get 11 27 (by kernel_rfl)); have h2 := eval_getD (hm.get 14 30 (by kernel_rfl)); have h3 := eval_getD (hm.get 16 32 (by kernel_rfl)); have h4 := eval_getD (hm.get 18 34 (by kernel_rfl)); have h5 := eval_getD (hm.get 20 36 (by kernel_rfl))
      unfold Oper.wp
      simp only [execOp]
      go_simp
      refine (rconflict_any _ w q r path sa sb sc hj.1.ref (by omega) hpath hrl).mono ?_
      rintro e w' ⟨rfl, hI, hF1⟩
      exact ⟨_, rfl, show Value.int _ _ = Value.int _ _ by rw [Ha2.out], hj.1.two hI hF1, hj.2.1.trans (hF1.weak (fun _ h => .inr h)), hF1.blk hj.2.2 Hgq.out⟩
    · cases ho
      have h1 := eval_getD (hm.get 22 38 (by kernel_rfl))
      unfold Oper.wp
      simp only [execOp]
      go_simp
      have hz : a.tmps.size = 122 := hs.size.trans rfl
      have hdf : a.defers = [] := hs.defers.trans rfl
      go_wp2
      refine bodyPost_ret (v := .bool bq) (by simp [results, Tryz.results8, go_sem, hz]) hdf ⟨by rw [e3.out, ← Ha1.out, ← Ha2.out, ← hbq.out], by rw [e1.out, e2.out]; exact hj.1, HF.out.trans hj.2.1⟩
  by_cases h4 : kind ⟨what, ⟨path, stage, id, size, stamp⟩, sa, sb, sc, num⟩ = 4
  · have e1 : Hid (playL ⟨what, ⟨path, stage, id, size, stamp⟩, sa, sb, sc, num⟩ l = IdxLaw.drop l path) := Lib.hid ((if_neg h3).trans (if_pos h4))
    have e2 : Hid (playR ⟨what, ⟨path, stage, id, size, stamp⟩, sa, sb, sc, num⟩ r = IdxLaw.drop r path) := Lib.hid ((if_neg h3).trans (if_pos h4))
    have e3 : Hid (stepB ⟨what, ⟨path, stage, id, size, stamp⟩, sa, sb, sc, num⟩ l r = (fewer (IdxLaw.drop l path) l == fewer (IdxLaw.drop r path) r)) := Lib.hid ((if_neg h3).trans (if_pos h4))
    have hk3 : (bits BinOp.and IntKind.i64 what 7 == 3) = false := beq_eq_false_iff_ne.2 h3
    have hk : (bits BinOp.and IntKind.i64 what 7 == 4) = true := beq_iff_eq.2 h4
    have C1 := Lib.hid (fun W' (h : Below W.heap.size W W') => dropm_any W' p m n l path (HT.out.step h).idx)
    go_enter Tryz.func8, Tryz.ntmps8
    go_upto_region 1 with fail
    rw [← HX.out.2, ← HX.out.1]
    go_wp2
    go_region_law (first
      | (go_simp; go_at_call 14; refine (C1.out _ Hbd.out).mono ?_; rintro e w3 ⟨rfl, hI3', hF3⟩; have hI3 := hI3'.mono (Nat.le_add_right n 3); clear hI3'; have T3 := Lib.hid ((HT.out.step Hbd.out).one hI3 hF3); have F3 := Lib.hid ((HF.out.step Hbd.out).trans (hF3.weak (fun _ h => .inl h))); have HO3 := Lib.hid (hF3.blk (HO.out.step Hbd.out) Hgm.out); have r3 := HO3.out.cell; clear r0 hI3 hF3)
      | (go_simp; go_at_call 26; refine (rdrop_any _ w3 q r path T3.out.ref (by omega)).mono ?_; rintro e w4 ⟨rfl, hI4, hF4⟩; have T4 := Lib.hid (T3.out.two hI4 hF4); have F4 := Lib.hid (F3.out.trans (hF4.weak (fun _ h => .inr h))); have r4 := (hF4.blk HO3.out Hgq.out).cell; clear r3 hI4 hF4))
    all_goals go_wp2
    all_goals
      go_ret
      refine ⟨ret_bool ?_, by rw [e1.out, e2.out]; exact T4.out, F4.out⟩
      rw [e3.out]
      first | done | rfl | simp
  by_cases h5 : kind ⟨what, ⟨path, stage, id, size, stamp⟩, sa, sb, sc, num⟩ = 5
  · have e1 : Hid (playL ⟨what, ⟨path, stage, id, size, stamp⟩, sa, sb, sc, num⟩ l = l) := Lib.hid ((if_neg h3).trans ((if_neg h4).trans (if_pos h5)))
    have e2 : Hid (playR ⟨what, ⟨path, stage, id, size, stamp⟩, sa, sb, sc, num⟩ r = r) := Lib.hid ((if_neg h3).trans ((if_neg h4).trans (if_pos h5)))
    have e3 : Hid (stepB ⟨what, ⟨path, stage, id, size, stamp⟩, sa, sb, sc, num⟩ l r = (eqE ((IdxLaw.find l (path, num)).getD zE) ((IdxLaw.find r (path, num)).getD zE) && ((IdxLaw.find l (path, num)).isSome == (IdxLaw.find r (path, num)).isSome))) := Lib.hid ((if_neg h3).trans ((if_neg h4).trans (if_pos h5)))
    have hk3 : (bits BinOp.and IntKind.i64 what 7 == 3) = false := beq_eq_false_iff_ne.2 h3
    have hk4 : (bits BinOp.and IntKind.i64 what 7 == 4) = false := beq_eq_false_iff_ne.2 h4
    have hk : (bits BinOp.and IntKind.i64 what 7 == 5) = true := beq_iff_eq.2 h5
    have C1 := Lib.hid (fun W' (h : Below W.heap.size W W') => find_any W' p m n l path num (HT.out.step h).idx ⟨Nat.le_trans hpath (by decide), hnum⟩)
    have C2 := Lib.hid (fun W' (h : Below W.heap.size W W') => rfind_any _ W' q r path num (HT.out.step h).ref (by omega))
    obtain ⟨x1, hx1⟩ : ∃ x, x = (IdxLaw.find l (path, num)).getD zE := ⟨_, rfl⟩
    obtain ⟨x2, hx2⟩ : ∃ x, x = (IdxLaw.find r (path, num)).getD zE := ⟨_, rfl⟩
    obtain ⟨s1, hs1⟩ : ∃ x, x = (IdxLaw.find l (path, num)).isSome := ⟨_, rfl⟩
    obtain ⟨s2, hs2⟩ : ∃ x, x = (IdxLaw.find r (path, num)).isSome := ⟨_, rfl⟩
    rw [← hx1, ← hs1] at C1
    rw [← hx2, ← hs2] at C2
    rw [← hx1, ← hs1, ← hx2, ← hs2] at e3
    clear hx1 hx2 hs1 hs2
    go_enter Tryz.func8, Tryz.ntmps8
    go_upto_region 1 with fail
    rw [← HX.out.2, ← HX.out.1]
    go_wp2_with (first
      | (go_at_call 10; refine (C1.out _ (Below.refl _ W)).mono ?_; rintro e w2 ⟨rfl, b2⟩; have B2 := Lib.hid b2; have r2 := ((HO.out.step b2).alloc (.cells #[S x1.path, I x1.stage, S x1.id, I x1.size, I x1.stamp] 36)).cell; clear r0 b2)
      | (go_at_call 27; refine (C2.out _ (balloc B2.out _)).mono ?_; rintro e w3 ⟨rfl, b3⟩; have B3 := Lib.hid (bstep (balloc B2.out _) b3); have HY1 := Lib.hid ((Blk.new w2 36 #[S x1.path, I x1.stage, S x1.id, I x1.size, I x1.stamp]).step b3); clear r2 b3))
    have HY3 := Lib.hid (HY1.out.alloc (.cells #[S x2.path, I x2.stage, S x2.id, I x2.size, I x2.stamp] 32))
    have HZ3 := Lib.hid (Blk.new w3 32 #[S x2.path, I x2.stage, S x2.id, I x2.size, I x2.stamp])
    have B4 := Lib.hid (balloc B3.out (.cells #[S x2.path, I x2.stage, S x2.id, I x2.size, I x2.stamp] 32))
    obtain ⟨W9, hW9⟩ : ∃ W9, W9 = w3.alloc (.cells #[S x2.path, I x2.stage, S x2.id, I x2.size, I x2.stamp] 32) := ⟨_, rfl⟩
    obtain ⟨g7, hg7⟩ : ∃ g7, g7 = w2.heap.size := ⟨_, rfl⟩
    obtain ⟨g9, hg9⟩ : ∃ g9, g9 = w3.heap.size := ⟨_, rfl⟩
    rw [← hg7] at HY3
    rw [← hg9] at HZ3
    rw [← hW9] at HY3 HZ3 B4
    simp only [← hW9]
    simp only [← hg7, ← hg9]
    clear hW9 hg7 hg9
    obtain ⟨bE, hbE⟩ : ∃ b, b = eqE x1 x2 := ⟨_, rfl⟩
    obtain ⟨bq, hbq0⟩ : ∃ bq, bq = (s1 == s2) := ⟨_, rfl⟩
    have hbq := Lib.hid hbq0
    have HE := Lib.hid hbE
    clear hbE hbq0
    refine wp_region_guards (by kernel_rfl) 9 (by kernel_rfl) ?_ (st9Phi x1 x2 s1 s2 bE bq) st9Phi_mono (fun i o hi ho a w hb hs hm => ?_) (fun o ho a w hb hs hm => ?_)
    · exact dst_lt' (n := 122) (by kernel_rfl)
    · exact match i, hi, ho with
    | 0, _, ho => by
        cases ho
        rw [if_pos (wanted_none _ rfl)]
        have r7 := (HY3.out.step hb).cell; have h1 := eval_getD (show a.eval (.tmp 7) = .pointer (some ⟨g7, 0, none⟩) from (hs.keeps (by kernel_rfl)).trans rfl); unfold Oper.wp; simp only [execOp]; go_simp; exact ⟨_, rfl, rfl, Below.refl _ _⟩
    | 1, _, ho => by
        cases ho
        rw [if_pos (wanted_none _ rfl)]
        have r7 := (HZ3.out.step hb).cell; have h1 := eval_getD (show a.eval (.tmp 9) = .pointer (some ⟨g9, 0, none⟩) from (hs.keeps (by kernel_rfl)).trans rfl); unfold Oper.wp; simp only [execOp]; go_simp; exact ⟨_, rfl, rfl, Below.refl _ _⟩
    | 2, _, ho => by
        cases ho
        rw [if_pos (wanted_none _ rfl)]
        have h1 := eval_getD (hm.get 1 75 (by kernel_rfl)); unfold Oper.wp; simp only [execOp]; go_simp; refine (mine_any x2 w).mono ?_; rintro e w' ⟨rfl, hb'⟩; exact ⟨_, rfl, rfl, hb'⟩
    | 3, _, ho => by
        cases ho
        rw [if_pos (wanted_none _ rfl)]
        have kE := eql_ent; have kG := guard_ent; have h1 := eval_getD (hm.get 0 74 (by kernel_rfl)); have h2 := eval_getD (hm.get 2 76 (by kernel_rfl)); unfold Oper.wp; simp only [execOp]; go_simp; exact ⟨_, rfl, (show Value.bool _ = Value.bool _ by rw [HE.out]), Below.refl _ _⟩
    | 4, _, ho => by
        cases ho
        rw [if_pos (wanted_none _ rfl)]
        refine wp_value (st_move rfl (hm.get 3 77 (by kernel_rfl))) ⟨_, rfl, rfl, Below.refl _ _⟩
    | 5, _, ho => by
        cases ho
        generalize hW : Region.wanted _ _ = W
        obtain rfl : W = (bE == true) := hW.symm.trans (wanted_of rfl rfl rfl (show a.eval (.tmp 78) = .bool bE from (hm.get 4 78 (by kernel_rfl))))
        clear hW
        rcases fls_tru (bE) with hf | hf
        · rw [if_neg (show ¬ (bE == true) = true by rw [hf]; decide)]; exact fun h => Bool.noConfusion (h.symm.trans hf)
        · rw [if_pos (show (bE == true) = true by rw [hf]; decide)]
          refine wp_value (st_move rfl ((hs.keeps (by kernel_rfl)).trans rfl)) ⟨_, rfl, fun _ => rfl, Below.refl _ _⟩
    | 6, _, ho => by
        cases ho
        generalize hW : Region.wanted _ _ = W
        obtain rfl : W = (bE == true) := hW.symm.trans (wanted_of rfl rfl rfl (show a.eval (.tmp 78) = .bool bE from (hm.get 4 78 (by kernel_rfl))))
        clear hW
        rcases fls_tru (bE) with hf | hf
        · rw [if_neg (show ¬ (bE == true) = true by rw [hf]; decide)]; exact fun h => Bool.noConfusion (h.symm.trans hf)
        · rw [if_pos (show (bE == true) = true by rw [hf]; decide)]
          refine wp_value (st_move rfl ((hs.keeps (by kernel_rfl)).trans rfl)) ⟨_, rfl, fun _ => rfl, Below.refl _ _⟩
    | 7, _, ho => by
        cases ho
        generalize hW : Region.wanted _ _ = W
        obtain rfl : W = (bE == true) := hW.symm.trans (wanted_of rfl rfl rfl (show a.eval (.tmp 78) = .bool bE from (hm.get 4 78 (by kernel_rfl))))
        clear hW
        rcases fls_tru (bE) with hf | hf
        · rw [if_neg (show ¬ (bE == true) = true by rw [hf]; decide)]; exact fun h => Bool.noConfusion (h.symm.trans hf)
        · rw [if_pos (show (bE == true) = true by rw [hf]; decide)]
          have h1 := eval_getD ((hm.get 5 79 (by kernel_rfl)) hf); have h2 := eval_getD ((hm.get 6 80 (by kernel_rfl)) hf); unfold Oper.wp; simp only [execOp]; go_simp; exact ⟨_, rfl, fun _ => (show Value.bool _ = Value.bool _ by rw [hbq.out]), Below.refl _ _⟩
    | 8, _, ho => by
        cases ho
        rw [if_pos (wanted_none _ rfl)]
        have h1 := eval_getD (hm.get 4 78 (by kernel_rfl))
        have h2 := (hm.get 7 81 (by kernel_rfl))
        rcases fls_tru (bE) with hg | hg
        · rw [hg] at h1
          unfold Oper.wp; simp only [execOp]; go_simp
          exact ⟨_, rfl, (show Value.bool _ = Value.bool _ by first | (rw [hg]; simp) | simp), Below.refl _ _⟩
        · rw [hg] at h1
          have h3 := eval_getD (h2 hg)
          unfold Oper.wp; simp only [execOp]; go_simp
          exact ⟨_, rfl, (show Value.bool _ = Value.bool _ by first | (rw [hg]; simp) | simp), Below.refl _ _⟩
    | (n + 9), hi, _ => absurd hi (by omega)
    · cases ho
      have h1 := eval_getD (hm.get 8 82 (by kernel_rfl))
      unfold Oper.wp
      simp only [execOp]
      go_simp
      have hz : a.tmps.size = 122 := hs.size.trans rfl
      have hdf : a.defers = [] := hs.defers.trans rfl
      go_wp2
      refine bodyPost_ret (v := .bool (bE && bq)) (by simp [results, Tryz.results8, go_sem, hz]) hdf ⟨by rw [e3.out, ← HE.out, ← hbq.out], by rw [e1.out, e2.out]; exact (HT.out.step (bstep B4.out hb)).mono (Nat.le_add_right n 3), HF.out.step (bstep B4.out hb)⟩
  by_cases h6 : kind ⟨what, ⟨path, stage, id, size, stamp⟩, sa, sb, sc, num⟩ = 6
  · have e1 : Hid (playL ⟨what, ⟨path, stage, id, size, stamp⟩, sa, sb, sc, num⟩ l = l) := Lib.hid ((if_neg h3).trans ((if_neg h4).trans ((if_neg h5).trans (if_pos h6))))
    have e2 : Hid (playR ⟨what, ⟨path, stage, id, size, stamp⟩, sa, sb, sc, num⟩ r = r) := Lib.hid ((if_neg h3).trans ((if_neg h4).trans ((if_neg h5).trans (if_pos h6))))
    have e3 : Hid (stepB ⟨what, ⟨path, stage, id, size, stamp⟩, sa, sb, sc, num⟩ l r = (freshB (IdxLaw.find l (path, 0)) size stamp num == freshB (IdxLaw.find r (path, 0)) size stamp num)) := Lib.hid ((if_neg h3).trans ((if_neg h4).trans ((if_neg h5).trans (if_pos h6))))
    have hk3 : (bits BinOp.and IntKind.i64 what 7 == 3) = false := beq_eq_false_iff_ne.2 h3
    have hk4 : (bits BinOp.and IntKind.i64 what 7 == 4) = false := beq_eq_false_iff_ne.2 h4
    have hk5 : (bits BinOp.and IntKind.i64 what 7 == 5) = false := beq_eq_false_iff_ne.2 h5
    have hk : (bits BinOp.and IntKind.i64 what 7 == 6) = true := beq_iff_eq.2 h6
    have C1 := Lib.hid (fun W' (h : Below W.heap.size W W') => fresh_any W' p m n l path size stamp num (HT.out.step h).idx (Nat.le_trans ho (by decide)))
    go_enter Tryz.func8, Tryz.ntmps8
    go_upto_region 1 with fail
    rw [← HX.out.2, ← HX.out.1]
    go_wp2
    obtain ⟨b1, hb1⟩ : ∃ b1, b1 = freshB (IdxLaw.find l (path, 0)) size stamp num := ⟨_, rfl⟩
    obtain ⟨b2, hb2⟩ : ∃ b2, b2 = freshB (IdxLaw.find r (path, 0)) size stamp num := ⟨_, rfl⟩
    obtain ⟨bq, hbq0⟩ : ∃ bq, bq = (b1 == b2) := ⟨_, rfl⟩
    have hbq := Lib.hid hbq0
    have C2 := Lib.hid (fun W' (h : Below W.heap.size W W') => rfresh_any _ W' q r path size stamp num (HT.out.step h).ref (by omega))
    rw [← hb1] at C1
    rw [← hb2] at C2
    rw [← hb1, ← hb2] at e3
    clear hbq0 hb1 hb2 r0
    refine wp_region_guards (by kernel_rfl) 27 (by kernel_rfl) ?_ (st11Phi p q g path size stamp num b1 b2 bq) st11Phi_mono (fun i o hi ho a w hb hs hm => ?_) (fun o ho a w hb hs hm => ?_)
    · exact dst_lt' (n := 122) (by kernel_rfl)
    · have hb0 := HO.out.step hb
      exact match i, hi, ho with
    | 0, _, ho => by
        cases ho
        rw [if_pos (wanted_none _ rfl)]
        refine wp_value (st_move rfl ((hs.keeps (by kernel_rfl)).trans rfl)) ⟨_, rfl, rfl, Below.refl _ _⟩
    | 1, _, ho => by
        cases ho
        rw [if_pos (wanted_none _ rfl)]
        refine wp_value (st_field rfl ((hs.keeps (by kernel_rfl)).trans rfl) (by kernel_rfl)) ⟨_, rfl, rfl, Below.refl _ _⟩
    | 2, _, ho => by
        cases ho
        rw [if_pos (wanted_none _ rfl)]
        refine wp_value (st_field rfl (hm.get 1 86 (by kernel_rfl)) (by kernel_rfl)) ⟨_, rfl, rfl, Below.refl _ _⟩
    | 3, _, ho => by
        cases ho
        rw [if_pos (wanted_none _ rfl)]
        have hx : w.cell? ⟨g, 1, none⟩ = some (S path) := hb0.cell 1; refine wp_value (st_load rfl (hm.get 2 87 (by kernel_rfl)) (by go_simp)) ⟨_, rfl, rfl, Below.refl _ _⟩
    | 4, _, ho => by
        cases ho
        rw [if_pos (wanted_none _ rfl)]
        refine wp_value (st_field rfl ((hs.keeps (by kernel_rfl)).trans rfl) (by kernel_rfl)) ⟨_, rfl, rfl, Below.refl _ _⟩
    | 5, _, ho => by
        cases ho
        rw [if_pos (wanted_none _ rfl)]
        refine wp_value (st_field rfl (hm.get 4 89 (by kernel_rfl)) (by kernel_rfl)) ⟨_, rfl, rfl, Below.refl _ _⟩
    | 6, _, ho => by
        cases ho
        rw [if_pos (wanted_none _ rfl)]
        have hx : w.cell? ⟨g, 4, none⟩ = some (I size) := hb0.cell 4; refine wp_value (st_load rfl (hm.get 5 90 (by kernel_rfl)) (by go_simp)) ⟨_, rfl, rfl, Below.refl _ _⟩
    | 7, _, ho => by
        cases ho
        rw [if_pos (wanted_none _ rfl)]
        refine wp_value (st_field rfl ((hs.keeps (by kernel_rfl)).trans rfl) (by kernel_rfl)) ⟨_, rfl, rfl, Below.refl _ _⟩
    | 8, _, ho => by
        cases ho
        rw [if_pos (wanted_none _ rfl)]
        refine wp_value (st_field rfl (hm.get 7 92 (by kernel_rfl)) (by kernel_rfl)) ⟨_, rfl, rfl, Below.refl _ _⟩
    | 9, _, ho => by
        cases ho
        rw [if_pos (wanted_none _ rfl)]
        have hx : w.cell? ⟨g, 5, none⟩ = some (I stamp) := hb0.cell 5; refine wp_value (st_load rfl (hm.get 8 93 (by kernel_rfl)) (by go_simp)) ⟨_, rfl, rfl, Below.refl _ _⟩
    | 10, _, ho => by
        cases ho
        rw [if_pos (wanted_none _ rfl)]
        refine wp_value (st_field rfl ((hs.keeps (by kernel_rfl)).trans rfl) (by kernel_rfl)) ⟨_, rfl, rfl, Below.refl _ _⟩
    | 11, _, ho => by
        cases ho
        rw [if_pos (wanted_none _ rfl)]
        have hx : w.cell? ⟨g, 9, none⟩ = some (I num) := hb0.cell 9; refine wp_value (st_load rfl (hm.get 10 95 (by kernel_rfl)) (by go_simp)) ⟨_, rfl, rfl, Below.refl _ _⟩
    | 12, _, ho => by
        cases ho
        rw [if_pos (wanted_none _ rfl)]
        have h1 := eval_getD (hm.get 0 85 (by kernel_rfl)); have h2 := eval_getD (hm.get 3 88 (by kernel_rfl)); have h3 := eval_getD (hm.get 6 91 (by kernel_rfl)); have h4 := eval_getD (hm.get 9 94 (by kernel_rfl)); have h5 := eval_getD (hm.get 11 96 (by kernel_rfl)); unfold Oper.wp; simp only [execOp]; go_simp; refine (C1.out w hb).mono ?_; rintro e w' ⟨rfl, hb'⟩; exact ⟨_, rfl, rfl, hb'⟩
    | 13, _, ho => by
        cases ho
        rw [if_pos (wanted_none _ rfl)]
        refine wp_value (st_move rfl ((hs.keeps (by kernel_rfl)).trans rfl)) ⟨_, rfl, rfl, Below.refl _ _⟩
    | 14, _, ho => by
        cases ho
        rw [if_pos (wanted_none _ rfl)]
        refine wp_value (st_field rfl ((hs.keeps (by kernel_rfl)).trans rfl) (by kernel_rfl)) ⟨_, rfl, rfl, Below.refl _ _⟩
    | 15, _, ho => by
        cases ho
        rw [if_pos (wanted_none _ rfl)]
        refine wp_value (st_field rfl (hm.get 14 99 (by kernel_rfl)) (by kernel_rfl)) ⟨_, rfl, rfl, Below.refl _ _⟩
    | 16, _, ho => by
        cases ho
        rw [if_pos (wanted_none _ rfl)]
        have hx : w.cell? ⟨g, 1, none⟩ = some (S path) := hb0.cell 1; refine wp_value (st_load rfl (hm.get 15 100 (by kernel_rfl)) (by go_simp)) ⟨_, rfl, rfl, Below.refl _ _⟩
    | 17, _, ho => by
        cases ho
        rw [if_pos (wanted_none _ rfl)]
        refine wp_value (st_field rfl ((hs.keeps (by kernel_rfl)).trans rfl) (by kernel_rfl)) ⟨_, rfl, rfl, Below.refl _ _⟩
    | 18, _, ho => by
        cases ho
        rw [if_pos (wanted_none _ rfl)]
        refine wp_value (st_field rfl (hm.get 17 102 (by kernel_rfl)) (by kernel_rfl)) ⟨_, rfl, rfl, Below.refl _ _⟩
    | 19, _, ho => by
        cases ho
        rw [if_pos (wanted_none _ rfl)]
        have hx : w.cell? ⟨g, 4, none⟩ = some (I size) := hb0.cell 4; refine wp_value (st_load rfl (hm.get 18 103 (by kernel_rfl)) (by go_simp)) ⟨_, rfl, rfl, Below.refl _ _⟩
    | 20, _, ho => by
        cases ho
        rw [if_pos (wanted_none _ rfl)]
        refine wp_value (st_field rfl ((hs.keeps (by kernel_rfl)).trans rfl) (by kernel_rfl)) ⟨_, rfl, rfl, Below.refl _ _⟩
    | 21, _, ho => by
        cases ho
        rw [if_pos (wanted_none _ rfl)]
        refine wp_value (st_field rfl (hm.get 20 105 (by kernel_rfl)) (by kernel_rfl)) ⟨_, rfl, rfl, Below.refl _ _⟩
    | 22, _, ho => by
        cases ho
        rw [if_pos (wanted_none _ rfl)]
        have hx : w.cell? ⟨g, 5, none⟩ = some (I stamp) := hb0.cell 5; refine wp_value (st_load rfl (hm.get 21 106 (by kernel_rfl)) (by go_simp)) ⟨_, rfl, rfl, Below.refl _ _⟩
    | 23, _, ho => by
        cases ho
        rw [if_pos (wanted_none _ rfl)]
        refine wp_value (st_field rfl ((hs.keeps (by kernel_rfl)).trans rfl) (by kernel_rfl)) ⟨_, rfl, rfl, Below.refl _ _⟩
    | 24, _, ho => by
        cases ho
        rw [if_pos (wanted_none _ rfl)]
        have hx : w.cell? ⟨g, 9, none⟩ = some (I num) := hb0.cell 9; refine wp_value (st_load rfl (hm.get 23 108 (by kernel_rfl)) (by go_simp)) ⟨_, rfl, rfl, Below.refl _ _⟩
    | 25, _, ho => by
        cases ho
        rw [if_pos (wanted_none _ rfl)]
        have h1 := eval_getD (hm.get 13 98 (by kernel_rfl)); have h2 := eval_getD (hm.get 16 101 (by kernel_rfl)); have h3 := eval_getD (hm.get 19 104 (by kernel_rfl)); have h4 := eval_getD (hm.get 22 107 (by kernel_rfl)); have h5 := eval_getD (hm.get 24 109 (by kernel_rfl)); unfold Oper.wp; simp only [execOp]; go_simp; refine (C2.out w hb).mono ?_; rintro e w' ⟨rfl, hb'⟩; exact ⟨_, rfl, rfl, hb'⟩
    | 26, _, ho => by
        cases ho
        rw [if_pos (wanted_none _ rfl)]
        have h1 := eval_getD (hm.get 12 97 (by kernel_rfl)); have h2 := eval_getD (hm.get 25 110 (by kernel_rfl)); unfold Oper.wp; simp only [execOp]; go_simp; exact ⟨_, rfl, (show Value.bool _ = Value.bool _ by rw [hbq.out]), Below.refl _ _⟩
    | (n + 27), hi, _ => absurd hi (by omega)
    · cases ho
      have h1 := eval_getD (hm.get 26 111 (by kernel_rfl))
      unfold Oper.wp
      simp only [execOp]
      go_simp
      have hz : a.tmps.size = 122 := hs.size.trans rfl
      have hdf : a.defers = [] := hs.defers.trans rfl
      go_wp2
      refine bodyPost_ret (v := .bool bq) (by simp [results, Tryz.results8, go_sem, hz]) hdf ⟨by rw [e3.out, ← hbq.out], by rw [e1.out, e2.out]; exact (HT.out.step hb).mono (Nat.le_add_right n 3), HF.out.step hb⟩
  · have e1 : Hid (playL ⟨what, ⟨path, stage, id, size, stamp⟩, sa, sb, sc, num⟩ l = (IdxLaw.set l ⟨path, stage, id, size, stamp⟩).2) := Lib.hid ((if_neg h3).trans ((if_neg h4).trans ((if_neg h5).trans (if_neg h6))))
    have e2 : Hid (playR ⟨what, ⟨path, stage, id, size, stamp⟩, sa, sb, sc, num⟩ r = (rset r ⟨path, stage, id, size, stamp⟩).2) := Lib.hid ((if_neg h3).trans ((if_neg h4).trans ((if_neg h5).trans (if_neg h6))))
    have e3 : Hid (stepB ⟨what, ⟨path, stage, id, size, stamp⟩, sa, sb, sc, num⟩ l r = ((((IdxLaw.set l ⟨path, stage, id, size, stamp⟩).1 : Nat) : Int) == (((rset r ⟨path, stage, id, size, stamp⟩).1 : Nat) : Int))) := Lib.hid ((if_neg h3).trans ((if_neg h4).trans ((if_neg h5).trans (if_neg h6))))
    have hk3 : (bits BinOp.and IntKind.i64 what 7 == 3) = false := beq_eq_false_iff_ne.2 h3
    have hk4 : (bits BinOp.and IntKind.i64 what 7 == 4) = false := beq_eq_false_iff_ne.2 h4
    have hk5 : (bits BinOp.and IntKind.i64 what 7 == 5) = false := beq_eq_false_iff_ne.2 h5
    have hk6 : (bits BinOp.and IntKind.i64 what 7 == 6) = false := beq_eq_false_iff_ne.2 h6
    have C0 := Lib.hid (fun W' => mine_any ⟨path, stage, id, size, stamp⟩ W')
    have C1 := Lib.hid (fun W' (h : Below W.heap.size W W') => set_any W' p m n l ⟨path, stage, id, size, stamp⟩ (HT.out.step h).idx (by omega) hl ho (HM.out.step h))
    go_enter Tryz.func8, Tryz.ntmps8
    go_upto_region 1 with fail
    rw [← HX.out.2, ← HX.out.1]
    go_wp2
    go_region_law (first
      | (go_simp; go_at_call 28; refine (C0.out _).mono ?_; rintro e w2 ⟨rfl, b2⟩; have B2 : Hid (Below W.heap.size W w2) := Lib.hid (bstep Hbd.out b2); have r2 := (HO.out.step B2.out).cell; clear r0 b2)
      | (go_simp; go_at_call 11; refine (C1.out _ B2.out).mono ?_; rintro e w3 ⟨rfl, hI3', hF3⟩; have hI3 := hI3'.mono (show n + 1 ≤ n + 3 by omega); clear hI3'; have T3 := Lib.hid ((HT.out.step B2.out).one hI3 hF3); have F3 := Lib.hid ((HF.out.step B2.out).trans (hF3.weak (fun _ h => .inl h))); have HO3 := Lib.hid (hF3.blk (HO.out.step B2.out) Hgm.out); have r3 := HO3.out.cell; clear r2 hI3 hF3)
      | (go_simp; go_at_call 30; refine (rset_any _ w3 q r ⟨path, stage, id, size, stamp⟩ T3.out.ref (by omega) ho hrl).mono ?_; rintro e w4 ⟨rfl, hI4, hF4⟩; have T4 := Lib.hid (T3.out.two hI4 hF4); have F4 := Lib.hid (F3.out.trans (hF4.weak (fun _ h => .inr h))); have r4 := (hF4.blk HO3.out Hgq.out).cell; clear r3 hI4 hF4))
    all_goals go_wp2
    all_goals
      go_ret
      refine ⟨ret_bool ?_, by rw [e1.out, e2.out]; exact T4.out, F4.out⟩
      rw [e3.out]
      first | done | rfl | simp
end Go.Proofs.YtjcelelgebohkaaGreatDoor
