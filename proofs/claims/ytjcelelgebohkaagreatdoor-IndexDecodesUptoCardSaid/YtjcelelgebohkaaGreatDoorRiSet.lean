/-
  The document's index: Set, Conflict. Conditions: paths are shorter than 2147483648 bytes; no more than 1000000 entries.
-/
import Derived.Test.YtjcelelgebohkaaGreatDoorRiAdd
namespace Go.Proofs.YtjcelelgebohkaaGreatDoor
open Go.RowKit
open PathLaw (under)
open IdxLaw (Ent Key zE ltE)

theorem insE_len (x : Ent) (l : List Ent) : (insE x l).length = l.length + 1 := (insE_perm x l).length_eq
theorem insE_mem {x y : Ent} {l : List Ent} : y ∈ insE x l ↔ y = x ∨ y ∈ l := by rw [(insE_perm x l).mem_iff]; simp
/-- what the document's Set answers and leaves -/
def rset (l : List Ent) (x : Ent) : Nat × List Ent := if IdxLaw.right x = true ∧ x.stage = 0 then (0, insE x (l.filter (rkeep true x.path))) else (1, l)
theorem rset_yes {l : List Ent} {x : Ent} (h : IdxLaw.right x = true) (h0 : x.stage = 0) : rset l x = (0, insE x (l.filter (rkeep true x.path))) := if_pos ⟨h, h0⟩
theorem rset_no {l : List Ent} {x : Ent} (h : IdxLaw.right x = false ∨ x.stage ≠ 0) : rset l x = (1, l) := if_neg (fun ⟨h1, h2⟩ => h.elim (fun h => by rw [h1] at h; cases h) (fun h => h h2))

set_option maxRecDepth 100000 in
set_option maxHeartbeats 2000000 in
theorem rset_any (E : Nat → Prop) (w : World) (q : Nat) (l : List Ent) (x : Ent) (hR : RIx E w q l) (hn : l.length ≤ 1000000) (hx : x.path.length ≤ 2147483648) (hl : ∀ e ∈ l, e.path.length ≤ maxLen) :
    Calls Tryz.prog 30 #[.pointer (some ⟨q, 0, none⟩), entV x] w fun e w' => e = .returned (I ((rset l x).1 : Nat)) ∧ RIx E w' q (rset l x).2 ∧ Fr (fun k => k = q) w w' := by
  have hq := hR.2.1 q hR.1
  have HI := Lib.hid (hR.step (balloc (Below.refl _ w) (.cells #[S x.path, I x.stage, S x.id, I x.size, I x.stamp] 32)))
  have HX := Lib.hid (Blk.new w 32 #[S x.path, I x.stage, S x.id, I x.size, I x.stamp])
  have C1 := Lib.hid (fun W => rright_any x W hx)
  have Hl := Lib.hid hl
  clear hR hl
  have hcase : IdxLaw.right x = false ∨ (IdxLaw.right x = true ∧ x.stage ≠ 0) ∨ (IdxLaw.right x = true ∧ x.stage = 0) := by
    cases IdxLaw.right x <;> simp <;> omega
  rcases hcase with h | ⟨h, h0⟩ | ⟨h, h0⟩
  · rw [rset_no (.inl h)]
    rw [h] at C1
    go_enter Tryz.func30, Tryz.ntmps30
    go_wp2_with (go_at_call 58; refine (C1.out _).mono ?_; rintro e w2 ⟨rfl, b2⟩; have B2 := Lib.hid b2; clear b2)
    go_ret
    exact ⟨rfl, HI.out.step B2.out, Fr.of_below (bstep (balloc (Below.refl _ w) _) B2.out)⟩
  · rw [rset_no (.inr h0)]
    rw [h] at C1
    have h0' : (x.stage == 0) = false := beq_eq_false_iff_ne.2 h0
    go_enter Tryz.func30, Tryz.ntmps30
    go_wp2_with (go_at_call 58; refine (C1.out _).mono ?_; rintro e w2 ⟨rfl, b2⟩; have B2 := Lib.hid b2; have rx := (HX.out.step b2).cell; clear b2)
    go_ret
    exact ⟨rfl, HI.out.step B2.out, Fr.of_below (bstep (balloc (Below.refl _ w) _) B2.out)⟩
  · rw [rset_yes h h0]
    rw [h] at C1
    have C2 := Lib.hid (fun W h => rclear_any E W q l x.path true h hn (Nat.le_trans hx (by decide)) Hl.out)
    have C3 := Lib.hid (fun W h => radd_any E W q (l.filter (rkeep true x.path)) x h (Nat.le_trans (List.length_filter_le _ _) hn))
    have h0' : (x.stage == 0) = true := beq_iff_eq.2 h0
    clear h h0
    go_enter Tryz.func30, Tryz.ntmps30
    go_wp2_with (first
      | (go_at_call 58; refine (C1.out _).mono ?_; rintro e w2 ⟨rfl, b2⟩; have B2 := Lib.hid b2; have hx2 := HX.out.step b2; have rx := hx2.cell; have HX2 := Lib.hid hx2; clear b2 hx2)
      | (go_at_call 63; refine (C2.out _ (HI.out.step B2.out)).mono ?_; rintro e w3 ⟨rfl, hI3, hF3⟩; have HI3 := Lib.hid hI3; have HF3 := Lib.hid hF3; have rx3 := (hF3.blk HX2.out (by show ¬ w.heap.size = q; omega)).cell; clear hI3 hF3)
      | (go_at_call 64; refine (C3.out _ HI3.out).mono ?_; rintro e w4 ⟨rfl, hI4, hF4⟩; have HI4 := Lib.hid hI4; have HF4 := Lib.hid hF4; clear hI4 hF4))
    go_ret
    exact ⟨rfl, HI4.out, ((Fr.of_below (bstep (balloc (Below.refl _ w) _) B2.out)).trans HF3.out).trans HF4.out⟩
end Go.Proofs.YtjcelelgebohkaaGreatDoor
