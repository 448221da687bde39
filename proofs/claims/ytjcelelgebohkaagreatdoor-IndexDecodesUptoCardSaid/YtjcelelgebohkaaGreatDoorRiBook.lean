/-
  The document's index in memory: its entries as a list; right, Find, Fresh. Conditions: paths are shorter than 2147483648 bytes; no more than 1000000 entries.
-/
import Derived.Test.YtjcelelgebohkaaGreatDoorRiNamed
import Derived.Test.YtjcelelgebohkaaGreatDoorIdxSet
namespace Go.Proofs.YtjcelelgebohkaaGreatDoor
open Go.RowKit
open IdxLaw (Ent Key zE)

/-- the document's index at block q: its entries are l; E: blocks that others turn, and q -/
def RIx (E : Nat → Prop) (w : World) (q : Nat) (l : List Ent) : Prop :=
  E q ∧ (∀ k, E k → k < w.heap.size) ∧ ∃ A c, Blk w q 29 #[.slice A l.length c] ∧ l.length ≤ c ∧ SlF E w 5 A l.length (ents l)
section
variable {E F : Nat → Prop} {w w0 w' : World} {q : Nat} {l l' : List Ent}
theorem RIx.fr (h : RIx E w q l) (hf : Fr F w w') (hF : ∀ k, F k → E k) (hq : ¬ F q) : RIx E w' q l := by
  obtain ⟨h1, h2, A, c, hB, hc, hS⟩ := h
  refine ⟨h1, fun k hk => Nat.lt_of_lt_of_le (h2 k hk) hf.size, A, c, hf.blk hB hq, hc, ((hS.weak hF).fr hf).1, fun b off hn e => hS.2 b off hn e⟩
theorem RIx.step (h : RIx E w q l) (hb : Below w.heap.size w w') : RIx E w' q l := h.fr (F := fun _ => False) (.of_below hb) (fun _ h => h.elim) (fun h => h)
theorem RIx.put {e : TypeId} {n c : Nat} {A : Option Addr} (h : RIx E w0 q l) (hO : Ow w0 w e 5 A n c (ents l')) : RIx E (w.setCell ⟨q, 0, none⟩ (.slice A n c)) q l' := by
  obtain ⟨h1, h2, A0, c0, hB, _, _⟩ := h
  obtain rfl : l'.length = n := ents_count hO.sl
  have hb := (hB.step hO.2).set_ 0 (.slice A l'.length c)
  have hne : ∀ b off, 0 < l'.length → A = some ⟨b, off, none⟩ → ¬ E b := fun b off hn e hE => by
    have h3 := hO.blk e
    have h4 := h2 b hE
    simp only at h3
    omega
  refine ⟨h1, fun k hk => ?_, A, c, by simpa using hb, hO.cap.1, ?_⟩
  · have h3 := h2 k hk
    have h4 := hO.2.size
    rw [setCell_size]
    omega
  · have h5 : SlF (fun k => k = q) w 5 A l'.length (ents l') := ⟨hO.sl, fun b off hn e hE => hne b off hn e (by rw [hE]; exact h1)⟩
    exact ⟨(h5.fr (Fr.setCell (E := fun k => k = q) (p := ⟨q, 0, none⟩) (Fr.refl _ w) rfl (.slice A l'.length c))).1, hne⟩
theorem RIx.new (w : World) (F : Nat → Prop) (hF : ∀ k, F k → k < w.heap.size) : RIx (fun k => F k ∨ k = w.heap.size) (w.alloc (.cells #[.slice none 0 0] 29)) w.heap.size [] :=
  ⟨.inr rfl, fun k hk => by
    rw [World.size_alloc]
    rcases hk with h | h
    · have := hF k h; omega
    · omega, none, 0, Blk.new w 29 #[.slice none 0 0], Nat.le_refl _, SlF.nil_⟩
theorem fr_put {e : TypeId} {n c : Nat} {A : Option Addr} {xs : List Value} (hO : Ow w0 w e 5 A n c xs) (q : Nat) (v : Value) : Fr (fun k => k = q) w0 (w.setCell ⟨q, 0, none⟩ v) := Fr.setCell (E := fun k => k = q) (p := ⟨q, 0, none⟩) (Fr.of_below hO.2) rfl v
end

set_option maxRecDepth 100000 in
set_option maxHeartbeats 4000000 in
theorem rright_any (x : Ent) (w : World) (hx : x.path.length ≤ 2147483648) :
    Calls Tryz.prog 58 #[entV x] w fun e w' => e = .returned (.bool (IdxLaw.right x)) ∧ Below w.heap.size w w' := by
  have C1 := Lib.hid (fun W => rnamed_any x.path W hx)
  have hR := Blk.new w 32 #[S x.path, I x.stage, S x.id, I x.size, I x.stamp]
  have HR := Lib.hid hR
  clear hR
  obtain ⟨path, stage, id, size, stamp⟩ := x
  simp only at *
  have hcase : stage = 0 ∨ (stage ≠ 0 ∧ size = 0) ∨ (stage ≠ 0 ∧ size ≠ 0) := by omega
  rcases hcase with rfl | ⟨h0, rfl⟩ | ⟨h0, h1⟩
  all_goals
    go_enter Tryz.func58, Tryz.ntmps58
    go_wp2_with (go_at_call 62; refine (C1.out _).mono ?_; rintro e w2 ⟨rfl, b2⟩; have B2 := Lib.hid (bstep (balloc (Below.refl _ w) _) b2); have hc2 := (HR.out.step b2).cell; clear b2)
  all_goals
    go_ret
    refine ⟨ret_bool ?_, B2.out⟩
    clear B2 hc2 C1 HR
    unfold IdxLaw.right IdxLaw.bare IdxLaw.inN
    grind
end Go.Proofs.YtjcelelgebohkaaGreatDoor
