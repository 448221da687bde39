/-
  The two books side by side, apart from one another and in new memory: what keeps them; Apply, Trim on each. Condition: the books lie in their homes.
-/
import Derived.Test.YtegehaokfcamfaaGreatDoorRrApply
import Derived.Test.YtegehaokfcamfaaGreatDoorRefsLog
import Derived.Test.YtegehaokfcamfaaGreatDoorRefsTrim
import Derived.Test.YtegehaokfcamfaaGreatDoorRefsResolve
namespace Go.Proofs.YtegehaokfcamfaaGreatDoor
open Go.RowKit
open RefsLaw (Val Chg Txn rightT Book)

/-- .. in blocks from B up to N -/
structure Both (B N : Nat) (w : World) (p q : Nat) (bk : Book) (z y : Nat) (H G : Nat → Prop) : Prop where
  b : BookAt w p H bk z
  r : RBookAt w q G (y * 4096) y
  hH : ∀ k, H k → B ≤ k ∧ k < N
  hG : ∀ k, G k → B ≤ k ∧ k < N
  apart : ∀ k, H k → ¬ G k
  top : N ≤ w.heap.size
/-- both are books; so many transactions at most were applied to each -/
def BothAt (B N : Nat) (w : World) (p q : Nat) (z y : Nat) : Prop := ∃ bk H G, Both B N w p q bk z y H G
section
variable {B N : Nat} {w w' : World} {p q z y : Nat} {bk : Book} {H G : Nat → Prop}
theorem RBookAt.own {q z y : Nat} {G : Nat → Prop} (h : RBookAt w q G z y) : G q := by
  obtain ⟨A, n, c, rs, B', m, d, xs, h⟩ := h
  exact h.hq
theorem Both.step (h : Both B N w p q bk z y H G) (hb : Below w.heap.size w w') : Both B N w' p q bk z y H G :=
  ⟨h.b.step hb, h.r.step hb, h.hH, h.hG, h.apart, Nat.le_trans h.top hb.size⟩
theorem BothAt.step (h : BothAt B N w p q z y) (hb : Below w.heap.size w w') : BothAt B N w' p q z y := by
  obtain ⟨bk, H, G, h⟩ := h
  exact ⟨bk, H, G, h.step hb⟩
theorem BothAt.at_q (h : BothAt B N w p q z y) : B ≤ q ∧ q < N := by
  obtain ⟨bk, H, G, h⟩ := h
  exact h.hG q h.r.own
theorem BothAt.top (h : BothAt B N w p q z y) : N ≤ w.heap.size := by
  obtain ⟨bk, H, G, h⟩ := h
  exact h.top
theorem BothAt.size (h : BothAt B N w p q z y) : B ≤ w.heap.size := by
  have h1 := h.at_q
  have h2 := h.top
  omega
theorem BothAt.up (h : BothAt B N w p q z y) {N' : Nat} (h1 : N ≤ N') (h2 : N' ≤ w.heap.size) : BothAt B N' w p q z y := by
  obtain ⟨bk, H, G, h⟩ := h
  exact ⟨bk, H, G, h.b, h.r, fun k hk => ⟨(h.hH k hk).1, Nat.lt_of_lt_of_le (h.hH k hk).2 h1⟩, fun k hk => ⟨(h.hG k hk).1, Nat.lt_of_lt_of_le (h.hG k hk).2 h1⟩, h.apart, h2⟩
theorem BothAt.mono {z' y' : Nat} (h : BothAt B N w p q z y) (hz : z ≤ z') (hy : y ≤ y') : BothAt B N w p q z' y' := by
  obtain ⟨bk, H, G, h⟩ := h
  exact ⟨bk, H, G, h.b.weak (fun _ _ h => h) hz, h.r.weak (fun _ _ h => h) (Nat.mul_le_mul_right _ hy) hy, h.hH, h.hG, h.apart, h.top⟩
theorem ext_in (hN : N ≤ w.heap.size) (hB : B ≤ N) (hs : w.heap.size ≤ w'.heap.size) (hH : ∀ k, H k → B ≤ k ∧ k < N) : ∀ k, ext H w w' k → B ≤ k ∧ k < w'.heap.size := by
  rintro k (h | h)
  · have := hH k h; omega
  · omega
/-- behind a call on the program's book -/
theorem Both.prog {bk' : Book} {z' : Nat} (h : Both B N w p q bk z y H G) (hB : BookAt w' p (ext H w w') bk' z') (hf : Fr H w w') : Both B w'.heap.size w' p q bk' z' y (ext H w w') G := by
  have h1 := h.hG q h.r.own
  have h2 := h.top
  have h3 := hf.size
  exact ⟨hB, h.r.fr hf (fun k hG hH => h.apart k hH hG), ext_in h.top (by omega) hf.size h.hH, fun k hk => by have := h.hG k hk; omega, fun k hk hG => by
    rcases hk with hk | hk
    · exact h.apart k hk hG
    · have := (h.hG k hG).2; omega, Nat.le_refl _⟩
/-- behind a call on the reference's -/
theorem Both.refs {y' : Nat} (h : Both B N w p q bk z y H G) (hB : RBookAt w' q (ext G w w') (y' * 4096) y') (hf : Fr (fun k => k = q) w w') : Both B w'.heap.size w' p q bk z y' H (ext G w w') := by
  have h1 := h.hG q h.r.own
  have h2 := h.top
  have h3 := hf.size
  exact ⟨h.b.fr hf (fun k hH e => h.apart k hH (e ▸ h.r.own)), hB, fun k hk => by have := h.hH k hk; omega, ext_in h.top (by omega) hf.size h.hG, fun k hk hG => by
    rcases hG with hG | hG
    · exact h.apart k hk hG
    · have := (h.hH k hk).2; omega, Nat.le_refl _⟩
theorem MaxL.low {E : Nat → Prop} (h : MaxL w) (hM : 0 < B) (hE : ∀ k, E k → B ≤ k) (hf : Fr E w w') : MaxL w' := h.fr hf (fun e => by have := hE _ e; omega)
end

theorem both_apply (B N p q z y : Nat) (t : TxG) (L : Nat → Prop) (w : World) (hB : BothAt B N w p q z y) (hz : z ≤ 1000) (ht : SlT L 58 w 5 t.A t.n (chs t.chs)) (hn : t.n ≤ 1759218604390) (hs : ∀ c ∈ t.chs, c.ref.length ≤ maxLen) (hM : MaxL w) (hl : 0 < B) :
    Calls Tryz.prog 9 #[.pointer (some ⟨p, 0, none⟩), txV t.who t.text t.stamp t.A t.n t.c] w fun e w' => AnyI e ∧ BothAt B w'.heap.size w' p q (z + 1) y ∧ Fr (fun k => B ≤ k ∧ k < N) w w' := by
  obtain ⟨bk, H, G, h⟩ := hB
  by_cases hr : rightT t.txn = true
  · refine (apply_ok w p H bk z t L h.b (by omega) ht hn hs hM (fun hH => by have := (h.hH _ hH).1; omega) hr).mono ?_
    rintro e w' ⟨rfl, hb, hf⟩
    exact ⟨AnyI.mk _, ⟨_, _, _, h.prog hb hf⟩, hf.weak h.hH⟩
  · refine (apply_bad w p t L ht hn hs hM (by simpa using hr)).mono ?_
    rintro e w' ⟨rfl, hb⟩
    exact ⟨AnyI.mk _, ((BothAt.step ⟨bk, H, G, h⟩ hb).mono (Nat.le_succ z) (Nat.le_refl y)).up (Nat.le_trans h.top hb.size) (Nat.le_refl _), Fr.of_below hb⟩
theorem both_rapply (B N p q z y : Nat) (t : TxG) (w : World) (hB : BothAt B N w p q z y) (hy : y ≤ 1000) (ht : SlF (fun k => k = q) w 5 t.A t.n (chs t.chs)) (hn : t.n ≤ 1759218604390) :
    Calls Tryz.prog 51 #[.pointer (some ⟨q, 0, none⟩), txV t.who t.text t.stamp t.A t.n t.c] w fun e w' => AnyI e ∧ BothAt B w'.heap.size w' p q z (y + 1) ∧ Fr (fun k => k = q) w w' := by
  obtain ⟨bk, H, G, h⟩ := hB
  refine (rapply_any w q G (y * 4096) y t h.r (by omega) (by omega) ht hn).mono ?_
  rintro e w' ⟨he, hb, hf⟩
  exact ⟨he, ⟨_, _, _, h.refs (y' := y + 1) (by rw [Nat.succ_mul]; exact hb) hf⟩, hf⟩
theorem both_trim (B N p q z y : Nat) (keep : Int) (w : World) (hB : BothAt B N w p q z y) (hz : z ≤ 1000) (hk : -9223372036854775808 ≤ keep ∧ keep ≤ 9223372036854775807) :
    Calls Tryz.prog 17 #[.pointer (some ⟨p, 0, none⟩), I keep] w fun e w' => e = .returned (.tuple #[]) ∧ BothAt B w'.heap.size w' p q z y ∧ Fr (fun k => B ≤ k ∧ k < N) w w' := by
  obtain ⟨bk, H, G, h⟩ := hB
  refine (bookTrim_any w p H bk z keep h.b (by omega) hk).mono ?_
  rintro e w' ⟨he, hb, hf⟩
  exact ⟨he, ⟨_, _, _, h.prog hb hf⟩, hf.weak h.hH⟩
theorem both_rtrim (B N p q z y : Nat) (keep : Int) (w : World) (hB : BothAt B N w p q z y) (hy : y ≤ 1000) (hk : -9223372036854775808 ≤ keep ∧ keep ≤ 9223372036854775807) :
    Calls Tryz.prog 50 #[.pointer (some ⟨q, 0, none⟩), I keep] w fun e w' => e = .returned (.tuple #[]) ∧ BothAt B w'.heap.size w' p q z y ∧ Fr (fun k => k = q) w w' := by
  obtain ⟨bk, H, G, h⟩ := hB
  refine (rtrim_any w q G (y * 4096) y keep h.r (by omega) hk).mono ?_
  rintro e w' ⟨he, hb, hf⟩
  exact ⟨he, ⟨_, _, _, h.refs hb hf⟩, hf⟩
end Go.Proofs.YtegehaokfcamfaaGreatDoor
