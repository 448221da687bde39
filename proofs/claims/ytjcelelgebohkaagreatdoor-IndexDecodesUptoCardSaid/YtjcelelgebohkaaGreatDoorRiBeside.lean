/-
  dolmenref14.beside. Condition: paths are no longer than a slice may be.
-/
import Derived.Test.YtjcelelgebohkaaGreatDoorIdxDecLaw
import Derived.Test.YtjcelelgebohkaaGreatDoorRiBook
namespace Go.Proofs.YtjcelelgebohkaaGreatDoor
open Go.RowKit
open PathLaw (under)
open IdxLaw (Ent Key zE)

set_option maxHeartbeats 4000000 in
set_option maxRecDepth 100000 in
theorem rbeside_any (a b : Ent) (w : World) (ha : b.path.length ≤ maxLen) :
    Calls Tryz.prog 59 #[entV a, entV b] w fun e w' => e = .returned (.bool (bes2 a b)) ∧ Below w.heap.size w w' := by
  obtain ⟨ap, as_, ai, az, at_⟩ := a
  obtain ⟨bp, bs, bi, bz, bt⟩ := b
  simp only at ha
  have C1 := fun W => runder_any bp ap W ha
  obtain ⟨u, hu⟩ : ∃ u, u = under bp ap := ⟨_, rfl⟩
  rw [← hu] at C1
  have D1 := Lib.hid C1
  have ra := ((Blk.new w 32 #[S ap, I as_, S ai, I az, I at_]).alloc (.cells #[S bp, I bs, S bi, I bz, I bt] 32)).cell
  have rb := (Blk.new (w.alloc (.cells #[S ap, I as_, S ai, I az, I at_] 32)) 32 #[S bp, I bs, S bi, I bz, I bt]).cell
  have HB := Lib.hid (balloc (balloc (Below.refl _ w) (.cells #[S ap, I as_, S ai, I az, I at_] 32)) (.cells #[S bp, I bs, S bi, I bz, I bt] 32))
  simp only [World.size_alloc] at rb
  obtain ⟨qe, he⟩ : ∃ q, q = (ap == bp) := ⟨_, rfl⟩
  obtain ⟨bl, hl⟩ : ∃ q, q = Op.bytesLess ap bp := ⟨_, rfl⟩
  obtain ⟨s1, h1⟩ : ∃ q, q = decide (0 < as_) := ⟨_, rfl⟩
  obtain ⟨s2, h2⟩ : ∃ q, q = decide (0 < bs) := ⟨_, rfl⟩
  have Hr : Hid (bes2 ⟨ap, as_, ai, az, at_⟩ ⟨bp, bs, bi, bz, bt⟩ = if qe = true then (s1 && decide (as_ < bs)) else (bl && (s1 || (s2 || !u)))) := Lib.hid (by
    rw [he, hl, h1, h2, hu, Go.Proofs.bytesLess_eq]
    unfold bes2
    by_cases h : ap = bp <;> simp [h])
  have k1 := he.symm
  have k2 := hl.symm
  have k3 := h1.symm
  have k4 := h2.symm
  clear he hl h1 h2 hu C1
  cases qe <;> cases bl <;> cases s1 <;> cases s2
  all_goals
    go_enter Tryz.func59, Tryz.ntmps59
    go_wp2_with (go_at_call 79; refine (D1.out _).mono ?_; rintro e w2 ⟨rfl, rfl⟩)
    go_ret
    exact ⟨by rw [Hr.out]; first | rfl | simp, HB.out⟩
end Go.Proofs.YtjcelelgebohkaaGreatDoor
