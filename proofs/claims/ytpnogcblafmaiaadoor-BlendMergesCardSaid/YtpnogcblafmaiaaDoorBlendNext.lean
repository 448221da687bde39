/-
  (*side).next: the next hunk of a side. Conditions: the side's block and its hunks as told.
-/
import Derived.Test.YtpnogcblafmaiaaDoorFrame
import Derived.Test.YtpnogcblafmaiaaDoorLineSim
import Derived.Test.YtpnogcblafmaiaaDoorBlendLaw
import Derived.RegionTactic
import Derived.BigRegion
namespace Go.Proofs.YtpnogcblafmaiaaDoor
open Go.RowKit
open LineLaw (Hk)

/-- a side's value: its lines and hunks -/
structure Sd where
  A : Option Addr
  n : Nat
  c : Nat
  l : List (List UInt8)
  H : Option Addr
  k : Nat
  d : Nat
  hs : List Hk
/-- its cells, when r are left -/
def Sd.cells (s : Sd) (r : List Hk) : Array Value := #[.slice s.A s.n s.c, .slice s.H s.k s.d, I (BlendLaw.dl s.hs - BlendLaw.dl r), I ((s.hs.length : Int) - r.length)]

theorem hks_cells {w : World} {H : Option Addr} {k q : Nat} {hs : List Hk} {h : Hk} (hH : Sl w 4 H k (hks hs)) (hq : hs[q]? = some h) : ∃ b off, H = some ⟨b, off, none⟩ ∧ q < k ∧ w.cell? ⟨b, off + q * 4, none⟩ = some (I h.a0) ∧ w.cell? ⟨b, off + q * 4 + 1, none⟩ = some (I h.a1) ∧ w.cell? ⟨b, off + q * 4 + 2, none⟩ = some (I h.b0) ∧ w.cell? ⟨b, off + q * 4 + 3, none⟩ = some (I h.b1) := by
  have hk := hks_count hH
  have hlt := (List.getElem?_eq_some_iff.1 hq).1
  obtain ⟨b, off, e, hb, hc⟩ := hH.2 (by omega)
  refine ⟨b, off, e, by omega, ?_, ?_, ?_, ?_⟩
  · rw [hc _ (by omega)]; exact hks_at hq 0 (by omega)
  · rw [Nat.add_assoc, hc _ (by omega)]; exact hks_at hq 1 (by omega)
  · rw [Nat.add_assoc, hc _ (by omega)]; exact hks_at hq 2 (by omega)
  · rw [Nat.add_assoc, hc _ (by omega)]; exact hks_at hq 3 (by omega)

theorem below_box4 (w : World) (o : Obj) (n : Nat) (p q r s : Value) : Below w.heap.size w ((((((w.alloc o).drewN n).setCell ⟨w.heap.size, 0, none⟩ p).setCell ⟨w.heap.size, 1, none⟩ q).setCell ⟨w.heap.size, 2, none⟩ r).setCell ⟨w.heap.size, 3, none⟩ s) :=
  ((((below_drewN (balloc (Below.refl _ w) o) n).setCell (Nat.le_refl _) p).setCell (Nat.le_refl _) q).setCell (Nat.le_refl _) r).setCell (Nat.le_refl _) s

set_option maxHeartbeats 1000000 in
theorem next_no (g : Nat) (s : Sd) (w : World) (hB : Blk w g 67 (s.cells [])) (hH : Sl w 4 s.H s.k (hks s.hs)) :
    Calls Tryd.prog 55 #[.pointer (some ⟨g, 0, none⟩)] w fun e w' => e = .returned (.tuple #[hkV 0 0 0 0, .bool false]) ∧ Below w.heap.size w w' := by
  have hk := hks_count hH
  have hz : g < w.heap.size := hB.lt
  obtain ⟨m, hm⟩ : ∃ m, BlendLaw.dl s.hs - BlendLaw.dl [] = m := ⟨_, rfl⟩
  have rB := hB.cell
  simp only [Sd.cells, hm, hk, List.length_nil] at rB
  have e0 : ((s.k : Int) - (0 : Nat)) = (s.k : Int) := by omega
  rw [e0] at rB
  clear hB hH hk hm e0
  go_enter Tryd.func55, Tryd.ntmps55
  go_wp2
  go_quiet (fail)
  go_wp2
  exact bodyPost_ret (v := .tuple #[hkV 0 0 0 0, .bool false]) (by simp [results, Tryd.results55, go_sem]) rfl ⟨rfl, below_box4 _ _ _ _ _ _ _⟩

set_option maxHeartbeats 4000000 in
theorem next_yes (g : Nat) (s : Sd) (h : Hk) (t : List Hk) (w : World) (hB : Blk w g 67 (s.cells (h :: t))) (hH : Sl w 4 s.H s.k (hks s.hs)) (hf : (h :: t).length ≤ s.hs.length) (hq : s.hs[s.hs.length - (h :: t).length]? = some h) (hkm : s.k ≤ 1000000000000) :
    Calls Tryd.prog 55 #[.pointer (some ⟨g, 0, none⟩)] w fun e w' => e = .returned (.tuple #[hkV h.a0 h.a1 h.b0 h.b1, .bool true]) ∧ Below w.heap.size w w' := by
  have hk := hks_count hH
  have hz : g < w.heap.size := hB.lt
  obtain ⟨m, hm⟩ : ∃ m, BlendLaw.dl s.hs - BlendLaw.dl (h :: t) = m := ⟨_, rfl⟩
  obtain ⟨q, hqq⟩ : ∃ q, s.hs.length - (h :: t).length = q := ⟨_, rfl⟩
  have rB := hB.cell
  have e0 : ((s.hs.length : Int) - ((h :: t).length : Nat)) = (q : Int) := by omega
  simp only [Sd.cells, hm, e0] at rB
  rw [hqq] at hq
  obtain ⟨b, off, hHe, hqk, c0, c1, c2, c3⟩ := hks_cells hH hq
  have hbz := hH.lt_ b off (by omega) hHe
  rw [hHe] at rB
  have hne : ((q : Int) == (s.k : Int)) = false := by simp; omega
  clear hB hH hk hm e0 hq hqq hf hHe
  go_enter Tryd.func55, Tryd.ntmps55
  go_wp2
  go_quiet (fail)
  go_wp2
  go_region
  all_goals
    go_wp2
    exact bodyPost_ret (v := .tuple #[hkV h.a0 h.a1 h.b0 h.b1, .bool true]) (by simp [results, Tryd.results55, go_sem]) rfl ⟨rfl, below_box4 _ _ _ _ _ _ _⟩
end Go.Proofs.YtpnogcblafmaiaaDoor
