/-
  Files that came in as an argument, of a bounded bulk, opened. No condition.
-/
import Derived.Test.YtkginbfpokbhcaaGreatDoorOpenBulk
import Derived.Test.YtkginbfpokbhcaaGreatDoorOpenFiles
namespace Go.Proofs.YtkginbfpokbhcaaGreatDoor
open Go.ChangeShapes Go.WideShapes Go.RowKit Go.Deep

section
variable {H : Type} {enc : TypeId × Value → H} {w : World} {base : Nat} {held : Bool}
theorem open_rfilU {fuel : Nat} {cs : List Value} {x : DataW H × List MemPlace} (h : DataW.trod enc Tryz.prog w base (fun _ => true) held fuel 33 cs = some x) : ∃ f : Fil, cs = flC f ∧ f.1.length ≤ Rows.uptoBulk x.1 ∧ f.2.length ≤ Rows.uptoBulk x.1 := by
  obtain ⟨n0, y0, h0, hl, b0⟩ := fldB Tryz.underlying33 h 0 rfl Tryz.cellsStr
  obtain ⟨n1, y1, h1, _, b1⟩ := fldB Tryz.underlying33 h 1 rfl Tryz.cellsStr
  obtain ⟨s0, e0, f0, _⟩ := DataW.trod_string Tryz.underlying9 h0
  obtain ⟨s1, e1, f1, _⟩ := DataW.trod_string Tryz.underlying9 h1
  rw [Tryz.cellsRFil] at hl
  match cs, hl with
  | [c0, c1], _ =>
    simp at e0 e1
    subst e0 e1
    obtain ⟨l0, rfl⟩ := str_of s0
    obtain ⟨l1, rfl⟩ := str_of s1
    rw [f0] at b0
    rw [f1] at b1
    simp [Rows.uptoBulk] at b0 b1
    exact ⟨(l0, l1), rfl, by show l0.length ≤ _; omega, by show l1.length ≤ _; omega⟩
theorem open_rfilesU {fuel : Nat} {v : Value} {x : DataW H × List MemPlace} (h : DataW.trod enc Tryz.prog w base (fun _ => true) held fuel 22 [v] = some x) (hw : Rows.uptoBulk x.1 ≤ 1048576) :
    ∃ (A : Option Addr) (n c : Nat) (l : List Fil), v = .slice A n c ∧ Sl w 2 A n (fls l) ∧ n ≤ 1048576 ∧ ∀ f ∈ l, f.1.length ≤ 1048576 := by
  obtain ⟨A, n, c, xs, rfl, _, hn, hxs, hS⟩ := open_rowsB (α := Fil) flC (fun f => f.1.length ≤ 1048576) Tryz.underlying22 Tryz.cellsRFil (by omega) (fun n cs y hy hwy => by
    obtain ⟨f, e, h1, _⟩ := open_rfilU hy
    exact ⟨f, e, by omega⟩) h hw
  exact ⟨A, n, c, xs, rfl, hS, hn, fun o ho => (hxs o ho).1⟩
end
end Go.Proofs.YtkginbfpokbhcaaGreatDoor
