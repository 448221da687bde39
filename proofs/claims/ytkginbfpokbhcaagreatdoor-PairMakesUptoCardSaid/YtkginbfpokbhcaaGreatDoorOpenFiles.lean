/-
  Files that came in as an argument, opened. No condition.
-/
import Derived.Test.YtkginbfpokbhcaaGreatDoorOpenFld
import Derived.Test.YtkginbfpokbhcaaGreatDoorFiles
namespace Go.Proofs.YtkginbfpokbhcaaGreatDoor
open Go.ChangeShapes Go.WideShapes Go.RowKit Go.Deep

theorem Tryz.cellsRFil : Tryz.prog.cellsOf 33 = 2 := by kernel_rfl
section
variable {H : Type} {enc : TypeId × Value → H} {w : World} {base : Nat} {held : Bool}
theorem open_rfil {fuel : Nat} {cs : List Value} {x : DataW H × List MemPlace} (h : DataW.trod enc Tryz.prog w base (fun _ => true) held fuel 33 cs = some x) : ∃ f : Fil, cs = flC f ∧ f.1.length ≤ maxLen ∧ f.2.length ≤ maxLen := by
  obtain ⟨n0, y0, h0, hl, _⟩ := fld Tryz.underlying33 h 0 rfl Tryz.cellsStr
  obtain ⟨n1, y1, h1, _, _⟩ := fld Tryz.underlying33 h 1 rfl Tryz.cellsStr
  obtain ⟨s0, e0, _, hs0⟩ := DataW.trod_string Tryz.underlying9 h0
  obtain ⟨s1, e1, _, hs1⟩ := DataW.trod_string Tryz.underlying9 h1
  rw [Tryz.cellsRFil] at hl
  match cs, hl with
  | [c0, c1], _ =>
    simp at e0 e1
    subst e0 e1
    obtain ⟨l0, rfl⟩ := str_of s0
    obtain ⟨l1, rfl⟩ := str_of s1
    exact ⟨(l0, l1), rfl, by rw [size_mk] at hs0; exact hs0, by rw [size_mk] at hs1; exact hs1⟩
theorem open_rfiles {fuel : Nat} {v : Value} {x : DataW H × List MemPlace} (h : DataW.trod enc Tryz.prog w base (fun _ => true) held fuel 22 [v] = some x) (hw : ∀ m ∈ x.1.weights Tryz.prog 22, m ≤ reachBytes) :
    ∃ (A : Option Addr) (n c : Nat) (l : List Fil), v = .slice A n c ∧ Sl w 2 A n (fls l) ∧ ∀ f ∈ l, f.1.length ≤ maxLen := by
  obtain ⟨A, n, c, xs, rfl, _, _, _, _, hxs, hS⟩ := open_rows (α := Fil) flC (fun f => f.1.length ≤ maxLen) Tryz.underlying22 Tryz.cellsRFil (by omega) (fun n cs y hy hwy => by
    obtain ⟨f, e, h1, _⟩ := open_rfil hy
    exact ⟨f, e, h1⟩) h hw
  exact ⟨A, n, c, xs, rfl, hS, fun o ho => (hxs o ho).1⟩
end
end Go.Proofs.YtkginbfpokbhcaaGreatDoor
