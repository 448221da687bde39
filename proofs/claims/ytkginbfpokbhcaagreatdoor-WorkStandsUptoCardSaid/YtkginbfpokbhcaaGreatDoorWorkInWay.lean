/-
  work.inWay and its closures. Conditions: the changes can be read; paths are no longer than 2147483648 bytes.
-/
import Derived.Test.YtkginbfpokbhcaaGreatDoorWorkChosen
import Derived.Test.YtkginbfpokbhcaaGreatDoorKitD
import Derived.Test.YtkginbfpokbhcaaGreatDoorKitX
import Derived.Shelf.Abstract
namespace Go.Proofs.YtkginbfpokbhcaaGreatDoor
open Go.RowKit Go.Shelf
open PathLaw (under)

def inWay1 (p : List UInt8) (c : Chg3) : Bool := decide (c.1 = p) || (under c.1 p || under p c.1)
def inWayB (l : List Chg3) (p : List UInt8) : Bool := l.any (inWay1 p)
set_option maxHeartbeats 1000000 in
set_option maxRecDepth 100000 in
theorem inway11_any (x : Chg3) (p : List UInt8) (g : Nat) (w : World) (hg : w.cell? ⟨g, 0, none⟩ = some (S p)) (hp : p.length ≤ 2147483648) (hx : x.1.length ≤ 2147483648) :
    Calls Tryz.prog 97 #[.agg #[S x.1, S x.2.1, S x.2.2], .pointer (some ⟨g, 0, none⟩)] w fun e w' => e = .returned (.bool (inWay1 p x)) ∧ Below w.heap.size w w' := by
  have hlt : g < w.heap.size := World.block_lt_of_cell? _ _ hg
  have hne : w.heap.size ≠ g := by omega
  have C1 := Lib.hid (fun W => under_any x.1 p W hp)
  have C2 := Lib.hid (fun W => under_any p x.1 W hx)
  have hways : (x.1 == p) = true ∨ ((x.1 == p) = false ∧ under x.1 p = true) ∨ ((x.1 == p) = false ∧ under x.1 p = false) := by
    rcases h1 : (x.1 == p) with _ | _ <;> rcases h2 : under x.1 p with _ | _ <;> simp
  rcases hways with d1 | ⟨d1, d2⟩ | ⟨d1, d2⟩
  · have Hd := Lib.hid (beq_iff_eq.1 d1)
    go_enter Tryz.func97, Tryz.ntmps97
    go_wp2
    go_ret
    exact ⟨ret_bool (by unfold inWay1; simp [Hd.out]), balloc (Below.refl _ w) _⟩
  all_goals
    have Hd := Lib.hid (beq_eq_false_iff_ne.1 d1)
    have Hd2 := Lib.hid d2
    rw [d2] at C1
    clear d2
    go_enter Tryz.func97, Tryz.ntmps97
    go_wp2_with fail
    refine (C1.out _).mono ?_
    rintro e w1 ⟨rfl, rfl⟩
  · go_wp2
    go_ret
    exact ⟨ret_bool (by unfold inWay1; simp [Hd2.out]), balloc (Below.refl _ w) _⟩
  · go_wp2_with fail
    refine (C2.out _).mono ?_
    rintro e w1 ⟨rfl, rfl⟩
    go_wp2
    go_ret
    exact ⟨ret_bool (by unfold inWay1; simp [Hd.out, Hd2.out]), balloc (Below.refl _ w) _⟩
set_option maxRecDepth 100000 in
theorem inway1_any (A : Option Addr) (n c : Nat) (l : List Chg3) (p : List UInt8) (g : Nat) (w : World) (hg : w.cell? ⟨g, 0, none⟩ = some (.slice A n c)) (hA : Sl w 3 A n (cgs l)) (hn : n ≤ 1000000000) (hp : p.length ≤ 2147483648) (hl : ∀ x ∈ l, x.1.length ≤ 2147483648) :
    Calls Tryz.prog 95 #[S p, .pointer (some ⟨g, 0, none⟩)] w fun e w' => e = .returned (.bool (inWayB l p)) ∧ Below w.heap.size w w' := by
  have hlt : g < w.heap.size := World.block_lt_of_cell? _ _ hg
  have hB := (Blk.new w 9 #[S p]).cell 0
  have C := Lib.hid (containsFnC 97 #[.pointer (some ⟨w.heap.size, 0, none⟩)] (enters_of Tryz.func97 (by kernel_rfl) rfl) (inWay1 p) A n c l (w.alloc (.cells #[S p] 9)) (hA.alloc _) hn
    (fun x hx W hb => inway11_any x p w.heap.size W ((hb.cell (p := ⟨w.heap.size, 0, none⟩) (by simp)).trans hB) hp (hl x hx)))
  clear hB hA hl
  go_enter Tryz.func95, Tryz.ntmps95
  go_wp2_with fail
  refine C.out.mono ?_
  rintro e w2 ⟨rfl, b2⟩
  have B2 := Lib.hid (bstep (balloc (Below.refl _ w) _) b2)
  clear b2
  go_wp2
  go_ret
  exact ⟨rfl, B2.out⟩
set_option maxRecDepth 100000 in
theorem inway_any (A : Option Addr) (n c : Nat) (w : World) :
    Calls Tryz.prog 42 #[.slice A n c] w fun e w' => e = .returned (.func (.func 95) #[] #[.pointer (some ⟨w.heap.size, 0, none⟩)]) ∧ w' = w.alloc (.cells #[.slice A n c] 63) := by
  go_enter Tryz.func42, Tryz.ntmps42
  go_wp2
  go_ret
  exact ⟨rfl, rfl⟩
end Go.Proofs.YtkginbfpokbhcaaGreatDoor
