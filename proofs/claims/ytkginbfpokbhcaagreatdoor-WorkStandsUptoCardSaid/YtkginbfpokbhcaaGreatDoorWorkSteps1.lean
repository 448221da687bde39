/-
  The closures of work.Steps. Conditions: changes and files can be read; paths are no longer than 2147483648 bytes.
-/
import Derived.Test.YtkginbfpokbhcaaGreatDoorWorkInWay
import Derived.Test.YtkginbfpokbhcaaGreatDoorFindF
namespace Go.Proofs.YtkginbfpokbhcaaGreatDoor
open Go.RowKit
open DiffLaw (fid)

def newB (x : Chg3) : Bool := !decide (x.2.2 = [])
set_option maxRecDepth 100000 in
theorem steps2_any (x : Chg3) (w : World) :
    Calls Tryz.prog 46 #[.agg #[S x.1, S x.2.1, S x.2.2]] w fun e w' => e = .returned (.bool (newB x)) ∧ Below w.heap.size w w' := by
  go_enter Tryz.func46, Tryz.ntmps46
  go_wp2
  go_ret
  refine ⟨ret_bool ?_, balloc (Below.refl _ w) _⟩
  unfold newB
  rw [Bool.eq_iff_iff]
  simp
def goneP (l : List Chg3) (t : List Fil) (p : List UInt8) : Bool := inWayB l p && decide (fid t p = [])
set_option maxHeartbeats 1000000 in
set_option maxRecDepth 100000 in
theorem steps1_any (A : Option Addr) (n c : Nat) (l : List Chg3) (T : Option Addr) (k ct : Nat) (t : List Fil) (p : List UInt8) (g8 g5 g : Nat) (w : World) (h8 : w.cell? ⟨g8, 0, none⟩ = some (.func (.func 95) #[] #[.pointer (some ⟨g, 0, none⟩)])) (h5 : w.cell? ⟨g5, 0, none⟩ = some (.slice T k ct)) (hg : w.cell? ⟨g, 0, none⟩ = some (.slice A n c))
    (hA : Sl w 3 A n (cgs l)) (hn : n ≤ 1000000000) (hT : Sl w 2 T k (fls t)) (hk : k ≤ 1000000000) (hp : p.length ≤ 2147483648) (hl : ∀ x ∈ l, x.1.length ≤ 2147483648) :
    Calls Tryz.prog 44 #[S p, .pointer (some ⟨g8, 0, none⟩), .pointer (some ⟨g5, 0, none⟩)] w fun e w' => e = .returned (.bool (goneP l t p)) ∧ Below w.heap.size w w' := by
  have C1 := inway1_any A n c l p g w hg hA hn hp hl
  have HT := Lib.hid hT
  have l5 : g5 < w.heap.size := World.block_lt_of_cell? _ _ h5
  clear hA hT hg hl
  rcases hd : inWayB l p with _ | _
  all_goals
    rw [hd] at C1
    have Hd := Lib.hid hd
    have C1' := Lib.hid C1
    clear C1 hd
    go_enter Tryz.func44, Tryz.ntmps44
    go_wp2_with fail
    refine C1'.out.mono ?_
    rintro e w1 ⟨rfl, b1⟩
    have B1 := Lib.hid b1
    have r5 := (b1.cell (p := ⟨g5, 0, none⟩) l5).trans h5
    have C2 := Lib.hid (treeFind_any T k ct t p w1 (HT.out.below b1) hk)
    clear b1
  · go_wp2
    go_ret
    exact ⟨ret_bool (by unfold goneP; rw [Hd.out]; rfl), B1.out⟩
  · go_wp2_with fail
    refine C2.out.mono ?_
    rintro e w2 ⟨rfl, b2⟩
    have B2 := Lib.hid (bstep B1.out b2)
    clear b2
    go_wp2
    go_ret
    refine ⟨ret_bool ?_, B2.out⟩
    unfold goneP
    rw [Hd.out, Bool.true_and, Bool.eq_iff_iff]
    simp
end Go.Proofs.YtkginbfpokbhcaaGreatDoor
