/-
  The document's example of layer 20: plain facts. No condition.
-/
import Derived.Test.YtkginbfpokbhcaaGreatDoorWorkClobber
namespace Go.Proofs.YtkginbfpokbhcaaGreatDoor
open Go.RowKit
open DiffLaw (fid ofPaths)
open IdxLaw (Ent)

def i1 : List UInt8 := List.replicate 32 1
abbrev tA : List Fil := [([97], i1)]
abbrev chA : List Chg3 := [([97], [], i1)]
abbrev chB : List Chg3 := [([97], i1, [])]
theorem paths1 : DiffLaw.Paths [[97]] [] tA := by
  refine ⟨by decide, fun p => ?_⟩
  simp
theorem paths2 : DiffLaw.Paths [[97]] tA [] := by
  refine ⟨by decide, fun p => ?_⟩
  simp
theorem diff1 : ofPaths [[97]] [] tA = chA := by decide +kernel
theorem diff2 : ofPaths [[97]] tA [] = chB := by decide +kernel
abbrev LA (hd : Hd) : List DF := [(wname [97], hd, [7, 104, 105])]
theorem getF_A (hd : Hd) : getF (LA hd) (wname [97]) = some (wname [97], hd, [7, 104, 105]) := by rw [getF_cons, if_pos rfl]
theorem tk : takeNum [7, 104, 105] = some (7, [104, 105]) := by decide +kernel
theorem wkA : workedB [97] = true := by decide +kernel
theorem getE_A (hd : Hd) : getE (LA hd) [97] = 0 := by unfold getE; rw [if_pos wkA, getF_A]; simp only; rw [tk]
theorem getN_A (hd : Hd) : getN (LA hd) [97] = 7 := by unfold getN; rw [if_pos wkA, getF_A]; simp only; rw [tk]
theorem getB_A (hd : Hd) : getB (LA hd) [97] = [104, 105] := by unfold getB; rw [if_pos wkA, getF_A]; simp only; rw [tk]
theorem names_A {ns : List (List UInt8)} {hd : Hd} (h : ns.Perm ((LA hd).map (·.1))) : ns = [wname [97]] := List.perm_singleton.1 h
theorem list_A : listOf [wname [97]] = [[97]] := by decide +kernel
theorem lost_A (hd : Hd) : [[97]].filter (lostB (LA hd) [] chA []) = [[97]] := by
  have h : lostB (LA hd) [] chA [] [97] = true := by
    unfold lostB
    rw [getE_A, getB_A, show inWayB chA [97] = true by decide +kernel]
    have h2 := widL_len (l := [104, 105]) (by decide)
    have h3 : ¬ fid [] [97] = widL [104, 105] := fun e => by rw [← e] at h2; simp [fid] at h2
    rw [decide_eq_false h3]
    rfl
  rw [List.filter_cons, if_pos h]
  rfl
theorem steps_A1 : stepsOf [wname [97]] chA tA = [([97], i1)] := by decide +kernel
theorem steps_A2 : stepsOf [wname [97]] chB [] = [([97], [])] := by decide +kernel
theorem put_A : putBad [97] (7 : Nat) 2 = false := by decide +kernel
theorem wb_A : wbytes 7 [104, 105] = [7, 104, 105] := by decide +kernel
theorem stp_eql (w : World) (x y : Fil) : (binOp .eql 37 (.agg #[S x.1, S x.2]) (.agg #[S y.1, S y.2])).run Tryz.prog w = .ok (.bool (decide (x.1 = y.1 ∧ x.2 = y.2))) w := by
  rw [run_eql_struct, run_equalIn_struct w 9999 37 _ _ (by kernel_rfl) (by kernel_rfl)]
  simp only [Program.fieldsOf, Tryz.underlying37]
  by_cases h1 : x.1 = y.1 <;> by_cases h2 : x.2 = y.2 <;> simp [go_sem, Op.eqFields, h1, h2]
theorem stp_guard (w : World) (op : BinOp) (a b : Operand) (x y : Fil) : (eqGuard op 37 a b (.agg #[S x.1, S x.2]) (.agg #[S y.1, S y.2])).run Tryz.prog w = .ok () w := run_eqGuard_agg w op 37 a b _ _ (by kernel_rfl)
end Go.Proofs.YtkginbfpokbhcaaGreatDoor
