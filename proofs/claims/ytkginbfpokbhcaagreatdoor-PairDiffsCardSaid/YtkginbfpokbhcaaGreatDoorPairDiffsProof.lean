/-
  PROVED: dolmenlaw16.PairDiffs returns true for every input, and each argument reads afterwards as it read before; the card ties the listed library variables to the program's text. No condition.
-/
import Derived.Test.YtkginbfpokbhcaaGreatDoorCardM
import Derived.Test.YtkginbfpokbhcaaGreatDoorJoined
import Derived.Test.YtkginbfpokbhcaaGreatDoorCards
import Derived.Test.YtkginbfpokbhcaaGreatDoorTie
import Derived.Test.YtkginbfpokbhcaaGreatDoorOpenFiles
import Derived.Test.YtkginbfpokbhcaaGreatDoorPairDiffs
namespace Go.Proofs.YtkginbfpokbhcaaGreatDoor
open Go.ChangeShapes Go.WideShapes Go.ChangeAt Go.RowKit

set_option maxRecDepth 100000 in
theorem pairDiffs_lifted (os : Os) (started : os.Started) (H : Type) (enc : TypeId × Value → H) :
    ReturnsInHanded {} Tryz.checked os 6 .any (fun w args => (Rows.pairDiffsSpec.pre enc Tryz.prog Tryz.f6 Rows.pairDiffsRow.domain false w args ∧ laidMetH Tryz.prog Rows.pairDiffsRow.laid w) ∧ sizedMet enc Tryz.prog Tryz.f6 (OpenSpec.ofChange Rows.pairDiffsSpec) false w args)
      (Rows.pairDiffsSpec.post enc Tryz.prog Tryz.f6 false true false false) := by
  refine returns_listed (C := Tryz.checked) (X := fun w _ => laidMetH Tryz.prog Rows.pairDiffsRow.laid w) (fun _ _ _ hh h => h.of_heap hh) Tryz.own started (by kernel_rfl) Tryz.func6
    (ChangeSpec.witness_shaped (enc := enc) (C := Tryz.checked) (os := os) (X := fun w _ => laidMetH Tryz.prog Rows.pairDiffsRow.laid w) false (World.laidAll Tryz.prog os Rows.pairDiffsRow.laid) #[.slice none 0 0, .slice none 0 0] 8 (World.laidAll_os _ _ _)
      (World.shaped_of_ZipB (by kernel_rfl) (by kernel_rfl)) (by kernel_rfl) (by kernel_rfl) (by kernel_rfl)
      (by rw [MakeChecks.laidMetH_plain _ _ _ (by kernel_rfl)]; exact laidMet_laidAll _ (by kernel_rfl) (by kernel_rfl))) ?_
  intro W base args ds gs before hval0 hW hsz0 hL hsh
  have hval : ∀ (j : Nat) t v, Tryz.f6.params[j]? = some t → args[j]? = some v → Value.okWide Tryz.prog W .any base t v := hval0
  have hsz : (DataW.weightsEach Tryz.prog (Tryz.f6.params.toList ++ Rows.pairDiffsSpec.plain.varTypes Tryz.prog) (ds ++ gs)).all (· ≤ reachBytes) = true := hsz0
  have hW' := hW
  obtain ⟨p, q, hA0, hV, rfl, hfz, hnd⟩ := hW
  have hA : DataW.TrodAll enc Tryz.prog W 0 (fun _ => true) true Tryz.f6.params.toList args.toList ds p := hA0
  rw [Tryz.params6] at hA hval hsz
  obtain ⟨v0, vs0, d0, ds0, p0, q0, hargs, rfl, rfl, h0, r0⟩ := trodAll_cons hA
  obtain ⟨v1, vs1, d1, ds1, p1, q1, rfl, rfl, rfl, h1, r1⟩ := trodAll_cons r0
  obtain ⟨rfl, rfl, rfl⟩ := trodAll_nil r1
  obtain rfl : args = #[v0, v1] := by cases args; simp_all
  obtain ⟨rfl, rfl⟩ := trodVars_none hV
  obtain ⟨A0', n0', c0', hv0⟩ := okWide_slice Tryz.underlying22 (hval 0 _ v0 rfl rfl)
  obtain ⟨fuel0, hf0⟩ := h0
  subst hv0
  obtain ⟨A0, n0, c0, l0, hx0, hS0, hO0⟩ := open_rfiles hf0 (fun m hm => by
    have := List.all_eq_true.1 hsz m (each_mem (i := 0) rfl rfl hm)
    simpa using this)
  cases hx0
  obtain ⟨A1', n1', c1', hv1⟩ := okWide_slice Tryz.underlying22 (hval 1 _ v1 rfl rfl)
  obtain ⟨fuel1, hf1⟩ := h1
  subst hv1
  obtain ⟨A1, n1, c1, l1, hx1, hS1, hO1⟩ := open_rfiles hf1 (fun m hm => by
    have := List.all_eq_true.1 hsz m (each_mem (i := 1) rfl rfl hm)
    simpa using this)
  cases hx1
  refine (pairDiffs_walk A0' n0' c0' l0 A1' n1' c1' l1 W hS0 hO0 hS1 hO1 (maxL_of_shape hsh)).mono fun e W' ⟨he, hb⟩ => ?_
  subst he
  exact ⟨_, rfl, post_true Tryz.laidOut Tryz.underlying4 rfl rfl (by rw [Tryz.params6]; intro t ht; simp at ht; (first | subst ht | (rcases ht with rfl | rfl | rfl) | (rcases ht with rfl | rfl)) <;> exact ⟨by kernel_rfl, of_decide_eq_true (by kernel_rfl)⟩) hW' rfl rfl rfl hb⟩

theorem pairDiffs_k1 : j1 Tryz.prog Tryz.f6 Rows.pairDiffsSpec Rows.pairDiffsRow = true := by kernel_rfl
theorem pairDiffs_k2 : j2 Tryz.prog 6 Rows.pairDiffsRow = true := by kernel_rfl
theorem pairDiffs_k3 : j3 Tryz.prog 6 Rows.pairDiffsRow = true := by kernel_rfl
theorem pairDiffs_k4 : j4 Tryz.prog 6 Rows.pairDiffsRow = true := by kernel_rfl
theorem pairDiffs_k5 : j5 Tryz.prog 6 Rows.pairDiffsRow = true := by kernel_rfl
theorem pairDiffs_k6 : j6 Tryz.prog Tryz.f6 Rows.pairDiffsSpec Rows.pairDiffsRow = true := by kernel_rfl
theorem pairDiffs_k7 : j7 Tryz.prog Tryz.f6 Rows.pairDiffsRow = true := by kernel_rfl
theorem pairDiffs_k8 : j8 Tryz.prog Tryz.f6 Rows.pairDiffsSpec Rows.pairDiffsRow = true := by kernel_rfl
theorem pairDiffs_kn : Tryz.prog.funcNamed Rows.pairDiffsRow.func = some 6 := by kernel_rfl
theorem pairDiffs_ki : Tryz.f6.isInstance Tryz.prog Rows.pairDiffsRow.origin Rows.pairDiffsRow.targs := of_decide_eq_true (by kernel_rfl)
theorem pairDiffs_kw : Tryz.f6.isWrapper Tryz.prog Rows.pairDiffsRow.wrapper Rows.pairDiffsRow.mainSum := by unfold Func.isWrapper; first | (rw [if_pos (by decide +kernel)]; kernel_rfl) | (rw [if_neg (by decide +kernel)]; exact ⟨rfl, rfl⟩)
theorem pairDiffs_closed : joinedFacts Tryz.prog 6 Tryz.f6 Rows.pairDiffsSpec Rows.pairDiffsRow = true := joined_of (P := Tryz.prog) (f := 6) (fn := Tryz.f6) (s := Rows.pairDiffsSpec) (c := Rows.pairDiffsRow) pairDiffs_k1 pairDiffs_k2 pairDiffs_k3 pairDiffs_k4 pairDiffs_k5 pairDiffs_k6 pairDiffs_k7 pairDiffs_k8
set_option maxRecDepth 100000 in
theorem pairDiffs_row : Rows.PairDiffsSaid :=
  OpenClaim.holds_of_wide 6 Tryz.f6 rfl rfl rfl rfl rfl rfl rfl ⟨rfl, rfl, rfl, rfl, rfl⟩ rfl rfl rfl rfl rfl pairDiffs_kn Tryz.func6 pairDiffs_closed
    pairDiffs_ki pairDiffs_kw
    (fun os started H enc _ => pairDiffs_lifted os started H enc)

theorem pairDiffs_holds : Rows.PairDiffsCardSaid :=
  Claim7.holds_tied_plain_at .later [] [.data, .pinned] true (true, "1d8eea8e1b54ebe1edd547b2d1562844103a2ad72ac19c12055dffe4f385d582") true pairDiffs_row (fun _ h => by cases h) (by kernel_rfl) (fun _ h => by cases h) pairDiffs_row_tie rfl ⟨rfl, rfl⟩ (by kernel_rfl) rfl
    (fun f fn hf hfn => by
      obtain rfl : f = 6 := Option.some.inj ((show Tryz.prog.funcNamed Rows.pairDiffsRow.func = some 6 by kernel_rfl).symm.trans hf) |>.symm
      obtain rfl : fn = Tryz.f6 := (Option.some.inj (Tryz.func6.symm.trans hfn)).symm
      exact ⟨by kernel_rfl, fun j t ht => by
        rw [Tryz.params6] at ht
        have hm : t ∈ [22, 22] := by simpa using Array.mem_of_getElem? ht
        have hall : ([22, 22].all fun u => !Tryz.prog.wantsStandIn u) = true := by kernel_rfl
        exact (show Tryz.prog.wantsStandIn t = false by simpa using List.all_eq_true.1 hall t hm)⟩)
    (by kernel_rfl)
#print axioms pairDiffs_holds
end Go.Proofs.YtkginbfpokbhcaaGreatDoor
