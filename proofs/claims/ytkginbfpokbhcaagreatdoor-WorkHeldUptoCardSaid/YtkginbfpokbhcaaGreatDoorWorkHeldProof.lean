/-
  PROVED: where the arguments hold at most 1048576 values and letters, dolmenlaw20.WorkHeld returns true, and each argument reads afterwards as it read before; the card ties the listed library variables to the program's text. Condition: that bound alone.
-/
import Derived.Test.YtkginbfpokbhcaaGreatDoorCardM
import Derived.Test.YtkginbfpokbhcaaGreatDoorJoined
import Derived.Test.YtkginbfpokbhcaaGreatDoorCards
import Derived.Test.YtkginbfpokbhcaaGreatDoorTie
import Derived.Deep.DeepHandedRow
import Derived.Lib.SmallJoins
import Derived.Test.YtkginbfpokbhcaaGreatDoorOpenWorld
import Derived.Test.YtkginbfpokbhcaaGreatDoorWorkHeld
namespace Go.Proofs.YtkginbfpokbhcaaGreatDoor
open Go.ChangeShapes Go.WideShapes Go.ChangeAt Go.RowKit Go.Deep

theorem workHeld_reads (os : Os) {H : Type} (enc : TypeId × Value → H) : ∃ places, DataW.whole enc Tryz.prog ((World.laidAll Tryz.prog os Rows.workHeldUptoRow.laid).forCall (fun _ _ => 0) ⟨#[], #[.agg #[.int .i64 0, .slice none 0 0, .slice none 0 0, .slice none 0 0, .slice none 0 0]], []⟩).memory Tryz.f4.params.toList Rows.workHeldSpec.vars false (#[.agg #[.int .i64 0, .slice none 0 0, .slice none 0 0, .slice none 0 0, .slice none 0 0]] : Array Value).toList 8 = some ([.agg [.lit (.int .i64 0), .nil, .nil, .nil, .nil]], [], places) :=
  ⟨[], by kernel_rfl⟩

set_option maxRecDepth 100000 in
theorem workHeld_lifted (os : Os) (started : os.Started) (H : Type) (enc : TypeId × Value → H) (F : Stop.Interp) :
    ReturnsInHanded {} Tryz.checked os 4 .any ((Rows.OpenSpec.upto Rows.workHeldSpec).preRow enc Tryz.prog Tryz.f4 Rows.workHeldUptoRow.domain false Rows.workHeldUptoRow.laid) (((Rows.OpenSpec.upto Rows.workHeldSpec).at F).post enc Tryz.prog Tryz.f4 false true false false) := by
  obtain ⟨places, hx⟩ := workHeld_reads os enc
  have hok : Input.okWideB Tryz.checked.prog ((World.laidAll Tryz.prog os Rows.workHeldUptoRow.laid).forCall (fun _ _ => 0) ⟨#[], #[.agg #[.int .i64 0, .slice none 0 0, .slice none 0 0, .slice none 0 0, .slice none 0 0]], []⟩) 4 ⟨#[], #[.agg #[.int .i64 0, .slice none 0 0, .slice none 0 0, .slice none 0 0, .slice none 0 0]], []⟩ = true := by kernel_rfl
  refine returnsInHanded_of_row (C := Tryz.checked) (s := Rows.OpenSpec.upto Rows.workHeldSpec) Tryz.own started (by kernel_rfl) Tryz.func4
    ⟨World.laidAll Tryz.prog os Rows.workHeldUptoRow.laid, fun _ _ => 0, ⟨#[], #[.agg #[.int .i64 0, .slice none 0 0, .slice none 0 0, .slice none 0 0, .slice none 0 0]], []⟩, World.laidAll_os _ _ _, World.shaped_of_ZipB (by kernel_rfl) (by kernel_rfl), (Input.okWide_of_okWideB (base := 0) hok).1, (Input.okWide_of_okWideB hok).2,
      OpenSpec.preRow_of_cond 8 hx (by kernel_rfl) (fun k hk => by cases hk; kernel_rfl) (by kernel_rfl) (by rw [MakeChecks.laidMetH_plain _ _ _ (by kernel_rfl)]; exact laidMet_laidAll _ (by kernel_rfl) (by kernel_rfl)), by
        simp only [Assume.holds]
        exact ⟨by simp, by simp, fun _ => Modest.zero, by simp, by simp⟩⟩ ?_
  intro W base args ds gs before hval0 hW _ hcond _ _ hsh _
  have hk := hcond _ rfl
  have hval : ∀ (j : Nat) t v, Tryz.f4.params[j]? = some t → args[j]? = some v → Value.okWide Tryz.prog W .any base t v := hval0
  have hW' := hW
  obtain ⟨p, q, hA0, hV, rfl, hfz, hnd⟩ := hW
  have hA : DataW.TrodAll enc Tryz.prog W 0 (fun _ => true) true Tryz.f4.params.toList args.toList ds p := hA0
  rw [Tryz.params4] at hA hval
  obtain ⟨v0, vs0, d0, ds0, p0, q0, hargs, rfl, rfl, h0, r0⟩ := trodAll_cons hA
  obtain ⟨rfl, rfl, rfl⟩ := trodAll_nil r0
  obtain rfl : args = #[v0] := by cases args; simp_all
  obtain ⟨rfl, rfl⟩ := trodVars_none hV
  have hbk := of_decide_eq_true hk
  simp only [List.cons_append, List.nil_append, Rows.uptoBulkAll] at hbk
  obtain ⟨x0, rfl, hX0⟩ := open_worldV (hval 0 _ v0 rfl rfl) h0 (by show Rows.uptoBulk d0 ≤ _; omega)
  refine (workHeld_law x0 W hX0 (maxL_of_shape hsh)).mono fun e W' ⟨he, hb⟩ => ?_
  subst he
  exact ⟨_, rfl, post_true Tryz.laidOut Tryz.underlying4 rfl rfl (by rw [Tryz.params4]; intro t ht; simp at ht; (first | subst ht | (rcases ht with rfl | rfl | rfl) | (rcases ht with rfl | rfl)) <;> exact ⟨by kernel_rfl, of_decide_eq_true (by kernel_rfl)⟩) hW' rfl rfl rfl hb⟩

theorem workHeld_k1 : j1 Tryz.prog Tryz.f4 (Rows.OpenSpec.upto Rows.workHeldSpec).bare Rows.workHeldUptoRow = true := by kernel_rfl
theorem workHeld_k2 : j2 Tryz.prog 4 Rows.workHeldUptoRow = true := by kernel_rfl
theorem workHeld_k3 : j3 Tryz.prog 4 Rows.workHeldUptoRow = true := by kernel_rfl
theorem workHeld_k4 : j4 Tryz.prog 4 Rows.workHeldUptoRow = true := by kernel_rfl
theorem workHeld_k5 : j5 Tryz.prog 4 Rows.workHeldUptoRow = true := by kernel_rfl
theorem workHeld_k6 : j6 Tryz.prog Tryz.f4 (Rows.OpenSpec.upto Rows.workHeldSpec).bare Rows.workHeldUptoRow = true := by kernel_rfl
theorem workHeld_k7 : j7 Tryz.prog Tryz.f4 Rows.workHeldUptoRow = true := by kernel_rfl
theorem workHeld_k8 : j8 Tryz.prog Tryz.f4 (Rows.OpenSpec.upto Rows.workHeldSpec).bare Rows.workHeldUptoRow = true := by kernel_rfl
theorem workHeld_kn : Tryz.prog.funcNamed Rows.workHeldUptoRow.func = some 4 := by kernel_rfl
theorem workHeld_closed : joinedFacts Tryz.prog 4 Tryz.f4 (Rows.OpenSpec.upto Rows.workHeldSpec).bare Rows.workHeldUptoRow = true := joined_of (P := Tryz.prog) (f := 4) (fn := Tryz.f4) (s := (Rows.OpenSpec.upto Rows.workHeldSpec).bare) (c := Rows.workHeldUptoRow) workHeld_k1 workHeld_k2 workHeld_k3 workHeld_k4 workHeld_k5 workHeld_k6 workHeld_k7 workHeld_k8
set_option maxRecDepth 100000 in
theorem workHeld_row : Rows.WorkHeldUptoSaid :=
  OpenClaim.holds_of_cond 4 Tryz.f4 rfl rfl rfl rfl rfl rfl rfl ⟨rfl, rfl, rfl, rfl, rfl⟩ rfl rfl rfl rfl rfl workHeld_kn Tryz.func4 workHeld_closed
    (of_decide_eq_true (by kernel_rfl)) (by unfold Func.isWrapper; first | (rw [if_pos (by decide +kernel)]; kernel_rfl) | (rw [if_neg (by decide +kernel)]; exact ⟨rfl, rfl⟩))
    (fun os started H enc _ F => by rw [OpenClaim.pre_eq_preRow]; exact workHeld_lifted os started H enc F)

theorem workHeld_holds : Rows.WorkHeldUptoCardSaid :=
  Claim7.holds_tied_plain_at .later [] [.data, .pinned] true (true, "1d8eea8e1b54ebe1edd547b2d1562844103a2ad72ac19c12055dffe4f385d582") true workHeld_row (fun _ h => by cases h) (by kernel_rfl) (fun _ h => by cases h) workHeldUpto_row_tie rfl ⟨rfl, rfl⟩ (by kernel_rfl) rfl
    (fun f fn hf hfn => by
      obtain rfl : f = 4 := Option.some.inj ((show Tryz.prog.funcNamed Rows.workHeldUptoRow.func = some 4 by kernel_rfl).symm.trans hf) |>.symm
      obtain rfl : fn = Tryz.f4 := (Option.some.inj (Tryz.func4.symm.trans hfn)).symm
      exact ⟨by kernel_rfl, fun j t ht => by
        rw [Tryz.params4] at ht
        have hm : t ∈ [43] := by simpa using Array.mem_of_getElem? ht
        have hall : ([43].all fun u => !Tryz.prog.wantsStandIn u) = true := by kernel_rfl
        exact (show Tryz.prog.wantsStandIn t = false by simpa using List.all_eq_true.1 hall t hm)⟩)
    (by kernel_rfl)
#print axioms workHeld_holds
end Go.Proofs.YtkginbfpokbhcaaGreatDoor
