/-
  PROVED: where the arguments hold at most 1048576 values and letters, dolmenlaw20.WorkStands returns true, and each argument reads afterwards as it read before; the card ties the listed library variables to the program's text. Condition: that bound alone.
-/
import Derived.Test.YtkginbfpokbhcaaGreatDoorCardM
import Derived.Test.YtkginbfpokbhcaaGreatDoorJoined
import Derived.Test.YtkginbfpokbhcaaGreatDoorCards
import Derived.Test.YtkginbfpokbhcaaGreatDoorTie
import Derived.Deep.DeepHandedRow
import Derived.Lib.SmallJoins
import Derived.Test.YtkginbfpokbhcaaGreatDoorKitX
import Derived.Test.YtkginbfpokbhcaaGreatDoorWorkStands
namespace Go.Proofs.YtkginbfpokbhcaaGreatDoor
open Go.ChangeShapes Go.WideShapes Go.ChangeAt Go.RowKit Go.Deep

theorem workStands_reads (os : Os) {H : Type} (enc : TypeId × Value → H) : ∃ places, DataW.whole enc Tryz.prog ((World.laidAll Tryz.prog os Rows.workStandsUptoRow.laid).forCall (fun _ _ => 0) ⟨#[], #[.slice none 0 0, .slice none 0 0], []⟩).memory Tryz.f3.params.toList Rows.workStandsSpec.vars false (#[.slice none 0 0, .slice none 0 0] : Array Value).toList 8 = some ([.nil, .nil], [], places) :=
  ⟨[], by kernel_rfl⟩

set_option maxRecDepth 100000 in
theorem workStands_lifted (os : Os) (started : os.Started) (H : Type) (enc : TypeId × Value → H) (F : Stop.Interp) :
    ReturnsInHanded {} Tryz.checked os 3 .any ((Rows.OpenSpec.upto Rows.workStandsSpec).preRow enc Tryz.prog Tryz.f3 Rows.workStandsUptoRow.domain false Rows.workStandsUptoRow.laid) (((Rows.OpenSpec.upto Rows.workStandsSpec).at F).post enc Tryz.prog Tryz.f3 false true false false) := by
  obtain ⟨places, hx⟩ := workStands_reads os enc
  have hok : Input.okWideB Tryz.checked.prog ((World.laidAll Tryz.prog os Rows.workStandsUptoRow.laid).forCall (fun _ _ => 0) ⟨#[], #[.slice none 0 0, .slice none 0 0], []⟩) 3 ⟨#[], #[.slice none 0 0, .slice none 0 0], []⟩ = true := by kernel_rfl
  refine returnsInHanded_of_row (C := Tryz.checked) (s := Rows.OpenSpec.upto Rows.workStandsSpec) Tryz.own started (by kernel_rfl) Tryz.func3
    ⟨World.laidAll Tryz.prog os Rows.workStandsUptoRow.laid, fun _ _ => 0, ⟨#[], #[.slice none 0 0, .slice none 0 0], []⟩, World.laidAll_os _ _ _, World.shaped_of_ZipB (by kernel_rfl) (by kernel_rfl), (Input.okWide_of_okWideB (base := 0) hok).1, (Input.okWide_of_okWideB hok).2,
      OpenSpec.preRow_of_cond 8 hx (by kernel_rfl) (fun k hk => by cases hk; kernel_rfl) (by kernel_rfl) (by rw [MakeChecks.laidMetH_plain _ _ _ (by kernel_rfl)]; exact laidMet_laidAll _ (by kernel_rfl) (by kernel_rfl)), by
        simp only [Assume.holds]
        exact ⟨by simp, by simp, fun _ => Modest.zero, by simp, by simp⟩⟩ ?_
  intro W base args ds gs before hval0 hW _ hcond _ _ hsh _
  have hk := hcond _ rfl
  have hval : ∀ (j : Nat) t v, Tryz.f3.params[j]? = some t → args[j]? = some v → Value.okWide Tryz.prog W .any base t v := hval0
  have hW' := hW
  obtain ⟨p, q, hA0, hV, rfl, hfz, hnd⟩ := hW
  have hA : DataW.TrodAll enc Tryz.prog W 0 (fun _ => true) true Tryz.f3.params.toList args.toList ds p := hA0
  rw [Tryz.params3] at hA hval
  obtain ⟨v0, vs0, d0, ds0, p0, q0, hargs, rfl, rfl, h0, r0⟩ := trodAll_cons hA
  obtain ⟨v1, vs1, d1, ds1, p1, q1, rfl, rfl, rfl, h1, r1⟩ := trodAll_cons r0
  obtain ⟨rfl, rfl, rfl⟩ := trodAll_nil r1
  obtain rfl : args = #[v0, v1] := by cases args; simp_all
  obtain ⟨rfl, rfl⟩ := trodVars_none hV
  have hbk := of_decide_eq_true hk
  simp only [List.cons_append, List.nil_append, Rows.uptoBulkAll] at hbk
  obtain ⟨A0', n0', c0', hv0⟩ := okWide_slice Tryz.underlying22 (hval 0 _ v0 rfl rfl)
  obtain ⟨fuel0, hf0⟩ := h0
  subst hv0
  obtain ⟨A0, n0, c0, l0, hx0, hS0, hn0, hO0⟩ := open_rfilesU hf0 (by show Rows.uptoBulk d0 ≤ _; omega)
  cases hx0
  obtain ⟨A1', n1', c1', hv1⟩ := okWide_slice Tryz.underlying22 (hval 1 _ v1 rfl rfl)
  obtain ⟨fuel1, hf1⟩ := h1
  subst hv1
  obtain ⟨A1, n1, c1, l1, hx1, hS1, hn1, hO1⟩ := open_rfilesU hf1 (by show Rows.uptoBulk d1 ≤ _; omega)
  cases hx1
  refine (workStands_walk A0' n0' c0' l0 A1' n1' c1' l1 W hS0 hn0 hO0 hS1 hn1 hO1 (maxL_of_shape hsh)).mono fun e W' ⟨he, hb⟩ => ?_
  subst he
  exact ⟨_, rfl, post_true Tryz.laidOut Tryz.underlying4 rfl rfl (by rw [Tryz.params3]; intro t ht; simp at ht; (first | subst ht | (rcases ht with rfl | rfl | rfl) | (rcases ht with rfl | rfl)) <;> exact ⟨by kernel_rfl, of_decide_eq_true (by kernel_rfl)⟩) hW' rfl rfl rfl hb⟩

theorem workStands_k1 : j1 Tryz.prog Tryz.f3 (Rows.OpenSpec.upto Rows.workStandsSpec).bare Rows.workStandsUptoRow = true := by kernel_rfl
theorem workStands_k2 : j2 Tryz.prog 3 Rows.workStandsUptoRow = true := by kernel_rfl
theorem workStands_k3 : j3 Tryz.prog 3 Rows.workStandsUptoRow = true := by kernel_rfl
theorem workStands_k4 : j4 Tryz.prog 3 Rows.workStandsUptoRow = true := by kernel_rfl
theorem workStands_k5 : j5 Tryz.prog 3 Rows.workStandsUptoRow = true := by kernel_rfl
theorem workStands_k6 : j6 Tryz.prog Tryz.f3 (Rows.OpenSpec.upto Rows.workStandsSpec).bare Rows.workStandsUptoRow = true := by kernel_rfl
theorem workStands_k7 : j7 Tryz.prog Tryz.f3 Rows.workStandsUptoRow = true := by kernel_rfl
theorem workStands_k8 : j8 Tryz.prog Tryz.f3 (Rows.OpenSpec.upto Rows.workStandsSpec).bare Rows.workStandsUptoRow = true := by kernel_rfl
theorem workStands_kn : Tryz.prog.funcNamed Rows.workStandsUptoRow.func = some 3 := by kernel_rfl
theorem workStands_closed : joinedFacts Tryz.prog 3 Tryz.f3 (Rows.OpenSpec.upto Rows.workStandsSpec).bare Rows.workStandsUptoRow = true := joined_of (P := Tryz.prog) (f := 3) (fn := Tryz.f3) (s := (Rows.OpenSpec.upto Rows.workStandsSpec).bare) (c := Rows.workStandsUptoRow) workStands_k1 workStands_k2 workStands_k3 workStands_k4 workStands_k5 workStands_k6 workStands_k7 workStands_k8
set_option maxRecDepth 100000 in
theorem workStands_row : Rows.WorkStandsUptoSaid :=
  OpenClaim.holds_of_cond 3 Tryz.f3 rfl rfl rfl rfl rfl rfl rfl ⟨rfl, rfl, rfl, rfl, rfl⟩ rfl rfl rfl rfl rfl workStands_kn Tryz.func3 workStands_closed
    (of_decide_eq_true (by kernel_rfl)) (by unfold Func.isWrapper; first | (rw [if_pos (by decide +kernel)]; kernel_rfl) | (rw [if_neg (by decide +kernel)]; exact ⟨rfl, rfl⟩))
    (fun os started H enc _ F => by rw [OpenClaim.pre_eq_preRow]; exact workStands_lifted os started H enc F)

theorem workStands_holds : Rows.WorkStandsUptoCardSaid :=
  Claim7.holds_tied_plain_at .later [] [.data, .pinned] true (true, "1d8eea8e1b54ebe1edd547b2d1562844103a2ad72ac19c12055dffe4f385d582") true workStands_row (fun _ h => by cases h) (by kernel_rfl) (fun _ h => by cases h) workStandsUpto_row_tie rfl ⟨rfl, rfl⟩ (by kernel_rfl) rfl
    (fun f fn hf hfn => by
      obtain rfl : f = 3 := Option.some.inj ((show Tryz.prog.funcNamed Rows.workStandsUptoRow.func = some 3 by kernel_rfl).symm.trans hf) |>.symm
      obtain rfl : fn = Tryz.f3 := (Option.some.inj (Tryz.func3.symm.trans hfn)).symm
      exact ⟨by kernel_rfl, fun j t ht => by
        rw [Tryz.params3] at ht
        have hm : t ∈ [22, 22] := by simpa using Array.mem_of_getElem? ht
        have hall : ([22, 22].all fun u => !Tryz.prog.wantsStandIn u) = true := by kernel_rfl
        exact (show Tryz.prog.wantsStandIn t = false by simpa using List.all_eq_true.1 hall t hm)⟩)
    (by kernel_rfl)
#print axioms workStands_holds
end Go.Proofs.YtkginbfpokbhcaaGreatDoor
