/-
  PROVED: where the arguments hold at most 1048576 values and letters, dolmenlaw16.PairRenames returns true, and each argument reads afterwards as it read before; the card ties the listed library variables to the program's text. Condition: that bound alone.
-/
import Derived.Test.YtphnfcgdpdimbaaGreatDoorRKitCj
import Derived.Test.YtphnfcgdpdimbaaGreatDoorCards
import Derived.Test.YtphnfcgdpdimbaaGreatDoorTie
import Derived.Deep.DeepHandedRow
import Derived.Lib.SmallJoins
import Derived.Test.YtphnfcgdpdimbaaGreatDoorRKitPb
import Derived.Test.YtphnfcgdpdimbaaGreatDoorRPairRenamesLaw
namespace Go.Proofs.YtphnfcgdpdimbaaGreatDoor
open Go.ChangeShapes Go.WideShapes Go.ChangeAt Go.RowKit Go.Deep
theorem pairRenames_reads (os : Os) {H : Type} (enc : TypeId × Value → H) : ∃ places, DataW.whole enc Tryz.prog ((World.laidAll Tryz.prog os Rows.pairRenamesUptoRow.laid).forCall (fun _ _ => 0) ⟨#[], #[.slice none 0 0, .slice none 0 0, .slice none 0 0], []⟩).memory Tryz.f4.params.toList Rows.pairRenamesSpec.vars false (#[.slice none 0 0, .slice none 0 0, .slice none 0 0] : Array Value).toList 8 = some ([.nil, .nil, .nil], [], places) :=
 ⟨[], by kernel_rfl⟩
set_option maxRecDepth 100000 in
theorem pairRenames_lifted (os : Os) (started : os.Started) (H : Type) (enc : TypeId × Value → H) (F : Stop.Interp) :
  ReturnsInHanded {} Tryz.checked os 4 .any ((Rows.OpenSpec.upto Rows.pairRenamesSpec).preRow enc Tryz.prog Tryz.f4 Rows.pairRenamesUptoRow.domain false Rows.pairRenamesUptoRow.laid) (((Rows.OpenSpec.upto Rows.pairRenamesSpec).at F).post enc Tryz.prog Tryz.f4 false true false false) := by
 obtain ⟨places, hx⟩ := pairRenames_reads os enc
 have hok : Input.okWideB Tryz.checked.prog ((World.laidAll Tryz.prog os Rows.pairRenamesUptoRow.laid).forCall (fun _ _ => 0) ⟨#[], #[.slice none 0 0, .slice none 0 0, .slice none 0 0], []⟩) 4 ⟨#[], #[.slice none 0 0, .slice none 0 0, .slice none 0 0], []⟩ = true := by kernel_rfl
 refine returnsInHanded_of_row (C := Tryz.checked) (s := Rows.OpenSpec.upto Rows.pairRenamesSpec) Tryz.own started (by kernel_rfl) Tryz.func4
  ⟨World.laidAll Tryz.prog os Rows.pairRenamesUptoRow.laid, fun _ _ => 0, ⟨#[], #[.slice none 0 0, .slice none 0 0, .slice none 0 0], []⟩, World.laidAll_os _ _ _, World.shaped_of_ZipB (by kernel_rfl) (by kernel_rfl), (Input.okWide_of_okWideB (base := 0) hok).1, (Input.okWide_of_okWideB hok).2,
   OpenSpec.preRow_of_cond 8 hx (by kernel_rfl) (fun k hk => by cases hk; kernel_rfl) (by kernel_rfl) (by rw [MakeChecks.laidMetH_plain _ _ _ (by kernel_rfl)]; exact laidMet_laidAll _ (by kernel_rfl) (by kernel_rfl)), by
    simp only [Assume.holds]
    exact ⟨by simp, by simp, fun _ => Modest.zero, by simp, by simp⟩⟩ ?_
 intro W base args ds gs before hval0 hW _ hcond _ _ hsh _
 have hk := hcond _ rfl
 have hval : ∀ (j : Nat) t v, Tryz.f4.params[j]? = some t → args[j]? = some v → Value.okWide Tryz.prog W .any base t v := hval0
 have hW' := hW
 obtain ⟨p, q, hA0, hV, rfl, hfz, hnd⟩ := hW
 have hA : DataW.TrodAll enc Tryz.prog W 0 (fun _ => true) true Tryz.f4.params.toList args.toList ds p := hA0
 rw [Tryz.params4] at hA hval
 obtain ⟨v0, vs0, d0, ds0, p0, q0, hargs, rfl, rfl, h0, r0⟩ := trodAll_cons hA
 obtain ⟨v1, vs1, d1, ds1, p1, q1, rfl, rfl, rfl, h1, r1⟩ := trodAll_cons r0
 obtain ⟨v2, vs2, d2, ds2, p2, q2, rfl, rfl, rfl, h2, r2⟩ := trodAll_cons r1
 obtain ⟨rfl, rfl, rfl⟩ := trodAll_nil r2
 obtain rfl : args = #[v0, v1, v2] := by cases args; simp_all
 obtain ⟨rfl, rfl⟩ := trodVars_none hV
 have hbk := of_decide_eq_true hk
 simp only [List.cons_append, List.nil_append, Rows.uptoBulkAll] at hbk
 obtain ⟨A0', n0', c0', hv0⟩ := okWide_slice Tryz.underlying47 (hval 0 _ v0 rfl rfl)
 obtain ⟨fuel0, hf0⟩ := h0
 subst hv0
 obtain ⟨A0, n0, c0, l0, hx0, hS0, hR0, hn0, hu0⟩ := open_blobs hf0 (by show Rows.uptoBulk d0 ≤ _; omega)
 cases hx0
 obtain ⟨A1', n1', c1', hv1⟩ := okWide_slice Tryz.underlying48 (hval 1 _ v1 rfl rfl)
 obtain ⟨fuel1, hf1⟩ := h1
 subst hv1
 obtain ⟨A1, n1, c1, l1, hx1, hS1, hn1, hO1⟩ := open_rchgs hf1 (by show Rows.uptoBulk d1 ≤ _; omega)
 cases hx1
 obtain ⟨A2', n2', c2', hv2⟩ := okWide_slice Tryz.underlying49 (hval 2 _ v2 rfl rfl)
 obtain ⟨fuel2, hf2⟩ := h2
 subst hv2
 obtain ⟨A2, n2, c2, l2, hx2, hS2, hn2⟩ := open_nums hf2 (by show Rows.uptoBulk d2 ≤ _; omega)
 cases hx2
 refine (pairRenames_walk A0' n0' c0' l0 A1' n1' c1' l1 A2' n2' c2' l2 W hS0 hR0 hn0 hu0 hS1 hn1 hO1 hS2 hn2 (maxL_of_shape hsh)).mono fun e W' ⟨he, hb⟩ => ?_
 subst he
 exact ⟨_, rfl, post_true Tryz.laidOut Tryz.underlying4 rfl rfl (by rw [Tryz.params4]; intro t ht; simp at ht; (first | subst ht | (rcases ht with rfl | rfl | rfl | rfl) | (rcases ht with rfl | rfl | rfl) | (rcases ht with rfl | rfl)) <;> exact ⟨by kernel_rfl, of_decide_eq_true (by kernel_rfl)⟩) hW' rfl rfl rfl hb⟩
theorem pairRenames_k1 : j1 Tryz.prog Tryz.f4 (Rows.OpenSpec.upto Rows.pairRenamesSpec).bare Rows.pairRenamesUptoRow = true := by kernel_rfl
theorem pairRenames_k2 : j2 Tryz.prog 4 Rows.pairRenamesUptoRow = true := by kernel_rfl
theorem pairRenames_k3 : j3 Tryz.prog 4 Rows.pairRenamesUptoRow = true := by kernel_rfl
theorem pairRenames_k4 : j4 Tryz.prog 4 Rows.pairRenamesUptoRow = true := by kernel_rfl
theorem pairRenames_k5 : j5 Tryz.prog 4 Rows.pairRenamesUptoRow = true := by kernel_rfl
theorem pairRenames_k6 : j6 Tryz.prog Tryz.f4 (Rows.OpenSpec.upto Rows.pairRenamesSpec).bare Rows.pairRenamesUptoRow = true := by kernel_rfl
theorem pairRenames_k7 : j7 Tryz.prog Tryz.f4 Rows.pairRenamesUptoRow = true := by kernel_rfl
theorem pairRenames_k8 : j8 Tryz.prog Tryz.f4 (Rows.OpenSpec.upto Rows.pairRenamesSpec).bare Rows.pairRenamesUptoRow = true := by kernel_rfl
theorem pairRenames_kn : Tryz.prog.funcNamed Rows.pairRenamesUptoRow.func = some 4 := by kernel_rfl
theorem pairRenames_closed : joinedFacts Tryz.prog 4 Tryz.f4 (Rows.OpenSpec.upto Rows.pairRenamesSpec).bare Rows.pairRenamesUptoRow = true := joined_of (P := Tryz.prog) (f := 4) (fn := Tryz.f4) (s := (Rows.OpenSpec.upto Rows.pairRenamesSpec).bare) (c := Rows.pairRenamesUptoRow) pairRenames_k1 pairRenames_k2 pairRenames_k3 pairRenames_k4 pairRenames_k5 pairRenames_k6 pairRenames_k7 pairRenames_k8
set_option maxRecDepth 100000 in
theorem pairRenames_row : Rows.PairRenamesUptoSaid :=
 OpenClaim.holds_of_cond 4 Tryz.f4 rfl rfl rfl rfl rfl rfl rfl ⟨rfl, rfl, rfl, rfl, rfl⟩ rfl rfl rfl rfl rfl pairRenames_kn Tryz.func4 pairRenames_closed
  (of_decide_eq_true (by kernel_rfl)) (by unfold Func.isWrapper; first | (rw [if_pos (by decide +kernel)]; kernel_rfl) | (rw [if_neg (by decide +kernel)]; exact ⟨rfl, rfl⟩))
  (fun os started H enc _ F => by rw [OpenClaim.pre_eq_preRow]; exact pairRenames_lifted os started H enc F)
theorem pairRenames_w : Rows.pairRenamesUptoRow.wfByText (Rows.OpenSpec.upto Rows.pairRenamesSpec) = true := by kernel_rfl
theorem pairRenames_m : Tryz.pinned.checked.prog.mainIs = some (true, ("6e498d40e9c22162d8ef8797a229f4865cf62e63a8a44a655d2c501239d72f62" : String).toList) := by kernel_rfl
theorem pairRenames_l : true = Tryz.pinned.checked.prog.looks [] := by kernel_rfl
theorem pairRenames_g : false = Rows.pairRenamesUptoRow.goesBy Tryz.pinned.checked.prog := by kernel_rfl
theorem pairRenames_s : ([47, 48, 49].all fun u => !Tryz.prog.wantsStandIn u) = true := by kernel_rfl
theorem pairRenames_holds : Rows.PairRenamesUptoCardSaid :=
 Claim7.holds_tied_plain_at .later [] [.data, .pinned] true (true, "6e498d40e9c22162d8ef8797a229f4865cf62e63a8a44a655d2c501239d72f62") true pairRenames_row (fun _ h => by cases h) pairRenames_w (fun _ h => by cases h) pairRenamesUpto_row_tie rfl ⟨rfl, rfl⟩ pairRenames_m rfl
  (fun f fn hf hfn => by
   obtain rfl : f = 4 := Option.some.inj (pairRenames_kn.symm.trans hf) |>.symm
   obtain rfl : fn = Tryz.f4 := (Option.some.inj (Tryz.func4.symm.trans hfn)).symm
   exact ⟨pairRenames_l, fun j t ht => by
    rw [Tryz.params4] at ht
    have hm : t ∈ [47, 48, 49] := by simpa using Array.mem_of_getElem? ht
    exact (show Tryz.prog.wantsStandIn t = false by simpa using List.all_eq_true.1 pairRenames_s t hm)⟩)
  pairRenames_g
#print axioms pairRenames_holds
end Go.Proofs.YtphnfcgdpdimbaaGreatDoor
