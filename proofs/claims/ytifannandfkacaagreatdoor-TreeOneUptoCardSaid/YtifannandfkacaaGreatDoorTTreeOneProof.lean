/-
  PROVED: where the arguments hold at most 1048576 values and letters, dolmenlaw13.TreeOne returns true, and each argument reads afterwards as it read before; the card ties the listed library variables to the program's text. Condition: that bound alone.
-/
import Derived.Test.YtifannandfkacaaGreatDoorTKitCj
import Derived.Test.YtifannandfkacaaGreatDoorCards
import Derived.Test.YtifannandfkacaaGreatDoorTie
import Derived.Deep.DeepHandedRow
import Derived.Lib.SmallJoins
import Derived.Test.YtifannandfkacaaGreatDoorTKitX
import Derived.Test.YtifannandfkacaaGreatDoorTOpenU8
import Derived.Test.YtifannandfkacaaGreatDoorTTreeOne
namespace Go.Proofs.YtifannandfkacaaGreatDoor
open Go.ChangeShapes Go.WideShapes Go.ChangeAt Go.RowKit Go.Deep
theorem treeOne_reads (os : Os) {H : Type} (enc : TypeId × Value → H) : ∃ places, DataW.whole enc Tryz.prog ((World.laidAll Tryz.prog os Rows.treeOneUptoRow.laid).forCall (fun _ _ => 0) ⟨#[], #[.slice none 0 0, .int .i64 0, .int .u8 0], []⟩).memory Tryz.f6.params.toList Rows.treeOneSpec.vars false (#[.slice none 0 0, .int .i64 0, .int .u8 0] : Array Value).toList 8 = some ([.nil, .lit (.int .i64 0), .lit (.int .u8 0)], [], places) :=
 ⟨[], by kernel_rfl⟩
set_option maxRecDepth 100000 in
theorem treeOne_lifted (os : Os) (started : os.Started) (H : Type) (enc : TypeId × Value → H) (F : Stop.Interp) :
  ReturnsInHanded {} Tryz.checked os 6 .any ((Rows.OpenSpec.upto Rows.treeOneSpec).preRow enc Tryz.prog Tryz.f6 Rows.treeOneUptoRow.domain false Rows.treeOneUptoRow.laid) (((Rows.OpenSpec.upto Rows.treeOneSpec).at F).post enc Tryz.prog Tryz.f6 false true false false) := by
 obtain ⟨places, hx⟩ := treeOne_reads os enc
 have hok : Input.okWideB Tryz.checked.prog ((World.laidAll Tryz.prog os Rows.treeOneUptoRow.laid).forCall (fun _ _ => 0) ⟨#[], #[.slice none 0 0, .int .i64 0, .int .u8 0], []⟩) 6 ⟨#[], #[.slice none 0 0, .int .i64 0, .int .u8 0], []⟩ = true := by kernel_rfl
 refine returnsInHanded_of_row (C := Tryz.checked) (s := Rows.OpenSpec.upto Rows.treeOneSpec) Tryz.own started (by kernel_rfl) Tryz.func6
  ⟨World.laidAll Tryz.prog os Rows.treeOneUptoRow.laid, fun _ _ => 0, ⟨#[], #[.slice none 0 0, .int .i64 0, .int .u8 0], []⟩, World.laidAll_os _ _ _, World.shaped_of_ZipB (by kernel_rfl) (by kernel_rfl), (Input.okWide_of_okWideB (base := 0) hok).1, (Input.okWide_of_okWideB hok).2,
   OpenSpec.preRow_of_cond 8 hx (by kernel_rfl) (fun k hk => by cases hk; kernel_rfl) (by kernel_rfl) (by rw [MakeChecks.laidMetH_plain _ _ _ (by kernel_rfl)]; exact laidMet_laidAll _ (by kernel_rfl) (by kernel_rfl)), by
    simp only [Assume.holds]
    exact ⟨by simp, by simp, fun _ => Modest.zero, by simp, by simp⟩⟩ ?_
 intro W base args ds gs before hval0 hW _ hcond _ _ hsh _
 have hk := hcond _ rfl
 have hval : ∀ (j : Nat) t v, Tryz.f6.params[j]? = some t → args[j]? = some v → Value.okWide Tryz.prog W .any base t v := hval0
 have hW' := hW
 obtain ⟨p, q, hA0, hV, rfl, hfz, hnd⟩ := hW
 have hA : DataW.TrodAll enc Tryz.prog W 0 (fun _ => true) true Tryz.f6.params.toList args.toList ds p := hA0
 rw [Tryz.params6] at hA hval
 obtain ⟨v0, vs0, d0, ds0, p0, q0, hargs, rfl, rfl, h0, r0⟩ := trodAll_cons hA
 obtain ⟨v1, vs1, d1, ds1, p1, q1, rfl, rfl, rfl, h1, r1⟩ := trodAll_cons r0
 obtain ⟨v2, vs2, d2, ds2, p2, q2, rfl, rfl, rfl, h2, r2⟩ := trodAll_cons r1
 obtain ⟨rfl, rfl, rfl⟩ := trodAll_nil r2
 obtain rfl : args = #[v0, v1, v2] := by cases args; simp_all
 obtain ⟨rfl, rfl⟩ := trodVars_none hV
 have hbk := of_decide_eq_true hk
 simp only [List.cons_append, List.nil_append, Rows.uptoBulkAll] at hbk
 obtain ⟨A0', n0', c0', hv0⟩ := okWide_slice Tryz.underlying25 (hval 0 _ v0 rfl rfl)
 obtain ⟨fuel0, hf0⟩ := h0
 subst hv0
 obtain ⟨A0, n0, c0, l0, hx0, hS0, hn0, hO0⟩ := open_rfilesU hf0 (by show Rows.uptoBulk d0 ≤ _; omega)
 cases hx0
 obtain ⟨x1, rfl⟩ := okWide_int Tryz.underlying3 (hval 1 _ v1 rfl rfl)
 obtain ⟨x2, rfl⟩ := okWide_u8 Tryz.underlying5 (hval 2 _ v2 rfl rfl)
 refine (treeOne_law A0' n0' c0' l0 x1 x2 W hS0 hn0 hO0 (maxL_of_shape hsh)).mono fun e W' ⟨he, hb⟩ => ?_
 subst he
 exact ⟨_, rfl, post_true Tryz.laidOut Tryz.underlying4 rfl rfl (by rw [Tryz.params6]; intro t ht; simp at ht; (first | subst ht | (rcases ht with rfl | rfl | rfl | rfl) | (rcases ht with rfl | rfl | rfl) | (rcases ht with rfl | rfl)) <;> exact ⟨by kernel_rfl, of_decide_eq_true (by kernel_rfl)⟩) hW' rfl rfl rfl hb⟩
theorem treeOne_k1 : j1 Tryz.prog Tryz.f6 (Rows.OpenSpec.upto Rows.treeOneSpec).bare Rows.treeOneUptoRow = true := by kernel_rfl
theorem treeOne_k2 : j2 Tryz.prog 6 Rows.treeOneUptoRow = true := by kernel_rfl
theorem treeOne_k3 : j3 Tryz.prog 6 Rows.treeOneUptoRow = true := by kernel_rfl
theorem treeOne_k4 : j4 Tryz.prog 6 Rows.treeOneUptoRow = true := by kernel_rfl
theorem treeOne_k5 : j5 Tryz.prog 6 Rows.treeOneUptoRow = true := by kernel_rfl
theorem treeOne_k6 : j6 Tryz.prog Tryz.f6 (Rows.OpenSpec.upto Rows.treeOneSpec).bare Rows.treeOneUptoRow = true := by kernel_rfl
theorem treeOne_k7 : j7 Tryz.prog Tryz.f6 Rows.treeOneUptoRow = true := by kernel_rfl
theorem treeOne_k8 : j8 Tryz.prog Tryz.f6 (Rows.OpenSpec.upto Rows.treeOneSpec).bare Rows.treeOneUptoRow = true := by kernel_rfl
theorem treeOne_kn : Tryz.prog.funcNamed Rows.treeOneUptoRow.func = some 6 := by kernel_rfl
theorem treeOne_closed : joinedFacts Tryz.prog 6 Tryz.f6 (Rows.OpenSpec.upto Rows.treeOneSpec).bare Rows.treeOneUptoRow = true := joined_of (P := Tryz.prog) (f := 6) (fn := Tryz.f6) (s := (Rows.OpenSpec.upto Rows.treeOneSpec).bare) (c := Rows.treeOneUptoRow) treeOne_k1 treeOne_k2 treeOne_k3 treeOne_k4 treeOne_k5 treeOne_k6 treeOne_k7 treeOne_k8
set_option maxRecDepth 100000 in
theorem treeOne_row : Rows.TreeOneUptoSaid :=
 OpenClaim.holds_of_cond 6 Tryz.f6 rfl rfl rfl rfl rfl rfl rfl ⟨rfl, rfl, rfl, rfl, rfl⟩ rfl rfl rfl rfl rfl treeOne_kn Tryz.func6 treeOne_closed
  (of_decide_eq_true (by kernel_rfl)) (by unfold Func.isWrapper; first | (rw [if_pos (by decide +kernel)]; kernel_rfl) | (rw [if_neg (by decide +kernel)]; exact ⟨rfl, rfl⟩))
  (fun os started H enc _ F => by rw [OpenClaim.pre_eq_preRow]; exact treeOne_lifted os started H enc F)
theorem treeOne_w : Rows.treeOneUptoRow.wfByText (Rows.OpenSpec.upto Rows.treeOneSpec) = true := by kernel_rfl
theorem treeOne_m : Tryz.pinned.checked.prog.mainIs = some (true, ("95252204f6093ad4884aa5394869b1848aa118e2fb08e78812e88b93c905b0bb" : String).toList) := by kernel_rfl
theorem treeOne_l : true = Tryz.pinned.checked.prog.looks [] := by kernel_rfl
theorem treeOne_g : false = Rows.treeOneUptoRow.goesBy Tryz.pinned.checked.prog := by kernel_rfl
theorem treeOne_s : ([25, 3, 5].all fun u => !Tryz.prog.wantsStandIn u) = true := by kernel_rfl
theorem treeOne_holds : Rows.TreeOneUptoCardSaid :=
 Claim7.holds_tied_plain_at .later [] [.data, .pinned] true (true, "95252204f6093ad4884aa5394869b1848aa118e2fb08e78812e88b93c905b0bb") true treeOne_row (fun _ h => by cases h) treeOne_w (fun _ h => by cases h) treeOneUpto_row_tie rfl ⟨rfl, rfl⟩ treeOne_m rfl
  (fun f fn hf hfn => by
   obtain rfl : f = 6 := Option.some.inj (treeOne_kn.symm.trans hf) |>.symm
   obtain rfl : fn = Tryz.f6 := (Option.some.inj (Tryz.func6.symm.trans hfn)).symm
   exact ⟨treeOne_l, fun j t ht => by
    rw [Tryz.params6] at ht
    have hm : t ∈ [25, 3, 5] := by simpa using Array.mem_of_getElem? ht
    exact (show Tryz.prog.wantsStandIn t = false by simpa using List.all_eq_true.1 treeOne_s t hm)⟩)
  treeOne_g
#print axioms treeOne_holds
end Go.Proofs.YtifannandfkacaaGreatDoor
