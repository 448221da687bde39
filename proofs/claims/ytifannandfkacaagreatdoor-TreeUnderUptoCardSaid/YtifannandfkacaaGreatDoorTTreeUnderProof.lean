/-
  PROVED: where the arguments hold at most 1048576 values and letters, dolmenlaw13.TreeUnder returns true, and each argument reads afterwards as it read before; the card ties the listed library variables to the program's text. Condition: that bound alone.
-/
import Derived.Test.YtifannandfkacaaGreatDoorTKitCj
import Derived.Test.YtifannandfkacaaGreatDoorCards
import Derived.Test.YtifannandfkacaaGreatDoorTie
import Derived.Deep.DeepHandedRow
import Derived.Lib.SmallJoins
import Derived.Test.YtifannandfkacaaGreatDoorTTreeUnder
namespace Go.Proofs.YtifannandfkacaaGreatDoor
open Go.ChangeShapes Go.WideShapes Go.ChangeAt Go.RowKit Go.Deep
theorem treeUnder_reads (os : Os) {H : Type} (enc : TypeId × Value → H) : ∃ places, DataW.whole enc Tryz.prog ((World.laidAll Tryz.prog os Rows.treeUnderUptoRow.laid).forCall (fun _ _ => 0) ⟨#[], #[.string ⟨#[]⟩, .string ⟨#[]⟩, .string ⟨#[]⟩], []⟩).memory Tryz.f3.params.toList Rows.treeUnderSpec.vars false (#[.string ⟨#[]⟩, .string ⟨#[]⟩, .string ⟨#[]⟩] : Array Value).toList 8 = some ([.lit (.string []), .lit (.string []), .lit (.string [])], [], places) :=
 ⟨[], by kernel_rfl⟩
set_option maxRecDepth 100000 in
theorem treeUnder_lifted (os : Os) (started : os.Started) (H : Type) (enc : TypeId × Value → H) (F : Stop.Interp) :
  ReturnsInHanded {} Tryz.checked os 3 .any ((Rows.OpenSpec.upto Rows.treeUnderSpec).preRow enc Tryz.prog Tryz.f3 Rows.treeUnderUptoRow.domain false Rows.treeUnderUptoRow.laid) (((Rows.OpenSpec.upto Rows.treeUnderSpec).at F).post enc Tryz.prog Tryz.f3 false true false false) := by
 obtain ⟨places, hx⟩ := treeUnder_reads os enc
 have hok : Input.okWideB Tryz.checked.prog ((World.laidAll Tryz.prog os Rows.treeUnderUptoRow.laid).forCall (fun _ _ => 0) ⟨#[], #[.string ⟨#[]⟩, .string ⟨#[]⟩, .string ⟨#[]⟩], []⟩) 3 ⟨#[], #[.string ⟨#[]⟩, .string ⟨#[]⟩, .string ⟨#[]⟩], []⟩ = true := by kernel_rfl
 refine returnsInHanded_of_row (C := Tryz.checked) (s := Rows.OpenSpec.upto Rows.treeUnderSpec) Tryz.own started (by kernel_rfl) Tryz.func3
  ⟨World.laidAll Tryz.prog os Rows.treeUnderUptoRow.laid, fun _ _ => 0, ⟨#[], #[.string ⟨#[]⟩, .string ⟨#[]⟩, .string ⟨#[]⟩], []⟩, World.laidAll_os _ _ _, World.shaped_of_ZipB (by kernel_rfl) (by kernel_rfl), (Input.okWide_of_okWideB (base := 0) hok).1, (Input.okWide_of_okWideB hok).2,
   OpenSpec.preRow_of_cond 8 hx (by kernel_rfl) (fun k hk => by cases hk; kernel_rfl) (by kernel_rfl) (by rw [MakeChecks.laidMetH_plain _ _ _ (by kernel_rfl)]; exact laidMet_laidAll _ (by kernel_rfl) (by kernel_rfl)), by
    simp only [Assume.holds]
    exact ⟨by simp, by simp, fun _ => Modest.zero, by simp, by simp⟩⟩ ?_
 intro W base args ds gs before hval0 hW _ hcond _ _ hsh _
 have hk := hcond _ rfl
 have hval : ∀ (j : Nat) t v, Tryz.f3.params[j]? = some t → args[j]? = some v → Value.okWide Tryz.prog W .any base t v := hval0
 have hW' := hW
 obtain ⟨p, q, hA0, hV, rfl, hfz, hnd⟩ := hW
 have hA : DataW.TrodAll enc Tryz.prog W 0 (fun _ => true) true Tryz.f3.params.toList args.toList ds p := hA0
 rw [Tryz.params3] at hA hval
 obtain ⟨v0, vs0, d0, ds0, p0, q0, hargs, rfl, rfl, h0, r0⟩ := trodAll_cons hA
 obtain ⟨v1, vs1, d1, ds1, p1, q1, rfl, rfl, rfl, h1, r1⟩ := trodAll_cons r0
 obtain ⟨v2, vs2, d2, ds2, p2, q2, rfl, rfl, rfl, h2, r2⟩ := trodAll_cons r1
 obtain ⟨rfl, rfl, rfl⟩ := trodAll_nil r2
 obtain rfl : args = #[v0, v1, v2] := by cases args; simp_all
 obtain ⟨rfl, rfl⟩ := trodVars_none hV
 have hbk := of_decide_eq_true hk
 simp only [List.cons_append, List.nil_append, Rows.uptoBulkAll] at hbk
 obtain ⟨s0, hv0⟩ := okWide_string Tryz.underlying9 (hval 0 _ v0 rfl rfl)
 obtain ⟨fuel0, hf0⟩ := h0
 subst hv0
 obtain ⟨s0', hx0, hy0, _⟩ := DataW.trod_string Tryz.underlying9 hf0
 obtain ⟨l0, rfl⟩ := str_of s0
 have hx0' : s0' = ⟨l0.toArray⟩ := by injection hx0 with h; injection h with h; exact h.symm
 subst hx0'
 have hl0 : l0.length ≤ 1048576 := by
  obtain ⟨h5, _⟩ := Prod.mk.inj hy0
  rw [h5] at hbk
  simp [Rows.uptoBulk] at hbk
  omega
 obtain ⟨s1, hv1⟩ := okWide_string Tryz.underlying9 (hval 1 _ v1 rfl rfl)
 obtain ⟨fuel1, hf1⟩ := h1
 subst hv1
 obtain ⟨s1', hx1, hy1, _⟩ := DataW.trod_string Tryz.underlying9 hf1
 obtain ⟨l1, rfl⟩ := str_of s1
 have hx1' : s1' = ⟨l1.toArray⟩ := by injection hx1 with h; injection h with h; exact h.symm
 subst hx1'
 have hl1 : l1.length ≤ 1048576 := by
  obtain ⟨h5, _⟩ := Prod.mk.inj hy1
  rw [h5] at hbk
  simp [Rows.uptoBulk] at hbk
  omega
 obtain ⟨s2, hv2⟩ := okWide_string Tryz.underlying9 (hval 2 _ v2 rfl rfl)
 obtain ⟨fuel2, hf2⟩ := h2
 subst hv2
 obtain ⟨s2', hx2, hy2, _⟩ := DataW.trod_string Tryz.underlying9 hf2
 obtain ⟨l2, rfl⟩ := str_of s2
 have hx2' : s2' = ⟨l2.toArray⟩ := by injection hx2 with h; injection h with h; exact h.symm
 subst hx2'
 have hl2 : l2.length ≤ 1048576 := by
  obtain ⟨h5, _⟩ := Prod.mk.inj hy2
  rw [h5] at hbk
  simp [Rows.uptoBulk] at hbk
  omega
 refine (treeUnder_law l0 l1 l2 W hl0 hl1 hl2 (maxL_of_shape hsh)).mono fun e W' ⟨he, hb⟩ => ?_
 subst he
 exact ⟨_, rfl, post_true Tryz.laidOut Tryz.underlying4 rfl rfl (by rw [Tryz.params3]; intro t ht; simp at ht; (first | subst ht | (rcases ht with rfl | rfl | rfl | rfl) | (rcases ht with rfl | rfl | rfl) | (rcases ht with rfl | rfl)) <;> exact ⟨by kernel_rfl, of_decide_eq_true (by kernel_rfl)⟩) hW' rfl rfl rfl hb⟩
theorem treeUnder_k1 : j1 Tryz.prog Tryz.f3 (Rows.OpenSpec.upto Rows.treeUnderSpec).bare Rows.treeUnderUptoRow = true := by kernel_rfl
theorem treeUnder_k2 : j2 Tryz.prog 3 Rows.treeUnderUptoRow = true := by kernel_rfl
theorem treeUnder_k3 : j3 Tryz.prog 3 Rows.treeUnderUptoRow = true := by kernel_rfl
theorem treeUnder_k4 : j4 Tryz.prog 3 Rows.treeUnderUptoRow = true := by kernel_rfl
theorem treeUnder_k5 : j5 Tryz.prog 3 Rows.treeUnderUptoRow = true := by kernel_rfl
theorem treeUnder_k6 : j6 Tryz.prog Tryz.f3 (Rows.OpenSpec.upto Rows.treeUnderSpec).bare Rows.treeUnderUptoRow = true := by kernel_rfl
theorem treeUnder_k7 : j7 Tryz.prog Tryz.f3 Rows.treeUnderUptoRow = true := by kernel_rfl
theorem treeUnder_k8 : j8 Tryz.prog Tryz.f3 (Rows.OpenSpec.upto Rows.treeUnderSpec).bare Rows.treeUnderUptoRow = true := by kernel_rfl
theorem treeUnder_kn : Tryz.prog.funcNamed Rows.treeUnderUptoRow.func = some 3 := by kernel_rfl
theorem treeUnder_closed : joinedFacts Tryz.prog 3 Tryz.f3 (Rows.OpenSpec.upto Rows.treeUnderSpec).bare Rows.treeUnderUptoRow = true := joined_of (P := Tryz.prog) (f := 3) (fn := Tryz.f3) (s := (Rows.OpenSpec.upto Rows.treeUnderSpec).bare) (c := Rows.treeUnderUptoRow) treeUnder_k1 treeUnder_k2 treeUnder_k3 treeUnder_k4 treeUnder_k5 treeUnder_k6 treeUnder_k7 treeUnder_k8
set_option maxRecDepth 100000 in
theorem treeUnder_row : Rows.TreeUnderUptoSaid :=
 OpenClaim.holds_of_cond 3 Tryz.f3 rfl rfl rfl rfl rfl rfl rfl ⟨rfl, rfl, rfl, rfl, rfl⟩ rfl rfl rfl rfl rfl treeUnder_kn Tryz.func3 treeUnder_closed
  (of_decide_eq_true (by kernel_rfl)) (by unfold Func.isWrapper; first | (rw [if_pos (by decide +kernel)]; kernel_rfl) | (rw [if_neg (by decide +kernel)]; exact ⟨rfl, rfl⟩))
  (fun os started H enc _ F => by rw [OpenClaim.pre_eq_preRow]; exact treeUnder_lifted os started H enc F)
theorem treeUnder_w : Rows.treeUnderUptoRow.wfByText (Rows.OpenSpec.upto Rows.treeUnderSpec) = true := by kernel_rfl
theorem treeUnder_m : Tryz.pinned.checked.prog.mainIs = some (true, ("95252204f6093ad4884aa5394869b1848aa118e2fb08e78812e88b93c905b0bb" : String).toList) := by kernel_rfl
theorem treeUnder_l : true = Tryz.pinned.checked.prog.looks [] := by kernel_rfl
theorem treeUnder_g : false = Rows.treeUnderUptoRow.goesBy Tryz.pinned.checked.prog := by kernel_rfl
theorem treeUnder_s : ([9, 9, 9].all fun u => !Tryz.prog.wantsStandIn u) = true := by kernel_rfl
theorem treeUnder_holds : Rows.TreeUnderUptoCardSaid :=
 Claim7.holds_tied_plain_at .later [] [.data, .pinned] true (true, "95252204f6093ad4884aa5394869b1848aa118e2fb08e78812e88b93c905b0bb") true treeUnder_row (fun _ h => by cases h) treeUnder_w (fun _ h => by cases h) treeUnderUpto_row_tie rfl ⟨rfl, rfl⟩ treeUnder_m rfl
  (fun f fn hf hfn => by
   obtain rfl : f = 3 := Option.some.inj (treeUnder_kn.symm.trans hf) |>.symm
   obtain rfl : fn = Tryz.f3 := (Option.some.inj (Tryz.func3.symm.trans hfn)).symm
   exact ⟨treeUnder_l, fun j t ht => by
    rw [Tryz.params3] at ht
    have hm : t ∈ [9, 9, 9] := by simpa using Array.mem_of_getElem? ht
    exact (show Tryz.prog.wantsStandIn t = false by simpa using List.all_eq_true.1 treeUnder_s t hm)⟩)
  treeUnder_g
#print axioms treeUnder_holds
end Go.Proofs.YtifannandfkacaaGreatDoor
