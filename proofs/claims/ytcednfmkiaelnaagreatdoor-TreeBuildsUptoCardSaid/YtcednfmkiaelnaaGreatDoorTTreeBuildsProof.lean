/-
  PROVED: where the arguments hold at most 1048576 values and letters, dolmenlaw13.TreeBuilds returns true, and each argument reads afterwards as it read before; the card ties the listed library variables to the program's text. Condition: that bound alone.
-/
import Derived.Test.YtcednfmkiaelnaaGreatDoorTKitCj
import Derived.Test.YtcednfmkiaelnaaGreatDoorCards
import Derived.Test.YtcednfmkiaelnaaGreatDoorTie
import Derived.Deep.DeepHandedRow
import Derived.Lib.SmallJoins
import Derived.Test.YtcednfmkiaelnaaGreatDoorTKitX
import Derived.Test.YtcednfmkiaelnaaGreatDoorTTreeBuilds
namespace Go.Proofs.YtcednfmkiaelnaaGreatDoor
open Go.ChangeShapes Go.WideShapes Go.ChangeAt Go.RowKit Go.Deep
theorem treeBuilds_reads (os : Os) {H : Type} (enc : TypeId × Value → H) : ∃ places, DataW.whole enc Tryz.prog ((World.laidAll Tryz.prog os Rows.treeBuildsUptoRow.laid).forCall (fun _ _ => 0) ⟨#[], #[.slice none 0 0, .string ⟨#[]⟩, .string ⟨#[]⟩], []⟩).memory Tryz.f3.params.toList Rows.treeBuildsSpec.vars false (#[.slice none 0 0, .string ⟨#[]⟩, .string ⟨#[]⟩] : Array Value).toList 8 = some ([.nil, .lit (.string []), .lit (.string [])], [], places) :=
 ⟨[], by kernel_rfl⟩
set_option maxRecDepth 100000 in
theorem treeBuilds_lifted (os : Os) (started : os.Started) (H : Type) (enc : TypeId × Value → H) (F : Stop.Interp) :
  ReturnsInHanded {} Tryz.checked os 3 .any ((Rows.OpenSpec.upto Rows.treeBuildsSpec).preRow enc Tryz.prog Tryz.f3 Rows.treeBuildsUptoRow.domain false Rows.treeBuildsUptoRow.laid) (((Rows.OpenSpec.upto Rows.treeBuildsSpec).at F).post enc Tryz.prog Tryz.f3 false true false false) := by
 obtain ⟨places, hx⟩ := treeBuilds_reads os enc
 have hok : Input.okWideB Tryz.checked.prog ((World.laidAll Tryz.prog os Rows.treeBuildsUptoRow.laid).forCall (fun _ _ => 0) ⟨#[], #[.slice none 0 0, .string ⟨#[]⟩, .string ⟨#[]⟩], []⟩) 3 ⟨#[], #[.slice none 0 0, .string ⟨#[]⟩, .string ⟨#[]⟩], []⟩ = true := by kernel_rfl
 refine returnsInHanded_of_row (C := Tryz.checked) (s := Rows.OpenSpec.upto Rows.treeBuildsSpec) Tryz.own started (by kernel_rfl) Tryz.func3
  ⟨World.laidAll Tryz.prog os Rows.treeBuildsUptoRow.laid, fun _ _ => 0, ⟨#[], #[.slice none 0 0, .string ⟨#[]⟩, .string ⟨#[]⟩], []⟩, World.laidAll_os _ _ _, World.shaped_of_ZipB (by kernel_rfl) (by kernel_rfl), (Input.okWide_of_okWideB (base := 0) hok).1, (Input.okWide_of_okWideB hok).2,
   OpenSpec.preRow_of_cond 8 hx (by kernel_rfl) (fun k hk => by cases hk; kernel_rfl) (by kernel_rfl) (by rw [MakeChecks.laidMetH_plain _ _ _ (by kernel_rfl)]; exact laidMet_laidAll _ (by kernel_rfl) (by kernel_rfl)), by
    simp only [Assume.holds]
    exact ⟨by simp, by simp, fun _ => Modest.zero, by simp, by simp⟩⟩ ?_
 intro W base args ds gs before hval0 hW _ hcond _ _ hsh _
 have hk := hcond _ rfl
 have hval : ∀ (j : Nat) t v, Tryz.f3.params[j]? = some t → args[j]? = some v → Value.okWide Tryz.prog W .any base t v := hval0
 have hW' := hW
 obtain ⟨p, q, hA0, hV, rfl, hfz, hnd⟩ := hW
 have hA : DataW.TrodAll enc Tryz.prog W 0 (fun _ => true) true Tryz.f3.params.toList args.toList ds p := hA0
 rw [Tryz.params3] at hA hval
 obtain ⟨v0, vs0, d0, ds0, p0, q0, hargs, rfl, rfl, h0, r0⟩ := trodAll_cons hA
 obtain ⟨v1, vs1, d1, ds1, p1, q1, rfl, rfl, rfl, h1, r1⟩ := trodAll_cons r0
 obtain ⟨v2, vs2, d2, ds2, p2, q2, rfl, rfl, rfl, h2, r2⟩ := trodAll_cons r1
 obtain ⟨rfl, rfl, rfl⟩ := trodAll_nil r2
 obtain rfl : args = #[v0, v1, v2] := by cases args; simp_all
 obtain ⟨rfl, rfl⟩ := trodVars_none hV
 have hbk := of_decide_eq_true hk
 simp only [List.cons_append, List.nil_append, Rows.uptoBulkAll] at hbk
 obtain ⟨A0', n0', c0', hv0⟩ := okWide_slice Tryz.underlying22 (hval 0 _ v0 rfl rfl)
 obtain ⟨fuel0, hf0⟩ := h0
 subst hv0
 obtain ⟨A0, n0, c0, l0, hx0, hS0, hn0, hO0⟩ := open_rfilesU hf0 (by show Rows.uptoBulk d0 ≤ _; omega)
 cases hx0
 obtain ⟨s1, hv1⟩ := okWide_string Tryz.underlying9 (hval 1 _ v1 rfl rfl)
 obtain ⟨fuel1, hf1⟩ := h1
 subst hv1
 obtain ⟨s1', hx1, hy1, _⟩ := DataW.trod_string Tryz.underlying9 hf1
 obtain ⟨l1, rfl⟩ := str_of s1
 have hx1' : s1' = ⟨l1.toArray⟩ := by injection hx1 with h; injection h with h; exact h.symm
 subst hx1'
 have hl1 : l1.length ≤ 1048576 := by
  obtain ⟨h5, _⟩ := Prod.mk.inj hy1
  rw [h5] at hbk
  simp [Rows.uptoBulk] at hbk
  omega
 obtain ⟨s2, hv2⟩ := okWide_string Tryz.underlying9 (hval 2 _ v2 rfl rfl)
 obtain ⟨fuel2, hf2⟩ := h2
 subst hv2
 obtain ⟨s2', hx2, hy2, _⟩ := DataW.trod_string Tryz.underlying9 hf2
 obtain ⟨l2, rfl⟩ := str_of s2
 have hx2' : s2' = ⟨l2.toArray⟩ := by injection hx2 with h; injection h with h; exact h.symm
 subst hx2'
 have hl2 : l2.length ≤ 1048576 := by
  obtain ⟨h5, _⟩ := Prod.mk.inj hy2
  rw [h5] at hbk
  simp [Rows.uptoBulk] at hbk
  omega
 refine (treeBuilds_law A0' n0' c0' l0 l1 l2 W hS0 hn0 hO0 hl1 hl2 (maxL_of_shape hsh)).mono fun e W' ⟨he, hb⟩ => ?_
 subst he
 exact ⟨_, rfl, post_true Tryz.laidOut Tryz.underlying4 rfl rfl (by rw [Tryz.params3]; intro t ht; simp at ht; (first | subst ht | (rcases ht with rfl | rfl | rfl | rfl) | (rcases ht with rfl | rfl | rfl) | (rcases ht with rfl | rfl)) <;> exact ⟨by kernel_rfl, of_decide_eq_true (by kernel_rfl)⟩) hW' rfl rfl rfl hb⟩
theorem treeBuilds_k1 : j1 Tryz.prog Tryz.f3 (Rows.OpenSpec.upto Rows.treeBuildsSpec).bare Rows.treeBuildsUptoRow = true := by kernel_rfl
theorem treeBuilds_k2 : j2 Tryz.prog 3 Rows.treeBuildsUptoRow = true := by kernel_rfl
theorem treeBuilds_k3 : j3 Tryz.prog 3 Rows.treeBuildsUptoRow = true := by kernel_rfl
theorem treeBuilds_k4 : j4 Tryz.prog 3 Rows.treeBuildsUptoRow = true := by kernel_rfl
theorem treeBuilds_k5 : j5 Tryz.prog 3 Rows.treeBuildsUptoRow = true := by kernel_rfl
theorem treeBuilds_k6 : j6 Tryz.prog Tryz.f3 (Rows.OpenSpec.upto Rows.treeBuildsSpec).bare Rows.treeBuildsUptoRow = true := by kernel_rfl
theorem treeBuilds_k7 : j7 Tryz.prog Tryz.f3 Rows.treeBuildsUptoRow = true := by kernel_rfl
theorem treeBuilds_k8 : j8 Tryz.prog Tryz.f3 (Rows.OpenSpec.upto Rows.treeBuildsSpec).bare Rows.treeBuildsUptoRow = true := by kernel_rfl
theorem treeBuilds_kn : Tryz.prog.funcNamed Rows.treeBuildsUptoRow.func = some 3 := by kernel_rfl
theorem treeBuilds_closed : joinedFacts Tryz.prog 3 Tryz.f3 (Rows.OpenSpec.upto Rows.treeBuildsSpec).bare Rows.treeBuildsUptoRow = true := joined_of (P := Tryz.prog) (f := 3) (fn := Tryz.f3) (s := (Rows.OpenSpec.upto Rows.treeBuildsSpec).bare) (c := Rows.treeBuildsUptoRow) treeBuilds_k1 treeBuilds_k2 treeBuilds_k3 treeBuilds_k4 treeBuilds_k5 treeBuilds_k6 treeBuilds_k7 treeBuilds_k8
set_option maxRecDepth 100000 in
theorem treeBuilds_row : Rows.TreeBuildsUptoSaid :=
 OpenClaim.holds_of_cond 3 Tryz.f3 rfl rfl rfl rfl rfl rfl rfl ⟨rfl, rfl, rfl, rfl, rfl⟩ rfl rfl rfl rfl rfl treeBuilds_kn Tryz.func3 treeBuilds_closed
  (of_decide_eq_true (by kernel_rfl)) (by unfold Func.isWrapper; first | (rw [if_pos (by decide +kernel)]; kernel_rfl) | (rw [if_neg (by decide +kernel)]; exact ⟨rfl, rfl⟩))
  (fun os started H enc _ F => by rw [OpenClaim.pre_eq_preRow]; exact treeBuilds_lifted os started H enc F)
theorem treeBuilds_w : Rows.treeBuildsUptoRow.wfByText (Rows.OpenSpec.upto Rows.treeBuildsSpec) = true := by kernel_rfl
theorem treeBuilds_m : Tryz.pinned.checked.prog.mainIs = some (true, ("0d8974a05966d73428a65ddf16ef2b03dcb0ce0e2bc898ae6afc7a15d4545311" : String).toList) := by kernel_rfl
theorem treeBuilds_l : true = Tryz.pinned.checked.prog.looks [] := by kernel_rfl
theorem treeBuilds_g : false = Rows.treeBuildsUptoRow.goesBy Tryz.pinned.checked.prog := by kernel_rfl
theorem treeBuilds_s : ([22, 9, 9].all fun u => !Tryz.prog.wantsStandIn u) = true := by kernel_rfl
theorem treeBuilds_holds : Rows.TreeBuildsUptoCardSaid :=
 Claim7.holds_tied_plain_at .later [] [.data, .pinned] true (true, "0d8974a05966d73428a65ddf16ef2b03dcb0ce0e2bc898ae6afc7a15d4545311") true treeBuilds_row (fun _ h => by cases h) treeBuilds_w (fun _ h => by cases h) treeBuildsUpto_row_tie rfl ⟨rfl, rfl⟩ treeBuilds_m rfl
  (fun f fn hf hfn => by
   obtain rfl : f = 3 := Option.some.inj (treeBuilds_kn.symm.trans hf) |>.symm
   obtain rfl : fn = Tryz.f3 := (Option.some.inj (Tryz.func3.symm.trans hfn)).symm
   exact ⟨treeBuilds_l, fun j t ht => by
    rw [Tryz.params3] at ht
    have hm : t ∈ [22, 9, 9] := by simpa using Array.mem_of_getElem? ht
    exact (show Tryz.prog.wantsStandIn t = false by simpa using List.all_eq_true.1 treeBuilds_s t hm)⟩)
  treeBuilds_g
#print axioms treeBuilds_holds
end Go.Proofs.YtcednfmkiaelnaaGreatDoor
