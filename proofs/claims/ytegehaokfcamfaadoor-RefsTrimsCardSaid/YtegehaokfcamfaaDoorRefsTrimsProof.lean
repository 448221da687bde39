/-
  PROVED: dolmenlaw11.RefsTrims returns true for every input, and each argument reads afterwards as it read before; the card ties the listed library variables to the program's text. No condition.
-/
import Derived.Test.YtegehaokfcamfaaDoorCardM
import Derived.Test.YtegehaokfcamfaaDoorCards
import Derived.Test.YtegehaokfcamfaaDoorTie
import Derived.Test.YtegehaokfcamfaaDoorOpenOps
import Derived.Test.YtegehaokfcamfaaDoorRefsTrims
namespace Go.Proofs.YtegehaokfcamfaaDoor
open Go.ChangeShapes Go.WideShapes Go.ChangeAt Go.RowKit

set_option maxRecDepth 100000 in
theorem refsTrims_lifted (os : Os) (started : os.Started) (H : Type) (enc : TypeId × Value → H) :
    ReturnsInHanded {} Tryd.checked os 3 .any (fun w args => (Rows.refsTrimsSpec.pre enc Tryd.prog Tryd.f3 Rows.refsTrimsRow.domain false w args ∧ laidMetH Tryd.prog Rows.refsTrimsRow.laid w) ∧ sizedMet enc Tryd.prog Tryd.f3 (OpenSpec.ofChange Rows.refsTrimsSpec) false w args)
      (Rows.refsTrimsSpec.post enc Tryd.prog Tryd.f3 false true false false) := by
  refine returns_listed (C := Tryd.checked) (X := fun w _ => laidMetH Tryd.prog Rows.refsTrimsRow.laid w) (fun _ _ _ hh h => h.of_heap hh) Tryd.own started (by kernel_rfl) Tryd.func3
    (ChangeSpec.witness_shaped (enc := enc) (C := Tryd.checked) (os := os) (X := fun w _ => laidMetH Tryd.prog Rows.refsTrimsRow.laid w) false (World.laidAll Tryd.prog os Rows.refsTrimsRow.laid) #[.slice none 0 0, .int .i64 0] 8 (World.laidAll_os _ _ _)
      (World.shaped_of_ZipB (by kernel_rfl) (by kernel_rfl)) (by kernel_rfl) (by kernel_rfl) (by kernel_rfl)
      (by rw [MakeChecks.laidMetH_plain _ _ _ (by kernel_rfl)]; exact laidMet_laidAll _ (by kernel_rfl) (by kernel_rfl))) ?_
  intro W base args ds gs before hval0 hW hsz0 hL hsh
  have hval : ∀ (j : Nat) t v, Tryd.f3.params[j]? = some t → args[j]? = some v → Value.okWide Tryd.prog W .any base t v := hval0
  have hsz : (DataW.weightsEach Tryd.prog (Tryd.f3.params.toList ++ Rows.refsTrimsSpec.plain.varTypes Tryd.prog) (ds ++ gs)).all (· ≤ reachBytes) = true := hsz0
  have hW' := hW
  obtain ⟨p, q, hA0, hV, rfl, hfz, hnd⟩ := hW
  have hA : DataW.TrodAll enc Tryd.prog W 0 (fun _ => true) true Tryd.f3.params.toList args.toList ds p := hA0
  rw [Tryd.params3] at hA hval hsz
  obtain ⟨v0, vs0, d0, ds0, p0, q0, hargs, rfl, rfl, h0, r0⟩ := trodAll_cons hA
  obtain ⟨v1, vs1, d1, ds1, p1, q1, rfl, rfl, rfl, h1, r1⟩ := trodAll_cons r0
  obtain ⟨rfl, rfl, rfl⟩ := trodAll_nil r1
  obtain rfl : args = #[v0, v1] := by cases args; simp_all
  obtain ⟨rfl, rfl⟩ := trodVars_none hV
  obtain ⟨A0', n0', c0', hv0⟩ := okWide_slice Tryd.underlying22 (hval 0 _ v0 rfl rfl)
  obtain ⟨fuel0, hf0⟩ := h0
  subst hv0
  obtain ⟨A0, n0, c0, l0, hx0, hS0, hO0⟩ := open_ops hf0 (fun m hm => by
    have := List.all_eq_true.1 hsz m (each_mem (i := 0) rfl rfl hm)
    simpa using this)
  cases hx0
  obtain ⟨z1, hv1⟩ := okWide_int Tryd.underlying3 (hval 1 _ v1 rfl rfl)
  obtain ⟨fuel1, hf1⟩ := h1
  subst hv1
  obtain ⟨z1', hx1, _, hz1⟩ := DataW.trod_int Tryd.underlying3 hf1
  have hx1' : z1' = z1 := by injection hx1 with h; injection h with _ h; exact h.symm
  subst hx1'
  have hl1 : -9223372036854775808 ≤ z1' ∧ z1' ≤ 9223372036854775807 := by simpa [Lit.wf, IntKind.min, IntKind.max, IntKind.signed, IntKind.bits] using hz1
  refine (refsTrims_law A0' n0' c0' l0 z1' W hS0 hO0 hl1 (maxL_of_shape hsh)).mono fun e W' ⟨he, hb⟩ => ?_
  subst he
  exact ⟨_, rfl, post_true Tryd.laidOut Tryd.underlying4 rfl rfl (by rw [Tryd.params3]; intro t ht; simp at ht; (first | subst ht | rcases ht with rfl | rfl) <;> exact ⟨by kernel_rfl, of_decide_eq_true (by kernel_rfl)⟩) hW' rfl rfl rfl hb⟩

theorem refsTrims_row : Rows.RefsTrimsSaid :=
  OpenClaim.holds_of_wide 3 Tryd.f3 rfl rfl rfl rfl rfl rfl rfl ⟨rfl, rfl, rfl, rfl, rfl⟩ rfl rfl rfl rfl rfl (by kernel_rfl) Tryd.func3 (by kernel_rfl)
    (of_decide_eq_true (by kernel_rfl)) (by unfold Func.isWrapper; first | (rw [if_pos (by decide +kernel)]; kernel_rfl) | (rw [if_neg (by decide +kernel)]; exact ⟨rfl, rfl⟩))
    (fun os started H enc _ => refsTrims_lifted os started H enc)

theorem refsTrims_holds : Rows.RefsTrimsCardSaid :=
  Claim7.holds_tied_plain_at .later [] [.data, .pinned] true (true, "29d8e8c0c9cbdca11126b3d6a52dea7db71acc5adc50ba68b3c617746b9c1983") false refsTrims_row (fun _ h => by cases h) (by kernel_rfl) (fun _ h => by cases h) refsTrims_row_tie rfl ⟨rfl, rfl⟩ (by kernel_rfl) rfl
    (fun f fn hf hfn => by
      obtain rfl : f = 3 := Option.some.inj ((show Tryd.prog.funcNamed Rows.refsTrimsRow.func = some 3 by kernel_rfl).symm.trans hf) |>.symm
      obtain rfl : fn = Tryd.f3 := (Option.some.inj (Tryd.func3.symm.trans hfn)).symm
      exact ⟨by kernel_rfl, fun j t ht => by
        rw [Tryd.params3] at ht
        have hm : t ∈ [22, 3] := by simpa using Array.mem_of_getElem? ht
        have hall : ([22, 3].all fun u => !Tryd.prog.wantsStandIn u) = true := by kernel_rfl
        exact (show Tryd.prog.wantsStandIn t = false by simpa using List.all_eq_true.1 hall t hm)⟩)
    (by kernel_rfl)
#print axioms refsTrims_holds
end Go.Proofs.YtegehaokfcamfaaDoor
