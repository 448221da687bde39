/-
  PROVED: dolmenlaw17.BlendMerges returns true for every input, and each argument reads afterwards as it read before; the card ties the listed library variables to the program's text. No condition.
-/
import Derived.Test.YtpnogcblafmaiaaDoorCard
import Derived.Test.YtpnogcblafmaiaaDoorCards
import Derived.Test.YtpnogcblafmaiaaDoorTie
import Derived.Test.YtpnogcblafmaiaaDoorBlendMerges
namespace Go.Proofs.YtpnogcblafmaiaaDoor
open Go.ChangeShapes Go.WideShapes Go.ChangeAt Go.RowKit

set_option maxRecDepth 100000 in
theorem blendMerges_lifted (os : Os) (started : os.Started) (H : Type) (enc : TypeId × Value → H) :
    ReturnsInHanded {} Tryd.checked os 8 .any (fun w args => (Rows.blendMergesSpec.pre enc Tryd.prog Tryd.f8 Rows.blendMergesRow.domain false w args ∧ laidMetH Tryd.prog Rows.blendMergesRow.laid w) ∧ sizedMet enc Tryd.prog Tryd.f8 (OpenSpec.ofChange Rows.blendMergesSpec) false w args)
      (Rows.blendMergesSpec.post enc Tryd.prog Tryd.f8 false true false false) := by
  refine returns_listed (C := Tryd.checked) (X := fun w _ => laidMetH Tryd.prog Rows.blendMergesRow.laid w) (fun _ _ _ hh h => h.of_heap hh) Tryd.own started (by kernel_rfl) Tryd.func8
    (ChangeSpec.witness_shaped (enc := enc) (C := Tryd.checked) (os := os) (X := fun w _ => laidMetH Tryd.prog Rows.blendMergesRow.laid w) false (World.laidAll Tryd.prog os Rows.blendMergesRow.laid) #[.slice none 0 0, .slice none 0 0, .slice none 0 0] 8 (World.laidAll_os _ _ _)
      (World.shaped_of_ZipB (by kernel_rfl) (by kernel_rfl)) (by kernel_rfl) (by kernel_rfl) (by kernel_rfl)
      (by rw [MakeChecks.laidMetH_plain _ _ _ (by kernel_rfl)]; exact laidMet_laidAll _ (by kernel_rfl) (by kernel_rfl))) ?_
  intro W base args ds gs before hval0 hW hsz0 hL hsh
  have hval : ∀ (j : Nat) t v, Tryd.f8.params[j]? = some t → args[j]? = some v → Value.okWide Tryd.prog W .any base t v := hval0
  have hsz : (DataW.weightsEach Tryd.prog (Tryd.f8.params.toList ++ Rows.blendMergesSpec.plain.varTypes Tryd.prog) (ds ++ gs)).all (· ≤ reachBytes) = true := hsz0
  have hW' := hW
  obtain ⟨p, q, hA0, hV, rfl, hfz, hnd⟩ := hW
  have hA : DataW.TrodAll enc Tryd.prog W 0 (fun _ => true) true Tryd.f8.params.toList args.toList ds p := hA0
  rw [Tryd.params8] at hA hval hsz
  obtain ⟨v0, vs0, d0, ds0, p0, q0, hargs, rfl, rfl, h0, r0⟩ := trodAll_cons hA
  obtain ⟨v1, vs1, d1, ds1, p1, q1, rfl, rfl, rfl, h1, r1⟩ := trodAll_cons r0
  obtain ⟨v2, vs2, d2, ds2, p2, q2, rfl, rfl, rfl, h2, r2⟩ := trodAll_cons r1
  obtain ⟨rfl, rfl, rfl⟩ := trodAll_nil r2
  obtain rfl : args = #[v0, v1, v2] := by cases args; simp_all
  obtain ⟨rfl, rfl⟩ := trodVars_none hV
  obtain ⟨A0', n0', c0', hv0⟩ := okWide_slice Tryd.underlying34 (hval 0 _ v0 rfl rfl)
  obtain ⟨fuel0, hf0⟩ := h0
  subst hv0
  obtain ⟨A0, n0, c0, l0, hx0, hc0, hm0, hS0, hd0⟩ := bytes_sl Tryd.underlying34 Tryd.underlying5 Tryd.cellsU8 hf0
  cases hx0
  have hr0 : c0' ≤ 140737488351232 := by
    rcases hd0 with ⟨_, rfl⟩ | ⟨es, sp, hd1, hlen⟩
    · omega
    · have := sized_slice hsz (j := 0) (t := 34) (e := 5) (elems := es) (spare := sp) rfl (by simpa using hd1) Tryd.underlying34
      rw [show Tryd.prog.bytesOf 5 = 1 by kernel_rfl, hlen] at this
      simp only [reachBytes] at this
      omega
  obtain ⟨A1', n1', c1', hv1⟩ := okWide_slice Tryd.underlying34 (hval 1 _ v1 rfl rfl)
  obtain ⟨fuel1, hf1⟩ := h1
  subst hv1
  obtain ⟨A1, n1, c1, l1, hx1, hc1, hm1, hS1, hd1⟩ := bytes_sl Tryd.underlying34 Tryd.underlying5 Tryd.cellsU8 hf1
  cases hx1
  have hr1 : c1' ≤ 140737488351232 := by
    rcases hd1 with ⟨_, rfl⟩ | ⟨es, sp, hd1, hlen⟩
    · omega
    · have := sized_slice hsz (j := 1) (t := 34) (e := 5) (elems := es) (spare := sp) rfl (by simpa using hd1) Tryd.underlying34
      rw [show Tryd.prog.bytesOf 5 = 1 by kernel_rfl, hlen] at this
      simp only [reachBytes] at this
      omega
  obtain ⟨A2', n2', c2', hv2⟩ := okWide_slice Tryd.underlying34 (hval 2 _ v2 rfl rfl)
  obtain ⟨fuel2, hf2⟩ := h2
  subst hv2
  obtain ⟨A2, n2, c2, l2, hx2, hc2, hm2, hS2, hd2⟩ := bytes_sl Tryd.underlying34 Tryd.underlying5 Tryd.cellsU8 hf2
  cases hx2
  have hr2 : c2' ≤ 140737488351232 := by
    rcases hd2 with ⟨_, rfl⟩ | ⟨es, sp, hd1, hlen⟩
    · omega
    · have := sized_slice hsz (j := 2) (t := 34) (e := 5) (elems := es) (spare := sp) rfl (by simpa using hd1) Tryd.underlying34
      rw [show Tryd.prog.bytesOf 5 = 1 by kernel_rfl, hlen] at this
      simp only [reachBytes] at this
      omega
  refine (blendMerges_law A0' n0' c0' l0 A1' n1' c1' l1 A2' n2' c2' l2 W hS0 hc0 hr0 hS1 hc1 hr1 hS2 hc2 hr2 (maxL_of_shape hsh)).mono fun e W' ⟨he, hb⟩ => ?_
  subst he
  exact ⟨_, rfl, post_true Tryd.laidOut Tryd.underlying4 rfl rfl (by rw [Tryd.params8]; intro t ht; simp at ht; (first | subst ht | rcases ht with rfl | rfl) <;> exact ⟨by kernel_rfl, of_decide_eq_true (by kernel_rfl)⟩) hW' rfl rfl rfl hb⟩

theorem blendMerges_row : Rows.BlendMergesSaid :=
  OpenClaim.holds_of_wide 8 Tryd.f8 rfl rfl rfl rfl rfl rfl rfl ⟨rfl, rfl, rfl, rfl, rfl⟩ rfl rfl rfl rfl rfl (by kernel_rfl) Tryd.func8 (by kernel_rfl)
    (of_decide_eq_true (by kernel_rfl)) (by unfold Func.isWrapper; first | (rw [if_pos (by decide +kernel)]; kernel_rfl) | (rw [if_neg (by decide +kernel)]; exact ⟨rfl, rfl⟩))
    (fun os started H enc _ => blendMerges_lifted os started H enc)

theorem blendMerges_holds : Rows.BlendMergesCardSaid :=
  Claim7.holds_tied_plain_at .later [] [.data, .pinned] true (true, "48c085ab0a8d340747a43aab8aa73fb4cc713e35a5eac7d36ee7138b05021ccc") false blendMerges_row (fun _ h => by cases h) (by kernel_rfl) (fun _ h => by cases h) blendMerges_row_tie rfl ⟨rfl, rfl⟩ (by kernel_rfl) rfl
    (fun f fn hf hfn => by
      obtain rfl : f = 8 := Option.some.inj ((show Tryd.prog.funcNamed Rows.blendMergesRow.func = some 8 by kernel_rfl).symm.trans hf) |>.symm
      obtain rfl : fn = Tryd.f8 := (Option.some.inj (Tryd.func8.symm.trans hfn)).symm
      exact ⟨by kernel_rfl, fun j t ht => by
        rw [Tryd.params8] at ht
        have hm : t ∈ [34, 34, 34] := by simpa using Array.mem_of_getElem? ht
        have hall : ([34, 34, 34].all fun u => !Tryd.prog.wantsStandIn u) = true := by kernel_rfl
        exact (show Tryd.prog.wantsStandIn t = false by simpa using List.all_eq_true.1 hall t hm)⟩)
    (by kernel_rfl)
#print axioms blendMerges_holds
end Go.Proofs.YtpnogcblafmaiaaDoor
