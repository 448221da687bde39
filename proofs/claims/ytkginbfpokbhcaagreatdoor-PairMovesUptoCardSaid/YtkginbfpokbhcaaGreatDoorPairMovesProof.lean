/-
  PROVED: where the arguments hold at most 1048576 values and letters, dolmenlaw16.PairMoves returns true, and each argument reads afterwards as it read before; the card ties the listed library variables to the program's text. Condition: that bound alone.
-/
import Derived.Test.YtkginbfpokbhcaaGreatDoorCardM
import Derived.Test.YtkginbfpokbhcaaGreatDoorJoined
import Derived.Test.YtkginbfpokbhcaaGreatDoorCards
import Derived.Test.YtkginbfpokbhcaaGreatDoorTie
import Derived.Deep.DeepHandedRow
import Derived.Lib.SmallJoins
import Derived.Test.YtkginbfpokbhcaaGreatDoorOpenFilesU
import Derived.Test.YtkginbfpokbhcaaGreatDoorPairMoves
namespace Go.Proofs.YtkginbfpokbhcaaGreatDoor
open Go.ChangeShapes Go.WideShapes Go.ChangeAt Go.RowKit Go.Deep

theorem pairMoves_reads (os : Os) {H : Type} (enc : TypeId × Value → H) : ∃ places, DataW.whole enc Tryz.prog ((World.laidAll Tryz.prog os Rows.pairMovesUptoRow.laid).forCall (fun _ _ => 0) ⟨#[], #[.slice none 0 0, .int .i64 0, .string ⟨#[]⟩], []⟩).memory Tryz.f7.params.toList Rows.pairMovesSpec.vars false (#[.slice none 0 0, .int .i64 0, .string ⟨#[]⟩] : Array Value).toList 8 = some ([.nil, .lit (.int .i64 0), .lit (.string [])], [], places) :=
  ⟨[], by kernel_rfl⟩

set_option maxRecDepth 100000 in
theorem pairMoves_lifted (os : Os) (started : os.Started) (H : Type) (enc : TypeId × Value → H) (F : Stop.Interp) :
    ReturnsInHanded {} Tryz.checked os 7 .any ((Rows.OpenSpec.upto Rows.pairMovesSpec).preRow enc Tryz.prog Tryz.f7 Rows.pairMovesUptoRow.domain false Rows.pairMovesUptoRow.laid) (((Rows.OpenSpec.upto Rows.pairMovesSpec).at F).post enc Tryz.prog Tryz.f7 false true false false) := by
  obtain ⟨places, hx⟩ := pairMoves_reads os enc
  have hok : Input.okWideB Tryz.checked.prog ((World.laidAll Tryz.prog os Rows.pairMovesUptoRow.laid).forCall (fun _ _ => 0) ⟨#[], #[.slice none 0 0, .int .i64 0, .string ⟨#[]⟩], []⟩) 7 ⟨#[], #[.slice none 0 0, .int .i64 0, .string ⟨#[]⟩], []⟩ = true := by kernel_rfl
  refine returnsInHanded_of_row (C := Tryz.checked) (s := Rows.OpenSpec.upto Rows.pairMovesSpec) Tryz.own started (by kernel_rfl) Tryz.func7
    ⟨World.laidAll Tryz.prog os Rows.pairMovesUptoRow.laid, fun _ _ => 0, ⟨#[], #[.slice none 0 0, .int .i64 0, .string ⟨#[]⟩], []⟩, World.laidAll_os _ _ _, World.shaped_of_ZipB (by kernel_rfl) (by kernel_rfl), (Input.okWide_of_okWideB (base := 0) hok).1, (Input.okWide_of_okWideB hok).2,
      OpenSpec.preRow_of_cond 8 hx (by kernel_rfl) (fun k hk => by cases hk; kernel_rfl) (by kernel_rfl) (by rw [MakeChecks.laidMetH_plain _ _ _ (by kernel_rfl)]; exact laidMet_laidAll _ (by kernel_rfl) (by kernel_rfl)), by
        simp only [Assume.holds]
        exact ⟨by simp, by simp, fun _ => Modest.zero, by simp, by simp⟩⟩ ?_
  intro W base args ds gs before hval0 hW _ hcond _ _ hsh _
  have hk := hcond _ rfl
  have hval : ∀ (j : Nat) t v, Tryz.f7.params[j]? = some t → args[j]? = some v → Value.okWide Tryz.prog W .any base t v := hval0
  have hW' := hW
  obtain ⟨p, q, hA0, hV, rfl, hfz, hnd⟩ := hW
  have hA : DataW.TrodAll enc Tryz.prog W 0 (fun _ => true) true Tryz.f7.params.toList args.toList ds p := hA0
  rw [Tryz.params7] at hA hval
  obtain ⟨v0, vs0, d0, ds0, p0, q0, hargs, rfl, rfl, h0, r0⟩ := trodAll_cons hA
  obtain ⟨v1, vs1, d1, ds1, p1, q1, rfl, rfl, rfl, h1, r1⟩ := trodAll_cons r0
  obtain ⟨v2, vs2, d2, ds2, p2, q2, rfl, rfl, rfl, h2, r2⟩ := trodAll_cons r1
  obtain ⟨rfl, rfl, rfl⟩ := trodAll_nil r2
  obtain rfl : args = #[v0, v1, v2] := by cases args; simp_all
  obtain ⟨rfl, rfl⟩ := trodVars_none hV
  have hbk := of_decide_eq_true hk
  simp only [List.cons_append, List.nil_append, Rows.uptoBulkAll] at hbk
  obtain ⟨A0', n0', c0', hv0⟩ := okWide_slice Tryz.underlying22 (hval 0 _ v0 rfl rfl)
  obtain ⟨fuel0, hf0⟩ := h0
  subst hv0
  obtain ⟨A0, n0, c0, l0, hx0, hS0, hn0, hO0⟩ := open_rfilesU hf0 (by show Rows.uptoBulk d0 ≤ _; omega)
  cases hx0
  obtain ⟨x1, rfl⟩ := okWide_int Tryz.underlying3 (hval 1 _ v1 rfl rfl)
  obtain ⟨s2, hv2⟩ := okWide_string Tryz.underlying9 (hval 2 _ v2 rfl rfl)
  obtain ⟨fuel2, hf2⟩ := h2
  subst hv2
  obtain ⟨s2', hx2, hy2, _⟩ := DataW.trod_string Tryz.underlying9 hf2
  obtain ⟨l2, rfl⟩ := str_of s2
  have hx2' : s2' = ⟨l2.toArray⟩ := by injection hx2 with h; injection h with h; exact h.symm
  subst hx2'
  have hl2 : l2.length ≤ 1048576 := by
    obtain ⟨h5, _⟩ := Prod.mk.inj hy2
    rw [h5] at hbk
    simp [Rows.uptoBulk] at hbk
    omega
  refine (pairMoves_walk A0' n0' c0' l0 x1 l2 W hS0 hn0 hO0 hl2 (maxL_of_shape hsh)).mono fun e W' ⟨he, hb⟩ => ?_
  subst he
  exact ⟨_, rfl, post_true Tryz.laidOut Tryz.underlying4 rfl rfl (by rw [Tryz.params7]; intro t ht; simp at ht; (first | subst ht | (rcases ht with rfl | rfl | rfl) | (rcases ht with rfl | rfl)) <;> exact ⟨by kernel_rfl, of_decide_eq_true (by kernel_rfl)⟩) hW' rfl rfl rfl hb⟩

theorem pairMoves_k1 : j1 Tryz.prog Tryz.f7 (Rows.OpenSpec.upto Rows.pairMovesSpec).bare Rows.pairMovesUptoRow = true := by kernel_rfl
theorem pairMoves_k2 : j2 Tryz.prog 7 Rows.pairMovesUptoRow = true := by kernel_rfl
theorem pairMoves_k3 : j3 Tryz.prog 7 Rows.pairMovesUptoRow = true := by kernel_rfl
theorem pairMoves_k4 : j4 Tryz.prog 7 Rows.pairMovesUptoRow = true := by kernel_rfl
theorem pairMoves_k5 : j5 Tryz.prog 7 Rows.pairMovesUptoRow = true := by kernel_rfl
theorem pairMoves_k6 : j6 Tryz.prog Tryz.f7 (Rows.OpenSpec.upto Rows.pairMovesSpec).bare Rows.pairMovesUptoRow = true := by kernel_rfl
theorem pairMoves_k7 : j7 Tryz.prog Tryz.f7 Rows.pairMovesUptoRow = true := by kernel_rfl
theorem pairMoves_k8 : j8 Tryz.prog Tryz.f7 (Rows.OpenSpec.upto Rows.pairMovesSpec).bare Rows.pairMovesUptoRow = true := by kernel_rfl
theorem pairMoves_kn : Tryz.prog.funcNamed Rows.pairMovesUptoRow.func = some 7 := by kernel_rfl
theorem pairMoves_closed : joinedFacts Tryz.prog 7 Tryz.f7 (Rows.OpenSpec.upto Rows.pairMovesSpec).bare Rows.pairMovesUptoRow = true := joined_of (P := Tryz.prog) (f := 7) (fn := Tryz.f7) (s := (Rows.OpenSpec.upto Rows.pairMovesSpec).bare) (c := Rows.pairMovesUptoRow) pairMoves_k1 pairMoves_k2 pairMoves_k3 pairMoves_k4 pairMoves_k5 pairMoves_k6 pairMoves_k7 pairMoves_k8
set_option maxRecDepth 100000 in
theorem pairMoves_row : Rows.PairMovesUptoSaid :=
  OpenClaim.holds_of_cond 7 Tryz.f7 rfl rfl rfl rfl rfl rfl rfl ⟨rfl, rfl, rfl, rfl, rfl⟩ rfl rfl rfl rfl rfl pairMoves_kn Tryz.func7 pairMoves_closed
    (of_decide_eq_true (by kernel_rfl)) (by unfold Func.isWrapper; first | (rw [if_pos (by decide +kernel)]; kernel_rfl) | (rw [if_neg (by decide +kernel)]; exact ⟨rfl, rfl⟩))
    (fun os started H enc _ F => by rw [OpenClaim.pre_eq_preRow]; exact pairMoves_lifted os started H enc F)

theorem pairMoves_holds : Rows.PairMovesUptoCardSaid :=
  Claim7.holds_tied_plain_at .later [] [.data, .pinned] true (true, "1d8eea8e1b54ebe1edd547b2d1562844103a2ad72ac19c12055dffe4f385d582") true pairMoves_row (fun _ h => by cases h) (by kernel_rfl) (fun _ h => by cases h) pairMovesUpto_row_tie rfl ⟨rfl, rfl⟩ (by kernel_rfl) rfl
    (fun f fn hf hfn => by
      obtain rfl : f = 7 := Option.some.inj ((show Tryz.prog.funcNamed Rows.pairMovesUptoRow.func = some 7 by kernel_rfl).symm.trans hf) |>.symm
      obtain rfl : fn = Tryz.f7 := (Option.some.inj (Tryz.func7.symm.trans hfn)).symm
      exact ⟨by kernel_rfl, fun j t ht => by
        rw [Tryz.params7] at ht
        have hm : t ∈ [22, 3, 9] := by simpa using Array.mem_of_getElem? ht
        have hall : ([22, 3, 9].all fun u => !Tryz.prog.wantsStandIn u) = true := by kernel_rfl
        exact (show Tryz.prog.wantsStandIn t = false by simpa using List.all_eq_true.1 hall t hm)⟩)
    (by kernel_rfl)
#print axioms pairMoves_holds
end Go.Proofs.YtkginbfpokbhcaaGreatDoor
