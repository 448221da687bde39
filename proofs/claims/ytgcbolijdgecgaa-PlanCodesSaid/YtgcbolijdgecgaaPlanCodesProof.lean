/-
  PROVED: dolmenlaw21.PlanCodes returns true for every plan and all bytes, and both read afterwards as they read before. No condition.
-/
import Derived.Test.YtgcbolijdgecgaaPlanOpen
import Derived.Test.YtgcbolijdgecgaaPlanCodes
import Derived.Test.YtgcbolijdgecgaaOpenBytes
import Derived.SizedLaws
namespace Go.Proofs.Ytgcbolijdgecgaa
open Go.ChangeShapes Go.WideShapes Go.ChangeAt Go.RowKit

theorem Try.bytesU8 : Try.prog.bytesOf 5 = 1 := by kernel_rfl

set_option maxRecDepth 100000 in
theorem planCodes_lifted (os : Os) (started : os.Started) (H : Type) (enc : TypeId × Value → H) :
    ReturnsInHanded {} Try.checked os 4 .any (Rows.planCodesSpec.pre6 enc Try.prog Try.f4 Rows.planCodesRow.domain false) (Rows.planCodesSpec.post enc Try.prog Try.f4 false true false false) := by
  refine returnsInHanded_of_change_sized (C := Try.checked) Try.own started (by kernel_rfl) Try.func4
    (ChangeSpec.witness6 (enc := enc) (C := Try.checked) false ⟨#[], #[.agg #[.int .i64 0, .slice none 0 0, .int .i64 0, .string ⟨#[]⟩, .string ⟨#[]⟩, .int .i64 0], .slice none 0 0], []⟩ 8 (by kernel_rfl) (by kernel_rfl) (by kernel_rfl) (by kernel_rfl)) ?_
  intro W base args ds gs before hval0 hW hcnd hsz0 _
  have hval : ∀ (j : Nat) t v, Try.f4.params[j]? = some t → args[j]? = some v → Value.okWide Try.prog W .any base t v := hval0
  have hsz : (DataW.weightsEach Try.prog (Try.f4.params.toList ++ Rows.planCodesSpec.plain.varTypes Try.prog) (ds ++ gs)).all (· ≤ reachBytes) = true := hsz0
  have hW' := hW
  obtain ⟨p, q, hA0, hV, rfl, hfz, hnd⟩ := hW
  have hA : DataW.TrodAll enc Try.prog W 0 (fun _ => true) true Try.f4.params.toList args.toList ds p := hA0
  rw [Try.params4] at hA hval hsz
  obtain ⟨v0, vs0, d0, ds0, p0, q0, hargs, rfl, rfl, h0, r0⟩ := trodAll_cons hA
  obtain ⟨v1, vs1, d1, ds1, p1, q1, rfl, rfl, rfl, h1, r1⟩ := trodAll_cons r0
  obtain ⟨rfl, rfl, rfl⟩ := trodAll_nil r1
  obtain rfl : args = #[v0, v1] := by cases args; simp_all
  obtain ⟨rfl, rfl⟩ := trodVars_none hV
  obtain ⟨kind, A, n, c, at_, orig, who, stamp, ss, rfl, hc, hm, hS⟩ := open_plan (hval 0 _ v0 rfl rfl) h0
  obtain ⟨B0, nb, cb, rfl⟩ := okWide_slice Try.underlying34 (hval 1 _ v1 rfl rfl)
  obtain ⟨fuel, hf⟩ := h1
  obtain ⟨B, nb', cb', b, hv, hcb, hmb, hSb, hx⟩ := bytes_sl Try.underlying34 Try.underlying5 (by kernel_rfl) hf
  cases hv
  have hreach : cb ≤ 140737488351232 := by
    rcases hx with ⟨_, rfl⟩ | ⟨es, sp, hd1, hlen⟩
    · omega
    · have := sized_slice hsz (j := 1) (t := 34) (e := 5) (elems := es) (spare := sp) rfl (by simpa using hd1) Try.underlying34
      rw [Try.bytesU8, hlen] at this
      simp only [reachBytes] at this
      omega
  have hmn : n ≤ 9223372036854775807 := by simp only [maxLen] at hm; omega
  refine (planCodes_any ⟨kind, ss, at_, orig, who, stamp⟩ A n c B0 nb cb b W hS hSb hcb (by omega) hmn).mono fun e W' ⟨he, hb⟩ => ?_
  subst he
  exact ⟨_, rfl, post_true Try.laidOut Try.underlying4 rfl rfl (by rw [Try.params4]; intro t ht; simp at ht; rcases ht with rfl | rfl <;> exact ⟨by kernel_rfl, of_decide_eq_true (by kernel_rfl)⟩) hW' rfl rfl rfl hb⟩

theorem planCodes_holds : Rows.PlanCodesSaid :=
  OpenClaim.holds_of_wide 4 Try.f4 rfl rfl rfl rfl rfl rfl rfl ⟨rfl, rfl, rfl, rfl, rfl⟩ rfl rfl rfl rfl rfl (by kernel_rfl) Try.func4 (by kernel_rfl)
    (of_decide_eq_true (by kernel_rfl)) (by unfold Func.isWrapper; first | (rw [if_pos (by decide +kernel)]; kernel_rfl) | (rw [if_neg (by decide +kernel)]; exact ⟨rfl, rfl⟩))
    (fun os started H enc _ => planCodes_lifted os started H enc)
#print axioms planCodes_holds
end Go.Proofs.Ytgcbolijdgecgaa
