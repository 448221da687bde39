/-
  Plain law of layer 17: how much a merge makes. No program in sight.
-/
import Derived.Test.YtpnogcblafmaiaaDoorBlendLaw4
namespace Go.Proofs.YtpnogcblafmaiaaDoor
namespace BlendLaw
open LineLaw (Hk Ok diff)
theorem go_len {x l0 l1 : Ls} {H0 H1 : List Hk} : ∀ (n at_ : Nat) (h0 h1 : List Hk), (go x l0 l1 H0 H1 n at_ h0 h1).1.length ≤ x.length + n * (x.length + l0.length + l1.length + 3)
  | 0, at_, h0, h1 => by simp [go]
  | n + 1, at_, h0, h1 => by
    cases hf : firstHk h0 h1 with
    | none =>
      obtain ⟨rfl, rfl⟩ := first_none hf
      rw [go_none]
      simp; omega
    | some h =>
      rw [go_some hf]
      have ih := go_len (x := x) (l0 := l0) (l1 := l1) (H0 := H0) (H1 := H1) n (grow h.a1 h0 h1).1 (grow h.a1 h0 h1).2.1 (grow h.a1 h0 h1).2.2
      have h2 := taken_len (decide ((grow h.a1 h0 h1).2.1.length < h0.length)) (decide ((grow h.a1 h0 h1).2.2.length < h1.length)) (partOf l0 (pos H0 h0 h.a0) (pos H0 (grow h.a1 h0 h1).2.1 (grow h.a1 h0 h1).1)) (partOf l1 (pos H1 h1 h.a0) (pos H1 (grow h.a1 h0 h1).2.2 (grow h.a1 h0 h1).1))
      have h3 := part_len l0 (pos H0 h0 h.a0) (pos H0 (grow h.a1 h0 h1).2.1 (grow h.a1 h0 h1).1)
      have h4 := part_len l1 (pos H1 h1 h.a0) (pos H1 (grow h.a1 h0 h1).2.2 (grow h.a1 h0 h1).1)
      have h5 : ((x.drop at_).take (h.a0 - at_)).length ≤ x.length := by simp; omega
      rw [Nat.add_mul]
      simp only [List.length_append]
      omega
theorem go_mem {x l0 l1 : Ls} {H0 H1 : List Hk} {M : Nat} (hM : 8 ≤ M) (hx : ∀ s ∈ x, s.length ≤ M) (h0' : ∀ s ∈ l0, s.length ≤ M) (h1' : ∀ s ∈ l1, s.length ≤ M) : ∀ (n at_ : Nat) (h0 h1 : List Hk), ∀ s ∈ (go x l0 l1 H0 H1 n at_ h0 h1).1, s.length ≤ M + 1
  | 0, at_, h0, h1, s, hs => by
    have := hx s (List.mem_of_mem_drop hs); omega
  | n + 1, at_, h0, h1, s, hs => by
    cases hf : firstHk h0 h1 with
    | none =>
      obtain ⟨rfl, rfl⟩ := first_none hf
      rw [go_none] at hs
      have := hx s (List.mem_of_mem_drop hs); omega
    | some h =>
      rw [go_some hf] at hs
      rcases List.mem_append.1 hs with hs | hs
      · have := hx s (List.mem_of_mem_drop (List.mem_of_mem_take hs)); omega
      · rcases List.mem_append.1 hs with hs | hs
        · exact taken_mem hM (fun t ht => h0' t (part_mem ht)) (fun t ht => h1' t (part_mem ht)) hs
        · exact go_mem hM hx h0' h1' n _ _ _ s hs
/-- a merge of few bytes makes few -/
theorem merge_len {b o t : Bs} (hb : b.length ≤ 600) (ho : o.length ≤ 600) (ht : t.length ≤ 600) : (merge b o t).1.length ≤ 4294967296 := by
  have lb := LinesLaw.lns_len b
  have lo := LinesLaw.lns_len o
  have lt := LinesLaw.lns_len t
  have d0 := diff_few (LinesLaw.lns b) (LinesLaw.lns o)
  have d1 := diff_few (LinesLaw.lns b) (LinesLaw.lns t)
  have h1 := flat_len (l := (mergeL (LinesLaw.lns b) (LinesLaw.lns o) (LinesLaw.lns t)).1) (M := 601) (fun s hs => go_mem (M := 600) (by omega) (fun s hs => by have := line_len hs; omega) (fun s hs => by have := line_len hs; omega) (fun s hs => by have := line_len hs; omega) _ _ _ _ s hs)
  have h2 := go_len (x := LinesLaw.lns b) (l0 := LinesLaw.lns o) (l1 := LinesLaw.lns t) (H0 := diff (LinesLaw.lns b) (LinesLaw.lns o)) (H1 := diff (LinesLaw.lns b) (LinesLaw.lns t)) ((diff (LinesLaw.lns b) (LinesLaw.lns o)).length + (diff (LinesLaw.lns b) (LinesLaw.lns t)).length) 0 (diff (LinesLaw.lns b) (LinesLaw.lns o)) (diff (LinesLaw.lns b) (LinesLaw.lns t))
  have h3 := Nat.mul_le_mul (show (diff (LinesLaw.lns b) (LinesLaw.lns o)).length + (diff (LinesLaw.lns b) (LinesLaw.lns t)).length ≤ 2400 by omega) (show (LinesLaw.lns b).length + (LinesLaw.lns o).length + (LinesLaw.lns t).length + 3 ≤ 1803 by omega)
  have h4 : (mergeL (LinesLaw.lns b) (LinesLaw.lns o) (LinesLaw.lns t)).1.length ≤ 4327800 := by unfold mergeL; omega
  have h5 := Nat.mul_le_mul_right 601 h4
  show (mergeL (LinesLaw.lns b) (LinesLaw.lns o) (LinesLaw.lns t)).1.flatten.length ≤ 4294967296
  omega
end BlendLaw
end Go.Proofs.YtpnogcblafmaiaaDoor
