/-
  Plain law of layer 17, seventh part: a wall between two parts: what line.Diff is left with is small; lines of what is put together. No program in sight.
-/
import Derived.Test.YtpnogcblafmaiaaDoorBlendLaw4
namespace Go.Proofs.YtpnogcblafmaiaaDoor
namespace BlendLaw
open LineLaw (Hk Ok diff pre suf)

theorem pre_app (P A B : Ls) : pre (P ++ A) (P ++ B) = P.length + pre A B := by
  induction P with
  | nil => simp
  | cons a t ih => simp only [List.cons_append, pre, if_pos, ih, List.length_cons]; omega
theorem suf_app (A B T : Ls) : T.length ≤ suf (A ++ T) (B ++ T) := by
  unfold suf
  rw [List.reverse_append, List.reverse_append, pre_app, List.length_reverse]
  omega
/-- what is left when what is alike at both ends is taken away -/
def strip (a b : Ls) : Nat := (a.length - suf (a.drop (pre a b)) (b.drop (pre a b)) - pre a b) * (b.length - suf (a.drop (pre a b)) (b.drop (pre a b)) - pre a b)
theorem strip_front {P A B : Ls} (hA : A.length ≤ 1000) (hB : B.length ≤ 1000) : strip (P ++ A) (P ++ B) ≤ 1048576 := by
  unfold strip
  rw [pre_app]
  refine Nat.le_trans (Nat.mul_le_mul (show _ ≤ 1000 from ?_) (show _ ≤ 1000 from ?_)) (by omega)
  · rw [List.length_append]; omega
  · rw [List.length_append]; omega
theorem strip_back {X Y T : Ls} (hX : X.length ≤ 1000) (hY : Y.length ≤ 1000) (h0 : pre (X ++ T) (Y ++ T) ≤ X.length) (h1 : pre (X ++ T) (Y ++ T) ≤ Y.length) : strip (X ++ T) (Y ++ T) ≤ 1048576 := by
  unfold strip
  generalize pre (X ++ T) (Y ++ T) = p at *
  rw [List.drop_append_of_le_length h0, List.drop_append_of_le_length h1]
  have h2 := suf_app (X.drop p) (Y.drop p) T
  refine Nat.le_trans (Nat.mul_le_mul (show _ ≤ 1000 from ?_) (show _ ≤ 1000 from ?_)) (by omega)
  · rw [List.length_append]; omega
  · rw [List.length_append]; omega
theorem at_wall {X : Ls} {W : Bs} {U : Ls} : (X ++ W :: U)[X.length]? = some W := by simp
theorem pre_at {a b : Ls} {i : Nat} (h : i < pre a b) : a[i]? = b[i]? := by
  have e := congrArg (fun l : Ls => l[i]?) (LineLaw.pre_take a b)
  simp only [List.getElem?_take, if_pos h] at e
  exact e
/-- a wall stands between what turned and the rest -/
theorem strip_wall {X Y U : Ls} {W : Bs} (hX : X.length ≤ 1000) (hY : Y.length ≤ 1000) (wX : W ∉ X) (wY : W ∉ Y) : strip (X ++ W :: U) (Y ++ W :: U) ≤ 1048576 := by
  by_cases h0 : pre (X ++ W :: U) (Y ++ W :: U) ≤ X.length
  · by_cases h1 : pre (X ++ W :: U) (Y ++ W :: U) ≤ Y.length
    · exact strip_back hX hY h0 h1
    · exfalso
      have e := pre_at (a := X ++ W :: U) (b := Y ++ W :: U) (i := Y.length) (by omega)
      rw [at_wall, List.getElem?_append_left (by omega)] at e
      exact wX (List.mem_of_getElem? e)
  · have e := pre_at (a := X ++ W :: U) (b := Y ++ W :: U) (i := X.length) (by omega)
    rw [at_wall] at e
    have hle : Y.length ≤ X.length := by
      rcases Nat.lt_or_ge X.length Y.length with hlt | hge
      · rw [List.getElem?_append_left hlt] at e
        exact absurd (List.mem_of_getElem? e.symm) wY
      · exact hge
    have hge : X.length ≤ Y.length := by
      rcases Nat.lt_or_ge Y.length X.length with hlt | hge
      · have e2 := pre_at (a := X ++ W :: U) (b := Y ++ W :: U) (i := Y.length) (by omega)
        rw [at_wall, List.getElem?_append_left hlt] at e2
        exact absurd (List.mem_of_getElem? e2) wX
      · exact hge
    have hXY : X = Y := by
      have h2 := congrArg (List.take X.length) (LineLaw.pre_take (X ++ W :: U) (Y ++ W :: U))
      rw [List.take_take, List.take_take, Nat.min_eq_left (by omega), List.take_left, show X.length = Y.length by omega, List.take_left] at h2
      exact h2
    subst hXY
    have h3 : pre (X ++ W :: U) (X ++ W :: U) = (X ++ W :: U).length := by
      have := LineLaw.pre_append (X ++ W :: U) []
      rwa [List.append_nil] at this
    unfold strip
    rw [h3]
    simp
/-- lines that all end by a line feed, put together -/
theorem lns_closed {L : Ls} (h : ∀ s ∈ L, Cl s) : LinesLaw.lns L.flatten = L := by
  have := WL.lined (WL.app h (show WL [] from trivial))
  simpa using this
theorem flat_wall (X U : Ls) (W : Bs) : (X ++ W :: U).flatten = X.flatten ++ W ++ U.flatten := by simp
theorem closed_flat_len (b : Bs) : (closed (LinesLaw.lns b)).flatten.length ≤ b.length + 1 := by
  have h := LinesLaw.lns_flat b
  unfold closed
  split
  · simp
  · rename_i s hs
    split
    · rw [h]; omega
    · obtain ⟨p, hp⟩ := List.getLast?_eq_some_iff.1 hs
      rw [hp] at h ⊢
      rw [← h]
      simp
      omega
theorem all_of {l : List Hk} {p : Hk → Bool} (h : l.all p = true) : ∀ a ∈ l, p a = true := fun a ha => List.all_eq_true.1 h a ha
end BlendLaw
end Go.Proofs.YtpnogcblafmaiaaDoor
