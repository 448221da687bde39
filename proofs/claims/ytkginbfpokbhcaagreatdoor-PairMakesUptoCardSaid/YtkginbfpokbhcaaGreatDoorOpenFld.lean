/-
  Arguments opened: one field of a struct; what a part weighs. Plain lemmas.
-/
import Derived.Test.YtkginbfpokbhcaaGreatDoorKitW
namespace Go.Proofs.YtkginbfpokbhcaaGreatDoor
open Go.ChangeShapes Go.WideShapes Go.RowKit Go.Deep

section
variable {H : Type} {enc : TypeId × Value → H} {P : Program} {w : World} {base : Nat} {spare : Nat → Bool} {held : Bool}
theorem each_mem {m : Nat} : ∀ {ts : List TypeId} {ds : List (DataW H)} {i : Nat} {t : TypeId} {d : DataW H}, ts[i]? = some t → ds[i]? = some d → m ∈ d.weights P t → m ∈ DataW.weightsEach P ts ds
  | [], _, _, _, _, h, _, _ => by simp at h
  | _ :: _, [], _, _, _, _, h, _ => by simp at h
  | t0 :: ts, d0 :: ds, 0, t, d, h, k, hm => by
    simp at h k
    subst h k
    rw [DataW.weightsEach]
    exact List.mem_append_left _ hm
  | t0 :: ts, d0 :: ds, i + 1, t, d, h, k, hm => by
    rw [DataW.weightsEach]
    exact List.mem_append_right _ (each_mem (i := i) (by simpa using h) (by simpa using k) hm)
/-- one field of a struct -/
theorem fld {fs : Array Field} {t : TypeId} {fuel k : Nat} {cs : List Value} {x : DataW H × List MemPlace} (ht : P.underlying t = some (.struct fs)) (h : DataW.trod enc P w base spare held fuel t cs = some x) (i : Nat) {f : Field} (hf : fs[i]? = some f) (hk : P.cellsOf f.type = k) :
    ∃ n y, DataW.trod enc P w base spare held n f.type ((cs.drop f.offset).take k) = some y ∧ cs.length = P.cellsOf t ∧ ∀ m ∈ y.1.weights P f.type, m ∈ x.1.weights P t := by
  obtain ⟨xs, n, _, rfl, hl, hlen, hg⟩ := DataW.trod_struct ht h
  have hi : i < xs.length := by rw [hlen]; exact (Array.getElem?_eq_some_iff.1 hf).1
  have h1 := hg i f hf
  rw [hk, List.getElem?_eq_getElem hi] at h1
  refine ⟨n, xs[i], h1, hl, fun m hm => ?_⟩
  simp only [DataW.weights, ht]
  exact each_mem (i := i) (t := f.type) (d := xs[i].1) (by simp [hf]) (by simp [List.getElem?_eq_getElem hi]) hm
end

theorem Tryz.cellsBool : Tryz.prog.cellsOf 4 = 1 := by kernel_rfl
end Go.Proofs.YtkginbfpokbhcaaGreatDoor
