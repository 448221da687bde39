/-
  A byte that came in. Plain lemma.
-/
import Derived.Test.YtifannandfkacaaGreatDoorTKitW
import Derived.WideShapes
namespace Go.Proofs.YtifannandfkacaaGreatDoor
open Go.RowKit Go.WideShapes
theorem okWide_u8 {P : Program} {w : World} {r : Reach} {base : Nat} {t : TypeId} {v : Value} (ht : P.underlying t = some (.int .u8)) (h : Value.okWide P w r base t v) : ∃ b : UInt8, v = U8 b := by
 obtain ⟨n, rfl⟩ := okWide_int ht h
 simp only [Value.okWide, ht, Cell.okWide] at h
 have h1 : IntKind.u8.has n := by simp_all [Cell.ok]
 have h2 : 0 ≤ n ∧ n ≤ 255 := h1
 refine ⟨n.toNat.toUInt8, ?_⟩
 have h3 : (n.toNat.toUInt8).toNat = n.toNat := by
  simp
  omega
 show Value.int .u8 n = Value.int .u8 ((n.toNat.toUInt8).toNat : Int)
 rw [h3]
 congr 1
 omega
end Go.Proofs.YtifannandfkacaaGreatDoor
