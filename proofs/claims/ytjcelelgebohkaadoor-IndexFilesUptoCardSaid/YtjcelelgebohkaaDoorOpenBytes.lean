/-
  A slice of bytes that came in as an argument, opened: its bytes as a list, and its datum. No condition.
-/
import Derived.Test.YtjcelelgebohkaaDoorAppend
import Derived.ProofKit
import Derived.OpenShut
namespace Go.Proofs.YtjcelelgebohkaaDoor
open Go.ChangeShapes Go.WideShapes Go.RowKit

section
variable {H : Type} {enc : TypeId × Value → H} {P : Program} {w : World} {base : Nat} {held : Bool}
theorem addr_plain {a : Addr} {u : Value} (h : w.cell? a = some u) : a.spot = none := by
  obtain ⟨b, off, sp⟩ := a
  cases sp with
  | none => rfl
  | some k => simp only [World.cell?] at h; split at h <;> simp at h
theorem bytes_sl {fuel : Nat} {t e : TypeId} {v : Value} {x : DataW H × List MemPlace} (ht : P.underlying t = some (.slice e)) (he : P.underlying e = some (.int .u8)) (hc : P.cellsOf e = 1)
    (h : DataW.trod enc P w base (fun _ => true) held fuel t [v] = some x) : ∃ (A : Option Addr) (n c : Nat) (l : List UInt8), v = .slice A n c ∧ n ≤ c ∧ c ≤ maxLen ∧ Sl w 1 A n (u8s l) ∧ (x.1 = .nil ∧ c = 0 ∨ ∃ es sp, x.1 = .slice es sp ∧ es.length + sp.length = c) := by
  rcases open_ints ht he hc h with ⟨hcs, hx⟩ | ⟨a, len, cap, zs, hcs, _, hl, hm, hlen, hx, hcell, hwf⟩
  · obtain rfl : v = .slice none 0 0 := by simpa using hcs
    exact ⟨none, 0, 0, [], rfl, Nat.le_refl _, Nat.zero_le _, Sl.nil_, .inl ⟨by rw [hx], rfl⟩⟩
  · obtain rfl : v = .slice (some a) len cap := by simpa using hcs
    rw [if_pos rfl] at hlen
    refine ⟨some a, len, cap, (zs.take len).map (fun z => UInt8.ofNat z.toNat), rfl, hl, hm, ⟨?_, fun hn => ?_⟩, .inr ⟨_, _, by rw [hx], ?_⟩⟩
    · simp; omega
    · have h0 := hcell 0 (by omega)
      rw [show a.add 0 = a from by simp [Addr.add]] at h0
      have hsp := addr_plain h0
      obtain ⟨b, off, sp⟩ := a
      subst hsp
      refine ⟨b, off, rfl, ?_, fun k hk => ?_⟩
      · rcases Nat.lt_or_ge b w.heap.size with hlt | hge
        · exact hlt
        · simp [World.cell?, Array.getElem?_eq_none hge] at h0
      · have hk' : k < len := by omega
        have hkz : k < zs.length := by omega
        have h1 := hcell k hkz
        have e1 : (⟨b, off, none⟩ : Addr).add k = ⟨b, off + k, none⟩ := by unfold Addr.add; split <;> simp_all
        rw [e1] at h1
        rw [h1]
        have hz : 0 ≤ zs[k] ∧ zs[k] ≤ 255 := by
          have := hwf zs[k] (List.getElem_mem hkz)
          simpa [Lit.wf, IntKind.min, IntKind.max, IntKind.signed, IntKind.bits] using this
        have e2 : ((UInt8.ofNat zs[k].toNat).toNat : Int) = zs[k] := by simp; omega
        simp only [u8s, List.map_map, List.getElem?_map, List.getElem?_take_of_lt hk', List.getElem?_eq_getElem hkz, Option.map_some, Function.comp, U8, e2]
        simp [hkz]
    · simp [lits]; omega
end
end Go.Proofs.YtjcelelgebohkaaDoor
