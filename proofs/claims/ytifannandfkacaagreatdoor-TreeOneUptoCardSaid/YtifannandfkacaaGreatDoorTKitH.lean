/-
  Texts merged: RdMem, RdNew. What each law says and asks stands at its head.
-/
import Derived.Test.YtifannandfkacaaGreatDoorTKitD
import Derived.BigQuiet
import Derived.IntWalk
import Derived.Sort.Walk0
namespace Go.Proofs.YtifannandfkacaaGreatDoor
open Go.RowKit
def rdC (x : DF) : List Value := [S x.1, x.2.1.v]
def rds (l : List DF) : List Value := l.flatMap rdC
theorem rdC_len (l : List DF) : ∀ x ∈ l, (rdC x).length = 2 := fun _ _ => rfl
theorem rds_len (l : List DF) : (rds l).length = l.length * 2 := flat_len (rdC_len l)
theorem rds_at {l : List DF} {k j : Nat} {c : DF} (h : l[k]? = some c) (hj : j < 2) : (rds l)[k * 2 + j]? = (rdC c)[j]? := flat_at (rdC_len l) h hj
theorem rds_count {w : World} {A : Option Addr} {m : Nat} {l : List DF} (h : Sl w 2 A m (rds l)) : l.length = m := by have := h.1; rw [rds_len] at this; omega
theorem Sl.rd {w : World} {A : Option Addr} {m k : Nat} {l : List DF} (h : Sl w 2 A m (rds l)) (hk : k < m) : ∃ b off x, A = some ⟨b, off, none⟩ ∧ b < w.heap.size ∧ l[k]? = some x ∧
  w.cell? ⟨b, off + k * 2, none⟩ = some (S x.1) ∧
  w.cell? ⟨b, off + k * 2 + 1, none⟩ = some (x.2.1.v) := by
 obtain ⟨b, off, rfl, hb, hc⟩ := h.2 (by omega)
 have hl := rds_count h
 obtain ⟨x, hx⟩ : ∃ x, l[k]? = some x := ⟨l[k]'(by omega), List.getElem?_eq_getElem _⟩
 refine ⟨b, off, x, rfl, hb, hx, ?_, ?_⟩
 ·have := (hc (k * 2 + 0) (by omega)).trans (rds_at hx (by omega : 0 < 2)); simpa [rdC] using this
 ·have := (hc (k * 2 + 1) (by omega)).trans (rds_at hx (by omega : 1 < 2)); simpa [rdC, Nat.add_assoc] using this
def RdAt (w : World) (r : Nat) (cap : Int) (l : List DF) : Prop :=
 ∃ (A : Option Addr) (n c : Nat) (done : Int), Blk w r 126 #[I cap, .slice A n c, I done, I (-1), .bool false] ∧ n ≤ c ∧ SlT (fun _ => True) 129 w 2 A n (rds l) ∧ ∀ x ∈ l, SlT (fun _ => True) 5 w 1 x.2.1.a x.2.1.n (u8s x.2.2)
theorem RdAt.step {w w' : World} {r : Nat} {cap : Int} {l : List DF} (h : RdAt w r cap l) (hb : Below w.heap.size w w') : RdAt w' r cap l := by
 obtain ⟨A, n, c, done, h1, hc, h2, h3⟩ := h
 exact ⟨A, n, c, done, h1.step hb, hc, h2.step hb, fun x hx => (h3 x hx).step hb⟩
theorem Tryz.infoRDisk : (Tryz.prog.info? 126).map (fun i => (i.zero, i.size, i.bytes)) = some (some (.agg #[.int .i64 0, .slice none 0 0, .int .i64 0, .int .i64 0, .bool false]), 5, 56) := by kernel_rfl
set_option maxRecDepth 100000 in
theorem rdnew_ok (z : Int) (w : World) (h0 : 0 ≤ z) (h1 : z ≤ 1099511627776) :
  Calls Tryz.prog 37 #[I z] w fun e w' => ∃ r, e = .returned (.tuple #[.pointer (some ⟨r, 0, none⟩), I 0]) ∧ w.heap.size ≤ r ∧ RdAt w' r z [] ∧ Below w.heap.size w w' := by
 have d1 : decide (z < 0) = false := by simp; omega
 have d2 : decide (1099511627776 < z) = false := by simp; omega
 obtain ⟨i0, hi0, hz0, hz1, hz2⟩ := info_parts Tryz.infoRDisk
 go_enter Tryz.func37, Tryz.ntmps37
 go_wp2
 go_ret2
 exact ⟨w.heap.size, rfl, Nat.le_refl _, ⟨none, 0, 0, 0, Blk.new w _ _, Nat.le_refl _, SlT.nil_, by simp⟩, balloc (Below.refl _ w) _⟩
end Go.Proofs.YtifannandfkacaaGreatDoor
