/-
  Words for a world of dolmenlaw20: its cells, and what can be read of it. Plain lemmas.
-/
import Derived.Test.YtcednfmkiaelnaaGreatDoorTKitX
namespace Go.Proofs.YtcednfmkiaelnaaGreatDoor
open Go.RowKit
def RwB.ok (w : World) (r : RwB) : Prop := Sl w 1 r.A r.n (u8s r.l) ∧ r.n ≤ 1048576
theorem RwB.ok.below {w w' : World} {r : RwB} (h : r.ok w) (hb : Below w.heap.size w w') : r.ok w' := ⟨h.1.below hb, h.2⟩
def rfC (x : List UInt8 × RwB) : List Value := [S x.1, x.2.v]
def rfs (l : List (List UInt8 × RwB)) : List Value := l.flatMap rfC
theorem rfC_len (l : List (List UInt8 × RwB)) : ∀ x ∈ l, (rfC x).length = 2 := fun _ _ => rfl
theorem rfs_len (l : List (List UInt8 × RwB)) : (rfs l).length = l.length * 2 := flat_len (rfC_len l)
theorem rfs_at {l : List (List UInt8 × RwB)} {k j : Nat} {c : List UInt8 × RwB} (h : l[k]? = some c) (hj : j < 2) : (rfs l)[k * 2 + j]? = (rfC c)[j]? := flat_at (rfC_len l) h hj
theorem rfs_count {w : World} {A : Option Addr} {m : Nat} {l : List (List UInt8 × RwB)} (h : Sl w 2 A m (rfs l)) : l.length = m := by have := h.1; rw [rfs_len] at this; omega
theorem Sl.rf {w : World} {A : Option Addr} {m k : Nat} {l : List (List UInt8 × RwB)} (h : Sl w 2 A m (rfs l)) (hk : k < m) : ∃ b off x, A = some ⟨b, off, none⟩ ∧ b < w.heap.size ∧ l[k]? = some x ∧
  w.cell? ⟨b, off + k * 2, none⟩ = some (S x.1) ∧
  w.cell? ⟨b, off + k * 2 + 1, none⟩ = some (.slice x.2.A x.2.n x.2.c) := by
 obtain ⟨b, off, rfl, hb, hc⟩ := h.2 (by omega)
 have hl := rfs_count h
 obtain ⟨x, hx⟩ : ∃ x, l[k]? = some x := ⟨l[k]'(by omega), List.getElem?_eq_getElem _⟩
 refine ⟨b, off, x, rfl, hb, hx, ?_, ?_⟩
 ·have := (hc (k * 2 + 0) (by omega)).trans (rfs_at hx (by omega : 0 < 2)); simpa [rfC] using this
 ·have := (hc (k * 2 + 1) (by omega)).trans (rfs_at hx (by omega : 1 < 2)); simpa [rfC, Nat.add_assoc] using this
structure Pt where
 path : List UInt8
 r1 : RwB
 r2 : RwB
 stamp : Int
 staged : Bool
 i : Int
def ptC (p : Pt) : List Value := [S p.path, p.r1.v, p.r2.v, I p.stamp, .bool p.staged, I p.i]
def pts (l : List Pt) : List Value := l.flatMap ptC
theorem ptC_len (l : List Pt) : ∀ x ∈ l, (ptC x).length = 6 := fun _ _ => rfl
theorem pts_len (l : List Pt) : (pts l).length = l.length * 6 := flat_len (ptC_len l)
theorem pts_at {l : List Pt} {k j : Nat} {c : Pt} (h : l[k]? = some c) (hj : j < 6) : (pts l)[k * 6 + j]? = (ptC c)[j]? := flat_at (ptC_len l) h hj
theorem pts_count {w : World} {A : Option Addr} {m : Nat} {l : List Pt} (h : Sl w 6 A m (pts l)) : l.length = m := by have := h.1; rw [pts_len] at this; omega
theorem Sl.pt {w : World} {A : Option Addr} {m k : Nat} {l : List Pt} (h : Sl w 6 A m (pts l)) (hk : k < m) : ∃ b off x, A = some ⟨b, off, none⟩ ∧ b < w.heap.size ∧ l[k]? = some x ∧
  w.cell? ⟨b, off + k * 6, none⟩ = some (S x.path) ∧
  w.cell? ⟨b, off + k * 6 + 1, none⟩ = some (.slice x.r1.A x.r1.n x.r1.c) ∧
  w.cell? ⟨b, off + k * 6 + 2, none⟩ = some (.slice x.r2.A x.r2.n x.r2.c) ∧
  w.cell? ⟨b, off + k * 6 + 3, none⟩ = some (I x.stamp) ∧
  w.cell? ⟨b, off + k * 6 + 4, none⟩ = some (.bool x.staged) ∧
  w.cell? ⟨b, off + k * 6 + 5, none⟩ = some (I x.i) := by
 obtain ⟨b, off, rfl, hb, hc⟩ := h.2 (by omega)
 have hl := pts_count h
 obtain ⟨x, hx⟩ : ∃ x, l[k]? = some x := ⟨l[k]'(by omega), List.getElem?_eq_getElem _⟩
 refine ⟨b, off, x, rfl, hb, hx, ?_, ?_, ?_, ?_, ?_, ?_⟩
 ·have := (hc (k * 6 + 0) (by omega)).trans (pts_at hx (by omega : 0 < 6)); simpa [ptC] using this
 ·have := (hc (k * 6 + 1) (by omega)).trans (pts_at hx (by omega : 1 < 6)); simpa [ptC, Nat.add_assoc] using this
 ·have := (hc (k * 6 + 2) (by omega)).trans (pts_at hx (by omega : 2 < 6)); simpa [ptC, Nat.add_assoc] using this
 ·have := (hc (k * 6 + 3) (by omega)).trans (pts_at hx (by omega : 3 < 6)); simpa [ptC, Nat.add_assoc] using this
 ·have := (hc (k * 6 + 4) (by omega)).trans (pts_at hx (by omega : 4 < 6)); simpa [ptC, Nat.add_assoc] using this
 ·have := (hc (k * 6 + 5) (by omega)).trans (pts_at hx (by omega : 5 < 6)); simpa [ptC, Nat.add_assoc] using this
structure Wd where
 room : Int
 A : Option Addr
 n : Nat
 c : Nat
 raw : List (List UInt8 × RwB)
 B : Option Addr
 m : Nat
 d : Nat
 puts : List Pt
 C : Option Addr
 j : Nat
 e : Nat
 cur : List Fil
 D : Option Addr
 k : Nat
 f : Nat
 tgt : List Fil
def Wd.cells (x : Wd) : List Value := [I x.room, .slice x.A x.n x.c, .slice x.B x.m x.d, .slice x.C x.j x.e, .slice x.D x.k x.f]
structure Wd.ok (w : World) (x : Wd) : Prop where
 raw : Sl w 2 x.A x.n (rfs x.raw)
 rawc : x.n ≤ x.c
 rawn : x.n ≤ 1048576
 rawg : ∀ f ∈ x.raw, f.1.length ≤ 1048576 ∧ f.2.ok w
 puts : Sl w 6 x.B x.m (pts x.puts)
 putn : x.m ≤ 1048576
 putg : ∀ p ∈ x.puts, p.path.length ≤ 1048576 ∧ p.r1.ok w ∧ p.r2.ok w
 cur : Sl w 2 x.C x.j (fls x.cur)
 curn : x.j ≤ 400000
 curg : ∀ f ∈ x.cur, f.1.length ≤ 1048576
 tgt : Sl w 2 x.D x.k (fls x.tgt)
 tgtn : x.k ≤ 400000
 tgtg : ∀ f ∈ x.tgt, f.1.length ≤ 1048576
theorem Wd.ok.below {w w' : World} {x : Wd} (h : x.ok w) (hb : Below w.heap.size w w') : x.ok w' :=
 ⟨h.raw.below hb, h.rawc, h.rawn, fun f hf => ⟨(h.rawg f hf).1, (h.rawg f hf).2.below hb⟩, h.puts.below hb, h.putn, fun p hp => ⟨(h.putg p hp).1, (h.putg p hp).2.1.below hb, (h.putg p hp).2.2.below hb⟩, h.cur.below hb, h.curn, h.curg, h.tgt.below hb, h.tgtn, h.tgtg⟩
end Go.Proofs.YtcednfmkiaelnaaGreatDoor
