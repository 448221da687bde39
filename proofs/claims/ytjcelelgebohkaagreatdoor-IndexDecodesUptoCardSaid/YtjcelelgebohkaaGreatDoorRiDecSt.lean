/-
  The document's Decode: what lies in memory while it reads. Plain lemmas.
-/
import Derived.Test.YtjcelelgebohkaaGreatDoorIdxRd
import Derived.Test.YtjcelelgebohkaaGreatDoorRiBeside
import Derived.Test.YtjcelelgebohkaaGreatDoorIdxTheirs
namespace Go.Proofs.YtjcelelgebohkaaGreatDoor
open Go.RowKit
open IdxLaw (Ent Key zE)

/-- bytes that no store of the walk can hit -/
def BSl (w : World) (W0 : Nat) (A : Option Addr) (m c : Nat) (rb : List UInt8) : Prop :=
  Sl w 1 A m (u8s rb) ∧ m ≤ c ∧ m ≤ 1500000 ∧ (0 < m → ∀ a, A = some a → a.block < W0 ∨ BlkT w a.block 5)
theorem BSl.step {w w' : World} {W0 m c : Nat} {A : Option Addr} {rb : List UInt8} (h : BSl w W0 A m c rb) (hb : Below w.heap.size w w') : BSl w' W0 A m c rb :=
  ⟨h.1.below hb, h.2.1, h.2.2.1, fun h0 a ha => (h.2.2.2 h0 a ha).imp (fun h => h) (fun h => h.step hb)⟩
theorem BSl.set_ {w : World} {W0 m c : Nat} {A : Option Addr} {rb : List UInt8} (h : BSl w W0 A m c rb) {p : Addr} {t : TypeId} {cs : Array Value} (hp : Blk w p.block t cs) (h2 : 5 ≠ t) (hlo : W0 ≤ p.block) (u : Value) : BSl (w.setCell p u) W0 A m c rb := by
  refine ⟨h.1.far (fun h0 a ha => ?_) u, h.2.1, h.2.2.1, fun h0 a ha => (h.2.2.2 h0 a ha).imp (fun h => h) (fun h => h.set_ _ _)⟩
  rcases h.2.2.2 h0 a ha with h | h
  · omega
  · exact h.ne_ hp h2
theorem BSl.grown {w0 w w' : World} {m c : Nat} {A : Option Addr} {rb : List UInt8} {e : TypeId} {sz n' c' : Nat} {A' : Option Addr} {xs : List Value} (h : BSl w w0.heap.size A m c rb) (ho : Ow w0 w e sz A' n' c' xs) (hg : w.grownBy w' (Value.slice A' n' c').ownBlock) (h2 : 5 ≠ e) : BSl w' w0.heap.size A m c rb := by
  have hrow : ∀ k, (Value.slice A' n' c').ownBlock = some k → w0.heap.size ≤ k := fun k hk => (ho.1.lt k hk).1
  have hnr : ∀ b off, 0 < m → A = some ⟨b, off, none⟩ → some b ≠ (Value.slice A' n' c').ownBlock := fun b off h0 ha => by
    rcases h.2.2.2 h0 _ ha with h | h
    · intro he; have := hrow _ he.symm; simp only at h; omega
    · exact BlkT.ne_own h ho h2
  refine ⟨⟨h.1.1, fun h0 => ?_⟩, h.2.1, h.2.2.1, fun h0 a ha => ?_⟩
  · obtain ⟨b, off, rfl, hb, hcell⟩ := h.1.2 h0
    exact ⟨b, off, rfl, Nat.lt_of_lt_of_le hb hg.size, fun k hk => (World.cell?_of_block (hg.block b hb (hnr b off h0 rfl))).trans (hcell k hk)⟩
  · rcases h.2.2.2 h0 a ha with h | h
    · exact .inl h
    · exact .inr (h.grown hg (BlkT.ne_own h ho h2))
/-- while an entry is read: the index at q, its entries' row, the bytes that are left, the entry's box at g -/
structure RS (W0 w : World) (q g : Nat) (Aq : Option Addr) (cq : Nat) (l : List Ent) (A : Option Addr) (m c : Nat) (rb : List UInt8) (y : Ent) : Prop where
  ix : Blk w q 29 #[.slice Aq l.length cq]
  own : Ow W0 w 32 5 Aq l.length cq (ents l)
  bytes : BSl w W0.heap.size A m c rb
  box : Blk w g 32 #[S y.path, I y.stage, S y.id, I y.size, I y.stamp]
  hq : W0.heap.size ≤ q
  hg : W0.heap.size ≤ g
  ne : q ≠ g
  no : some g ≠ (Value.slice Aq l.length cq).ownBlock
section
variable {W0 w w' : World} {q g : Nat} {Aq : Option Addr} {cq : Nat} {l : List Ent} {A A' : Option Addr} {m c m' c' : Nat} {rb rb' : List UInt8} {y : Ent}
theorem RS.step (h : RS W0 w q g Aq cq l A m c rb y) (hb : Below w.heap.size w w') : RS W0 w' q g Aq cq l A m c rb y :=
  ⟨h.ix.step hb, h.own.keep hb, h.bytes.step hb, h.box.step hb, h.hq, h.hg, h.ne, h.no⟩
theorem RS.rest (h : RS W0 w q g Aq cq l A m c rb y) (hb : BSl w W0.heap.size A' m' c' rb') : RS W0 w q g Aq cq l A' m' c' rb' y :=
  ⟨h.ix, h.own, hb, h.box, h.hq, h.hg, h.ne, h.no⟩
theorem RS.put (h : RS W0 w q g Aq cq l A m c rb y) (j : Nat) (u : Value) {y' : Ent} (hy : (#[S y.path, I y.stage, S y.id, I y.size, I y.stamp] : Array Value).setIfInBounds j u = #[S y'.path, I y'.stage, S y'.id, I y'.size, I y'.stamp]) : RS W0 (w.setCell ⟨g, j, none⟩ u) q g Aq cq l A m c rb y' := by
  refine ⟨h.ix.far (p := ⟨g, j, none⟩) h.ne u, h.own.far (p := ⟨g, j, none⟩) h.no h.hg u, h.bytes.set_ (p := ⟨g, j, none⟩) h.box (by decide) h.hg u, ?_, h.hq, h.hg, h.ne, h.no⟩
  have := h.box.set_ j u
  rwa [hy] at this
end
def endR (o : Option (List Ent × List UInt8)) : Option (List Ent) := match o with
  | some (l, []) => some l
  | _ => none
theorem decR_of {p b : List UInt8} {n : Nat} (ht : takeNum p = some (n, b)) : decR p = endR (goR n [] b) := by
  unfold decR
  rw [ht]
  show (match goR n [] b with | some (l, []) => some l | _ => none) = endR (goR n [] b)
  rcases goR n [] b with _ | ⟨l, _ | ⟨x, r⟩⟩ <;> rfl
theorem TJ.all {P : World → Prop} {W0 W1 W2 : World} (h0 : P W0) (h1 : P W1) (h2 : P W2) : ∀ (k : Nat) (w : World), TJ W0 W1 W2 k w → P w
  | 0, _, h => by cases h; exact h0
  | 1, _, h => by cases h; exact h1
  | (_ + 2), _, h => by cases h; exact h2
theorem takeE_1 {b : List UInt8} (h : takeText b 1000 = none) : takeE b = none := by simp [takeE, h]
theorem takeE_2 {b s r : List UInt8} (h : takeText b 1000 = some (s, r)) (h2 : takeNum r = none) : takeE b = none := by simp [takeE, h, h2]
theorem takeE_3 {b s r r2 : List UInt8} {n : Nat} (h : takeText b 1000 = some (s, r)) (h2 : takeNum r = some (n, r2)) (h3 : takeText r2 1000 = none) : takeE b = none := by simp [takeE, h, h2, h3]
theorem takeE_4 {b s r r2 s2 r3 : List UInt8} {n : Nat} (h : takeText b 1000 = some (s, r)) (h2 : takeNum r = some (n, r2)) (h3 : takeText r2 1000 = some (s2, r3)) (h4 : takeNum r3 = none) : takeE b = none := by simp [takeE, h, h2, h3, h4]
theorem takeE_5 {b s r r2 s2 r3 r4 : List UInt8} {n n4 : Nat} (h : takeText b 1000 = some (s, r)) (h2 : takeNum r = some (n, r2)) (h3 : takeText r2 1000 = some (s2, r3)) (h4 : takeNum r3 = some (n4, r4)) (h5 : takeNum r4 = none) : takeE b = none := by simp [takeE, h, h2, h3, h4, h5]
theorem takeE_6 {b s r r2 s2 r3 r4 r5 : List UInt8} {n n4 n5 : Nat} (h : takeText b 1000 = some (s, r)) (h2 : takeNum r = some (n, r2)) (h3 : takeText r2 1000 = some (s2, r3)) (h4 : takeNum r3 = some (n4, r4)) (h5 : takeNum r4 = some (n5, r5)) : takeE b = some (⟨s, (n : Int), s2, (n4 : Int), (n5 : Int)⟩, r5) := by simp [takeE, h, h2, h3, h4, h5]
theorem goR_no {n : Nat} {l : List Ent} {b : List UInt8} (h : takeE b = none) : goR (n + 1) l b = none := by rw [goR, h]
theorem goR_bad {n : Nat} {l : List Ent} {b b' : List UInt8} {e : Ent} (h : takeE b = some (e, b')) (hc : ¬ (IdxLaw.right e = true ∧ l.all (fun a => bes2 a e) = true)) : goR (n + 1) l b = none := by
  rw [goR, h]
  simp only
  rw [if_neg hc]
theorem goR_yes {n : Nat} {l : List Ent} {b b' : List UInt8} {e : Ent} (h : takeE b = some (e, b')) (hc : IdxLaw.right e = true ∧ l.all (fun a => bes2 a e) = true) : goR (n + 1) l b = goR n (l ++ [e]) b' := by
  rw [goR, h]
  simp only
  rw [if_pos hc]
end Go.Proofs.YtjcelelgebohkaaGreatDoor
