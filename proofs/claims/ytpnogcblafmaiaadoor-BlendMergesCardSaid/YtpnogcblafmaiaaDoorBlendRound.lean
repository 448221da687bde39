/-
  What a round of a merge keeps: the state over new memory, over stores into a region, over an append onto what is made. Plain lemmas.
-/
import Derived.Test.YtpnogcblafmaiaaDoorBlendStep
namespace Go.Proofs.YtpnogcblafmaiaaDoor
open Go.RowKit
open LineLaw (Hk)
open BlendLaw (grow firstHk)

theorem LR.step {K : MK} (hk : MKok K) {k : Nat} {wr wr' : World} {cells : Array Value} {more : Bool} {at_ : Nat} {Ao : Option Addr} {no co : Nat} {out : List (List UInt8)} {cf : Bool} (h : LR K k wr cells more at_ Ao no co out cf) (hb : Below wr.heap.size wr wr') : LR K k wr' cells more at_ Ao no co out cf := by
  rcases h with ⟨h1, h0, h1', h', a, b, c, d, e, f⟩ | ⟨a, b, c, d⟩
  · exact .inl ⟨h1, h0, h1', h', a, b, c, d.fr hk hb, e, f⟩
  · exact .inr ⟨a, b, c.fr hk hb, d⟩
/-- a store elsewhere -/
theorem ST.far {K : MK} {wr : World} {Ao : Option Addr} {no co : Nat} {out : List (List UInt8)} {cf : Bool} {r0 r1 : List Hk} (hk : MKok K) (h : ST K wr Ao no co out cf r0 r1) {g : Nat} {cs : Array Value} (hg : Blk wr g 71 cs) (hB : K.B ≤ g) (i : Nat) (u : Value) : ST K (wr.setCell ⟨g, i, none⟩ u) Ao no co out cf r0 r1 := by
  have f : Fr (fun k => k = K.gm ∨ K.B ≤ k) wr (wr.setCell ⟨g, i, none⟩ u) := (Fr.refl _ wr).setCell (p := ⟨g, i, none⟩) (Or.inr hB) u
  have hW := hk.W
  refine ⟨h.m.far (p := ⟨g, i, none⟩) (Blk.apart h.m hg (by decide)) u, own_far h.own (p := ⟨g, i, none⟩) (own_blk h.own hg (by decide)) u, h.mc.fr f, h.below.setCell (by show K.W0.heap.size ≤ g; omega) u⟩
theorem LR.far {K : MK} (hk : MKok K) {k : Nat} {wr : World} {cells : Array Value} {more : Bool} {at_ : Nat} {Ao : Option Addr} {no co : Nat} {out : List (List UInt8)} {cf : Bool} (h : LR K k wr cells more at_ Ao no co out cf) {g : Nat} {cs : Array Value} (hg : Blk wr g 71 cs) (hB : K.B ≤ g) (i : Nat) (u : Value) : LR K k (wr.setCell ⟨g, i, none⟩ u) cells more at_ Ao no co out cf := by
  rcases h with ⟨h1, h0, h1', h', a, b, c, d, e, f⟩ | ⟨a, b, c, d⟩
  · exact .inl ⟨h1, h0, h1', h', a, b, c, d.far hk hg hB i u, e, f⟩
  · exact .inr ⟨a, b, c.far hk hg hB i u, d⟩
/-- a region's block and what is known -/
def LB (K : MK) (k : Nat) (wr : World) (g : Nat) (cells : Array Value) (more : Bool) (at_ : Nat) (Ao : Option Addr) (no co : Nat) (out : List (List UInt8)) (cf : Bool) : Prop :=
  Blk wr g 71 cells ∧ K.B ≤ g ∧ LR K k wr cells more at_ Ao no co out cf
/-- a whole region laid into its block -/
theorem LR.laid {K : MK} (hk : MKok K) {k : Nat} {wr : World} {u0 u1 u2 u3 u4 u5 v0 v1 v2 v3 v4 v5 : Value} {more : Bool} {at_ : Nat} {Ao : Option Addr} {no co : Nat} {out : List (List UInt8)} {cf : Bool} (h : LR K k wr #[u0, u1, u2, u3, u4, u5] more at_ Ao no co out cf) {g : Nat} (hg : Blk wr g 71 #[v0, v1, v2, v3, v4, v5]) (hB : K.B ≤ g) :
    LB K k ((((((wr.setCell ⟨g, 0, none⟩ u0).setCell ⟨g, 1, none⟩ u1).setCell ⟨g, 2, none⟩ u2).setCell ⟨g, 3, none⟩ u3).setCell ⟨g, 4, none⟩ u4).setCell ⟨g, 5, none⟩ u5) g #[u0, u1, u2, u3, u4, u5] more at_ Ao no co out cf := by
  have b1 := hg.set_ 0 u0
  have b2 := b1.set_ 1 u1
  have b3 := b2.set_ 2 u2
  have b4 := b3.set_ 3 u3
  have b5 := b4.set_ 4 u4
  refine ⟨b5.set_ 5 u5, hB, ?_⟩
  exact (((((h.far hk hg hB 0 u0).far hk b1 hB 1 u1).far hk b2 hB 2 u2).far hk b3 hB 3 u3).far hk b4 hB 4 u4).far hk b5 hB 5 u5
/-- an append onto what is made -/
theorem ST.app {K : MK} {w w3 : World} {Ao A3 : Option Addr} {no co n3 c3 : Nat} {out seg : List (List UInt8)} {cf : Bool} {r0 r1 : List Hk} (hk : MKok K) (h : ST K w Ao no co out cf r0 r1) (hO : w3.ownsRow K.B 9 1 (.slice A3 n3 c3) n3 (strs (out ++ seg))) (hg : w.grownBy w3 (Value.slice Ao no co).ownBlock) :
    ST K (w3.setCell ⟨K.gm, 3, none⟩ (.slice A3 n3 c3)) A3 n3 c3 (out ++ seg) cf r0 r1 ∧ Fr (fun k => k = K.gm ∨ (Value.slice Ao no co).ownBlock = some k) w (w3.setCell ⟨K.gm, 3, none⟩ (.slice A3 n3 c3)) := by
  have hW := hk.W
  have hm := h.m.grown hg (own_blk h.own h.m (by decide))
  have f := (Fr.of_grown (E := fun k => k = K.gm ∨ (Value.slice Ao no co).ownBlock = some k) hg (fun k hk => Or.inr hk)).setCell (p := ⟨K.gm, 3, none⟩) (Or.inl rfl) (.slice A3 n3 c3)
  have f2 := f.weak (F := fun k => k = K.gm ∨ K.B ≤ k) (fun k hk => by
    rcases hk with rfl | hk
    · exact Or.inl rfl
    · exact Or.inr (h.own.lt k hk).1)
  refine ⟨⟨hm.set_ 3 (.slice A3 n3 c3), own_far hO (p := ⟨K.gm, 3, none⟩) (own_blk hO hm (by decide)) _, h.mc.fr f2, h.below.trans (f2.below (by have := h.mc.big; omega) (fun q hq => ?_))⟩, f⟩
  rcases hq with rfl | hq <;> omega
/-- a region's block is neither the merger nor the row -/
theorem ST.blk {K : MK} {w w' : World} {Ao : Option Addr} {no co : Nat} {out : List (List UInt8)} {cf : Bool} {r0 r1 : List Hk} (h : ST K w Ao no co out cf r0 r1) {g : Nat} {cs : Array Value} (hg : Blk w g 71 cs) (hf : Fr (fun k => k = K.gm ∨ (Value.slice Ao no co).ownBlock = some k) w w') : Blk w' g 71 cs :=
  hf.blk hg (fun e => by
    rcases e with rfl | e
    · exact Blk.apart h.m hg (by decide) rfl
    · exact own_blk h.own hg (by decide) e.symm)
theorem own_cap {w : World} {base sz n c : Nat} {e : TypeId} {A : Option Addr} {xs : List Value} (h : w.ownsRow base e sz (.slice A n c) n xs) : n ≤ c := by
  rcases h.2 with ⟨hv, h0⟩ | ⟨g, cap, cur, hv, _, _, h1, _⟩
  · injection hv with _ h1 h2; subst h2; omega
  · injection hv with _ _ h3; subst h3; exact h1
end Go.Proofs.YtpnogcblafmaiaaDoor
