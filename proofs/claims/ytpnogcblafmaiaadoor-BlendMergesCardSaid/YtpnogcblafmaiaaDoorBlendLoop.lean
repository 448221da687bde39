/-
  What holds between two regions of a merge: memory and plain facts. Plain lemmas.
-/
import Derived.Test.YtpnogcblafmaiaaDoorBlendRegion
import Derived.Test.YtpnogcblafmaiaaDoorBlendTake
import Derived.Test.YtpnogcblafmaiaaDoorBlendLaw2
namespace Go.Proofs.YtpnogcblafmaiaaDoor
open Go.RowKit
open LineLaw (Hk)
open BlendLaw (grow firstHk beyond dl)

/-- what a merge may turn: the merger, its sides, what is new since B -/
abbrev ME (gm g0 g1 B : Nat) : Nat → Prop := fun k => k = gm ∨ k = g0 ∨ k = g1 ∨ B ≤ k

theorem own_fr {w w' : World} {E : Nat → Prop} {base sz n : Nat} {e : TypeId} {v : Value} {xs : List Value} (h : w.ownsRow base e sz v n xs) (hf : Fr E w w') (hE : ∀ k, v.ownBlock = some k → ¬ E k) : w'.ownsRow base e sz v n xs := by
  refine ⟨h.1, ?_⟩
  rcases h.2 with h2 | ⟨g, cap, cur, hv, hg, hh, r⟩
  · exact .inl h2
  · have hlt := (Array.getElem?_eq_some_iff.1 hh).1
    exact .inr ⟨g, cap, cur, hv, hg, (hf.block g hlt (hE g (by rw [hv]; simp [Value.ownBlock]))).trans hh, r⟩
theorem Nx.fr {w w' : World} {E : Nat → Prop} {g : Nat} {s : Sd} {r : List Hk} (h : Nx w g s r) (hf : Fr E w w') (hg : ¬ E g) (hr : ∀ b off, 0 < s.k → s.H = some ⟨b, off, none⟩ → ¬ E b) : Nx w' g s r := by
  refine ⟨hf.blk h.blk hg, ⟨h.row.1, fun hn => ?_⟩, h.few, h.suf, h.lim, fun b off hk he => ?_⟩
  · obtain ⟨b, off, e, hb, hc⟩ := h.row.2 hn
    exact ⟨b, off, e, hf.lt hb, fun k hk => (hf.cell hb (hr b off hn e)).trans (hc k hk)⟩
  · obtain ⟨cur, fr, hh⟩ := h.typ b off hk he
    have hlt := (Array.getElem?_eq_some_iff.1 hh).1
    exact ⟨cur, fr, (hf.block b hlt (hr b off hk he)).trans hh⟩

/-- the sides and the lines -/
structure MC (gm g0 g1 B : Nat) (s0 s1 : Sd) (Ax : Option Addr) (nx : Nat) (x : List (List UInt8)) (wr : World) (r0 r1 : List Hk) : Prop where
  n0 : Nx wr g0 s0 r0
  n1 : Nx wr g1 s1 r1
  sx : SlF (ME gm g0 g1 B) wr 1 Ax nx (strs x)
  l0 : SlF (ME gm g0 g1 B) wr 1 s0.A s0.n (strs s0.l)
  l1 : SlF (ME gm g0 g1 B) wr 1 s1.A s1.n (strs s1.l)
  k0 : ∀ b off, 0 < s0.k → s0.H = some ⟨b, off, none⟩ → b < B ∧ b ≠ gm
  k1 : ∀ b off, 0 < s1.k → s1.H = some ⟨b, off, none⟩ → b < B ∧ b ≠ gm
  g : (gm < B ∧ g0 < B ∧ g1 < B) ∧ gm ≠ g0 ∧ gm ≠ g1 ∧ g0 ≠ g1
  big : B ≤ wr.heap.size
section
variable {gm g0 g1 B : Nat} {s0 s1 : Sd} {Ax : Option Addr} {nx : Nat} {x : List (List UInt8)} {wr wr' : World} {r0 r1 q0 q1 : List Hk}
/-- only the merger and new memory have turned -/
theorem MC.fr (h : MC gm g0 g1 B s0 s1 Ax nx x wr r0 r1) (hf : Fr (fun k => k = gm ∨ B ≤ k) wr wr') : MC gm g0 g1 B s0 s1 Ax nx x wr' r0 r1 := by
  have hw : Fr (ME gm g0 g1 B) wr wr' := hf.weak (fun k hk => by rcases hk with rfl | hk; exact Or.inl rfl; exact Or.inr (Or.inr (Or.inr hk)))
  have hg := h.g
  refine ⟨h.n0.fr hf (by omega) (fun b off hk he => ?_), h.n1.fr hf (by omega) (fun b off hk he => ?_), h.sx.fr hw, h.l0.fr hw, h.l1.fr hw, h.k0, h.k1, h.g, Nat.le_trans h.big hf.size⟩
  · have := h.k0 b off hk he; omega
  · have := h.k1 b off hk he; omega
theorem MC.step (h : MC gm g0 g1 B s0 s1 Ax nx x wr r0 r1) (hb : Below wr.heap.size wr wr') : MC gm g0 g1 B s0 s1 Ax nx x wr' r0 r1 := h.fr (.of_below hb)
/-- the sides have gone on -/
theorem MC.region (h : MC gm g0 g1 B s0 s1 Ax nx x wr r0 r1) (hf : Fr (EE wr g0 g1) wr wr') (hn0 : Nx wr' g0 s0 q0) (hn1 : Nx wr' g1 s1 q1) : MC gm g0 g1 B s0 s1 Ax nx x wr' q0 q1 := by
  have hbig := h.big
  have hw : Fr (ME gm g0 g1 B) wr wr' := hf.weak (fun k hk => by
    rcases hk with rfl | rfl | hk
    · exact Or.inr (Or.inl rfl)
    · exact Or.inr (Or.inr (Or.inl rfl))
    · exact Or.inr (Or.inr (Or.inr (Nat.le_trans hbig hk))))
  exact ⟨hn0, hn1, h.sx.fr hw, h.l0.fr hw, h.l1.fr hw, h.k0, h.k1, h.g, Nat.le_trans h.big hf.size⟩
/-- a row of the merge's own is not among the sides -/
theorem own_region {v : Value} {n : Nat} {xs : List Value} {e : TypeId} {sz : Nat} (ho : wr.ownsRow B e sz v n xs) (hg : g0 < B ∧ g1 < B) (hf : Fr (EE wr g0 g1) wr wr') : wr'.ownsRow B e sz v n xs :=
  own_fr ho hf (fun k hk he => by
    have := ho.lt k hk
    rcases he with rfl | rfl | he <;> omega)
end

/-- the plain side: where both sides stand, how much is taken -/
structure PI (x : List (List UInt8)) (s0 s1 : Sd) (T : Nat) (h0 h1 : List Hk) (at_ : Nat) (out : List (List UInt8)) : Prop where
  at0 : ∃ i j, BlendLaw.At x s0.l s0.hs h0 i j ∧ i ≤ at_
  at1 : ∃ i j, BlendLaw.At x s1.l s1.hs h1 i j ∧ i ≤ at_
  le : at_ ≤ x.length
  ahead : ∀ h, firstHk h0 h1 = some h → at_ ≤ h.a0
  few : out.length + (h0.length + h1.length) * 10000 ≤ at_ + T * 10000
  short : ∀ s ∈ out, s.length ≤ 4002
/-- lines that are few and short -/
def Small (l : List (List UInt8)) : Prop := l.length ≤ 4000 ∧ ∀ s ∈ l, s.length ≤ 4000
/-- what a region makes -/
def madeOf (_x : List (List UInt8)) (s0 s1 : Sd) (h0 h1 : List Hk) (_at_ : Nat) (h : Hk) : List (List UInt8) × Bool :=
  BlendLaw.taken (decide ((grow h.a1 h0 h1).2.1.length < h0.length)) (decide ((grow h.a1 h0 h1).2.2.length < h1.length)) (BlendLaw.partOf s0.l (BlendLaw.pos s0.hs h0 h.a0) (BlendLaw.pos s0.hs (grow h.a1 h0 h1).2.1 (grow h.a1 h0 h1).1)) (BlendLaw.partOf s1.l (BlendLaw.pos s1.hs h1 h.a0) (BlendLaw.pos s1.hs (grow h.a1 h0 h1).2.2 (grow h.a1 h0 h1).1))
theorem PI.next {x : List (List UInt8)} {s0 s1 : Sd} {T : Nat} {h0 h1 : List Hk} {at_ : Nat} {out : List (List UInt8)} (p : PI x s0 s1 T h0 h1 at_ out) {h : Hk} (hf : firstHk h0 h1 = some h) (hx : Small x) (hl0 : Small s0.l) (hl1 : Small s1.l) :
    PI x s0 s1 T (grow h.a1 h0 h1).2.1 (grow h.a1 h0 h1).2.2 (grow h.a1 h0 h1).1 (out ++ (x.drop at_).take (h.a0 - at_) ++ (madeOf x s0 s1 h0 h1 at_ h).1) := by
  obtain ⟨i0, j0, A0, e0⟩ := p.at0
  obtain ⟨i1, j1, A1, e1⟩ := p.at1
  have hah := p.ahead h hf
  have hh := BlendLaw.first_hunk hf A0 A1
  obtain ⟨a0, b0, a1, b1, k1, k2, k3, k4, k5, k6⟩ := BlendLaw.grow_at h.a1 h0 h1 A0 A1 (by omega) (by omega) hh.2
  have hby := BlendLaw.grow_beyond h.a1 h0 h1
  have hless := BlendLaw.grow_less hf hh.1
  have hfew := p.few
  refine ⟨⟨a0, b0, k1, k3⟩, ⟨a1, b1, k2, k4⟩, k5, fun h' hf' => Nat.le_of_lt (BlendLaw.first_beyond hf' hby.1 hby.2), ?_, fun s hs => ?_⟩
  · have h2 := BlendLaw.taken_len (decide ((grow h.a1 h0 h1).2.1.length < h0.length)) (decide ((grow h.a1 h0 h1).2.2.length < h1.length)) (BlendLaw.partOf s0.l (BlendLaw.pos s0.hs h0 h.a0) (BlendLaw.pos s0.hs (grow h.a1 h0 h1).2.1 (grow h.a1 h0 h1).1)) (BlendLaw.partOf s1.l (BlendLaw.pos s1.hs h1 h.a0) (BlendLaw.pos s1.hs (grow h.a1 h0 h1).2.2 (grow h.a1 h0 h1).1))
    have h3 := BlendLaw.part_len s0.l (BlendLaw.pos s0.hs h0 h.a0) (BlendLaw.pos s0.hs (grow h.a1 h0 h1).2.1 (grow h.a1 h0 h1).1)
    have h4 := BlendLaw.part_len s1.l (BlendLaw.pos s1.hs h1 h.a0) (BlendLaw.pos s1.hs (grow h.a1 h0 h1).2.2 (grow h.a1 h0 h1).1)
    have h5 := hl0.1
    have h6 := hl1.1
    have h7 : ((x.drop at_).take (h.a0 - at_)).length ≤ h.a0 - at_ := List.length_take_le _ _
    simp only [List.length_append, madeOf]
    omega
  · rcases List.mem_append.1 hs with hs | hs
    · rcases List.mem_append.1 hs with hs | hs
      · exact p.short s hs
      · have := hx.2 s (List.mem_of_mem_drop (List.mem_of_mem_take hs)); omega
    · have := BlendLaw.taken_mem (M := 4000) (by omega) (fun t ht => hl0.2 t (BlendLaw.part_mem ht)) (fun t ht => hl1.2 t (BlendLaw.part_mem ht)) hs
      omega
end Go.Proofs.YtpnogcblafmaiaaDoor
