/-
  One step of a merge: (*merger).region at whatever state; (*merger).take at whatever region. Conditions: the state as told.
-/
import Derived.Test.YtpnogcblafmaiaaDoorBlendLoop
namespace Go.Proofs.YtpnogcblafmaiaaDoor
open Go.RowKit
open LineLaw (Hk)
open BlendLaw (grow firstHk beyond dl)

theorem SlF.part {E : Nat → Prop} {w : World} {A : Option Addr} {n c p q : Nat} {l : List (List UInt8)} (h : SlF E w 1 A n (strs l)) (hc : n ≤ c) (hq : q ≤ n) : SlF E w 1 (cutA A c p 1) (q - p) (strs (BlendLaw.partOf l p q)) := by
  rcases Nat.lt_or_ge q p with hlt | hge
  · have e : q - p = 0 := by omega
    have e2 : BlendLaw.partOf l p q = [] := by unfold BlendLaw.partOf; rw [e]; simp
    rw [e, e2]
    exact SlF.nil_
  · refine ⟨h.1.mid_ hge hq hc, fun b off hn e hb => ?_⟩
    obtain ⟨b', off', e', _, _⟩ := h.1.2 (by omega)
    obtain ⟨a0, h1, h2⟩ := cutA_blk e
    rw [e'] at h1
    cases h1
    have h3 : b = b' := h2
    subst h3
    exact h.2 b off' (by omega) e' hb

set_option maxHeartbeats 4000000 in
set_option maxRecDepth 100000 in
theorem region_none (gm g0 g1 : Nat) (s0 s1 : Sd) (v0 v3 v4 : Value) (w : World) (hM : Blk w gm 64 #[v0, ptr g0, ptr g1, v3, v4]) (h0 : Nx w g0 s0 []) (h1 : Nx w g1 s1 []) :
    Calls Tryd.prog 43 #[ptr gm] w fun e w' => e = .returned (.tuple #[.agg #[I 0, I 0, .slice none 0 0, .slice none 0 0, .bool false, .bool false], .bool false]) ∧ Below w.heap.size w w' := by
  have b0 := balloc (Below.refl _ w) (.cells #[I 0, I 0, .slice none 0 0, .slice none 0 0, .bool false, .bool false] 71)
  have H := Lib.hid (first_no gm g0 g1 s0 s1 v0 v3 v4 _ (hM.step b0) (h0.step b0) (h1.step b0))
  clear h0 h1 hM
  go_enter Tryd.func43, Tryd.ntmps43
  go_wp2_with fail
  refine H.out.mono ?_
  rintro e w1 ⟨rfl, b1⟩
  have hE := (Blk.new w 71 #[I 0, I 0, .slice none 0 0, .slice none 0 0, .bool false, .bool false]).step b1
  have rE := hE.cell
  have fE := hE.frozen
  have B1 := Lib.hid (bstep b0 b1)
  clear hE b1 H b0
  go_wp2
  refine bodyPost_ret (v := .tuple #[.agg #[I 0, I 0, .slice none 0 0, .slice none 0 0, .bool false, .bool false], .bool false]) (by simp [results, Tryd.results43, go_sem, rE]) rfl ⟨rfl, ?_⟩
  exact (((((B1.out.setCell (Nat.le_refl _) _).setCell (Nat.le_refl _) _).setCell (Nat.le_refl _) _).setCell (Nat.le_refl _) _).setCell (Nat.le_refl _) _).setCell (Nat.le_refl _) _

/-- the constants of a merge -/
structure MK where
  W0 : World
  gm : Nat
  g0 : Nat
  g1 : Nat
  B : Nat
  s0 : Sd
  s1 : Sd
  Ax : Option Addr
  nx : Nat
  cx : Nat
  x : List (List UInt8)
  T : Nat
  res : List (List UInt8) × Bool
/-- they fit -/
structure MKok (K : MK) : Prop where
  x : Small K.x
  l0 : Small K.s0.l
  l1 : Small K.s1.l
  n0 : K.s0.l.length = K.s0.n ∧ K.s0.n ≤ K.s0.c
  n1 : K.s1.l.length = K.s1.n ∧ K.s1.n ≤ K.s1.c
  nx : K.x.length = K.nx ∧ K.nx ≤ K.cx
  T : K.T ≤ 20000
  W : K.W0.heap.size ≤ K.gm ∧ K.W0.heap.size ≤ K.g0 ∧ K.W0.heap.size ≤ K.g1 ∧ K.W0.heap.size ≤ K.B
/-- a region's cells -/
def regCells (s0 s1 : Sd) (h0 h1 : List Hk) (h : Hk) : Array Value :=
  #[I h.a0, I (grow h.a1 h0 h1).1, .slice (cutA s0.A s0.c (BlendLaw.pos s0.hs h0 h.a0) 1) (BlendLaw.pos s0.hs (grow h.a1 h0 h1).2.1 (grow h.a1 h0 h1).1 - BlendLaw.pos s0.hs h0 h.a0) (s0.c - BlendLaw.pos s0.hs h0 h.a0), .slice (cutA s1.A s1.c (BlendLaw.pos s1.hs h1 h.a0) 1) (BlendLaw.pos s1.hs (grow h.a1 h0 h1).2.2 (grow h.a1 h0 h1).1 - BlendLaw.pos s1.hs h1 h.a0) (s1.c - BlendLaw.pos s1.hs h1 h.a0), .bool (decide ((grow h.a1 h0 h1).2.1.length < h0.length)), .bool (decide ((grow h.a1 h0 h1).2.2.length < h1.length))]
/-- the state between two regions -/
structure ST (K : MK) (wr : World) (Ao : Option Addr) (no co : Nat) (out : List (List UInt8)) (cf : Bool) (r0 r1 : List Hk) : Prop where
  m : Blk wr K.gm 64 #[.slice K.Ax K.nx K.cx, ptr K.g0, ptr K.g1, .slice Ao no co, .bool cf]
  own : wr.ownsRow K.B 9 1 (.slice Ao no co) no (strs out)
  mc : MC K.gm K.g0 K.g1 K.B K.s0 K.s1 K.Ax K.nx K.x wr r0 r1
  below : Below K.W0.heap.size K.W0 wr
/-- what is known when a region has been asked for -/
def LR (K : MK) (k : Nat) (wr : World) (cells : Array Value) (more : Bool) (at_ : Nat) (Ao : Option Addr) (no co : Nat) (out : List (List UInt8)) (cf : Bool) : Prop :=
  (more = true ∧ ∃ h0 h1 h, firstHk h0 h1 = some h ∧ h0.length + h1.length ≤ k ∧ PI K.x K.s0 K.s1 K.T h0 h1 at_ out ∧ ST K wr Ao no co out cf (grow h.a1 h0 h1).2.1 (grow h.a1 h0 h1).2.2 ∧ cells = regCells K.s0 K.s1 h0 h1 h ∧
      K.res = (out ++ (BlendLaw.go K.x K.s0.l K.s1.l K.s0.hs K.s1.hs k at_ h0 h1).1, cf || (BlendLaw.go K.x K.s0.l K.s1.l K.s0.hs K.s1.hs k at_ h0 h1).2)) ∨
  (more = false ∧ PI K.x K.s0 K.s1 K.T [] [] at_ out ∧ ST K wr Ao no co out cf [] [] ∧ K.res = (out ++ K.x.drop at_, cf))

theorem ST.fr {K : MK} {wr wr' : World} {Ao : Option Addr} {no co : Nat} {out : List (List UInt8)} {cf : Bool} {r0 r1 : List Hk} (hk : MKok K) (h : ST K wr Ao no co out cf r0 r1) (hb : Below wr.heap.size wr wr') : ST K wr' Ao no co out cf r0 r1 :=
  ⟨h.m.step hb, own_keep h.own hb, h.mc.step hb, h.below.trans (hb.mono (by have := h.mc.big; have := hk.W; omega))⟩

theorem region_step {K : MK} (hk : MKok K) {k : Nat} {wr : World} {Ao : Option Addr} {no co : Nat} {out : List (List UInt8)} {cf : Bool} {h0 h1 : List Hk} {at_ : Nat} (hs : ST K wr Ao no co out cf h0 h1) (hp : PI K.x K.s0 K.s1 K.T h0 h1 at_ out) (hfu : h0.length + h1.length ≤ k)
    (hres : K.res = (out ++ (BlendLaw.go K.x K.s0.l K.s1.l K.s0.hs K.s1.hs k at_ h0 h1).1, cf || (BlendLaw.go K.x K.s0.l K.s1.l K.s0.hs K.s1.hs k at_ h0 h1).2)) :
    Calls Tryd.prog 43 #[ptr K.gm] wr fun e w' => ∃ (z0 z1 : Nat) (B0 : Option Addr) (y0 e0 : Nat) (B1 : Option Addr) (y1 e1 : Nat) (t0 t1 more : Bool), e = .returned (.tuple #[.agg #[I z0, I z1, .slice B0 y0 e0, .slice B1 y1 e1, .bool t0, .bool t1], .bool more]) ∧ LR K k w' #[I z0, I z1, .slice B0 y0 e0, .slice B1 y1 e1, .bool t0, .bool t1] more at_ Ao no co out cf ∧ wr.heap.size ≤ w'.heap.size ∧ Fr (EE wr K.g0 K.g1) wr w' := by
  have hg := hs.mc.g
  cases hf : firstHk h0 h1 with
  | none =>
    obtain ⟨rfl, rfl⟩ := BlendLaw.first_none hf
    refine (region_none K.gm K.g0 K.g1 K.s0 K.s1 _ _ _ wr hs.m hs.mc.n0 hs.mc.n1).mono ?_
    rintro e w' ⟨he, hb⟩
    refine ⟨0, 0, none, 0, 0, none, 0, 0, false, false, false, he, .inr ⟨rfl, hp, hs.fr hk hb, ?_⟩, hb.size, .of_below hb⟩
    rw [hres, BlendLaw.go_none, Bool.or_false]
  | some h =>
    obtain ⟨i0, j0, A0, e0⟩ := hp.at0
    obtain ⟨i1, j1, A1, e1⟩ := hp.at1
    have hah := hp.ahead h hf
    have hx1 := hk.x.1
    have hx2 := hk.l0.1
    have hx3 := hk.l1.1
    refine (region_yes K.gm K.g0 K.g1 K.s0 K.s1 _ _ _ h0 h1 h wr hs.m hs.mc.n0 hs.mc.n1 hf K.x i0 j0 i1 j1 A0 A1 (by omega) (by omega) hg.2.2.2 (by omega) (by omega) (by omega) (by rw [hk.n0.1]; exact hk.n0.2) (by rw [hk.n1.1]; exact hk.n1.2) _ rfl _ _ rfl rfl).mono ?_
    rintro e w' ⟨he, hn0, hn1, hm, hfr⟩
    refine ⟨_, _, _, _, _, _, _, _, _, _, true, he, .inl ⟨rfl, h0, h1, h, hf, hfu, hp, ⟨hm, own_region hs.own ⟨hg.1.2.1, hg.1.2.2⟩ hfr, hs.mc.region hfr hn0 hn1, hs.below.trans (hfr.below (by have := hs.mc.big; have := hk.W; omega) ?_)⟩, rfl, hres⟩, hfr.size, hfr⟩
    · intro q hq
      have h1 := hk.W
      have h2 := hs.mc.big
      rcases hq with rfl | rfl | hq <;> omega

theorem take_any (gm B : Nat) (v0 p0 p1 : Value) (Ao : Option Addr) (no co : Nat) (cf : Bool) (out : List (List UInt8)) (lo hi : Value) (Aa : Option Addr) (na ca : Nat) (la : List (List UInt8)) (Ab : Option Addr) (nb cb : Nat) (lb : List (List UInt8)) (t0 t1 : Bool) (w : World)
    (hM : Blk w gm 64 #[v0, p0, p1, .slice Ao no co, .bool cf]) (hO : w.ownsRow B 9 1 (.slice Ao no co) no (strs out)) (hB : B ≤ w.heap.size) (hSa : SlF (fun k => k = gm ∨ B ≤ k) w 1 Aa na (strs la)) (hSb : SlF (fun k => k = gm ∨ B ≤ k) w 1 Ab nb (strs lb)) (hlo : lo.oneCell' = true) (hhi : hi.oneCell' = true)
    (hsa : ∀ s ∈ la, s.length ≤ 1000000000) (hsb : ∀ s ∈ lb, s.length ≤ 1000000000) (hbig : out.length + la.length + lb.length + 3 ≤ 1000000000) :
    Calls Tryd.prog 44 #[ptr gm, .agg #[lo, hi, .slice Aa na ca, .slice Ab nb cb, .bool t0, .bool t1]] w (TakePost w gm B (Value.slice Ao no co).ownBlock v0 p0 p1 cf out (BlendLaw.taken t0 t1 la lb)) := by
  have ha := strs_len hSa.1
  have hb := strs_len hSb.1
  cases t1 with
  | false =>
    have e : BlendLaw.taken t0 false la lb = (la, false) := by simp [BlendLaw.taken]
    rw [e]
    exact take_first gm B v0 p0 p1 Ao no co cf out lo hi Aa na ca la _ t0 w hM hO hB hSa hlo hhi rfl (by rw [List.length_append]; omega)
  | true =>
    cases t0 with
    | false =>
      have e : BlendLaw.taken false true la lb = (lb, false) := by simp [BlendLaw.taken]
      rw [e]
      exact take_second gm B v0 p0 p1 Ao no co cf out lo hi Ab nb cb lb _ w hM hO hB hSb hlo hhi rfl (by rw [List.length_append]; omega)
    | true =>
      by_cases hne : la = lb
      · subst hne
        have e : BlendLaw.taken true true la la = (la, false) := by simp [BlendLaw.taken]
        rw [e]
        exact take_same gm B v0 p0 p1 Ao no co cf out lo hi Aa na ca la Ab nb cb w hM hO hB hSa hlo hhi hSb (by rw [List.length_append]; omega)
      · refine take_conflict gm B v0 p0 p1 Ao no co cf out lo hi Aa na ca la Ab nb cb lb w hM hO hB hSa hSb hlo hhi ⟨by omega, hsa⟩ ⟨by omega, hsb⟩ ?_ hne
        simp only [conflicted, List.length_append, List.length_cons, List.length_nil, BlendLaw.closed_len]
        omega

theorem me_weak {gm g0 g1 B : Nat} {w : World} {A : Option Addr} {n : Nat} {xs : List Value} (h : SlF (ME gm g0 g1 B) w 1 A n xs) : SlF (fun k => k = gm ∨ B ≤ k) w 1 A n xs :=
  h.weak (fun k hk => by rcases hk with rfl | hk; exact Or.inl rfl; exact Or.inr (Or.inr (Or.inr hk)))

/-- a region is taken -/
theorem take_region {K : MK} (hk : MKok K) {wr : World} {Ao : Option Addr} {no co : Nat} {out : List (List UInt8)} {cf : Bool} {h0 h1 : List Hk} {h : Hk} {at_ : Nat} {out0 : List (List UInt8)} (hs : ST K wr Ao no co out cf (grow h.a1 h0 h1).2.1 (grow h.a1 h0 h1).2.2) (hf : firstHk h0 h1 = some h) (hp : PI K.x K.s0 K.s1 K.T h0 h1 at_ out0) (hbig : out.length ≤ 500000000) :
    Calls Tryd.prog 44 #[ptr K.gm, .agg (regCells K.s0 K.s1 h0 h1 h)] wr fun e w' => e = .returned (.tuple #[]) ∧ (∃ A n c, ST K w' A n c (out ++ (madeOf K.x K.s0 K.s1 h0 h1 at_ h).1) (cf || (madeOf K.x K.s0 K.s1 h0 h1 at_ h).2) (grow h.a1 h0 h1).2.1 (grow h.a1 h0 h1).2.2) ∧ Fr (fun k => k = K.gm ∨ (Value.slice Ao no co).ownBlock = some k) wr w' := by
  obtain ⟨i0, j0, A0, e0⟩ := hp.at0
  obtain ⟨i1, j1, A1, e1⟩ := hp.at1
  have hah := hp.ahead h hf
  have hh := BlendLaw.first_hunk hf A0 A1
  obtain ⟨a0, b0, a1, b1, k1, k2, k3, k4, k5, k6⟩ := BlendLaw.grow_at h.a1 h0 h1 A0 A1 (by omega) (by omega) hh.2
  have hby := BlendLaw.grow_beyond h.a1 h0 h1
  have q0 : BlendLaw.pos K.s0.hs (grow h.a1 h0 h1).2.1 (grow h.a1 h0 h1).1 ≤ K.s0.n := by rw [k1.pos_eq k3, ← hk.n0.1]; exact k1.room k3 k5 hby.1
  have q1 : BlendLaw.pos K.s1.hs (grow h.a1 h0 h1).2.2 (grow h.a1 h0 h1).1 ≤ K.s1.n := by rw [k2.pos_eq k4, ← hk.n1.1]; exact k2.room k4 k5 hby.2
  have sa := me_weak (hs.mc.l0.part (p := BlendLaw.pos K.s0.hs h0 h.a0) hk.n0.2 q0)
  have sb := me_weak (hs.mc.l1.part (p := BlendLaw.pos K.s1.hs h1 h.a0) hk.n1.2 q1)
  have p0 := BlendLaw.part_len K.s0.l (BlendLaw.pos K.s0.hs h0 h.a0) (BlendLaw.pos K.s0.hs (grow h.a1 h0 h1).2.1 (grow h.a1 h0 h1).1)
  have p1 := BlendLaw.part_len K.s1.l (BlendLaw.pos K.s1.hs h1 h.a0) (BlendLaw.pos K.s1.hs (grow h.a1 h0 h1).2.2 (grow h.a1 h0 h1).1)
  have z0 := hk.l0.1
  have z1 := hk.l1.1
  refine (take_any K.gm K.B _ _ _ Ao no co cf out (I h.a0) (I (grow h.a1 h0 h1).1) _ _ _ _ _ _ _ _ (decide ((grow h.a1 h0 h1).2.1.length < h0.length)) (decide ((grow h.a1 h0 h1).2.2.length < h1.length)) wr hs.m hs.own hs.mc.big sa sb rfl rfl ?_ ?_ (by omega)).mono ?_
  · intro s hs'
    have := hk.l0.2 s (BlendLaw.part_mem hs'); omega
  · intro s hs'
    have := hk.l1.2 s (BlendLaw.part_mem hs'); omega
  · rintro e w' ⟨he, A, c, hm, ho, hfr0⟩
    have hfr : Fr (fun k => k = K.gm ∨ K.B ≤ k) wr w' := hfr0.weak (fun k hk => by
      rcases hk with rfl | hk
      · exact Or.inl rfl
      · exact Or.inr (hs.own.lt k hk).1)
    refine ⟨he, ⟨A, _, c, hm, ho, hs.mc.fr hfr, hs.below.trans (hfr.below (by have := hs.mc.big; have := hk.W; omega) (fun q hq => ?_))⟩, hfr0⟩
    have h1 := hk.W
    rcases hq with rfl | hq <;> omega
end Go.Proofs.YtpnogcblafmaiaaDoor
