/-
  Texts merged: RenLaw, RenOnce, RenRef, RenMap. What each law says and asks stands at its head.
-/
import Derived.Test.YtphnfcgdpdimbaaGreatDoorRKitPm
import Derived.Test.YtphnfcgdpdimbaaGreatDoorRKitLa
import Derived.Test.YtphnfcgdpdimbaaGreatDoorRKitLc
namespace Go.Proofs.YtphnfcgdpdimbaaGreatDoor
namespace RenLaw
def at9 (l : List Chg3) (k : Nat) : Chg3 := l.getD k ([], [], [])
theorem at9_of {l : List Chg3} {k : Nat} {x : Chg3} (h : l[k]? = some x) : at9 l k = x := by
 unfold at9
 rw [List.getD_eq_getElem?_getD, h]
 rfl
def G0 (l : List Chg3) : List Nat := (List.range l.length).filter (fun k => goneB (at9 l k))
def F0 (l : List Chg3) : List Nat := (List.range l.length).filter (fun k => frsB (at9 l k))
theorem range_at (l : List Chg3) : (List.range l.length).map (at9 l) = l := by
 apply List.ext_getElem?
 intro k
 rw [List.getElem?_map]
 by_cases hk : k < l.length
 ·rw [List.getElem?_range hk, List.getElem?_eq_getElem hk]
  simp only [Option.map_some, Option.some.injEq]
  exact at9_of (List.getElem?_eq_getElem hk)
 ·rw [List.getElem?_eq_none (by simp; omega), List.getElem?_eq_none (by omega)]
  rfl
theorem filter_at (l : List Chg3) (p : Chg3 → Bool) : ((List.range l.length).filter (fun k => p (at9 l k))).map (at9 l) = l.filter p := by
 have h := List.filter_map (p := p) (f := at9 l) (l := List.range l.length)
 rw [range_at] at h
 rw [h]
 rfl
theorem g0_map (l : List Chg3) : (G0 l).map (at9 l) = l.filter goneB := filter_at l goneB
theorem f0_map (l : List Chg3) : (F0 l).map (at9 l) = (l.filter (fun x => !goneB x)).filter frsB := by
 rw [List.filter_filter]
 have : (fun x => frsB x && !goneB x) = frsB := by
  funext x
  unfold frsB goneB
  cases hd1 : decide (x.2.1 = []) <;> cases hd2 : decide (x.2.2 = []) <;> rfl
 rw [this]
 exact filter_at l frsB
theorem lt_of_g0 {l : List Chg3} {k : Nat} (h : k ∈ G0 l) : k < l.length ∧ goneB (at9 l k) = true := by
 obtain ⟨h1, h2⟩ := List.mem_filter.1 h
 exact ⟨List.mem_range.1 h1, h2⟩
theorem lt_of_f0 {l : List Chg3} {k : Nat} (h : k ∈ F0 l) : k < l.length ∧ frsB (at9 l k) = true := by
 obtain ⟨h1, h2⟩ := List.mem_filter.1 h
 exact ⟨List.mem_range.1 h1, h2⟩
theorem range_rises (n : Nat) : (List.range n).Pairwise (· < ·) := List.pairwise_lt_range
theorem g0_rises (l : List Chg3) : (G0 l).Pairwise (· < ·) := (range_rises _).filter _
theorem f0_rises (l : List Chg3) : (F0 l).Pairwise (· < ·) := (range_rises _).filter _
abbrev St := List Nat × (Nat → Option (Nat × Int))
def upN (f : Nat → Option (Nat × Int)) (i : Nat) (o : Option (Nat × Int)) : Nat → Option (Nat × Int) := fun y => if y = i then o else f y
def take9 (s : St) (i k : Nat) (sc : Int) : St := (s.1.eraseIdx k, upN s.2 i ((s.1[k]?).map (fun g => (g, sc))))
def exact1 (l : List Chg3) (s : St) (i : Nat) : St :=
 match s.1.findIdx? (fun g => decide ((at9 l g).2.1 = (at9 l i).2.2)) with
 | none => s
 | some k => take9 s i k 100
def exacts (l : List Chg3) : List Nat → St → St
 | [], s => s
 | i :: F, s => exacts l F (exact1 l s i)
abbrev Rd := List UInt8 → Except Int (List UInt8)
def bestGo (l : List Chg3) (rd : Rd) (own : List UInt8) : List Nat → Nat → Nat × Int → Except Int (Nat × Int)
 | [], _, b => .ok b
 | g :: G, k, b => match rd (at9 l g).2.1 with
  | .error z => .error z
  | .ok d => bestGo l rd own G (k + 1) (if b.2 < LineLaw.simC (LinesLaw.lns d) (LinesLaw.lns own) then (k, LineLaw.simC (LinesLaw.lns d) (LinesLaw.lns own)) else b)
def bestR (l : List Chg3) (rd : Rd) (G : List Nat) (i : Nat) : Except Int (Nat × Int) :=
 if G = [] then .ok (0, -1) else match rd (at9 l i).2.2 with
  | .error z => .error z
  | .ok own => bestGo l rd own G 0 (0, -1)
def like1 (l : List Chg3) (rd : Rd) (s : St) (i : Nat) : Except Int St :=
 if (s.2 i).isSome then .ok s else match bestR l rd s.1 i with
  | .error z => .error z
  | .ok b => .ok (if 50 ≤ b.2 then take9 s i b.1 b.2 else s)
def likes (l : List Chg3) (rd : Rd) : List Nat → St → Except Int St
 | [], s => .ok s
 | i :: F, s => match like1 l rd s i with
  | .error z => .error z
  | .ok s' => likes l rd F s'
def pairsOf (l : List Chg3) (f : Nat → Option (Nat × Int)) (F : List Nat) : List Ren := F.filterMap (fun i => (f i).map (fun p => ((at9 l p.1).1, (at9 l i).1, p.2)))
def s0 (l : List Chg3) : St := (G0 l, fun _ => none)
def sE (l : List Chg3) : St := exacts l (F0 l) (s0 l)
def renM (l : List Chg3) (rd : Rd) : Except Int (List Ren) :=
 match likes l rd (F0 l) (sE l) with
 | .error z => .error z
 | .ok s => .ok (pairsOf l s.2 (F0 l))
theorem exacts_filter (l : List Chg3) (p : Nat → Bool) : ∀ (F : List Nat) (s : St), exacts l (F.filter p) s = F.foldl (fun s i => if p i then exact1 l s i else s) s
 | [], _ => rfl
 | i :: F, s => by
  rw [List.filter_cons, List.foldl_cons]
  split
  ·rw [exacts, exacts_filter l p F]
  ·exact exacts_filter l p F s
theorem first_idx {p : Nat → Bool} : ∀ {G : List Nat} {g : Nat}, G.Pairwise (· < ·) → g ∈ G → p g = true → (∀ x ∈ G, x < g → p x = false) → ∃ k, G.findIdx? p = some k ∧ G[k]? = some g
 | [], g, _, h, _, _ => by cases h
 | a :: G, g, hp, hm, hg, hb => by
  rw [List.findIdx?_cons]
  rcases List.mem_cons.1 hm with rfl | hm
  ·rw [hg]
   exact ⟨0, rfl, rfl⟩
  ·have ha : p a = false := hb a (by simp) (List.rel_of_pairwise_cons hp hm)
   obtain ⟨k, h1, h2⟩ := first_idx hp.of_cons hm hg (fun x hx => hb x (List.mem_cons_of_mem _ hx))
   rw [ha, h1]
   exact ⟨k + 1, rfl, h2⟩
theorem no_idx {p : Nat → Bool} {G : List Nat} (h : ∀ x ∈ G, p x = false) : G.findIdx? p = none := by
 rw [List.findIdx?_eq_none_iff]
 exact h
theorem mem_eraseIdx {G : List Nat} {k g : Nat} (hp : G.Pairwise (· < ·)) (hk : G[k]? = some g) (x : Nat) : x ∈ G.eraseIdx k ↔ x ∈ G ∧ x ≠ g := by
 induction G generalizing k with
 | nil => simp at hk
 | cons a G ih =>
  cases k with
  | zero =>
   simp only [List.getElem?_cons_zero, Option.some.injEq] at hk
   subst hk
   rw [List.eraseIdx_cons_zero]
   constructor
   ·intro h
    have := List.rel_of_pairwise_cons hp h
    exact ⟨List.mem_cons_of_mem _ h, by omega⟩
   ·rintro ⟨h1, h2⟩
    rcases List.mem_cons.1 h1 with h | h
    ·exact absurd h h2
    ·exact h
  | succ k =>
   rw [List.getElem?_cons_succ] at hk
   rw [List.eraseIdx_cons_succ, List.mem_cons, List.mem_cons, ih hp.of_cons hk]
   have hg := List.rel_of_pairwise_cons hp (List.mem_of_getElem? hk)
   constructor
   ·rintro (h | ⟨h1, h2⟩)
    ·exact ⟨.inl h, by omega⟩
    ·exact ⟨.inr h1, h2⟩
   ·rintro ⟨h1 | h1, h2⟩
    ·exact .inl h1
    ·exact .inr ⟨h1, h2⟩
end RenLaw
namespace RenLaw
structure Inv (l : List Chg3) (s : St) : Prop where
 rises : s.1.Pairwise (· < ·)
 sub : ∀ g ∈ s.1, g ∈ G0 l
 pair : ∀ i g sc, s.2 i = some (g, sc) → i ∈ F0 l ∧ g ∈ G0 l ∧ g ∉ s.1 ∧ 50 ≤ sc ∧ sc ≤ 100
 inj : ∀ i j g sc sc', s.2 i = some (g, sc) → s.2 j = some (g, sc') → i = j
 all : ∀ g ∈ G0 l, g ∈ s.1 ∨ ∃ i sc, s.2 i = some (g, sc)
theorem inv_start (l : List Chg3) : Inv l (s0 l) :=
 ⟨g0_rises l, fun _ h => h, fun _ _ _ h => (nomatch h), fun _ _ _ _ _ h => (nomatch h), fun _ h => .inl h⟩
theorem take9_at {s : St} {i k g : Nat} {sc : Int} (hk : s.1[k]? = some g) (j : Nat) : (take9 s i k sc).2 j = if j = i then some (g, sc) else s.2 j := by
 unfold take9 upN
 rw [hk]
 rfl
theorem Inv.take {l : List Chg3} {s : St} {i k g : Nat} {sc : Int} (h : Inv l s) (hi : i ∈ F0 l) (hn : s.2 i = none) (hk : s.1[k]? = some g) (h1 : 50 ≤ sc) (h2 : sc ≤ 100) : Inv l (take9 s i k sc) := by
 have hg := List.mem_of_getElem? hk
 have hm := mem_eraseIdx h.rises hk
 refine ⟨?_, ?_, ?_, ?_, ?_⟩
 ·exact h.rises.sublist (List.eraseIdx_sublist _ _)
 ·intro x hx
  exact h.sub x ((hm x).1 hx).1
 ·intro j g' sc' hj
  rw [take9_at hk] at hj
  split at hj
  ·rename_i e
   cases hj
   rw [e]
   exact ⟨hi, h.sub g hg, fun hx => ((hm g).1 hx).2 rfl, h1, h2⟩
  ·obtain ⟨p1, p2, p3, p4⟩ := h.pair j g' sc' hj
   exact ⟨p1, p2, fun hx => p3 ((hm g').1 hx).1, p4⟩
 ·intro a b g' sc1 sc2 ha hb
  rw [take9_at hk] at ha hb
  split at ha <;> split at hb
  ·rename_i e1 e2
   rw [e1, e2]
  ·cases ha
   exact absurd hg (h.pair b g sc2 hb).2.2.1
  ·cases hb
   exact absurd hg (h.pair a g sc1 ha).2.2.1
  ·exact h.inj a b g' sc1 sc2 ha hb
 ·intro x hx
  by_cases hxg : x = g
  ·exact .inr ⟨i, sc, by rw [take9_at hk, if_pos rfl, hxg]⟩
  ·rcases h.all x hx with h3 | ⟨j, sc', h3⟩
   ·exact .inl ((hm x).2 ⟨h3, hxg⟩)
   ·refine .inr ⟨j, sc', ?_⟩
    rw [take9_at hk, if_neg (fun e => by rw [e, hn] at h3; cases h3)]
    exact h3
abbrev sameB (l : List Chg3) (g i : Nat) : Prop := (at9 l g).2.1 = (at9 l i).2.2
theorem exact1_none {l : List Chg3} {s : St} {i : Nat} (h : ∀ g ∈ s.1, ¬ sameB l g i) : exact1 l s i = s := by
 unfold exact1
 rw [no_idx (fun x hx => decide_eq_false (h x hx))]
theorem exact1_some {l : List Chg3} {s : St} {i g : Nat} (hr : s.1.Pairwise (· < ·)) (hg : g ∈ s.1) (hs : sameB l g i) (hf : ∀ x ∈ s.1, x < g → ¬ sameB l x i) : ∃ k, s.1[k]? = some g ∧ exact1 l s i = take9 s i k 100 := by
 obtain ⟨k, h1, h2⟩ := first_idx hr hg (p := fun g => decide (sameB l g i)) (decide_eq_true hs) (fun x hx hlt => decide_eq_false (hf x hx hlt))
 refine ⟨k, h2, ?_⟩
 unfold exact1
 rw [h1]
theorem exact1_ways (l : List Chg3) (s : St) (i : Nat) : (exact1 l s i = s ∧ ∀ g ∈ s.1, ¬ sameB l g i) ∨ ∃ k g, s.1[k]? = some g ∧ sameB l g i ∧ exact1 l s i = take9 s i k 100 := by
 unfold exact1
 rcases hf : s.1.findIdx? (fun g => decide ((at9 l g).2.1 = (at9 l i).2.2)) with _ | k
 ·refine .inl ⟨rfl, fun g hg => ?_⟩
  have := (List.findIdx?_eq_none_iff.1 hf) g hg
  exact of_decide_eq_false this
 ·obtain ⟨hk, hp, _⟩ := List.findIdx?_eq_some_iff_getElem.1 hf
  exact .inr ⟨k, s.1[k], List.getElem?_eq_getElem hk, of_decide_eq_true hp, rfl⟩
theorem f0_nodup (l : List Chg3) : (F0 l).Nodup := (f0_rises l).imp (fun h => by omega)
theorem bestGo_range (l : List Chg3) (rd : Rd) (own : List UInt8) : ∀ (G : List Nat) (k : Nat) (b r : Nat × Int), b.2 ≤ 100 → (0 ≤ b.2 → b.1 < k) → bestGo l rd own G k b = .ok r → r.2 ≤ 100 ∧ (0 ≤ r.2 → r.1 < k + G.length)
 | [], k, b, r, h1, h2, h => by
  cases h
  exact ⟨h1, fun h => by have := h2 h; exact this⟩
 | g :: G, k, b, r, h1, h2, h => by
  rw [bestGo] at h
  split at h
  ·cases h
  ·rename_i d _
   have hr := LineLaw.simC_range (LinesLaw.lns d) (LinesLaw.lns own)
   have := bestGo_range l rd own G (k + 1) _ r (by
    split
    ·exact hr.2
    ·exact h1) (by
    split
    ·exact fun _ => Nat.lt_succ_self k
    ·exact fun h3 => Nat.lt_succ_of_lt (h2 h3)) h
   refine ⟨this.1, fun h3 => ?_⟩
   have := this.2 h3
   simp
   omega
theorem bestR_range {l : List Chg3} {rd : Rd} {G : List Nat} {i : Nat} {r : Nat × Int} (h : bestR l rd G i = .ok r) (h5 : 50 ≤ r.2) : r.2 ≤ 100 ∧ r.1 < G.length := by
 unfold bestR at h
 split at h
 ·cases h
  simp at h5
 ·split at h
  ·cases h
  ·have := bestGo_range l rd _ G 0 (0, -1) r (by simp) (by simp) h
   have h2 := this.2 (by omega)
   exact ⟨this.1, by omega⟩
end RenLaw
namespace RenLaw
structure RelW (l : List Chg3) (s : St) (W Z : List Int) : Prop where
 lenW : W.length = l.length
 lenZ : Z.length = l.length
 gone_ : ∀ g z, goneB (at9 l g) = true → W[g]? = some z → (z < 0 ↔ g ∈ s.1)
 free : ∀ i, i < l.length → frsB (at9 l i) = true → s.2 i = none → W[i]? = some (-1)
 paired : ∀ i g sc, i < l.length → frsB (at9 l i) = true → s.2 i = some (g, sc) → W[i]? = some (g : Int) ∧ Z[i]? = some sc
theorem not_both {x : Chg3} (h1 : goneB x = true) (h2 : frsB x = true) : False := by
 unfold goneB at h1
 unfold frsB at h2
 simp at h1 h2
 exact h1.2 h2.1
theorem relW_start (l : List Chg3) (Z : List Int) (hZ : Z.length = l.length) : RelW l (s0 l) (List.replicate l.length (-1)) Z := by
 refine ⟨by simp, hZ, fun g z hg hw => ?_, fun i hi _ _ => by rw [List.getElem?_replicate, if_pos hi], fun _ _ _ _ _ h => (nomatch h)⟩
 have hgl : g < l.length := by have := (List.getElem?_eq_some_iff.1 hw).1; simpa using this
 rw [List.getElem?_replicate, if_pos hgl] at hw
 cases hw
 exact ⟨fun _ => List.mem_filter.2 ⟨List.mem_range.2 hgl, hg⟩, fun _ => by omega⟩
theorem RelW.take {l : List Chg3} {s : St} {W Z : List Int} {i k g : Nat} {sc : Int} (h : RelW l s W Z) (hI : Inv l s) (hi : i < l.length) (hf : frsB (at9 l i) = true) (hk : s.1[k]? = some g) : RelW l (take9 s i k sc) ((W.set i (g : Int)).set g (i : Int)) (Z.set i sc) := by
 obtain ⟨hg1, hg2⟩ := lt_of_g0 (hI.sub g (List.mem_of_getElem? hk))
 have hm := mem_eraseIdx hI.rises hk
 have hne : g ≠ i := fun e => not_both hg2 (by rw [e]; exact hf)
 refine ⟨by simp [h.lenW], by simp [h.lenZ], fun x z hx hw => ?_, fun j hj hfj hn => ?_, fun j g' sc' hj hfj hp => ?_⟩
 ·rw [show (take9 s i k sc).1 = s.1.eraseIdx k from rfl, hm]
  by_cases hxg : x = g
  ·subst hxg
   rw [List.getElem?_set_self (by simp [h.lenW]; exact hg1)] at hw
   cases hw
   exact ⟨fun h => by omega, fun h => absurd rfl h.2⟩
  ·have hxi : x ≠ i := fun e => not_both hx (by rw [e]; exact hf)
   rw [List.getElem?_set_ne (by omega), List.getElem?_set_ne (by omega)] at hw
   rw [h.gone_ x z hx hw]
   exact ⟨fun h => ⟨h, hxg⟩, fun h => h.1⟩
 ·rw [take9_at hk] at hn
  split at hn
  ·cases hn
  ·rename_i hji
   have hjg : j ≠ g := fun e => not_both hg2 (by rw [← e]; exact hfj)
   rw [List.getElem?_set_ne (by omega), List.getElem?_set_ne (by omega)]
   exact h.free j hj hfj hn
 ·rw [take9_at hk] at hp
  have hjg : j ≠ g := fun e => not_both hg2 (by rw [← e]; exact hfj)
  split at hp
  ·rename_i hji
   cases hp
   subst hji
   exact ⟨by rw [List.getElem?_set_ne (by omega), List.getElem?_set_self (by rw [h.lenW]; exact hj)], by rw [List.getElem?_set_self (by rw [h.lenZ]; exact hj)]⟩
  ·obtain ⟨h1, h2⟩ := h.paired j g' sc' hj hfj hp
   exact ⟨by rw [List.getElem?_set_ne (by omega), List.getElem?_set_ne (by omega)]; exact h1, by rw [List.getElem?_set_ne (by omega)]; exact h2⟩
theorem RelW.neg {l : List Chg3} {s : St} {W Z : List Int} (h : RelW l s W Z) {i : Nat} (hi : i < l.length) (hf : frsB (at9 l i) = true) {z : Int} (hw : W[i]? = some z) : z < 0 ↔ s.2 i = none := by
 rcases hs : s.2 i with _ | ⟨g, sc⟩
 ·have := h.free i hi hf hs
  rw [hw] at this
  cases this
  exact ⟨fun _ => rfl, fun _ => by omega⟩
 ·have := (h.paired i g sc hi hf hs).1
  rw [hw] at this
  cases this
  exact ⟨fun h => by omega, fun h => (nomatch h)⟩
def exFrom (l : List Chg3) (i : Nat) (s : St) : St := (List.range' i (l.length - i)).foldl (fun s i => if frsB (at9 l i) then exact1 l s i else s) s
theorem range_from {n i : Nat} (h : i < n) : List.range' i (n - i) = i :: List.range' (i + 1) (n - (i + 1)) := by
 rw [show n - i = (n - (i + 1)) + 1 by omega, List.range'_succ]
theorem range_out {n i : Nat} (h : n ≤ i) : List.range' i (n - i) = [] := by
 rw [show n - i = 0 by omega]
 rfl
theorem exFrom_start (l : List Chg3) : exFrom l 0 (s0 l) = sE l := by
 unfold exFrom sE F0
 rw [exacts_filter, List.range_eq_range']
 rfl
theorem exFrom_step {l : List Chg3} {i : Nat} (h : i < l.length) (s : St) : exFrom l i s = exFrom l (i + 1) (if frsB (at9 l i) then exact1 l s i else s) := by
 unfold exFrom
 rw [range_from h]
 rfl
theorem exFrom_end {l : List Chg3} {i : Nat} (h : l.length ≤ i) (s : St) : exFrom l i s = s := by
 unfold exFrom
 rw [range_out h]
 rfl
def likesA (l : List Chg3) (rd : Rd) (p : Nat → Bool) : List Nat → St → Except Int St
 | [], s => .ok s
 | i :: F, s => if p i then (match like1 l rd s i with
  | .error z => .error z
  | .ok s' => likesA l rd p F s') else likesA l rd p F s
theorem likes_filter (l : List Chg3) (rd : Rd) (p : Nat → Bool) : ∀ (F : List Nat) (s : St), likes l rd (F.filter p) s = likesA l rd p F s
 | [], _ => rfl
 | i :: F, s => by
  rw [List.filter_cons, likesA]
  split
  ·rw [likes]
   rcases like1 l rd s i with z | s'
   ·rfl
   ·exact likes_filter l rd p F s'
  ·exact likes_filter l rd p F s
def lkFrom (l : List Chg3) (rd : Rd) (i : Nat) (s : St) : Except Int St := likesA l rd (fun k => frsB (at9 l k)) (List.range' i (l.length - i)) s
theorem lkFrom_start (l : List Chg3) (rd : Rd) : lkFrom l rd 0 (sE l) = likes l rd (F0 l) (sE l) := by
 unfold lkFrom F0
 rw [likes_filter, List.range_eq_range']
 rfl
theorem lkFrom_pass {l : List Chg3} {rd : Rd} {i : Nat} (h : i < l.length) {s : St} (hf : frsB (at9 l i) = false) : lkFrom l rd i s = lkFrom l rd (i + 1) s := by
 unfold lkFrom
 rw [range_from h, likesA, if_neg (by rw [hf]; simp)]
theorem lkFrom_done {l : List Chg3} {rd : Rd} {i : Nat} (h : i < l.length) {s : St} {p : Nat × Int} (hp : s.2 i = some p) : lkFrom l rd i s = lkFrom l rd (i + 1) s := by
 unfold lkFrom
 rw [range_from h, likesA]
 split
 ·unfold like1
  rw [hp]
  rfl
 ·rfl
theorem lkFrom_err {l : List Chg3} {rd : Rd} {i : Nat} (h : i < l.length) {s : St} (hf : frsB (at9 l i) = true) (hn : s.2 i = none) {z : Int} (hb : bestR l rd s.1 i = .error z) : lkFrom l rd i s = .error z := by
 unfold lkFrom
 rw [range_from h, likesA, if_pos hf]
 unfold like1
 rw [hn, hb]
 rfl
theorem lkFrom_ok {l : List Chg3} {rd : Rd} {i : Nat} (h : i < l.length) {s : St} (hf : frsB (at9 l i) = true) (hn : s.2 i = none) {b : Nat × Int} (hb : bestR l rd s.1 i = .ok b) : lkFrom l rd i s = lkFrom l rd (i + 1) (if 50 ≤ b.2 then take9 s i b.1 b.2 else s) := by
 unfold lkFrom
 rw [range_from h, likesA, if_pos hf]
 unfold like1
 rw [hn, hb]
 rfl
theorem lkFrom_end {l : List Chg3} {rd : Rd} {i : Nat} (h : l.length ≤ i) (s : St) : lkFrom l rd i s = .ok s := by
 unfold lkFrom
 rw [range_out h]
 rfl
def outTo (l : List Chg3) (f : Nat → Option (Nat × Int)) (i : Nat) : List Ren := pairsOf l f ((List.range i).filter (fun k => frsB (at9 l k)))
theorem outTo_step (l : List Chg3) (f : Nat → Option (Nat × Int)) (i : Nat) : outTo l f (i + 1) = outTo l f i ++ (if frsB (at9 l i) then ((f i).map (fun p => ((at9 l p.1).1, (at9 l i).1, p.2))).toList else []) := by
 unfold outTo pairsOf
 rw [List.range_succ, List.filter_append, List.filterMap_append]
 congr 1
 rw [List.filter_cons]
 split
 ·rw [List.filter_nil, List.filterMap_cons]
  rcases f i with _ | p <;> rfl
 ·rfl
def Rest (G : List Nat) (k j : Nat) : Prop := (∀ x, x ∈ G.drop j ↔ x ∈ G ∧ k ≤ x)
theorem rest_start (G : List Nat) : Rest G 0 0 := fun x => by simp
theorem rest_pass {G : List Nat} {k j : Nat} (h : Rest G k j) (hk : k ∉ G) : Rest G (k + 1) j := fun x => by
 rw [h x]
 constructor
 ·rintro ⟨h1, h2⟩
  refine ⟨h1, ?_⟩
  have : x ≠ k := fun e => hk (e ▸ h1)
  omega
 ·rintro ⟨h1, h2⟩
  exact ⟨h1, by omega⟩
theorem rest_take {G : List Nat} (hp : G.Pairwise (· < ·)) {k j : Nat} (h : Rest G k j) (hk : k ∈ G) : G[j]? = some k ∧ G.drop j = k :: G.drop (j + 1) ∧ Rest G (k + 1) (j + 1) := by
 have hm : k ∈ G.drop j := (h k).2 ⟨hk, Nat.le_refl _⟩
 have hj : j < G.length := by
  rcases Nat.lt_or_ge j G.length with h1 | h1
  ·exact h1
  ·rw [List.drop_eq_nil_of_le h1] at hm
   cases hm
 have hd := List.drop_eq_getElem_cons hj
 have hpd : (G.drop j).Pairwise (· < ·) := hp.sublist (List.drop_sublist _ _)
 have hge : k ≤ G[j] := ((h G[j]).1 (by rw [hd]; exact List.mem_cons_self)).2
 have he : G[j] = k := by
  rw [hd] at hm hpd
  rcases List.mem_cons.1 hm with e | hm
  ·exact e.symm
  ·have := List.rel_of_pairwise_cons hpd hm
   omega
 refine ⟨by rw [List.getElem?_eq_getElem hj, he], by rw [hd, he], fun x => ?_⟩
 have h1 := h x
 rw [hd, he, List.mem_cons] at h1
 rw [hd, he] at hpd
 constructor
 ·intro hx
  have h2 := h1.1 (.inr hx)
  have := List.rel_of_pairwise_cons hpd hx
  exact ⟨h2.1, by omega⟩
 ·rintro ⟨h2, h3⟩
  rcases h1.2 ⟨h2, by omega⟩ with e | hx
  ·omega
  ·exact hx
theorem rest_end {G : List Nat} {n k j : Nat} (h : Rest G k j) (hG : ∀ x ∈ G, x < n) (hk : n ≤ k) : G.drop j = [] := by
 rcases hd : G.drop j with _ | ⟨a, t⟩
 ·rfl
 ·have := (h a).1 (by rw [hd]; simp)
  have := hG a this.1
  omega
end RenLaw
namespace RenLaw
def renOf (l : List Chg3) (i : Nat) (p : Nat × Int) : Ren := ((at9 l p.1).1, (at9 l i).1, p.2)
def fOf (l : List Chg3) (s2 : Nat → Option (Nat × Int)) (z : Int) : Option Ren :=
 if 0 ≤ z then (match (F0 l)[z.toNat]? with
  | some i => (s2 i).map (renOf l i)
  | none => none) else none
theorem fOf_at {l : List Chg3} {s2 : Nat → Option (Nat × Int)} {j i : Nat} (h : (F0 l)[j]? = some i) : fOf l s2 (j : Int) = (s2 i).map (renOf l i) := by
 unfold fOf
 rw [if_pos (by omega), Int.toNat_natCast, h]
theorem fOf_start (l : List Chg3) : fOf l (fun _ => none) = fun _ => none := by
 funext z
 unfold fOf
 split
 ·split <;> rfl
 ·rfl
theorem fOf_upd {l : List Chg3} {s2 : Nat → Option (Nat × Int)} {j i : Nat} (h : (F0 l)[j]? = some i) (p : Nat × Int) (z : Int) : fOf l (upN s2 i (some p)) z = if z = (j : Int) then some (renOf l i p) else fOf l s2 z := by
 by_cases hz : z = (j : Int)
 ·subst hz
  rw [if_pos rfl, fOf_at h]
  unfold upN
  rw [if_pos rfl]
  rfl
 ·rw [if_neg hz]
  unfold fOf
  split
  ·rename_i h0
   rcases hx : (F0 l)[z.toNat]? with _ | i'
   ·rfl
   ·have hne : i' ≠ i := fun e => by
     subst e
     have hj := (List.getElem?_eq_some_iff.1 h)
     have hzz := (List.getElem?_eq_some_iff.1 hx)
     obtain ⟨h1, h2⟩ := hj
     obtain ⟨h3, h4⟩ := hzz
     have := (List.getElem_inj (f0_nodup l)).1 (h4.trans h2.symm)
     omega
    simp only [upN, if_neg hne]
  ·rfl
theorem pairs_take {l : List Chg3} {f : Nat → Option (Nat × Int)} {j i : Nat} (h : (F0 l)[j]? = some i) : pairsOf l f ((F0 l).take (j + 1)) = pairsOf l f ((F0 l).take j) ++ ((f i).map (renOf l i)).toList := by
 unfold pairsOf
 rw [List.take_add_one, h, List.filterMap_append]
 congr 1
end RenLaw
end Go.Proofs.YtphnfcgdpdimbaaGreatDoor
