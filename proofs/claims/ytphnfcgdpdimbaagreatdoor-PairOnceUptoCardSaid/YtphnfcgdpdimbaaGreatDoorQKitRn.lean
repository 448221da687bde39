/-
  Texts merged: RenLaw, RenOnce, RenMap. What each law says and asks stands at its head.
-/
import Derived.Test.YtphnfcgdpdimbaaGreatDoorQKitPm
import Derived.Test.YtphnfcgdpdimbaaGreatDoorQKitLa
import Derived.Test.YtphnfcgdpdimbaaGreatDoorQKitLc
namespace Go.Proofs.YtphnfcgdpdimbaaGreatDoor
namespace RenLaw
def at9 (l : List Chg3) (k : Nat) : Chg3 := l.getD k ([], [], [])
theorem at9_of {l : List Chg3} {k : Nat} {x : Chg3} (h : l[k]? = some x) : at9 l k = x := by
 unfold at9
 rw [List.getD_eq_getElem?_getD, h]
 rfl
def G0 (l : List Chg3) : List Nat := (List.range l.length).filter (fun k => goneB (at9 l k))
def F0 (l : List Chg3) : List Nat := (List.range l.length).filter (fun k => frsB (at9 l k))
theorem range_at (l : List Chg3) : (List.range l.length).map (at9 l) = l := by
 apply List.ext_getElem?
 intro k
 rw [List.getElem?_map]
 by_cases hk : k < l.length
 ·rw [List.getElem?_range hk, List.getElem?_eq_getElem hk]
  simp only [Option.map_some, Option.some.injEq]
  exact at9_of (List.getElem?_eq_getElem hk)
 ·rw [List.getElem?_eq_none (by simp; omega), List.getElem?_eq_none (by omega)]
  rfl
theorem filter_at (l : List Chg3) (p : Chg3 → Bool) : ((List.range l.length).filter (fun k => p (at9 l k))).map (at9 l) = l.filter p := by
 have h := List.filter_map (p := p) (f := at9 l) (l := List.range l.length)
 rw [range_at] at h
 rw [h]
 rfl
theorem g0_map (l : List Chg3) : (G0 l).map (at9 l) = l.filter goneB := filter_at l goneB
theorem f0_map (l : List Chg3) : (F0 l).map (at9 l) = (l.filter (fun x => !goneB x)).filter frsB := by
 rw [List.filter_filter]
 have : (fun x => frsB x && !goneB x) = frsB := by
  funext x
  unfold frsB goneB
  cases hd1 : decide (x.2.1 = []) <;> cases hd2 : decide (x.2.2 = []) <;> rfl
 rw [this]
 exact filter_at l frsB
theorem lt_of_g0 {l : List Chg3} {k : Nat} (h : k ∈ G0 l) : k < l.length ∧ goneB (at9 l k) = true := by
 obtain ⟨h1, h2⟩ := List.mem_filter.1 h
 exact ⟨List.mem_range.1 h1, h2⟩
theorem lt_of_f0 {l : List Chg3} {k : Nat} (h : k ∈ F0 l) : k < l.length ∧ frsB (at9 l k) = true := by
 obtain ⟨h1, h2⟩ := List.mem_filter.1 h
 exact ⟨List.mem_range.1 h1, h2⟩
theorem range_rises (n : Nat) : (List.range n).Pairwise (· < ·) := List.pairwise_lt_range
theorem g0_rises (l : List Chg3) : (G0 l).Pairwise (· < ·) := (range_rises _).filter _
theorem f0_rises (l : List Chg3) : (F0 l).Pairwise (· < ·) := (range_rises _).filter _
abbrev St := List Nat × (Nat → Option (Nat × Int))
def upN (f : Nat → Option (Nat × Int)) (i : Nat) (o : Option (Nat × Int)) : Nat → Option (Nat × Int) := fun y => if y = i then o else f y
def take9 (s : St) (i k : Nat) (sc : Int) : St := (s.1.eraseIdx k, upN s.2 i ((s.1[k]?).map (fun g => (g, sc))))
def exact1 (l : List Chg3) (s : St) (i : Nat) : St :=
 match s.1.findIdx? (fun g => decide ((at9 l g).2.1 = (at9 l i).2.2)) with
 | none => s
 | some k => take9 s i k 100
def exacts (l : List Chg3) : List Nat → St → St
 | [], s => s
 | i :: F, s => exacts l F (exact1 l s i)
abbrev Rd := List UInt8 → Except Int (List UInt8)
def bestGo (l : List Chg3) (rd : Rd) (own : List UInt8) : List Nat → Nat → Nat × Int → Except Int (Nat × Int)
 | [], _, b => .ok b
 | g :: G, k, b => match rd (at9 l g).2.1 with
  | .error z => .error z
  | .ok d => bestGo l rd own G (k + 1) (if b.2 < LineLaw.simC (LinesLaw.lns d) (LinesLaw.lns own) then (k, LineLaw.simC (LinesLaw.lns d) (LinesLaw.lns own)) else b)
def bestR (l : List Chg3) (rd : Rd) (G : List Nat) (i : Nat) : Except Int (Nat × Int) :=
 if G = [] then .ok (0, -1) else match rd (at9 l i).2.2 with
  | .error z => .error z
  | .ok own => bestGo l rd own G 0 (0, -1)
def like1 (l : List Chg3) (rd : Rd) (s : St) (i : Nat) : Except Int St :=
 if (s.2 i).isSome then .ok s else match bestR l rd s.1 i with
  | .error z => .error z
  | .ok b => .ok (if 50 ≤ b.2 then take9 s i b.1 b.2 else s)
def likes (l : List Chg3) (rd : Rd) : List Nat → St → Except Int St
 | [], s => .ok s
 | i :: F, s => match like1 l rd s i with
  | .error z => .error z
  | .ok s' => likes l rd F s'
def pairsOf (l : List Chg3) (f : Nat → Option (Nat × Int)) (F : List Nat) : List Ren := F.filterMap (fun i => (f i).map (fun p => ((at9 l p.1).1, (at9 l i).1, p.2)))
def s0 (l : List Chg3) : St := (G0 l, fun _ => none)
def sE (l : List Chg3) : St := exacts l (F0 l) (s0 l)
def renM (l : List Chg3) (rd : Rd) : Except Int (List Ren) :=
 match likes l rd (F0 l) (sE l) with
 | .error z => .error z
 | .ok s => .ok (pairsOf l s.2 (F0 l))
theorem mem_eraseIdx {G : List Nat} {k g : Nat} (hp : G.Pairwise (· < ·)) (hk : G[k]? = some g) (x : Nat) : x ∈ G.eraseIdx k ↔ x ∈ G ∧ x ≠ g := by
 induction G generalizing k with
 | nil => simp at hk
 | cons a G ih =>
  cases k with
  | zero =>
   simp only [List.getElem?_cons_zero, Option.some.injEq] at hk
   subst hk
   rw [List.eraseIdx_cons_zero]
   constructor
   ·intro h
    have := List.rel_of_pairwise_cons hp h
    exact ⟨List.mem_cons_of_mem _ h, by omega⟩
   ·rintro ⟨h1, h2⟩
    rcases List.mem_cons.1 h1 with h | h
    ·exact absurd h h2
    ·exact h
  | succ k =>
   rw [List.getElem?_cons_succ] at hk
   rw [List.eraseIdx_cons_succ, List.mem_cons, List.mem_cons, ih hp.of_cons hk]
   have hg := List.rel_of_pairwise_cons hp (List.mem_of_getElem? hk)
   constructor
   ·rintro (h | ⟨h1, h2⟩)
    ·exact ⟨.inl h, by omega⟩
    ·exact ⟨.inr h1, h2⟩
   ·rintro ⟨h1 | h1, h2⟩
    ·exact .inl h1
    ·exact .inr ⟨h1, h2⟩
end RenLaw
namespace RenLaw
structure Inv (l : List Chg3) (s : St) : Prop where
 rises : s.1.Pairwise (· < ·)
 sub : ∀ g ∈ s.1, g ∈ G0 l
 pair : ∀ i g sc, s.2 i = some (g, sc) → i ∈ F0 l ∧ g ∈ G0 l ∧ g ∉ s.1 ∧ 50 ≤ sc ∧ sc ≤ 100
 inj : ∀ i j g sc sc', s.2 i = some (g, sc) → s.2 j = some (g, sc') → i = j
 all : ∀ g ∈ G0 l, g ∈ s.1 ∨ ∃ i sc, s.2 i = some (g, sc)
theorem inv_start (l : List Chg3) : Inv l (s0 l) :=
 ⟨g0_rises l, fun _ h => h, fun _ _ _ h => (nomatch h), fun _ _ _ _ _ h => (nomatch h), fun _ h => .inl h⟩
theorem take9_at {s : St} {i k g : Nat} {sc : Int} (hk : s.1[k]? = some g) (j : Nat) : (take9 s i k sc).2 j = if j = i then some (g, sc) else s.2 j := by
 unfold take9 upN
 rw [hk]
 rfl
theorem Inv.take {l : List Chg3} {s : St} {i k g : Nat} {sc : Int} (h : Inv l s) (hi : i ∈ F0 l) (hn : s.2 i = none) (hk : s.1[k]? = some g) (h1 : 50 ≤ sc) (h2 : sc ≤ 100) : Inv l (take9 s i k sc) := by
 have hg := List.mem_of_getElem? hk
 have hm := mem_eraseIdx h.rises hk
 refine ⟨?_, ?_, ?_, ?_, ?_⟩
 ·exact h.rises.sublist (List.eraseIdx_sublist _ _)
 ·intro x hx
  exact h.sub x ((hm x).1 hx).1
 ·intro j g' sc' hj
  rw [take9_at hk] at hj
  split at hj
  ·rename_i e
   cases hj
   rw [e]
   exact ⟨hi, h.sub g hg, fun hx => ((hm g).1 hx).2 rfl, h1, h2⟩
  ·obtain ⟨p1, p2, p3, p4⟩ := h.pair j g' sc' hj
   exact ⟨p1, p2, fun hx => p3 ((hm g').1 hx).1, p4⟩
 ·intro a b g' sc1 sc2 ha hb
  rw [take9_at hk] at ha hb
  split at ha <;> split at hb
  ·rename_i e1 e2
   rw [e1, e2]
  ·cases ha
   exact absurd hg (h.pair b g sc2 hb).2.2.1
  ·cases hb
   exact absurd hg (h.pair a g sc1 ha).2.2.1
  ·exact h.inj a b g' sc1 sc2 ha hb
 ·intro x hx
  by_cases hxg : x = g
  ·exact .inr ⟨i, sc, by rw [take9_at hk, if_pos rfl, hxg]⟩
  ·rcases h.all x hx with h3 | ⟨j, sc', h3⟩
   ·exact .inl ((hm x).2 ⟨h3, hxg⟩)
   ·refine .inr ⟨j, sc', ?_⟩
    rw [take9_at hk, if_neg (fun e => by rw [e, hn] at h3; cases h3)]
    exact h3
abbrev sameB (l : List Chg3) (g i : Nat) : Prop := (at9 l g).2.1 = (at9 l i).2.2
theorem exact1_ways (l : List Chg3) (s : St) (i : Nat) : (exact1 l s i = s ∧ ∀ g ∈ s.1, ¬ sameB l g i) ∨ ∃ k g, s.1[k]? = some g ∧ sameB l g i ∧ exact1 l s i = take9 s i k 100 := by
 unfold exact1
 rcases hf : s.1.findIdx? (fun g => decide ((at9 l g).2.1 = (at9 l i).2.2)) with _ | k
 ·refine .inl ⟨rfl, fun g hg => ?_⟩
  have := (List.findIdx?_eq_none_iff.1 hf) g hg
  exact of_decide_eq_false this
 ·obtain ⟨hk, hp, _⟩ := List.findIdx?_eq_some_iff_getElem.1 hf
  exact .inr ⟨k, s.1[k], List.getElem?_eq_getElem hk, of_decide_eq_true hp, rfl⟩
structure InvX (l : List Chg3) (done : List Nat) (s : St) : Prop extends Inv l s where
 full : ∀ i g sc, s.2 i = some (g, sc) → sc = 100 ∧ i ∈ done
 none_ : ∀ i ∈ done, s.2 i = none → ∀ g ∈ s.1, ¬ sameB l g i
theorem exacts_inv (l : List Chg3) : ∀ (F done : List Nat) (s : St), (done ++ F).Nodup → (∀ i ∈ F, i ∈ F0 l) → InvX l done s → InvX l (done ++ F) (exacts l F s)
 | [], done, s, _, _, h => by rw [List.append_nil]; exact h
 | i :: F, done, s, hd, hF, h => by
  have e : done ++ i :: F = (done ++ [i]) ++ F := by simp
  rw [exacts, e]
  rw [e] at hd
  refine exacts_inv l F (done ++ [i]) _ hd (fun j hj => hF j (List.mem_cons_of_mem _ hj)) ?_
  have hni : i ∉ done := by
   have h2 := (List.nodup_append.1 hd).1
   have h3 := (List.nodup_append.1 h2).2.2
   intro hm
   exact h3 i hm i (by simp) rfl
  have hsi : s.2 i = none := by
   rcases hx : s.2 i with _ | ⟨g, sc⟩
   ·rfl
   ·exact absurd (h.full i g sc hx).2 hni
  rcases exact1_ways l s i with ⟨e1, hno⟩ | ⟨k, g, hk, hs, e1⟩
  ·rw [e1]
   refine { toInv := h.toInv, full := fun j g sc hj => ?_, none_ := fun j hj hn g hg => ?_ }
   ·obtain ⟨h1, h2⟩ := h.full j g sc hj
    exact ⟨h1, List.mem_append_left _ h2⟩
   ·rcases List.mem_append.1 hj with hj | hj
    ·exact h.none_ j hj hn g hg
    ·rw [List.mem_singleton.1 hj]
     exact hno g hg
  ·rw [e1]
   refine { toInv := h.toInv.take (hF i (by simp)) hsi hk (by omega) (by omega), full := fun j g' sc hj => ?_, none_ := fun j hj hn x hx => ?_ }
   ·rw [take9_at hk] at hj
    split at hj
    ·rename_i e2
     cases hj
     exact ⟨rfl, by rw [e2]; simp⟩
    ·obtain ⟨h1, h2⟩ := h.full j g' sc hj
     exact ⟨h1, List.mem_append_left _ h2⟩
   ·rw [take9_at hk] at hn
    split at hn
    ·cases hn
    ·rename_i hne
     have hx2 := ((mem_eraseIdx h.rises hk x).1 hx).1
     rcases List.mem_append.1 hj with hj | hj
     ·exact h.none_ j hj hn x hx2
     ·exact absurd (List.mem_singleton.1 hj) hne
theorem f0_nodup (l : List Chg3) : (F0 l).Nodup := (f0_rises l).imp (fun h => by omega)
theorem sE_inv (l : List Chg3) : InvX l (F0 l) (sE l) := by
 have h := exacts_inv l (F0 l) [] (s0 l) (by simpa using f0_nodup l) (fun _ h => h) { toInv := inv_start l, full := fun _ _ _ h => (nomatch h), none_ := fun _ h => (nomatch h) }
 rw [List.nil_append] at h
 exact h
theorem bestGo_range (l : List Chg3) (rd : Rd) (own : List UInt8) : ∀ (G : List Nat) (k : Nat) (b r : Nat × Int), b.2 ≤ 100 → (0 ≤ b.2 → b.1 < k) → bestGo l rd own G k b = .ok r → r.2 ≤ 100 ∧ (0 ≤ r.2 → r.1 < k + G.length)
 | [], k, b, r, h1, h2, h => by
  cases h
  exact ⟨h1, fun h => by have := h2 h; exact this⟩
 | g :: G, k, b, r, h1, h2, h => by
  rw [bestGo] at h
  split at h
  ·cases h
  ·rename_i d _
   have hr := LineLaw.simC_range (LinesLaw.lns d) (LinesLaw.lns own)
   have := bestGo_range l rd own G (k + 1) _ r (by
    split
    ·exact hr.2
    ·exact h1) (by
    split
    ·exact fun _ => Nat.lt_succ_self k
    ·exact fun h3 => Nat.lt_succ_of_lt (h2 h3)) h
   refine ⟨this.1, fun h3 => ?_⟩
   have := this.2 h3
   simp
   omega
theorem bestR_range {l : List Chg3} {rd : Rd} {G : List Nat} {i : Nat} {r : Nat × Int} (h : bestR l rd G i = .ok r) (h5 : 50 ≤ r.2) : r.2 ≤ 100 ∧ r.1 < G.length := by
 unfold bestR at h
 split at h
 ·cases h
  simp at h5
 ·split at h
  ·cases h
  ·have := bestGo_range l rd _ G 0 (0, -1) r (by simp) (by simp) h
   have h2 := this.2 (by omega)
   exact ⟨this.1, by omega⟩
structure InvL (l : List Chg3) (s : St) : Prop extends Inv l s where
 left : ∀ g ∈ s.1, g ∈ (sE l).1
 free : ∀ i, s.2 i = none → (sE l).2 i = none
 full : ∀ i g sc, s.2 i = some (g, sc) → sameB l g i → sc = 100
theorem sE_invL (l : List Chg3) : InvL l (sE l) := { toInv := (sE_inv l).toInv, left := fun _ h => h, free := fun _ h => h, full := fun i g sc h _ => ((sE_inv l).full i g sc h).1 }
theorem like1_inv {l : List Chg3} {rd : Rd} {s s' : St} {i : Nat} (hi : i ∈ F0 l) (h : InvL l s) (hs : like1 l rd s i = .ok s') : InvL l s' := by
 unfold like1 at hs
 split at hs
 ·cases hs
  exact h
 ·rename_i hni
  have hn : s.2 i = none := by simpa using hni
  split at hs
  ·cases hs
  ·rename_i b hb
   cases hs
   split
   ·rename_i h5
    obtain ⟨h1, h2⟩ := bestR_range hb h5
    obtain ⟨g, hk⟩ : ∃ g, s.1[b.1]? = some g := ⟨s.1[b.1], List.getElem?_eq_getElem h2⟩
    have hm := mem_eraseIdx h.rises hk
    have hgm := List.mem_of_getElem? hk
    refine { toInv := h.toInv.take hi hn hk h5 h1, left := fun x hx => h.left x ((hm x).1 hx).1, free := fun j hj => ?_, full := fun j g' sc hj hs => ?_ }
    ·rw [take9_at hk] at hj
     split at hj
     ·cases hj
     ·exact h.free j hj
    ·rw [take9_at hk] at hj
     split at hj
     ·rename_i e
      cases hj
      rw [e] at hs
      exact absurd hs ((sE_inv l).none_ i hi (h.free i hn) g (h.left g hgm))
     ·exact h.full j g' sc hj hs
   ·exact h
theorem likes_inv {l : List Chg3} {rd : Rd} : ∀ {F : List Nat} {s s' : St}, (∀ i ∈ F, i ∈ F0 l) → InvL l s → likes l rd F s = .ok s' → InvL l s'
 | [], s, s', _, h, hs => by cases hs; exact h
 | i :: F, s, s', hF, h, hs => by
  rw [likes] at hs
  split at hs
  ·cases hs
  ·rename_i s1 h1
   exact likes_inv (fun j hj => hF j (List.mem_cons_of_mem _ hj)) (like1_inv (hF i (by simp)) h h1) hs
theorem renM_ok {l : List Chg3} {rd : Rd} {r : List Ren} (h : renM l rd = .ok r) : ∃ s, InvL l s ∧ r = pairsOf l s.2 (F0 l) := by
 unfold renM at h
 split at h
 ·cases h
 ·rename_i s hs
  cases h
  exact ⟨s, likes_inv (fun _ h => h) (sE_invL l) hs, rfl⟩
theorem bestGo_err (l : List Chg3) (rd : Rd) (own : List UInt8) : ∀ (G : List Nat) (k : Nat) (b : Nat × Int) (z : Int), bestGo l rd own G k b = .error z → ∃ id, rd id = .error z
 | [], _, _, _, h => by cases h
 | g :: G, k, b, z, h => by
  rw [bestGo] at h
  split at h
  ·rename_i z' hz
   cases h
   exact ⟨_, hz⟩
  ·exact bestGo_err l rd own G _ _ z h
theorem likes_err {l : List Chg3} {rd : Rd} : ∀ {F : List Nat} {s : St} {z : Int}, likes l rd F s = .error z → ∃ id, rd id = .error z
 | [], _, _, h => by cases h
 | i :: F, s, z, h => by
  rw [likes] at h
  split at h
  ·rename_i z' hz
   cases h
   unfold like1 at hz
   split at hz
   ·cases hz
   ·split at hz
    ·rename_i z2 hb
     cases hz
     unfold bestR at hb
     split at hb
     ·cases hb
     ·split at hb
      ·rename_i z3 h3
       cases hb
       exact ⟨_, h3⟩
      ·exact bestGo_err l rd _ _ _ _ _ hb
    ·cases hz
  ·exact likes_err h
theorem renM_err {l : List Chg3} {rd : Rd} {z : Int} (h : renM l rd = .error z) : ∃ id, rd id = .error z := by
 unfold renM at h
 split at h
 ·rename_i z' hz
  cases h
  exact likes_err hz
 ·cases h
theorem pairs_mem {l : List Chg3} {s : St} (h : InvL l s) {x : Ren} (hx : x ∈ pairsOf l s.2 (F0 l)) : ∃ g i, g < l.length ∧ i < l.length ∧ goneB (at9 l g) = true ∧ frsB (at9 l i) = true ∧ x.1 = (at9 l g).1 ∧ x.2.1 = (at9 l i).1 ∧ 50 ≤ x.2.2 ∧ x.2.2 ≤ 100 ∧ (sameB l g i → x.2.2 = 100) := by
 obtain ⟨i, hi, hp⟩ := List.mem_filterMap.1 hx
 rcases hs : s.2 i with _ | ⟨g, sc⟩
 ·rw [hs] at hp
  cases hp
 ·rw [hs] at hp
  obtain rfl := Option.some.inj hp
  obtain ⟨h1, h2, h3, h4, h5⟩ := h.pair i g sc hs
  obtain ⟨a1, a2⟩ := lt_of_g0 h2
  obtain ⟨b1, b2⟩ := lt_of_f0 h1
  exact ⟨g, i, a1, b1, a2, b2, rfl, rfl, h4, h5, h.full i g sc hs⟩
theorem path_inj {l : List Chg3} (hu : (l.map (·.1)).Nodup) {a b : Nat} (ha : a < l.length) (hb : b < l.length) (he : (at9 l a).1 = (at9 l b).1) : a = b := by
 rw [at9_of (List.getElem?_eq_getElem ha), at9_of (List.getElem?_eq_getElem hb)] at he
 have h1 : (l.map (·.1))[a]'(by simpa using ha) = (l.map (·.1))[b]'(by simpa using hb) := by simpa using he
 exact (List.getElem_inj hu).1 h1
theorem pairs_apart {l : List Chg3} (hu : (l.map (·.1)).Nodup) {s : St} (h : InvL l s) : (pairsOf l s.2 (F0 l)).Pairwise (fun x y => x.1 ≠ y.1 ∧ x.2.1 ≠ y.2.1) := by
 unfold pairsOf
 rw [List.pairwise_filterMap]
 refine (f0_nodup l).imp_of_mem (fun {a b} ha hb hne x hx y hy => ?_)
 rcases hs : s.2 a with _ | ⟨g, sc⟩
 ·rw [hs] at hx
  cases hx
 rcases hs2 : s.2 b with _ | ⟨g2, sc2⟩
 ·rw [hs2] at hy
  cases hy
 rw [hs] at hx
 rw [hs2] at hy
 obtain rfl := Option.some.inj hx
 obtain rfl := Option.some.inj hy
 refine ⟨fun e => ?_, fun e => ?_⟩
 ·have e2 : g = g2 := path_inj hu (lt_of_g0 (h.pair a g sc hs).2.1).1 (lt_of_g0 (h.pair b g2 sc2 hs2).2.1).1 e
  subst e2
  exact hne (h.inj a b g sc sc2 hs hs2)
 ·exact hne (path_inj hu (lt_of_f0 ha).1 (lt_of_f0 hb).1 e)
theorem pairs_same {l : List Chg3} {s : St} (h : InvL l s) {g i : Nat} (hg : g ∈ G0 l) (hi : i ∈ F0 l) (hs : sameB l g i) : ∃ x ∈ pairsOf l s.2 (F0 l), x.1 = (at9 l g).1 ∨ x.2.1 = (at9 l i).1 := by
 have hmem : ∀ {j g' : Nat} {sc : Int}, s.2 j = some (g', sc) → ((at9 l g').1, (at9 l j).1, sc) ∈ pairsOf l s.2 (F0 l) := fun {j g' sc} hj =>
  List.mem_filterMap.2 ⟨j, (h.pair j g' sc hj).1, by rw [hj]; rfl⟩
 rcases hp : s.2 i with _ | ⟨g', sc⟩
 ·rcases h.all g hg with h1 | ⟨j, sc, hj⟩
  ·exact absurd hs ((sE_inv l).none_ i hi (h.free i hp) g (h.left g h1))
  ·exact ⟨_, hmem hj, .inl rfl⟩
 ·exact ⟨_, hmem hp, .inr rfl⟩
end RenLaw
namespace RenLaw
def renOf (l : List Chg3) (i : Nat) (p : Nat × Int) : Ren := ((at9 l p.1).1, (at9 l i).1, p.2)
def fOf (l : List Chg3) (s2 : Nat → Option (Nat × Int)) (z : Int) : Option Ren :=
 if 0 ≤ z then (match (F0 l)[z.toNat]? with
  | some i => (s2 i).map (renOf l i)
  | none => none) else none
theorem fOf_at {l : List Chg3} {s2 : Nat → Option (Nat × Int)} {j i : Nat} (h : (F0 l)[j]? = some i) : fOf l s2 (j : Int) = (s2 i).map (renOf l i) := by
 unfold fOf
 rw [if_pos (by omega), Int.toNat_natCast, h]
theorem fOf_start (l : List Chg3) : fOf l (fun _ => none) = fun _ => none := by
 funext z
 unfold fOf
 split
 ·split <;> rfl
 ·rfl
theorem fOf_upd {l : List Chg3} {s2 : Nat → Option (Nat × Int)} {j i : Nat} (h : (F0 l)[j]? = some i) (p : Nat × Int) (z : Int) : fOf l (upN s2 i (some p)) z = if z = (j : Int) then some (renOf l i p) else fOf l s2 z := by
 by_cases hz : z = (j : Int)
 ·subst hz
  rw [if_pos rfl, fOf_at h]
  unfold upN
  rw [if_pos rfl]
  rfl
 ·rw [if_neg hz]
  unfold fOf
  split
  ·rename_i h0
   rcases hx : (F0 l)[z.toNat]? with _ | i'
   ·rfl
   ·have hne : i' ≠ i := fun e => by
     subst e
     have hj := (List.getElem?_eq_some_iff.1 h)
     have hzz := (List.getElem?_eq_some_iff.1 hx)
     obtain ⟨h1, h2⟩ := hj
     obtain ⟨h3, h4⟩ := hzz
     have := (List.getElem_inj (f0_nodup l)).1 (h4.trans h2.symm)
     omega
    simp only [upN, if_neg hne]
  ·rfl
theorem pairs_take {l : List Chg3} {f : Nat → Option (Nat × Int)} {j i : Nat} (h : (F0 l)[j]? = some i) : pairsOf l f ((F0 l).take (j + 1)) = pairsOf l f ((F0 l).take j) ++ ((f i).map (renOf l i)).toList := by
 unfold pairsOf
 rw [List.take_add_one, h, List.filterMap_append]
 congr 1
def fromV (l : List Chg3) (p : List UInt8) : List UInt8 := l.foldl (fun acc c => if c.1 = p ∧ c.2.2 = [] then c.2.1 else acc) []
def toV (l : List Chg3) (p : List UInt8) : List UInt8 := l.foldl (fun acc c => if c.1 = p ∧ c.2.1 = [] then c.2.2 else acc) []
theorem fold_one {P : Chg3 → Prop} [DecidablePred P] (val : Chg3 → List UInt8) {l : List Chg3} {g : Nat} {x : Chg3} (hg : l[g]? = some x) (hx : P x) (hu : ∀ j y, l[j]? = some y → P y → j = g) (acc : List UInt8) : l.foldl (fun acc c => if P c then val c else acc) acc = val x := by
 induction l generalizing g acc with
 | nil => simp at hg
 | cons a l ih =>
  rw [List.foldl_cons]
  cases g with
  | zero =>
   simp only [List.getElem?_cons_zero, Option.some.injEq] at hg
   subst hg
   rw [if_pos hx]
   have hno : ∀ y ∈ l, ¬ P y := fun y hy hp => by
    obtain ⟨j, hj⟩ := List.getElem?_of_mem hy
    have := hu (j + 1) y (by simpa using hj) hp
    omega
   clear ih hu
   generalize val a = v
   induction l generalizing v with
   | nil => rfl
   | cons b l ih =>
    rw [List.foldl_cons, if_neg (hno b (by simp))]
    exact ih (fun y hy => hno y (List.mem_cons_of_mem _ hy)) v
  | succ g =>
   rw [List.getElem?_cons_succ] at hg
   exact ih hg (fun j y hj hp => by have := hu (j + 1) y (by simpa using hj) hp; omega) _
theorem path_at {l : List Chg3} (hu : (l.map (·.1)).Nodup) {g j : Nat} {y : Chg3} (hg : g < l.length) (hj : l[j]? = some y) (he : y.1 = (at9 l g).1) : j = g :=
 path_inj hu (List.getElem?_eq_some_iff.1 hj).1 hg (by rw [at9_of hj]; exact he)
theorem at9_lt {l : List Chg3} {g : Nat} (h : g < l.length) : l[g]? = some (at9 l g) := by
 rw [at9_of (List.getElem?_eq_getElem h)]
 exact List.getElem?_eq_getElem h
theorem fromV_of {l : List Chg3} (hu : (l.map (·.1)).Nodup) {g : Nat} (hg : g < l.length) (hb : goneB (at9 l g) = true) : fromV l (at9 l g).1 = (at9 l g).2.1 := by
 have h2 : (at9 l g).2.2 = [] := by
  unfold goneB at hb
  simp at hb
  exact hb.1
 exact fold_one (P := fun c => c.1 = (at9 l g).1 ∧ c.2.2 = []) (fun c => c.2.1) (at9_lt hg) ⟨rfl, h2⟩ (fun j y hj hp => path_at hu hg hj hp.1) []
theorem toV_of {l : List Chg3} (hu : (l.map (·.1)).Nodup) {i : Nat} (hi : i < l.length) (hb : frsB (at9 l i) = true) : toV l (at9 l i).1 = (at9 l i).2.2 := by
 have h2 : (at9 l i).2.1 = [] := by
  unfold frsB at hb
  simp at hb
  exact hb.1
 exact fold_one (P := fun c => c.1 = (at9 l i).1 ∧ c.2.1 = []) (fun c => c.2.2) (at9_lt hi) ⟨rfl, h2⟩ (fun j y hj hp => path_at hu hi hj hp.1) []
theorem once_pair {l : List Chg3} (hu : (l.map (·.1)).Nodup) {s : St} (h : InvL l s) {x : Ren} (hx : x ∈ pairsOf l s.2 (F0 l)) : fromV l x.1 ≠ [] ∧ toV l x.2.1 ≠ [] ∧ 50 ≤ x.2.2 ∧ x.2.2 ≤ 100 ∧ (fromV l x.1 = toV l x.2.1 → x.2.2 = 100) := by
 obtain ⟨g, i, hg, hi, h1, h2, e1, e2, h3, h4, h5⟩ := pairs_mem h hx
 have f1 := fromV_of hu hg h1
 have f2 := toV_of hu hi h2
 rw [e1, e2, f1, f2]
 have n1 : (at9 l g).2.1 ≠ [] := by
  unfold goneB at h1
  simp at h1
  exact h1.2
 have n2 : (at9 l i).2.2 ≠ [] := by
  unfold frsB at h2
  simp at h2
  exact h2.2
 exact ⟨n1, n2, h3, h4, h5⟩
theorem once_same {l : List Chg3} {s : St} (h : InvL l s) {i k : Nat} {x y : Chg3} (hi : l[i]? = some x) (hk : l[k]? = some y) (hx : x.2.2 = []) (hx2 : x.2.1 ≠ []) (hy : y.2.1 = []) (he : x.2.1 = y.2.2) : ∃ r ∈ pairsOf l s.2 (F0 l), r.1 = x.1 ∨ r.2.1 = y.1 := by
 have ex := at9_of hi
 have ey := at9_of hk
 have gi : i ∈ G0 l := List.mem_filter.2 ⟨List.mem_range.2 (List.getElem?_eq_some_iff.1 hi).1, by rw [ex]; unfold goneB; simp [hx, hx2]⟩
 have gk : k ∈ F0 l := List.mem_filter.2 ⟨List.mem_range.2 (List.getElem?_eq_some_iff.1 hk).1, by rw [ey]; unfold frsB; simp [hy, ← he, hx2]⟩
 have := pairs_same h gi gk (by show (at9 l i).2.1 = (at9 l k).2.2; rw [ex, ey]; exact he)
 rw [ex, ey] at this
 exact this
end RenLaw
end Go.Proofs.YtphnfcgdpdimbaaGreatDoor
