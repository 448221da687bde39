/-
  The plan functions' contracts in one form each, the same for the program and the reference. Conditions: slices read as lists, within the form's reach.
-/
import Derived.Test.YtgcbolijdgecgaaPlanRefDec
namespace Go.Proofs.Ytgcbolijdgecgaa
open Go.RowKit

def zeroP : Pl := ⟨0, [], 0, [], [], 0⟩
abbrev plOf (p : Pl) (A : Option Addr) (n c : Nat) : Value := plV p.kind A n c p.at_ p.orig p.who p.stamp

open Classical in
/-- what Encode makes: bytes, an error -/
noncomputable def encL (p : Pl) : List UInt8 := if PlanOk p then encP p.kind.toNat p.steps p.at_.toNat p.orig p.who p.stamp.toNat else []
def encE (p : Pl) : Int := if PlanOk p then 0 else 1
open Classical in
/-- what Decode makes: a plan, an error -/
noncomputable def decP (b : List UInt8) : Pl := if DecOk b then ⟨(gotOf b).kind, (gotOf b).ss, (gotOf b).at_, (gotOf b).orig, (gotOf b).who, (gotOf b).stamp⟩ else zeroP
open Classical in
noncomputable def decE (b : List UInt8) : Int := if DecOk b then 0 else 2
/-- what Next makes -/
def nextS (p : Pl) : List UInt8 := if PlanOk p then (p.steps[p.at_.toNat]?).getD [] else []
def nextP (p : Pl) : Pl := if PlanOk p ∧ p.at_.toNat + 1 < p.steps.length then { p with at_ := (p.at_.toNat + 1 : Nat) } else zeroP
def nextB (p : Pl) : Bool := decide (PlanOk p ∧ p.at_.toNat + 1 < p.steps.length)

def RetE (w : World) (l : List UInt8) (ev : Int) (e : Ending) (w' : World) : Prop := ∃ A m c, e = .returned (.tuple #[.slice A m c, I ev]) ∧ Sl w' 1 A m (u8s l) ∧ m ≤ c ∧ Below w.heap.size w w'
def RetD (w : World) (p : Pl) (ev : Int) (e : Ending) (w' : World) : Prop := ∃ A n c, e = .returned (.tuple #[plOf p A n c, I ev]) ∧ Sl w' 1 A n (strs p.steps) ∧ n ≤ 4096 ∧ Below w.heap.size w w'
def RetN (w : World) (s : List UInt8) (p : Pl) (m : Bool) (e : Ending) (w' : World) : Prop := ∃ A n c, e = .returned (.tuple #[S s, plOf p A n c, .bool m]) ∧ Sl w' 1 A n (strs p.steps) ∧ n ≤ 4096 ∧ Below w.heap.size w w'

theorem nat_of {p : Pl} (h : PlanOk p) : p = ⟨(p.kind.toNat : Int), p.steps, (p.at_.toNat : Int), p.orig, p.who, (p.stamp.toNat : Int)⟩ := by
  obtain ⟨⟨_, _, h1, _, _, _, h2, _⟩, h3, _⟩ := h
  cases p with
  | mk kind steps at_ orig who stamp =>
    simp only at h1 h2 h3
    simp only [Pl.mk.injEq, true_and]
    omega

theorem encode_uni (p : Pl) (A : Option Addr) (n c : Nat) (w : World) (hA : Sl w 1 A n (strs p.steps)) : Calls Try.prog 10 #[plOf p A n c] w (RetE w (encL p) (encE p)) := by
  by_cases h : PlanOk p
  · have h' := h
    rw [nat_of h] at h'
    have e : plOf p A n c = plV (p.kind.toNat : Int) A n c (p.at_.toNat : Int) p.orig p.who (p.stamp.toNat : Int) := by
      conv => lhs; rw [nat_of h]
    rw [e]
    refine (encode_ok p.kind.toNat p.at_.toNat p.stamp.toNat A n c p.orig p.who p.steps w hA h').mono ?_
    rintro e w' ⟨A', m, c', rfl, ho⟩
    refine ⟨A', m, c', by rw [encE, if_pos h], by rw [encL, if_pos h]; exact ho.sl, ho.cap.1, ho.2⟩
  · refine (encode_no p.kind A n c p.at_ p.orig p.who p.stamp p.steps w hA h).mono ?_
    rintro e w' ⟨rfl, hb⟩
    exact ⟨none, 0, 0, by rw [encE, if_neg h], by rw [encL, if_neg h]; exact Sl.nil_, Nat.le_refl _, hb⟩
theorem refEncode_uni (p : Pl) (A : Option Addr) (n c : Nat) (w : World) (hA : Sl w 1 A n (strs p.steps)) : Calls Try.prog 11 #[plOf p A n c] w (RetE w (encL p) (encE p)) := by
  by_cases h : PlanOk p
  · have h' := h
    rw [nat_of h] at h'
    have e : plOf p A n c = plV (p.kind.toNat : Int) A n c (p.at_.toNat : Int) p.orig p.who (p.stamp.toNat : Int) := by
      conv => lhs; rw [nat_of h]
    rw [e]
    refine (refEncode_ok p.kind.toNat p.at_.toNat p.stamp.toNat A n c p.orig p.who p.steps w hA h').mono ?_
    rintro e w' ⟨A', m, c', rfl, ho⟩
    refine ⟨A', m, c', by rw [encE, if_pos h], by rw [encL, if_pos h]; exact ho.sl, ho.cap.1, ho.2⟩
  · refine (refEncode_no p.kind A n c p.at_ p.orig p.who p.stamp p.steps w hA h).mono ?_
    rintro e w' ⟨rfl, hb⟩
    exact ⟨none, 0, 0, by rw [encE, if_neg h], by rw [encL, if_neg h]; exact Sl.nil_, Nat.le_refl _, hb⟩

theorem retD_of {w w' : World} {b : List UInt8} {e : Ending} (h : RetDec w b e w') : RetD w (decP b) (decE b) e w' := by
  rcases h with ⟨hd, A, n, c, rfl, hS, hn, hb⟩ | ⟨hd, rfl, hb⟩
  · refine ⟨A, n, c, ?_, ?_, hn, hb⟩
    · rw [decE, if_pos hd, decP, if_pos hd]
    · rw [decP, if_pos hd]; exact hS
  · refine ⟨none, 0, 0, ?_, ?_, by omega, hb⟩
    · rw [decE, if_neg hd, decP, if_neg hd]; rfl
    · rw [decP, if_neg hd]; exact Sl.nil_
theorem decode_uni (A : Option Addr) (n c : Nat) (b : List UInt8) (w : World) (hA : Sl w 1 A n (u8s b)) (hc : n ≤ c) (hn : n ≤ 140737488351232) : Calls Try.prog 12 #[.slice A n c] w (RetD w (decP b) (decE b)) :=
  (decode_any A n c b w hA hc hn).mono fun _ _ h => retD_of h
theorem refDecode_uni (A : Option Addr) (n c : Nat) (b : List UInt8) (w : World) (hA : Sl w 1 A n (u8s b)) (hc : n ≤ c) (hn : n ≤ 140737488351232) : Calls Try.prog 13 #[.slice A n c] w (RetD w (decP b) (decE b)) :=
  (refDecode_any A n c b w hA hc hn).mono fun _ _ h => retD_of h

theorem next_uni (p : Pl) (A : Option Addr) (n c : Nat) (w : World) (hA : Sl w 1 A n (strs p.steps)) : Calls Try.prog 8 #[plOf p A n c] w (RetN w (nextS p) (nextP p) (nextB p)) := by
  have hl := strs_len hA
  by_cases h : PlanOk p
  · have hat : p.at_.toNat < n := by have := h.1.2.2.2.1; have h0 := h.1.2.2.1; omega
    have hn4 : n ≤ 4096 := by have := h.1.2.1; omega
    have h' : PlanOk ⟨p.kind, p.steps, (p.at_.toNat : Int), p.orig, p.who, p.stamp⟩ := by
      have h0 := h.1.2.2.1
      rw [show ((p.at_.toNat : Nat) : Int) = p.at_ by omega]; exact h
    have e : plOf p A n c = plV p.kind A n c (p.at_.toNat : Int) p.orig p.who p.stamp := by
      have h0 := h.1.2.2.1
      rw [show ((p.at_.toNat : Nat) : Int) = p.at_ by omega]
    obtain ⟨s, hs⟩ : ∃ s, p.steps[p.at_.toNat]? = some s := ⟨_, List.getElem?_eq_getElem (by omega)⟩
    have hS : nextS p = s := by rw [nextS, if_pos h, hs]; rfl
    rw [e, hS]
    by_cases hm : p.at_.toNat + 1 < n
    · have hc : PlanOk p ∧ p.at_.toNat + 1 < p.steps.length := ⟨h, by omega⟩
      refine (next_more p.kind A n c p.at_.toNat p.orig p.who p.stamp p.steps s w hA h' hm hs).mono ?_
      rintro e w' ⟨A', c', rfl, ho⟩
      refine ⟨A', n, c', ?_, ?_, hn4, ho.2⟩
      · rw [nextB, decide_eq_true hc, nextP, if_pos hc]
      · rw [nextP, if_pos hc]; exact ho.sl
    · have hc : ¬ (PlanOk p ∧ p.at_.toNat + 1 < p.steps.length) := fun hh => hm (by omega)
      refine (next_last p.kind A n c p.at_.toNat p.orig p.who p.stamp p.steps s w hA h' (by omega) hs).mono ?_
      rintro e w' ⟨rfl, hb⟩
      refine ⟨none, 0, 0, ?_, ?_, by omega, hb⟩
      · rw [nextB, decide_eq_false hc, nextP, if_neg hc]; rfl
      · rw [nextP, if_neg hc]; exact Sl.nil_
  · have hc : ¬ (PlanOk p ∧ p.at_.toNat + 1 < p.steps.length) := fun hh => h hh.1
    refine (next_no p.kind A n c p.at_ p.orig p.who p.stamp p.steps w hA h).mono ?_
    rintro e w' ⟨rfl, hb⟩
    refine ⟨none, 0, 0, ?_, ?_, by omega, hb⟩
    · rw [nextB, decide_eq_false hc, nextP, if_neg hc, nextS, if_neg h]; rfl
    · rw [nextP, if_neg hc]; exact Sl.nil_
theorem refNext_uni (p : Pl) (A : Option Addr) (n c : Nat) (w : World) (hA : Sl w 1 A n (strs p.steps)) : Calls Try.prog 14 #[plOf p A n c] w (RetN w (nextS p) (nextP p) (nextB p)) := by
  have hl := strs_len hA
  by_cases h : PlanOk p
  · have hat : p.at_.toNat < n := by have := h.1.2.2.2.1; have h0 := h.1.2.2.1; omega
    have hn4 : n ≤ 4096 := by have := h.1.2.1; omega
    have h' : PlanOk ⟨p.kind, p.steps, (p.at_.toNat : Int), p.orig, p.who, p.stamp⟩ := by
      have h0 := h.1.2.2.1
      rw [show ((p.at_.toNat : Nat) : Int) = p.at_ by omega]; exact h
    have e : plOf p A n c = plV p.kind A n c (p.at_.toNat : Int) p.orig p.who p.stamp := by
      have h0 := h.1.2.2.1
      rw [show ((p.at_.toNat : Nat) : Int) = p.at_ by omega]
    obtain ⟨s, hs⟩ : ∃ s, p.steps[p.at_.toNat]? = some s := ⟨_, List.getElem?_eq_getElem (by omega)⟩
    have hS : nextS p = s := by rw [nextS, if_pos h, hs]; rfl
    rw [e, hS]
    by_cases hm : p.at_.toNat + 1 < n
    · have hc : PlanOk p ∧ p.at_.toNat + 1 < p.steps.length := ⟨h, by omega⟩
      refine (refNext_more p.kind A n c p.at_.toNat p.orig p.who p.stamp p.steps s w hA h' hm hs).mono ?_
      rintro e w' ⟨A', c', rfl, ho⟩
      refine ⟨A', n, c', ?_, ?_, hn4, ho.2⟩
      · rw [nextB, decide_eq_true hc, nextP, if_pos hc]
      · rw [nextP, if_pos hc]; exact ho.sl
    · have hc : ¬ (PlanOk p ∧ p.at_.toNat + 1 < p.steps.length) := fun hh => hm (by omega)
      refine (refNext_last p.kind A n c p.at_.toNat p.orig p.who p.stamp p.steps s w hA h' (by omega) hs).mono ?_
      rintro e w' ⟨rfl, hb⟩
      refine ⟨none, 0, 0, ?_, ?_, by omega, hb⟩
      · rw [nextB, decide_eq_false hc, nextP, if_neg hc]; rfl
      · rw [nextP, if_neg hc]; exact Sl.nil_
  · have hc : ¬ (PlanOk p ∧ p.at_.toNat + 1 < p.steps.length) := fun hh => h hh.1
    refine (refNext_no p.kind A n c p.at_ p.orig p.who p.stamp p.steps w hA h).mono ?_
    rintro e w' ⟨rfl, hb⟩
    refine ⟨none, 0, 0, ?_, ?_, by omega, hb⟩
    · rw [nextB, decide_eq_false hc, nextP, if_neg hc, nextS, if_neg h]; rfl
    · rw [nextP, if_neg hc]; exact Sl.nil_
theorem check_uni (p : Pl) (A : Option Addr) (n c : Nat) (w : World) (hA : Sl w 1 A n (strs p.steps)) : Calls Try.prog 7 #[plOf p A n c] w fun e w' => e = .returned (I (encE p)) ∧ Below w.heap.size w w' := by
  have := check_any p.kind A n c p.at_ p.orig p.who p.stamp p.steps w hA
  exact this

/-- there and back -/
theorem dec_enc {p : Pl} (h : PlanOk p) : decP (encL p) = p ∧ decE (encL p) = 0 := by
  have h' := h
  rw [nat_of h] at h'
  have hg := got_enc h'
  have he : encL p = encP p.kind.toNat p.steps p.at_.toNat p.orig p.who p.stamp.toNat := by rw [encL, if_pos h]
  have hd : DecOk (encL p) := by
    rw [he]; unfold DecOk; rw [hg]; exact ⟨rfl, h', rfl⟩
  refine ⟨?_, by rw [decE, if_pos hd]⟩
  rw [decP, if_pos hd, he, hg]
  exact (nat_of h).symm
end Go.Proofs.Ytgcbolijdgecgaa
