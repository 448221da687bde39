/-
  The document's index: Conflict. Conditions: paths are shorter than 2147483648 bytes; no more than 999990 entries.
-/
import Derived.Test.YtjcelelgebohkaaGreatDoorRiSet
namespace Go.Proofs.YtjcelelgebohkaaGreatDoor
open Go.RowKit
open PathLaw (under)
open IdxLaw (Ent Key zE three)

def threeAll (p a b c : List UInt8) : List Ent := [⟨p, 1, a, 0, 0⟩, ⟨p, 2, b, 0, 0⟩, ⟨p, 3, c, 0, 0⟩]
def full (e : Ent) : Bool := !decide (e.id = [])
def addAll (l es : List Ent) : List Ent := es.foldl (fun l e => insE e l) l
theorem addAll_len (es : List Ent) : ∀ l, (addAll l es).length = l.length + es.length := by
  induction es with
  | nil => intro l; rfl
  | cons e es ih => intro l; show (addAll (insE e l) es).length = _; rw [ih, insE_len, List.length_cons]; omega
theorem addAll_snoc (l es : List Ent) (e : Ent) : addAll l (es ++ [e]) = insE e (addAll l es) := by simp [addAll]
/-- what the document's Conflict answers and leaves -/
def rconf (l : List Ent) (p a b c : List UInt8) : Nat × List Ent := if three p a b c = [] ∨ (three p a b c).any (fun e => !IdxLaw.right e) = true then (1, l) else (0, addAll (l.filter (rkeep false p)) (three p a b c))
theorem three_full (p a b c : List UInt8) : three p a b c = (threeAll p a b c).filter full := rfl
theorem rightC {p s : List UInt8} {k : Int} (h1 : 1 ≤ k) (h3 : k ≤ 3) : IdxLaw.right ⟨p, k, s, 0, 0⟩ = (PathLaw.named p && decide (s.length = 32)) := by
  unfold IdxLaw.right IdxLaw.bare IdxLaw.inN
  have : decide (0 ≤ k) = true := decide_eq_true (by omega)
  simp [h3, this]
theorem three_at {p a b c : List UInt8} {k : Nat} (hk : k < 3) : ∃ s, (threeAll p a b c)[k]? = some ⟨p, ((k + 1 : Nat) : Int), s, 0, 0⟩ ∧ ([a, b, c] : List (List UInt8))[k]? = some s := by
  match k, hk with
  | 0, _ => exact ⟨a, rfl, rfl⟩
  | 1, _ => exact ⟨b, rfl, rfl⟩
  | 2, _ => exact ⟨c, rfl, rfl⟩
theorem three_right {p a b c : List UInt8} {e : Ent} (h : e ∈ threeAll p a b c) : IdxLaw.right e = (PathLaw.named p && decide (e.id.length = 32)) := by
  simp only [threeAll, List.mem_cons, List.not_mem_nil, or_false] at h
  rcases h with rfl | rfl | rfl <;> exact rightC (by omega) (by omega)
theorem conf_bad {l : List Ent} {p a b c : List UInt8} {e : Ent} (h : e ∈ threeAll p a b c) (h1 : e.id ≠ []) (h2 : e.id.length ≠ 32) : rconf l p a b c = (1, l) := by
  refine if_pos (.inr ?_)
  rw [List.any_eq_true]
  refine ⟨e, ?_, by rw [three_right h]; simp [h2]⟩
  rw [three_full, List.mem_filter]
  exact ⟨h, by simp [full, h1]⟩
theorem conf_none {l : List Ent} {p a b c : List UInt8} (h : three p a b c = []) : rconf l p a b c = (1, l) := if_pos (.inl h)
theorem conf_unnamed {l : List Ent} {p a b c : List UInt8} (h : PathLaw.named p = false) : rconf l p a b c = (1, l) := by
  cases h0 : three p a b c with
  | nil => exact conf_none h0
  | cons e r =>
    refine if_pos (.inr ?_)
    rw [List.any_eq_true]
    have hm : e ∈ three p a b c := by rw [h0]; simp
    refine ⟨e, hm, ?_⟩
    rw [three_full, List.mem_filter] at hm
    rw [three_right hm.1, h]
    rfl
theorem conf_good {l : List Ent} {p a b c : List UInt8} (hn : PathLaw.named p = true) (h0 : three p a b c ≠ []) (hg : ∀ e ∈ threeAll p a b c, e.id ≠ [] → e.id.length = 32) : rconf l p a b c = (0, addAll (l.filter (rkeep false p)) (three p a b c)) := by
  refine if_neg ?_
  rintro (h | h)
  · exact h0 h
  · rw [List.any_eq_true] at h
    obtain ⟨e, hm, h⟩ := h
    rw [three_full, List.mem_filter] at hm
    rw [three_right hm.1, hn, hg e hm.1 (by simpa [full] using hm.2)] at h
    simp at h
def cntT (p a b c : List UInt8) (k : Nat) : Nat := (((threeAll p a b c).take k).filter full).length

set_option maxRecDepth 100000 in
set_option maxHeartbeats 8000000 in
theorem rconflict_any (E : Nat → Prop) (w : World) (q : Nat) (l : List Ent) (p a b c : List UInt8) (hR : RIx E w q l) (hn : l.length ≤ 999990) (hp : p.length ≤ 2147483648) (hl : ∀ e ∈ l, e.path.length ≤ maxLen) :
    Calls Tryz.prog 25 #[.pointer (some ⟨q, 0, none⟩), S p, S a, S b, S c] w fun e w' => e = .returned (I ((rconf l p a b c).1 : Nat)) ∧ RIx E w' q (rconf l p a b c).2 ∧ Fr (fun k => k = q) w w' := by
  have hq := hR.2.1 q hR.1
  have HI := Lib.hid (hR.step (balloc (Below.refl _ w) (.cells #[S a, S b, S c] 9)))
  have HG := Lib.hid (Blk.new w 9 #[S a, S b, S c])
  have HF0 := Lib.hid (Fr.of_below (E := fun k => k = q) (balloc (Below.refl _ w) (.cells #[S a, S b, S c] 9)))
  have C1 := Lib.hid (fun W => rnamed_any p W hp)
  have C2 := Lib.hid (fun W h => rclear_any E W q l p false h (Nat.le_trans hn (by decide)) (Nat.le_trans hp (by decide)) hl)
  have C3 := Lib.hid (fun W k s (hk : k < 3) h => radd_any E W q (addAll (l.filter (rkeep false p)) (((threeAll p a b c).take k).filter full)) ⟨p, ((k + 1 : Nat) : Int), s, 0, 0⟩ h (by
    rw [addAll_len]
    have h1 := List.length_filter_le (rkeep false p) l
    have h2 := filter_le (threeAll p a b c) full k
    omega))
  obtain ⟨g, hg⟩ : ∃ g, g = w.heap.size := ⟨_, rfl⟩
  have Hgq : Hid (¬ g = q) := Lib.hid (by omega)
  have HX : Hid (∀ W k s, Blk W g 9 #[S a, S b, S c] → ([a, b, c] : List (List UInt8))[k]? = some s → W.cell? ⟨g, k, none⟩ = some (S s)) := Lib.hid (fun W k s hb hs => by
    refine (hb.cell k).trans ?_
    match k, hs with
    | 0, hs => cases hs; rfl
    | 1, hs => cases hs; rfl
    | 2, hs => cases hs; rfl)
  clear hR hl
  go_enter Tryz.func25, Tryz.ntmps25
  go_wp2
  rw [← hg] at HG
  simp only [← hg]
  obtain ⟨w1, hw1⟩ : ∃ w1, w1 = w.alloc (.cells #[S a, S b, S c] 9) := ⟨_, rfl⟩
  rw [← hw1] at HG HI HF0
  simp only [← hw1]
  clear hw1 hg
  go_loopw [12, 13] (fun n i wr => ∃ k : Nat, k ≤ 3 ∧ i = .int .i64 k ∧ n = .int .i64 (cntT p a b c k) ∧ wr = w1 ∧ Hid (∀ e ∈ (threeAll p a b c).take k, e.id ≠ [] → e.id.length = 32)) (fun _ i _ => 3 - (intOf i).toNat)
  case atStart => exact ⟨0, Nat.zero_le _, rfl, rfl, rfl, Lib.hid (fun e he => by simp at he)⟩
  case round =>
    obtain ⟨k, hk, rfl, rfl, rfl, HK⟩ := hrel
    by_cases hlt : k < 3
    · obtain ⟨s, h3, hs⟩ := three_at (p := p) (a := a) (b := b) (c := c) hlt
      have x0 := HX.out wr k s HG.out hs
      have H3 := Lib.hid h3
      have Hst := Lib.hid (filter_step (f := full) h3)
      clear hs h3
      by_cases h0 : s = []
      · have Hc : Hid (cntT p a b c (k + 1) = cntT p a b c k) := Lib.hid (by unfold cntT; rw [Hst.out]; simp [full, h0])
        have HK2 : Hid (∀ e ∈ (threeAll p a b c).take (k + 1), e.id ≠ [] → e.id.length = 32) := Lib.hid (fun e he hne => by
          rw [List.take_add_one, H3.out] at he
          simp only [Option.toList_some, List.mem_append, List.mem_singleton] at he
          rcases he with he | rfl
          · exact HK.out e he hne
          · exact absurd h0 hne)
        have e0 : (s == []) = true := beq_iff_eq.2 h0
        clear h0 HK Hst H3
        go_wp2
        go_roundw
        case rel => exact ⟨k + 1, by omega, by go_num, by rw [Hc.out], trivial, HK2⟩
        case measure => simp [intOf]; omega
      · have e0 : (s == []) = false := beq_eq_false_iff_ne.2 h0
        by_cases h32 : s.length = 32
        · have Hc : Hid (cntT p a b c (k + 1) = cntT p a b c k + 1) := Lib.hid (by unfold cntT; rw [Hst.out]; simp [full, h0])
          have HK2 : Hid (∀ e ∈ (threeAll p a b c).take (k + 1), e.id ≠ [] → e.id.length = 32) := Lib.hid (fun e he hne => by
            rw [List.take_add_one, H3.out] at he
            simp only [Option.toList_some, List.mem_append, List.mem_singleton] at he
            rcases he with he | rfl
            · exact HK.out e he hne
            · exact h32)
          have hcl : cntT p a b c k ≤ 3 := Nat.le_trans (filter_le _ _ _) hk
          have e1 : ((s.length : Int) == 32) = true := by rw [h32]; rfl
          clear h0 HK Hst H3 h32
          go_wp2
          go_roundw
          case rel => exact ⟨k + 1, by omega, by go_num, by rw [Hc.out]; go_num, trivial, HK2⟩
          case measure => simp [intOf]; omega
        · have Hr := Lib.hid (conf_bad (l := l) (List.mem_of_getElem? H3.out) h0 h32)
          have e1 : ((s.length : Int) == 32) = false := beq_eq_false_iff_ne.2 (fun e => h32 (Int.ofNat.inj e))
          have hcl : cntT p a b c k ≤ 3 := Nat.le_trans (filter_le _ _ _) hk
          clear h0 HK Hst H3 h32
          go_wp2
          go_ret
          rw [Hr.out]
          exact ⟨rfl, HI.out, HF0.out⟩
    · obtain rfl : k = 3 := by omega
      have HK3 : Hid (∀ e ∈ threeAll p a b c, e.id ≠ [] → e.id.length = 32) := HK
      have hc3 : cntT p a b c 3 = (three p a b c).length := rfl
      have hcl : (three p a b c).length ≤ 3 := IdxLaw.three_len
      obtain ⟨n, hn3⟩ : ∃ n, n = (three p a b c).length := ⟨_, rfl⟩
      rw [hc3, ← hn3]
      rw [← hn3] at hcl
      have Hn := Lib.hid hn3
      clear hc3 hn3 HK hlt
      cases hnm : PathLaw.named p with
      | false =>
        rw [hnm] at C1
        have Hr := Lib.hid (conf_unnamed (l := l) (a := a) (b := b) (c := c) hnm)
        clear hnm
        go_wp2_with (go_at_call 62; refine (C1.out _).mono ?_; rintro e w2 ⟨rfl, b2⟩; have B2 := Lib.hid b2; clear b2)
        go_ret
        rw [Hr.out]
        exact ⟨rfl, HI.out.step B2.out, HF0.out.step B2.out⟩
      | true =>
        rw [hnm] at C1
        by_cases h0 : n = 0
        · have Hr := Lib.hid (conf_none (l := l) (List.eq_nil_of_length_eq_zero (Hn.out.symm.trans h0)))
          subst h0
          clear hnm
          go_wp2_with (go_at_call 62; refine (C1.out _).mono ?_; rintro e w2 ⟨rfl, b2⟩; have B2 := Lib.hid b2; clear b2)
          go_ret
          rw [Hr.out]
          exact ⟨rfl, HI.out.step B2.out, HF0.out.step B2.out⟩
        · have Hr := Lib.hid (conf_good (l := l) hnm (fun e => h0 (by rw [Hn.out, e]; rfl)) HK3.out)
          have e0 : ((n : Int) == 0) = false := beq_eq_false_iff_ne.2 (fun e => h0 (Int.ofNat.inj e))
          clear hnm h0
          go_wp2_with (first
            | (go_at_call 62; refine (C1.out _).mono ?_; rintro e w2 ⟨rfl, b2⟩; have B2 := Lib.hid b2; clear b2)
            | (go_at_call 63; refine (C2.out _ (HI.out.step B2.out)).mono ?_; rintro e w3 ⟨rfl, hI3, hF3⟩; have HI3 := Lib.hid hI3; have HF3 := Lib.hid ((HF0.out.step B2.out).trans hF3); have HG3 := Lib.hid (hF3.blk (HG.out.step B2.out) Hgq.out); clear hI3 hF3))
          go_loopw [14] (fun i wr => ∃ k : Nat, k ≤ 3 ∧ i = .int .i64 k ∧ Hid (RIx E wr q (addAll (l.filter (rkeep false p)) (((threeAll p a b c).take k).filter full))) ∧ Hid (Fr (fun k => k = q) w wr) ∧ Hid (Blk wr g 9 #[S a, S b, S c])) (fun i _ => 3 - (intOf i).toNat)
          case atStart => exact ⟨0, Nat.zero_le _, rfl, HI3, HF3, HG3⟩
          case round =>
            obtain ⟨k, hk, rfl, hI, hF, hG⟩ := hrel
            by_cases hlt : k < 3
            · obtain ⟨s, h3, hs⟩ := three_at (p := p) (a := a) (b := b) (c := c) hlt
              have x0 := HX.out wr k s hG.out hs
              have Hst := Lib.hid (filter_step (f := full) h3)
              clear hs h3
              by_cases h0 : s = []
              · have Hc : Hid (((threeAll p a b c).take (k + 1)).filter full = ((threeAll p a b c).take k).filter full) := Lib.hid (by rw [Hst.out]; simp [full, h0])
                have e1 : (s == []) = true := beq_iff_eq.2 h0
                clear h0 Hst
                go_wp2
                go_roundw
                case rel => exact ⟨k + 1, by omega, by go_num, Lib.hid (by rw [Hc.out]; exact hI.out), hF, hG⟩
                case measure => simp [intOf]; omega
              · have Hc : Hid (((threeAll p a b c).take (k + 1)).filter full = ((threeAll p a b c).take k).filter full ++ [⟨p, ((k + 1 : Nat) : Int), s, 0, 0⟩]) := Lib.hid (by rw [Hst.out]; simp [full, h0])
                have e1 : (s == []) = false := beq_eq_false_iff_ne.2 h0
                have C4 := Lib.hid (C3.out wr k s hlt hI.out)
                clear h0 Hst
                go_wp2_with (go_at_call 64; refine C4.out.mono ?_; rintro e w4 ⟨rfl, hI4, hF4⟩; have HI4 := Lib.hid hI4; have HF4 := Lib.hid (hF.out.trans hF4); have HG4 := Lib.hid (hF4.blk hG.out Hgq.out); clear hI4 hF4)
                go_roundw
                case rel => exact ⟨k + 1, by omega, by go_num, Lib.hid (by rw [Hc.out, addAll_snoc]; exact HI4.out), HF4, HG4⟩
                case measure => simp [intOf]; omega
            · obtain rfl : k = 3 := by omega
              go_wp2
              go_ret
              rw [Hr.out]
              exact ⟨rfl, hI.out, hF.out⟩
end Go.Proofs.YtjcelelgebohkaaGreatDoor
