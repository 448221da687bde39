/-
  dolmenref17: touch, pair. Conditions: slices of regions read as lists.
-/
import Derived.Test.YtpnogcblafmaiaaDoorLineSim
import Derived.Test.YtpnogcblafmaiaaDoorBlendLaw5
import Derived.Test.YtpnogcblafmaiaaDoorFrame
namespace Go.Proofs.YtpnogcblafmaiaaDoor
open Go.RowKit
open BlendLaw (Rg touch)

/-- a region's cells, its sides in block g -/
def rqc (e : Nat × Rg) : List Value := [I e.2.lo, I e.2.hi, .slice (some ⟨e.1, 0, none⟩) 2 2]
def rqs (L : List (Nat × Rg)) : List Value := L.flatMap rqc
theorem rqs_len (L : List (Nat × Rg)) : (rqs L).length = L.length * 3 := by
  induction L with
  | nil => rfl
  | cons h l ih => rw [rqs, List.flatMap_cons, List.length_append, ← rqs, ih]; simp [rqc]; omega
theorem rqs_append (l k : List (Nat × Rg)) : rqs (l ++ k) = rqs l ++ rqs k := by simp [rqs]
theorem rqs_one (h : Nat × Rg) : rqs [h] = rqc h := by simp [rqs]
theorem one_rqs (L : List (Nat × Rg)) : ∀ u ∈ rqs L, u.oneCell' = true := by
  intro u hu
  obtain ⟨h, _, hu⟩ := List.mem_flatMap.1 hu
  simp [rqc] at hu
  rcases hu with rfl | rfl | rfl <;> rfl
theorem rqs_at : ∀ {L : List (Nat × Rg)} {k : Nat} {e : Nat × Rg}, L[k]? = some e → ∀ j, j < 3 → (rqs L)[k * 3 + j]? = (rqc e)[j]?
  | a :: t, 0, e, h, j, hj => by
    obtain rfl : a = e := by simpa using h
    rw [rqs, List.flatMap_cons, Nat.zero_mul, Nat.zero_add, List.getElem?_append_left (by simp [rqc]; omega)]
  | a :: t, k + 1, e, h, j, hj => by
    rw [rqs, List.flatMap_cons, List.getElem?_append_right (by simp [rqc]; omega), ← rqs]
    have ih := rqs_at (L := t) (k := k) (e := e) (by simpa using h) j hj
    rw [← ih]
    congr 1
    simp [rqc]; omega
/-- regions in memory -/
structure RQ (w : World) (A : Option Addr) (n : Nat) (L : List (Nat × Rg)) : Prop where
  sl : Sl w 3 A n (rqs L)
  bl : ∀ e ∈ L, Blk w e.1 4 #[.bool e.2.t0, .bool e.2.t1]
section
variable {w w' : World} {A : Option Addr} {n k : Nat} {L : List (Nat × Rg)}
theorem RQ.step (h : RQ w A n L) (hb : Below w.heap.size w w') : RQ w' A n L := ⟨h.sl.below hb, fun e he => (h.bl e he).step hb⟩
theorem RQ.len (h : RQ w A n L) : L.length = n := by have := h.sl.1; rw [rqs_len] at this; omega
theorem RQ.nil_ : RQ w A 0 [] := ⟨Sl.nil_, fun e he => by cases he⟩
theorem RQ.at_ (h : RQ w A n L) (hk : k < n) : ∃ b off e, A = some ⟨b, off, none⟩ ∧ b < w.heap.size ∧ L[k]? = some e ∧
    w.cell? ⟨b, off + k * 3, none⟩ = some (I e.2.lo) ∧ w.cell? ⟨b, off + k * 3 + 1, none⟩ = some (I e.2.hi) ∧ w.cell? ⟨b, off + k * 3 + 2, none⟩ = some (.slice (some ⟨e.1, 0, none⟩) 2 2) := by
  obtain ⟨b, off, rfl, hb, hc⟩ := h.sl.2 (by omega)
  have hl := h.len
  obtain ⟨x, hx⟩ : ∃ x, L[k]? = some x := ⟨L[k]'(by omega), List.getElem?_eq_getElem _⟩
  refine ⟨b, off, x, rfl, hb, hx, ?_, ?_, ?_⟩
  · have := (hc (k * 3 + 0) (by omega)).trans (rqs_at hx 0 (by omega)); simpa [rqc] using this
  · have := (hc (k * 3 + 1) (by omega)).trans (rqs_at hx 1 (by omega)); simpa [rqc, Nat.add_assoc] using this
  · have := (hc (k * 3 + 2) (by omega)).trans (rqs_at hx 2 (by omega)); simpa [rqc, Nat.add_assoc] using this
end
def touchB (a b : Rg) : Bool := decide (b.lo ≤ a.hi ∧ a.lo ≤ b.hi)
theorem touch_t {a b : Rg} (h : touchB a b = true) : touch a b := by unfold touchB at h; exact (of_decide_eq_true h : b.lo ≤ a.hi ∧ a.lo ≤ b.hi)
theorem touch_f {a b : Rg} (h : touchB a b = false) : ¬ touch a b := by unfold touchB at h; exact (of_decide_eq_false h : ¬ (b.lo ≤ a.hi ∧ a.lo ≤ b.hi))
theorem touch_any (a b : Rg) (s0 s1 : Value) (w : World) (_h0 : s0.oneCell' = true) (_h1 : s1.oneCell' = true) :
    Calls Tryd.prog 72 #[.agg #[I a.lo, I a.hi, s0], .agg #[I b.lo, I b.hi, s1]] w fun e w' => e = .returned (.bool (touchB a b)) ∧ Below w.heap.size w w' := by
  by_cases c0 : b.lo ≤ a.hi
  · have d0 : decide (b.lo ≤ a.hi) = true := decide_eq_true c0
    by_cases c1 : a.lo ≤ b.hi
    · have d1 : decide (a.lo ≤ b.hi) = true := decide_eq_true c1
      have e : touchB a b = true := decide_eq_true ⟨c0, c1⟩
      rw [e]
      clear e
      go_enter Tryd.func72, Tryd.ntmps72
      go_wp2
      go_ret
      exact ⟨rfl, balloc (balloc (Below.refl _ _) _) _⟩
    · have d1 : decide (a.lo ≤ b.hi) = false := decide_eq_false c1
      have e : touchB a b = false := decide_eq_false (fun h => c1 h.2)
      rw [e]
      clear e
      go_enter Tryd.func72, Tryd.ntmps72
      go_wp2
      go_ret
      exact ⟨rfl, balloc (balloc (Below.refl _ _) _) _⟩
  · have d0 : decide (b.lo ≤ a.hi) = false := decide_eq_false c0
    have e : touchB a b = false := decide_eq_false (fun h => c0 h.1)
    rw [e]
    clear e
    go_enter Tryd.func72, Tryd.ntmps72
    go_wp2
    go_ret
    exact ⟨rfl, balloc (balloc (Below.refl _ _) _) _⟩

/-- two that touch, or none -/
def PairPost (w : World) (L : List (Nat × Rg)) (e : Ending) (w' : World) : Prop :=
  ((∃ i k a b, e = .returned (.tuple #[I (i : Nat), I (k : Nat)]) ∧ k < i ∧ L[i]? = some a ∧ L[k]? = some b ∧ touch a.2 b.2) ∨ (e = .returned (.tuple #[I (-1), I (-1)]) ∧ BlendLaw.Loose (L.map (·.2)))) ∧ Below w.heap.size w w'
/-- none touches so far -/
def NoT (L : List (Nat × Rg)) (i k : Nat) : Prop := ∀ i' k' a b, k' < i' → (i' < i ∨ i' = i ∧ k' < k) → L[i']? = some a → L[k']? = some b → ¬ touch a.2 b.2
set_option maxHeartbeats 1000000 in
theorem pair_any (A : Option Addr) (n c : Nat) (L : List (Nat × Rg)) (w : World) (hA : RQ w A n L) (hn : n ≤ 1000000) :
    Calls Tryd.prog 59 #[.slice A n c] w (PairPost w L) := by
  have HA := Lib.hid hA
  clear hA
  go_enter Tryd.func59, Tryd.ntmps59
  go_wp2
  go_loopw [4] (fun i wr => ∃ k : Nat, k ≤ n ∧ i = .int .i64 k ∧ Hid (Below w.heap.size w wr) ∧ Hid (NoT L k 0)) (fun i _ => n - (intOf i).toNat)
  case atStart => exact ⟨0, Nat.zero_le _, rfl, Lib.hid (Below.refl _ _), Lib.hid (fun i' k' a b h1 h2 _ _ => by omega)⟩
  case round =>
    obtain ⟨i, hi, rfl, HB, HN⟩ := hrel
    by_cases hlt : i < n
    · go_wp2
      go_loopw [5] (fun s5 wr => ∃ k : Nat, k ≤ i ∧ s5 = .int .i64 k ∧ Hid (Below w.heap.size w wr) ∧ Hid (NoT L i k)) (fun s5 _ => i - (intOf s5).toNat)
      case atStart => exact ⟨0, Nat.zero_le _, rfl, HB, HN⟩
      case round =>
        clear HB HN
        obtain ⟨k, hk, rfl, HB, HN⟩ := hrel
        by_cases hlt2 : k < i
        · have hQ := HA.out.step HB.out
          obtain ⟨b, off, x, rfl, hb, hx, x0, x1, x2⟩ := hQ.at_ hlt
          obtain ⟨b', off', y, e', _, hy, y0, y1, y2⟩ := hQ.at_ (show k < n by omega)
          cases e'
          have hkn : k < n := by omega
          have Hx := Lib.hid hx
          have Hy := Lib.hid hy
          obtain ⟨v, hv⟩ : ∃ v, touchB x.2 y.2 = v := ⟨_, rfl⟩
          have HC := Lib.hid (fun W => touch_any x.2 y.2 (.slice (some ⟨x.1, 0, none⟩) 2 2) (.slice (some ⟨y.1, 0, none⟩) 2 2) W rfl rfl)
          simp only [hv] at HC
          have Hv := Lib.hid hv
          clear hQ hx hy hv
          cases v with
          | true =>
            go_wp2
            go_region_law ((go_simp; go_at_call 72; refine (HC.out _).mono ?_; rintro e3 w3 ⟨rfl, hb3⟩))
            all_goals
              have HB3 := Lib.hid (bstep (bstep HB.out (Below.refl _ _).drew) hb3)
              clear hb3
              go_wp2
              go_ret2
              exact ⟨.inl ⟨i, k, x, y, rfl, hlt2, Hx.out, Hy.out, touch_t Hv.out⟩, HB3.out⟩
          | false =>
            go_wp2
            go_region_law ((go_simp; go_at_call 72; refine (HC.out _).mono ?_; rintro e3 w3 ⟨rfl, hb3⟩))
            all_goals
              have HB3 := Lib.hid (bstep (bstep HB.out (Below.refl _ _).drew) hb3)
              clear hb3
              go_wp2
              go_roundw
              case rel =>
                refine ⟨k + 1, by omega, by go_num, HB3, Lib.hid (fun i' k' a b h1 h2 h3 h4 => ?_)⟩
                by_cases h5 : i' = i ∧ k' = k
                · obtain ⟨rfl, rfl⟩ := h5
                  rw [Hx.out] at h3
                  rw [Hy.out] at h4
                  cases h3
                  cases h4
                  exact touch_f Hv.out
                · exact HN.out i' k' a b h1 (by omega) h3 h4
              case measure => simp [intOf]; omega
        · obtain rfl : k = i := by omega
          go_wp2
          go_roundw
          case rel => exact ⟨k + 1, by omega, by go_num, HB, Lib.hid (fun i' k' a b h1 h2 h3 h4 => HN.out i' k' a b h1 (by omega) h3 h4)⟩
          case measure => simp [intOf]; omega
    · obtain rfl : i = n := by omega
      go_wp2
      go_ret2
      refine ⟨.inr ⟨rfl, fun i' k' a b h1 h2 h3 => ?_⟩, HB.out⟩
      have hl := HA.out.len
      simp only [List.getElem?_map, Option.map_eq_some_iff] at h2 h3
      obtain ⟨a', h2, rfl⟩ := h2
      obtain ⟨b', h3, rfl⟩ := h3
      have := (List.getElem?_eq_some_iff.1 h2).1
      exact HN.out i' k' a' b' h1 (by omega) h2 h3
end Go.Proofs.YtpnogcblafmaiaaDoor
