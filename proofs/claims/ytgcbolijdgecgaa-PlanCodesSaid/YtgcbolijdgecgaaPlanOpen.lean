/-
  A plan that came in as an argument, opened: its fields, and its steps as a list. No condition.
-/
import Derived.Test.YtgcbolijdgecgaaRow
import Derived.Test.YtgcbolijdgecgaaPlanSteps
namespace Go.Proofs.Ytgcbolijdgecgaa
open Go.Joins Go.ChangeShapes Go.WideShapes Go.RowKit Go.Deep

section
variable {H : Type} {enc : TypeId × Value → H} {P : Program} {w : World} {base : Nat} {spare : Nat → Bool} {held : Bool}
/-- a struct of six fields of one cell each, by value -/
theorem agg_six {r : Reach} {b0 : Nat} {t : TypeId} {f0 f1 f2 f3 f4 f5 : Field} {v : Value} {d : DataW H} {p : List MemPlace} (hs : P.underlying t = some (.struct #[f0, f1, f2, f3, f4, f5])) (hone : oneCellFields P #[f0, f1, f2, f3, f4, f5] = true) (hC : P.cellsOf t = 6)
    (hv : Value.okWide P w r b0 t v) (h : DataW.Trod enc P w base spare held t v d p) :
    ∃ (v0 v1 v2 v3 v4 v5 : Value) (y0 y1 y2 y3 y4 y5 : DataW H × List MemPlace) (n : Nat), v = .agg #[v0, v1, v2, v3, v4, v5] ∧ d = .agg [y0.1, y1.1, y2.1, y3.1, y4.1, y5.1] ∧
      DataW.trod enc P w base spare held n f0.type [v0] = some y0 ∧ DataW.trod enc P w base spare held n f1.type [v1] = some y1 ∧ DataW.trod enc P w base spare held n f2.type [v2] = some y2 ∧ DataW.trod enc P w base spare held n f3.type [v3] = some y3 ∧ DataW.trod enc P w base spare held n f4.type [v4] = some y4 ∧ DataW.trod enc P w base spare held n f5.type [v5] = some y5 := by
  obtain ⟨cs, rfl, hsz⟩ := okWide_struct hs hv
  obtain ⟨l⟩ := cs
  match l, hsz.trans hC with
  | [c0, c1, c2, c3, c4, c5], _ =>
    obtain ⟨fuel, hf⟩ := h
    obtain ⟨xs, n, _, hx, _, hlen, hg⟩ := DataW.trod_struct hs hf
    obtain ⟨o0, k0⟩ := hone_of hone 0 f0 rfl
    obtain ⟨o1, k1⟩ := hone_of hone 1 f1 rfl
    obtain ⟨o2, k2⟩ := hone_of hone 2 f2 rfl
    obtain ⟨o3, k3⟩ := hone_of hone 3 f3 rfl
    obtain ⟨o4, k4⟩ := hone_of hone 4 f4 rfl
    obtain ⟨o5, k5⟩ := hone_of hone 5 f5 rfl
    match xs, hlen with
    | [y0, y1, y2, y3, y4, y5], _ =>
      simp only [Prod.mk.injEq] at hx
      exact ⟨c0, c1, c2, c3, c4, c5, y0, y1, y2, y3, y4, y5, n, rfl, by simpa using hx.1, by simpa [Value.cells, o0, k0] using hg 0 f0 rfl, by simpa [Value.cells, o1, k1] using hg 1 f1 rfl, by simpa [Value.cells, o2, k2] using hg 2 f2 rfl, by simpa [Value.cells, o3, k3] using hg 3 f3 rfl, by simpa [Value.cells, o4, k4] using hg 4 f4 rfl, by simpa [Value.cells, o5, k5] using hg 5 f5 rfl⟩

/-- a slice of strings that came in reads as a list -/
theorem strings_sl {fuel : Nat} {t e : TypeId} {v : Value} {x : DataW H × List MemPlace} (ht : P.underlying t = some (.slice e)) (he : P.underlying e = some .string) (hc : P.cellsOf e = 1)
    (h : DataW.trod enc P w base (fun _ => true) held fuel t [v] = some x) : ∃ (A : Option Addr) (n c : Nat) (ss : List (List UInt8)), v = .slice A n c ∧ n ≤ c ∧ c ≤ maxLen ∧ Sl w 1 A n (strs ss) := by
  rcases open_strings ht he hc h with ⟨hcs, _⟩ | ⟨a, len, cap, bs, hcs, _, hl, hm, hlen, _, hcell, _⟩
  · obtain rfl : v = .slice none 0 0 := by simpa using hcs
    exact ⟨none, 0, 0, [], rfl, Nat.le_refl _, Nat.zero_le _, Sl.nil_⟩
  · obtain rfl : v = .slice (some a) len cap := by simpa using hcs
    rw [if_pos rfl] at hlen
    refine ⟨some a, len, cap, (bs.take len).map (fun s => s.data.toList), rfl, hl, hm, ?_, fun hn => ?_⟩
    · simp; omega
    · have h0 := hcell 0 (by omega)
      rw [show a.add 0 = a from by simp [Addr.add]] at h0
      obtain ⟨b, off, sp⟩ := a
      have hsp : sp = none := by
        cases sp with
        | none => rfl
        | some k => simp only [World.cell?] at h0; split at h0 <;> simp at h0
      subst hsp
      refine ⟨b, off, rfl, ?_, fun k hk => ?_⟩
      · rcases Nat.lt_or_ge b w.heap.size with hlt | hge
        · exact hlt
        · simp [World.cell?, Array.getElem?_eq_none hge] at h0
      · have hk' : k < len := by omega
        have h1 := hcell k (by omega)
        have e1 : (⟨b, off, none⟩ : Addr).add k = ⟨b, off + k, none⟩ := by unfold Addr.add; split <;> simp_all
        rw [e1] at h1
        rw [h1]
        have hkb : k < bs.length := by omega
        simp [hk', hkb]
end

theorem Try.cellsPlan : Try.prog.cellsOf 24 = 6 := by kernel_rfl

/-- a plan that came in -/
theorem open_plan {H : Type} {enc : TypeId × Value → H} {w : World} {base : Nat} {r : Reach} {b0 : Nat} {v : Value} {d : DataW H} {p : List MemPlace}
    (hv : Value.okWide Try.prog w r b0 24 v) (h : DataW.Trod enc Try.prog w base (fun _ => true) true 24 v d p) :
    ∃ (kind : Int) (A : Option Addr) (n c : Nat) (at_ : Int) (orig who : List UInt8) (stamp : Int) (ss : List (List UInt8)), v = plV kind A n c at_ orig who stamp ∧ n ≤ c ∧ c ≤ maxLen ∧ Sl w 1 A n (strs ss) := by
  obtain ⟨v0, v1, v2, v3, v4, v5, y0, y1, y2, y3, y4, y5, n, rfl, rfl, h0, h1, h2, h3, h4, h5⟩ := agg_six Try.underlying24 (by kernel_rfl) Try.cellsPlan hv h
  obtain ⟨kind, e0, _, _⟩ := DataW.trod_int Try.underlying3 h0
  obtain ⟨A, n', c, ss, rfl, hc, hm, hS⟩ := strings_sl Try.underlying22 Try.underlying9 (by kernel_rfl) h1
  obtain ⟨at_, e2, _, _⟩ := DataW.trod_int Try.underlying3 h2
  obtain ⟨s3, e3, _, _⟩ := DataW.trod_string Try.underlying9 h3
  obtain ⟨s4, e4, _, _⟩ := DataW.trod_string Try.underlying9 h4
  obtain ⟨stamp, e5, _, _⟩ := DataW.trod_int Try.underlying3 h5
  obtain ⟨l3, rfl⟩ := str_of s3
  obtain ⟨l4, rfl⟩ := str_of s4
  simp at e0 e2 e3 e4 e5
  subst e0 e2 e3 e4 e5
  exact ⟨kind, A, n', c, at_, l3, l4, stamp, ss, rfl, hc, hm, hS⟩
end Go.Proofs.Ytgcbolijdgecgaa
