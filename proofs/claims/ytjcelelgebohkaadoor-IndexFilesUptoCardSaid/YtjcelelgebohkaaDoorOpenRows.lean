/-
  A slice of structs that came in as an argument, opened as a list, what its elements lead to with it. No condition.
-/
import Derived.Test.YtjcelelgebohkaaDoorOpenBytes
import Derived.Deep.Slices
import Derived.SizedLaws
namespace Go.Proofs.YtjcelelgebohkaaDoor
open Go.ChangeShapes Go.WideShapes Go.RowKit Go.Deep

theorem choose_list {α : Type} {p : Nat → α → Prop} : ∀ n, (∀ i, i < n → ∃ x, p i x) → ∃ xs : List α, xs.length = n ∧ ∀ i x, xs[i]? = some x → p i x
  | 0, _ => ⟨[], rfl, by simp⟩
  | n + 1, h => by
    obtain ⟨xs, hl, hx⟩ := choose_list n (fun i hi => h i (by omega))
    obtain ⟨y, hy⟩ := h n (by omega)
    refine ⟨xs ++ [y], by simp [hl], fun i x hi => ?_⟩
    rcases Nat.lt_or_ge i n with hlt | hge
    · rw [List.getElem?_append_left (by omega)] at hi
      exact hx i x hi
    · rw [List.getElem?_append_right (by omega), hl] at hi
      have : i = n := by
        rcases Nat.lt_or_ge (i - n) 1 with h1 | h1
        · omega
        · rw [List.getElem?_eq_none (by simpa using h1)] at hi; cases hi
      subst this
      simp at hi
      subst hi
      exact hy
/-- cells of a list of structs, all of one size -/
theorem flat_len {α : Type} {f : α → List Value} {sz : Nat} : ∀ {xs : List α}, (∀ x ∈ xs, (f x).length = sz) → (xs.flatMap f).length = xs.length * sz
  | [], _ => by simp
  | x :: xs, h => by
    rw [List.flatMap_cons, List.length_append, h x (by simp), flat_len (xs := xs) (fun y hy => h y (by simp [hy])), List.length_cons, Nat.succ_mul, Nat.add_comm]
theorem flat_at {α : Type} {f : α → List Value} {sz : Nat} : ∀ {xs : List α} {i j : Nat} {x : α}, (∀ x ∈ xs, (f x).length = sz) → xs[i]? = some x → j < sz → (xs.flatMap f)[i * sz + j]? = (f x)[j]?
  | [], _, _, _, _, hx, _ => by simp at hx
  | y :: xs, 0, j, x, h, hx, hj => by
    simp at hx
    subst hx
    rw [Nat.zero_mul, Nat.zero_add, List.flatMap_cons, List.getElem?_append_left (by rw [h y (by simp)]; exact hj)]
  | y :: xs, i + 1, j, x, h, hx, hj => by
    have hy := h y (by simp)
    rw [List.flatMap_cons, List.getElem?_append_right (by rw [hy, Nat.succ_mul]; omega), hy, show (i + 1) * sz + j - sz = i * sz + j by rw [Nat.succ_mul]; omega]
    exact flat_at (xs := xs) (fun z hz => h z (by simp [hz])) (by simpa using hx) hj

theorem weights_all {H : Type} {P : Program} {e : TypeId} : ∀ {l : List (DataW H)} {d : DataW H} {n : Nat}, d ∈ l → n ∈ d.weights P e → n ∈ DataW.weightsAll P e l
  | [], _, _, h, _ => by simp at h
  | x :: l, d, n, h, hn => by
    rw [DataW.weightsAll, List.mem_append]
    rcases List.mem_cons.1 h with rfl | h
    · exact .inl hn
    · exact .inr (weights_all h hn)

section
variable {H : Type} {enc : TypeId × Value → H} {P : Program} {w : World} {base : Nat} {held : Bool}
theorem open_rows {α : Type} (f : α → List Value) (Good : α → Prop) {fuel sz : Nat} {t e : TypeId} {v : Value} {x : DataW H × List MemPlace} (ht : P.underlying t = some (.slice e)) (hc : P.cellsOf e = sz) (h0 : 0 < sz)
    (he : ∀ n cs y, DataW.trod enc P w base (fun _ => true) held n e cs = some y → (∀ m ∈ y.1.weights P e, m ≤ reachBytes) → ∃ x : α, cs = f x ∧ Good x)
    (h : DataW.trod enc P w base (fun _ => true) held fuel t [v] = some x) (hw : ∀ m ∈ x.1.weights P t, m ≤ reachBytes) :
    ∃ (A : Option Addr) (n c : Nat) (xs : List α), v = .slice A n c ∧ n ≤ c ∧ c ≤ maxLen ∧ c * P.bytesOf e ≤ reachBytes ∧ xs.length = n ∧ (∀ x ∈ xs, Good x ∧ (f x).length = sz) ∧ Sl w sz A n (xs.flatMap f) := by
  rcases open_slice ht h with ⟨hcs, hx⟩ | ⟨a, len, cap, m, n, D, Pl, hcs, hb, hl, hm, hmm, hx, hel⟩
  · obtain rfl : v = .slice none 0 0 := by simpa using hcs
    exact ⟨none, 0, 0, [], rfl, Nat.le_refl _, Nat.zero_le _, by simp, rfl, by simp, Sl.nil_⟩
  · obtain rfl : v = .slice (some a) len cap := by simpa using hcs
    rw [if_pos rfl] at hmm
    subst hmm
    have hall : ∀ i, i < len → ∃ x : α, w.cells? base (a.add (i * sz)) sz = some (f x) ∧ Good x := by
      intro i hi
      obtain ⟨cs', h1, h2⟩ := hel i (by omega)
      rw [hc] at h1
      obtain ⟨y, rfl, hg⟩ := he n cs' _ h2 (fun k hk => hw k (by
        rw [hx]
        simp only [DataW.weights, ht]
        exact List.mem_cons_of_mem _ (List.mem_append_left _ (weights_all (List.mem_map.2 ⟨i, by simpa using hi, rfl⟩) hk))))
      exact ⟨y, h1, hg⟩
    obtain ⟨xs, hxl, hxs⟩ := choose_list len hall
    have hsz : ∀ y ∈ xs, Good y ∧ (f y).length = sz := by
      intro y hy
      obtain ⟨i, hi⟩ := List.getElem?_of_mem hy
      obtain ⟨h1, h2⟩ := hxs i y hi
      exact ⟨h2, (World.cells?_some h1).2.1⟩
    refine ⟨some a, len, m, xs, rfl, hl, hm, ?_, hxl, hsz, ?_, fun hn => ?_⟩
    · refine hw _ ?_
      rw [hx]
      simp only [DataW.weights, ht, List.length_map, List.length_range]
      rw [show len + (m - len) = m by omega]
      exact List.mem_cons_self
    · rw [flat_len (fun y hy => (hsz y hy).2), hxl]
    · obtain ⟨y0, hy0⟩ : ∃ y, xs[0]? = some y := ⟨xs[0]'(by omega), List.getElem?_eq_getElem _⟩
      have h00 := (World.cells?_some (hxs 0 y0 hy0).1).2.2 0 h0
      have hfl := (hsz y0 (List.mem_of_getElem? hy0)).2
      rw [Nat.zero_mul, show (a.add 0).add 0 = a by simp [Addr.add], List.getElem?_eq_getElem (by omega)] at h00
      have hsp := addr_plain h00
      obtain ⟨b, off, sp⟩ := a
      subst hsp
      refine ⟨b, off, rfl, World.block_lt_of_cell? _ _ h00, fun k hk => ?_⟩
      have hi : k / sz < len := Nat.div_lt_of_lt_mul (by rw [Nat.mul_comm]; exact hk)
      obtain ⟨y, hy⟩ : ∃ y, xs[k / sz]? = some y := ⟨xs[k / sz]'(by omega), List.getElem?_eq_getElem _⟩
      have h1 := (World.cells?_some (hxs _ y hy).1).2.2 (k % sz) (Nat.mod_lt _ h0)
      have h2 := flat_at (fun y hy => (hsz y hy).2) hy (Nat.mod_lt k h0)
      have e1 : k / sz * sz + k % sz = k := by rw [Nat.mul_comm]; exact Nat.div_add_mod k sz
      rw [e1] at h2
      rw [h2, ← h1, Deep.add_add, e1]
      unfold Addr.add
      split <;> simp_all
end
end Go.Proofs.YtjcelelgebohkaaDoor
