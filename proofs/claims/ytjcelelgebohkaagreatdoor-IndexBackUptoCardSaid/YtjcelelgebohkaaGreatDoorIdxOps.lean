/-
  A script of operations that came in as an argument, of a bounded bulk: opened as a list. No condition.
-/
import Derived.Test.YtjcelelgebohkaaGreatDoorKit
import Derived.Test.YtjcelelgebohkaaGreatDoorIdxMade
import Derived.Test.YtjcelelgebohkaaGreatDoorRows
namespace Go.Proofs.YtjcelelgebohkaaGreatDoor
open Go.ChangeShapes Go.WideShapes Go.RowKit Go.Deep
open IdxLaw (Ent)

section
variable {H : Type} {enc : TypeId × Value → H} {P : Program} {w : World} {base : Nat} {spare : Nat → Bool} {held : Bool}
theorem bulk_mem {d : DataW H} : ∀ {l : List (DataW H)}, d ∈ l → Rows.uptoBulk d ≤ Rows.uptoBulkAll l
  | [], h => by cases h
  | a :: l, h => by
    rw [Rows.uptoBulkAll]
    rcases List.mem_cons.1 h with rfl | h
    · omega
    · have := bulk_mem h; omega
/-- a slice of structs of a bounded bulk, as a list -/
theorem open_rowsB {α : Type} (f : α → List Value) (Good : α → Prop) {fuel sz N : Nat} {t e : TypeId} {v : Value} {x : DataW H × List MemPlace} (ht : P.underlying t = some (.slice e)) (hc : P.cellsOf e = sz) (h0 : 0 < sz)
    (he : ∀ n cs y, DataW.trod enc P w base (fun _ => true) held n e cs = some y → Rows.uptoBulk y.1 ≤ N → ∃ x : α, cs = f x ∧ Good x)
    (h : DataW.trod enc P w base (fun _ => true) held fuel t [v] = some x) (hw : Rows.uptoBulk x.1 ≤ N) :
    ∃ (A : Option Addr) (n c : Nat) (xs : List α), v = .slice A n c ∧ xs.length = n ∧ (∀ x ∈ xs, Good x ∧ (f x).length = sz) ∧ Sl w sz A n (xs.flatMap f) := by
  rcases open_slice ht h with ⟨hcs, hx⟩ | ⟨a, len, cap, m, n, D, Pl, hcs, hb, hl, hm, hmm, hx, hel⟩
  · obtain rfl : v = .slice none 0 0 := by simpa using hcs
    exact ⟨none, 0, 0, [], rfl, rfl, by simp, Sl.nil_⟩
  · obtain rfl : v = .slice (some a) len cap := by simpa using hcs
    rw [if_pos rfl] at hmm
    subst hmm
    have hall : ∀ i, i < len → ∃ x : α, w.cells? base (a.add (i * sz)) sz = some (f x) ∧ Good x := by
      intro i hi
      obtain ⟨cs', h1, h2⟩ := hel i (by omega)
      rw [hc] at h1
      obtain ⟨y, rfl, hg⟩ := he n cs' _ h2 (by
        rw [hx, Rows.uptoBulk] at hw
        have h3 := bulk_mem (List.mem_map.2 ⟨i, List.mem_range.2 hi, rfl⟩ : D i ∈ (List.range len).map D)
        show Rows.uptoBulk (D i) ≤ N
        omega)
      exact ⟨y, h1, hg⟩
    obtain ⟨xs, hxl, hxs⟩ := choose_list len hall
    have hsz : ∀ y ∈ xs, Good y ∧ (f y).length = sz := by
      intro y hy
      obtain ⟨i, hi⟩ := List.getElem?_of_mem hy
      obtain ⟨h1, h2⟩ := hxs i y hi
      exact ⟨h2, (World.cells?_some h1).2.1⟩
    refine ⟨some a, len, m, xs, rfl, hxl, hsz, ?_, fun hn => ?_⟩
    · rw [flat_len (fun y hy => (hsz y hy).2), hxl]
    · obtain ⟨y0, hy0⟩ : ∃ y, xs[0]? = some y := ⟨xs[0]'(by omega), List.getElem?_eq_getElem _⟩
      have h00 := (World.cells?_some (hxs 0 y0 hy0).1).2.2 0 h0
      have hfl := (hsz y0 (List.mem_of_getElem? hy0)).2
      rw [Nat.zero_mul, show (a.add 0).add 0 = a by simp [Addr.add], List.getElem?_eq_getElem (by omega)] at h00
      have hsp := addr_plain h00
      obtain ⟨b, off, sp⟩ := a
      subst hsp
      refine ⟨b, off, rfl, World.block_lt_of_cell? _ _ h00, fun k hk => ?_⟩
      have hi : k / sz < len := Nat.div_lt_of_lt_mul (by rw [Nat.mul_comm]; exact hk)
      obtain ⟨y, hy⟩ : ∃ y, xs[k / sz]? = some y := ⟨xs[k / sz]'(by omega), List.getElem?_eq_getElem _⟩
      have h1 := (World.cells?_some (hxs _ y hy).1).2.2 (k % sz) (Nat.mod_lt _ h0)
      have h2 := flat_at (fun y hy => (hsz y hy).2) hy (Nat.mod_lt k h0)
      have e1 : k / sz * sz + k % sz = k := by rw [Nat.mul_comm]; exact Nat.div_add_mod k sz
      rw [e1] at h2
      rw [h2, ← h1, Deep.add_add, e1]
      unfold Addr.add
      split <;> simp_all
/-- one field of a struct -/
theorem fldB {fs : Array Field} {t : TypeId} {fuel k : Nat} {cs : List Value} {x : DataW H × List MemPlace} (ht : P.underlying t = some (.struct fs)) (h : DataW.trod enc P w base spare held fuel t cs = some x) (i : Nat) {f : Field} (hf : fs[i]? = some f) (hk : P.cellsOf f.type = k) :
    ∃ n y, DataW.trod enc P w base spare held n f.type ((cs.drop f.offset).take k) = some y ∧ cs.length = P.cellsOf t ∧ Rows.uptoBulk y.1 ≤ Rows.uptoBulk x.1 := by
  obtain ⟨xs, n, _, rfl, hl, hlen, hg⟩ := DataW.trod_struct ht h
  have hi : i < xs.length := by rw [hlen]; exact (Array.getElem?_eq_some_iff.1 hf).1
  have h1 := hg i f hf
  rw [hk, List.getElem?_eq_getElem hi] at h1
  refine ⟨n, xs[i], h1, hl, ?_⟩
  have h3 := bulk_mem (List.mem_map.2 ⟨xs[i], List.getElem_mem hi, rfl⟩ : (xs[i]).1 ∈ xs.map (·.1))
  simp only [Rows.uptoBulk]
  omega
end

theorem Tryz.cellsREnt : Tryz.prog.cellsOf 32 = 5 := by kernel_rfl
theorem Tryz.cellsOpI : Tryz.prog.cellsOf 34 = 10 := by kernel_rfl
section
variable {H : Type} {enc : TypeId × Value → H} {w : World} {base : Nat} {held : Bool}
theorem open_rent {fuel : Nat} {cs : List Value} {x : DataW H × List MemPlace} (h : DataW.trod enc Tryz.prog w base (fun _ => true) held fuel 32 cs = some x) : ∃ e : Ent, cs = [S e.path, I e.stage, S e.id, I e.size, I e.stamp] ∧ e.path.length ≤ Rows.uptoBulk x.1 := by
  obtain ⟨n0, y0, h0, hl, b0⟩ := fldB Tryz.underlying32 h 0 rfl Tryz.strCells
  obtain ⟨n1, y1, h1, _, _⟩ := fldB Tryz.underlying32 h 1 rfl Tryz.intCells
  obtain ⟨n2, y2, h2, _, _⟩ := fldB Tryz.underlying32 h 2 rfl Tryz.strCells
  obtain ⟨n3, y3, h3, _, _⟩ := fldB Tryz.underlying32 h 3 rfl Tryz.intCells
  obtain ⟨n4, y4, h4, _, _⟩ := fldB Tryz.underlying32 h 4 rfl Tryz.intCells
  obtain ⟨s0, e0, f0, _⟩ := DataW.trod_string Tryz.underlying9 h0
  obtain ⟨z1, e1, _, _⟩ := DataW.trod_int Tryz.underlying3 h1
  obtain ⟨s2, e2, _, _⟩ := DataW.trod_string Tryz.underlying9 h2
  obtain ⟨z3, e3, _, _⟩ := DataW.trod_int Tryz.underlying3 h3
  obtain ⟨z4, e4, _, _⟩ := DataW.trod_int Tryz.underlying3 h4
  rw [Tryz.cellsREnt] at hl
  match cs, hl with
  | [c0, c1, c2, c3, c4], _ =>
    simp at e0 e1 e2 e3 e4
    subst e0 e1 e2 e3 e4
    obtain ⟨l0, rfl⟩ := str_of s0
    obtain ⟨l2, rfl⟩ := str_of s2
    refine ⟨⟨l0, z1, l2, z3, z4⟩, rfl, ?_⟩
    rw [f0] at b0
    simp [Rows.uptoBulk] at b0
    show l0.length ≤ _
    omega
theorem open_opI {fuel : Nat} {cs : List Value} {x : DataW H × List MemPlace} (h : DataW.trod enc Tryz.prog w base (fun _ => true) held fuel 34 cs = some x) (hw : Rows.uptoBulk x.1 ≤ 1048576) : ∃ o : OpG, cs = opL o ∧ o.ok := by
  obtain ⟨n0, y0, h0, hl, _⟩ := fldB Tryz.underlying34 h 0 rfl Tryz.intCells
  obtain ⟨n1, y1, h1, _, b1⟩ := fldB Tryz.underlying34 h 1 rfl Tryz.cellsREnt
  obtain ⟨n2, y2, h2, _, _⟩ := fldB Tryz.underlying34 h 2 rfl Tryz.strCells
  obtain ⟨n3, y3, h3, _, _⟩ := fldB Tryz.underlying34 h 3 rfl Tryz.strCells
  obtain ⟨n4, y4, h4, _, _⟩ := fldB Tryz.underlying34 h 4 rfl Tryz.strCells
  obtain ⟨n5, y5, h5, _, _⟩ := fldB Tryz.underlying34 h 5 rfl Tryz.intCells
  obtain ⟨z0, e0, _, _⟩ := DataW.trod_int Tryz.underlying3 h0
  obtain ⟨e, e1, he⟩ := open_rent h1
  obtain ⟨s2, e2, _, _⟩ := DataW.trod_string Tryz.underlying9 h2
  obtain ⟨s3, e3, _, _⟩ := DataW.trod_string Tryz.underlying9 h3
  obtain ⟨s4, e4, _, _⟩ := DataW.trod_string Tryz.underlying9 h4
  obtain ⟨z5, e5, _, hz5⟩ := DataW.trod_int Tryz.underlying3 h5
  rw [Tryz.cellsOpI] at hl
  match cs, hl with
  | [c0, c1, c2, c3, c4, c5, c6, c7, c8, c9], _ =>
    simp at e0 e1 e2 e3 e4 e5
    obtain ⟨rfl, rfl, rfl, rfl, rfl⟩ := e1
    subst e0 e2 e3 e4 e5
    obtain ⟨l2, rfl⟩ := str_of s2
    obtain ⟨l3, rfl⟩ := str_of s3
    obtain ⟨l4, rfl⟩ := str_of s4
    exact ⟨⟨z0, e, l2, l3, l4, z5⟩, rfl, by show e.path.length ≤ _; omega, hz5⟩
theorem open_opsI {fuel : Nat} {v : Value} {x : DataW H × List MemPlace} (h : DataW.trod enc Tryz.prog w base (fun _ => true) held fuel 22 [v] = some x) (hw : Rows.uptoBulk x.1 ≤ 1048576) :
    ∃ (A : Option Addr) (n c : Nat) (l : List OpG), v = .slice A n c ∧ Sl w 10 A n (opsC l) ∧ ∀ o ∈ l, o.ok := by
  obtain ⟨A, n, c, xs, rfl, _, hxs, hS⟩ := open_rowsB (α := OpG) opL OpG.ok Tryz.underlying22 Tryz.cellsOpI (by omega) (fun n cs y hy hwy => open_opI hy hwy) h hw
  exact ⟨A, n, c, xs, rfl, hS, fun o ho => (hxs o ho).1⟩
end
end Go.Proofs.YtjcelelgebohkaaGreatDoor
