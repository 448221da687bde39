/-
  A world of dolmenlaw20 that came in as an argument, of a bounded bulk, opened. No condition.
-/
import Derived.Test.YtphnfcgdpdimbaaGreatDoorKitX
import Derived.Test.YtphnfcgdpdimbaaGreatDoorWorldV
import Derived.Test.YtphnfcgdpdimbaaGreatDoorKitW
namespace Go.Proofs.YtphnfcgdpdimbaaGreatDoor
open Go.ChangeShapes Go.WideShapes Go.RowKit Go.Deep

theorem Tryz.cellsRDF : Tryz.prog.cellsOf 87 = 2 := by kernel_rfl
theorem Tryz.cellsPut : Tryz.prog.cellsOf 97 = 6 := by kernel_rfl
theorem Tryz.cellsWorld : Tryz.prog.cellsOf 26 = 5 := by kernel_rfl
theorem Tryz.cellsU8s : Tryz.prog.cellsOf 27 = 1 := by kernel_rfl
theorem Tryz.cellsRDFs : Tryz.prog.cellsOf 22 = 1 := by kernel_rfl
theorem Tryz.cellsPuts : Tryz.prog.cellsOf 23 = 1 := by kernel_rfl
theorem Tryz.cellsRFils : Tryz.prog.cellsOf 24 = 1 := by kernel_rfl
theorem Tryz.cellsBoolW : Tryz.prog.cellsOf 4 = 1 := by kernel_rfl
theorem Tryz.cellsIntW : Tryz.prog.cellsOf 3 = 1 := by kernel_rfl
section
variable {H : Type} {enc : TypeId × Value → H} {w : World} {base : Nat} {held : Bool}
theorem bulk_lenK {k : Nat} : ∀ {l : List (DataW H)}, (∀ d ∈ l, k ≤ Rows.uptoBulk d) → l.length * k ≤ Rows.uptoBulkAll l
  | [], _ => by simp
  | a :: l, h => by
    have h1 := bulk_lenK (l := l) fun d hd => h d (List.mem_cons_of_mem _ hd)
    have h2 := h a List.mem_cons_self
    rw [Rows.uptoBulkAll, List.length_cons, Nat.add_mul]
    omega
theorem open_lenK {P : Program} {fuel sz N k n c : Nat} {A : Option Addr} {t e : TypeId} {x : DataW H × List MemPlace} (ht : P.underlying t = some (.slice e)) (_hc : P.cellsOf e = sz)
    (he : ∀ m cs y, DataW.trod enc P w base (fun _ => true) held m e cs = some y → k ≤ Rows.uptoBulk y.1) (h : DataW.trod enc P w base (fun _ => true) held fuel t [.slice A n c] = some x) (hw : Rows.uptoBulk x.1 ≤ N) : n * k ≤ N := by
  rcases open_slice ht h with ⟨hcs, hx⟩ | ⟨a, len, cap, m, n', D, Pl, hcs, hb, hl, hm, hmm, hx, hel⟩
  · simp at hcs
    obtain ⟨_, rfl, _⟩ := hcs
    simp
  · simp at hcs
    obtain ⟨_, rfl, _⟩ := hcs
    rw [if_pos rfl] at hmm
    subst hmm
    rw [hx, Rows.uptoBulk] at hw
    have h1 := bulk_lenK (k := k) (l := (List.range n).map D) (by
      intro d hd
      obtain ⟨i, hi, rfl⟩ := List.mem_map.1 hd
      obtain ⟨cs', _, h2⟩ := hel i (by have := List.mem_range.1 hi; omega)
      exact he _ _ _ h2)
    rw [List.length_map, List.length_range] at h1
    omega
theorem open_bytesU {fuel : Nat} {v : Value} {x : DataW H × List MemPlace} (h : DataW.trod enc Tryz.prog w base (fun _ => true) held fuel 27 [v] = some x) (hw : Rows.uptoBulk x.1 ≤ 1048576) : ∃ r : RwB, v = r.v ∧ r.ok w := by
  obtain ⟨A, n, c, l, rfl, hnc, _, hS, hx⟩ := bytes_sl Tryz.underlying27 Tryz.underlying5 Tryz.cellsU8 h
  refine ⟨⟨A, n, c, l⟩, rfl, hS, ?_⟩
  show n ≤ 1048576
  rcases hx with ⟨_, h0⟩ | ⟨es, sp, hx, he⟩
  · omega
  · rw [hx, Rows.uptoBulk] at hw
    have h1 := bulk_len es
    have h2 := bulk_len sp
    omega
theorem open_rdf {fuel : Nat} {cs : List Value} {x : DataW H × List MemPlace} (h : DataW.trod enc Tryz.prog w base (fun _ => true) held fuel 87 cs = some x) (hw : Rows.uptoBulk x.1 ≤ 1048576) : ∃ f : List UInt8 × RwB, cs = rfC f ∧ f.1.length ≤ 1048576 ∧ f.2.ok w := by
  obtain ⟨n0, y0, h0, hl, b0⟩ := fldB Tryz.underlying87 h 0 rfl Tryz.cellsStr
  obtain ⟨n1, y1, h1, _, b1⟩ := fldB Tryz.underlying87 h 1 rfl Tryz.cellsU8s
  obtain ⟨s0, e0, f0, _⟩ := DataW.trod_string Tryz.underlying9 h0
  rw [Tryz.cellsRDF] at hl
  match cs, hl with
  | [c0, c1], _ =>
    simp at e0
    subst e0
    obtain ⟨l0, rfl⟩ := str_of s0
    have h1' : DataW.trod enc Tryz.prog w base (fun _ => true) held n1 27 [c1] = some y1 := h1
    obtain ⟨r, rfl, hr⟩ := open_bytesU h1' (by omega)
    rw [f0] at b0
    simp [Rows.uptoBulk] at b0
    exact ⟨(l0, r), rfl, by show l0.length ≤ _; omega, hr⟩
theorem open_put {fuel : Nat} {cs : List Value} {x : DataW H × List MemPlace} (h : DataW.trod enc Tryz.prog w base (fun _ => true) held fuel 97 cs = some x) (hw : Rows.uptoBulk x.1 ≤ 1048576) : ∃ p : Pt, cs = ptC p ∧ p.path.length ≤ 1048576 ∧ p.r1.ok w ∧ p.r2.ok w := by
  obtain ⟨n0, y0, h0, hl, b0⟩ := fldB Tryz.underlying97 h 0 rfl Tryz.cellsStr
  obtain ⟨n1, y1, h1, _, b1⟩ := fldB Tryz.underlying97 h 1 rfl Tryz.cellsU8s
  obtain ⟨n2, y2, h2, _, b2⟩ := fldB Tryz.underlying97 h 2 rfl Tryz.cellsU8s
  obtain ⟨n3, y3, h3, _, _⟩ := fldB Tryz.underlying97 h 3 rfl Tryz.cellsIntW
  obtain ⟨n4, y4, h4, _, _⟩ := fldB Tryz.underlying97 h 4 rfl Tryz.cellsBoolW
  obtain ⟨n5, y5, h5, _, _⟩ := fldB Tryz.underlying97 h 5 rfl Tryz.cellsIntW
  obtain ⟨s0, e0, f0, _⟩ := DataW.trod_string Tryz.underlying9 h0
  obtain ⟨z3, e3, _, _⟩ := DataW.trod_int Tryz.underlying3 h3
  obtain ⟨z4, e4, _⟩ := DataW.trod_bool Tryz.underlying4 h4
  obtain ⟨z5, e5, _, _⟩ := DataW.trod_int Tryz.underlying3 h5
  rw [Tryz.cellsPut] at hl
  match cs, hl with
  | [c0, c1, c2, c3, c4, c5], _ =>
    simp at e0 e3 e4 e5
    subst e0 e3 e4 e5
    obtain ⟨l0, rfl⟩ := str_of s0
    have h1' : DataW.trod enc Tryz.prog w base (fun _ => true) held n1 27 [c1] = some y1 := h1
    have h2' : DataW.trod enc Tryz.prog w base (fun _ => true) held n2 27 [c2] = some y2 := h2
    obtain ⟨r1, rfl, hr1⟩ := open_bytesU h1' (by omega)
    obtain ⟨r2, rfl, hr2⟩ := open_bytesU h2' (by omega)
    rw [f0] at b0
    simp [Rows.uptoBulk] at b0
    exact ⟨⟨l0, r1, r2, z3, z4, z5⟩, rfl, by show l0.length ≤ _; omega, hr1, hr2⟩
theorem bulk_rfil {fuel : Nat} {cs : List Value} {x : DataW H × List MemPlace} (h : DataW.trod enc Tryz.prog w base (fun _ => true) held fuel 225 cs = some x) : 3 ≤ Rows.uptoBulk x.1 := by
  obtain ⟨xs, n, _, rfl, _, hlen, _⟩ := DataW.trod_struct Tryz.underlying225 h
  have h1 := bulk_len (xs.map (·.1))
  rw [List.length_map, hlen] at h1
  simp only [Rows.uptoBulk]
  simp at h1
  omega
end
section
variable {H : Type} {enc : TypeId × Value → H} {P : Program} {w : World} {base : Nat} {spare : Nat → Bool} {held : Bool}
/-- a struct of five one-cell fields, by value -/
theorem agg_five9 {r : Reach} {b0 : Nat} {t : TypeId} {f0 f1 f2 f3 f4 : Field} {v : Value} {d : DataW H} {p : List MemPlace} (hs : P.underlying t = some (.struct #[f0, f1, f2, f3, f4])) (hone : oneCellFields P #[f0, f1, f2, f3, f4] = true) (hC : P.cellsOf t = 5)
    (hv : Value.okWide P w r b0 t v) (h : DataW.Trod enc P w base spare held t v d p) :
    ∃ (v0 v1 v2 v3 v4 : Value) (y0 y1 y2 y3 y4 : DataW H × List MemPlace) (n : Nat), v = .agg #[v0, v1, v2, v3, v4] ∧ d = .agg [y0.1, y1.1, y2.1, y3.1, y4.1] ∧
      DataW.trod enc P w base spare held n f0.type [v0] = some y0 ∧ DataW.trod enc P w base spare held n f1.type [v1] = some y1 ∧ DataW.trod enc P w base spare held n f2.type [v2] = some y2 ∧ DataW.trod enc P w base spare held n f3.type [v3] = some y3 ∧ DataW.trod enc P w base spare held n f4.type [v4] = some y4 := by
  obtain ⟨cs, rfl, hsz⟩ := okWide_struct hs hv
  obtain ⟨l⟩ := cs
  match l, hsz.trans hC with
  | [c0, c1, c2, c3, c4], _ =>
    obtain ⟨fuel, hf⟩ := h
    obtain ⟨xs, n, _, hx, _, hlen, hg⟩ := DataW.trod_struct hs hf
    obtain ⟨o0, k0⟩ := hone_of hone 0 f0 rfl
    obtain ⟨o1, k1⟩ := hone_of hone 1 f1 rfl
    obtain ⟨o2, k2⟩ := hone_of hone 2 f2 rfl
    obtain ⟨o3, k3⟩ := hone_of hone 3 f3 rfl
    obtain ⟨o4, k4⟩ := hone_of hone 4 f4 rfl
    match xs, hlen with
    | [y0, y1, y2, y3, y4], _ =>
      simp only [Prod.mk.injEq] at hx
      exact ⟨c0, c1, c2, c3, c4, y0, y1, y2, y3, y4, n, rfl, by simpa using hx.1, by simpa [Value.cells, o0, k0] using hg 0 f0 rfl, by simpa [Value.cells, o1, k1] using hg 1 f1 rfl, by simpa [Value.cells, o2, k2] using hg 2 f2 rfl, by simpa [Value.cells, o3, k3] using hg 3 f3 rfl, by simpa [Value.cells, o4, k4] using hg 4 f4 rfl⟩
end
section
variable {H : Type} {enc : TypeId × Value → H} {w : World} {base : Nat} {held : Bool}
set_option maxRecDepth 100000 in
/-- a world by value -/
theorem open_worldV {r : Reach} {b0 : Nat} {v : Value} {d : DataW H} {p : List MemPlace} (hv : Value.okWide Tryz.prog w r b0 26 v) (h : DataW.Trod enc Tryz.prog w base (fun _ => true) held 26 v d p) (hw : Rows.uptoBulk d ≤ 1048576) :
    ∃ y : Wd, v = .agg #[I y.room, .slice y.A y.n y.c, .slice y.B y.m y.d, .slice y.C y.j y.e, .slice y.D y.k y.f] ∧ y.ok w := by
  obtain ⟨v0, v1, v2, v3, v4, y0, y1, y2, y3, y4, q, rfl, rfl, h0, h1, h2, h3, h4⟩ := agg_five9 Tryz.underlying26 (by kernel_rfl) (by kernel_rfl) hv h
  simp only [Rows.uptoBulk, Rows.uptoBulkAll] at hw
  obtain ⟨z0, e0, _, _⟩ := DataW.trod_int Tryz.underlying3 h0
  simp at e0
  subst e0
  have h1' : DataW.trod enc Tryz.prog w base (fun _ => true) held q 22 [v1] = some y1 := h1
  have h2' : DataW.trod enc Tryz.prog w base (fun _ => true) held q 23 [v2] = some y2 := h2
  have h3' : DataW.trod enc Tryz.prog w base (fun _ => true) held q 24 [v3] = some y3 := h3
  have h4' : DataW.trod enc Tryz.prog w base (fun _ => true) held q 24 [v4] = some y4 := h4
  obtain ⟨A, n, c, raw, rfl, _, hn, hraw, hS⟩ := open_rowsB (α := List UInt8 × RwB) rfC (fun f => f.1.length ≤ 1048576 ∧ f.2.ok w) Tryz.underlying22 Tryz.cellsRDF (by omega) (fun n cs y hy hwy => open_rdf hy (by omega)) h1' (show _ ≤ 1048576 by omega)
  obtain ⟨B, m, dd, pu, rfl, _, hm, hpu, hSp⟩ := open_rowsB (α := Pt) ptC (fun p => p.path.length ≤ 1048576 ∧ p.r1.ok w ∧ p.r2.ok w) Tryz.underlying23 Tryz.cellsPut (by omega) (fun n cs y hy hwy => open_put hy (by omega)) h2' (show _ ≤ 1048576 by omega)
  obtain ⟨C, j, e, cu, rfl, hSc, _, hcu⟩ := open_rfilesU h3' (by omega)
  obtain ⟨D, k, f, tg, rfl, hSt, _, htg⟩ := open_rfilesU h4' (by omega)
  have hj := open_lenK (k := 3) Tryz.underlying24 Tryz.cellsRFil (fun _ _ _ h => bulk_rfil h) h3' (show _ ≤ 1048576 by omega)
  have hk := open_lenK (k := 3) Tryz.underlying24 Tryz.cellsRFil (fun _ _ _ h => bulk_rfil h) h4' (show _ ≤ 1048576 by omega)
  have hnc : n ≤ c := by
    rcases open_slice Tryz.underlying22 h1' with ⟨hcs, _⟩ | ⟨_, _, _, _, _, _, _, hcs, _, hl, _⟩
    · simp at hcs
      omega
    · simp at hcs
      omega
  exact ⟨⟨z0, A, n, c, raw, B, m, dd, pu, C, j, e, cu, D, k, f, tg⟩, rfl, hS, hnc, hn, fun f hf => (hraw f hf).1, hSp, hm, fun p hp => (hpu p hp).1, hSc, by show j ≤ _; omega, hcu, hSt, by show k ≤ _; omega, htg⟩
end
end Go.Proofs.YtphnfcgdpdimbaaGreatDoor
