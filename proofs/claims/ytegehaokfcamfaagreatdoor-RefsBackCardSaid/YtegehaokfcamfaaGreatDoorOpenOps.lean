/-
  A script of operations that came in as an argument, opened: a list, with where each operation's changes lie. No condition.
-/
import Derived.Test.YtegehaokfcamfaaGreatDoorKitZ
import Derived.Test.YtegehaokfcamfaaGreatDoorMade
namespace Go.Proofs.YtegehaokfcamfaaGreatDoor
open Go.ChangeShapes Go.WideShapes Go.RowKit Go.Deep
open RefsLaw (Chg)

section
variable {H : Type} {enc : TypeId × Value → H} {P : Program} {w : World} {base : Nat} {spare : Nat → Bool} {held : Bool}
theorem each_mem {m : Nat} : ∀ {ts : List TypeId} {ds : List (DataW H)} {i : Nat} {t : TypeId} {d : DataW H}, ts[i]? = some t → ds[i]? = some d → m ∈ d.weights P t → m ∈ DataW.weightsEach P ts ds
  | [], _, _, _, _, h, _, _ => by simp at h
  | _ :: _, [], _, _, _, _, h, _ => by simp at h
  | t0 :: ts, d0 :: ds, 0, t, d, h, k, hm => by
    simp at h k
    subst h k
    rw [DataW.weightsEach]
    exact List.mem_append_left _ hm
  | t0 :: ts, d0 :: ds, i + 1, t, d, h, k, hm => by
    rw [DataW.weightsEach]
    exact List.mem_append_right _ (each_mem (i := i) (by simpa using h) (by simpa using k) hm)
/-- one field of a struct -/
theorem fld {fs : Array Field} {t : TypeId} {fuel k : Nat} {cs : List Value} {x : DataW H × List MemPlace} (ht : P.underlying t = some (.struct fs)) (h : DataW.trod enc P w base spare held fuel t cs = some x) (i : Nat) {f : Field} (hf : fs[i]? = some f) (hk : P.cellsOf f.type = k) :
    ∃ n y, DataW.trod enc P w base spare held n f.type ((cs.drop f.offset).take k) = some y ∧ cs.length = P.cellsOf t ∧ ∀ m ∈ y.1.weights P f.type, m ∈ x.1.weights P t := by
  obtain ⟨xs, n, _, rfl, hl, hlen, hg⟩ := DataW.trod_struct ht h
  have hi : i < xs.length := by rw [hlen]; exact (Array.getElem?_eq_some_iff.1 hf).1
  have h1 := hg i f hf
  rw [hk, List.getElem?_eq_getElem hi] at h1
  refine ⟨n, xs[i], h1, hl, fun m hm => ?_⟩
  simp only [DataW.weights, ht]
  exact each_mem (i := i) (t := f.type) (d := xs[i].1) (by simp [hf]) (by simp [List.getElem?_eq_getElem hi]) hm
end

theorem Tryz.cellsChg : Tryz.prog.cellsOf 48 = 5 := by kernel_rfl
theorem Tryz.cellsVal : Tryz.prog.cellsOf 46 = 2 := by kernel_rfl
theorem Tryz.cellsTxn : Tryz.prog.cellsOf 25 = 4 := by kernel_rfl
theorem Tryz.cellsOp : Tryz.prog.cellsOf 69 = 8 := by kernel_rfl
theorem Tryz.cellsChgs : Tryz.prog.cellsOf 23 = 1 := by kernel_rfl
theorem Tryz.cellsBool : Tryz.prog.cellsOf 4 = 1 := by kernel_rfl
theorem Tryz.bytesChg : Tryz.prog.bytesOf 48 = 80 := by kernel_rfl

section
variable {H : Type} {enc : TypeId × Value → H} {w : World} {base : Nat} {held : Bool}
theorem open_val {fuel : Nat} {cs : List Value} {x : DataW H × List MemPlace} (h : DataW.trod enc Tryz.prog w base (fun _ => true) held fuel 46 cs = some x) : ∃ a b : List UInt8, cs = [S a, S b] := by
  obtain ⟨n0, y0, h0, hl, _⟩ := fld Tryz.underlying46 h 0 rfl Tryz.cellsStr
  obtain ⟨n1, y1, h1, _, _⟩ := fld Tryz.underlying46 h 1 rfl Tryz.cellsStr
  obtain ⟨s0, e0, _, _⟩ := DataW.trod_string Tryz.underlying9 h0
  obtain ⟨s1, e1, _, _⟩ := DataW.trod_string Tryz.underlying9 h1
  rw [Tryz.cellsVal] at hl
  match cs, hl with
  | [c0, c1], _ =>
    simp at e0 e1
    subst e0 e1
    obtain ⟨l0, rfl⟩ := str_of s0
    obtain ⟨l1, rfl⟩ := str_of s1
    exact ⟨l0, l1, rfl⟩
theorem open_chg {fuel : Nat} {cs : List Value} {x : DataW H × List MemPlace} (h : DataW.trod enc Tryz.prog w base (fun _ => true) held fuel 48 cs = some x) : ∃ c : Chg, cs = chC c ∧ c.ref.length ≤ maxLen := by
  obtain ⟨n0, y0, h0, hl, _⟩ := fld Tryz.underlying48 h 0 rfl Tryz.cellsStr
  obtain ⟨n1, y1, h1, _, _⟩ := fld Tryz.underlying48 h 1 rfl Tryz.cellsVal
  obtain ⟨n2, y2, h2, _, _⟩ := fld Tryz.underlying48 h 2 rfl Tryz.cellsVal
  obtain ⟨s0, e0, _, hs0⟩ := DataW.trod_string Tryz.underlying9 h0
  obtain ⟨a1, b1, e1⟩ := open_val h1
  obtain ⟨a2, b2, e2⟩ := open_val h2
  rw [Tryz.cellsChg] at hl
  match cs, hl with
  | [c0, c1, c2, c3, c4], _ =>
    simp at e0 e1 e2
    obtain ⟨l0, rfl⟩ := str_of s0
    obtain ⟨rfl, rfl⟩ := e1
    obtain ⟨rfl, rfl⟩ := e2
    subst e0
    exact ⟨⟨l0, ⟨a1, b1⟩, ⟨a2, b2⟩⟩, rfl, by rw [size_mk] at hs0; exact hs0⟩
theorem open_txn {fuel : Nat} {cs : List Value} {x : DataW H × List MemPlace} (h : DataW.trod enc Tryz.prog w base (fun _ => true) held fuel 25 cs = some x) (hw : ∀ m ∈ x.1.weights Tryz.prog 25, m ≤ reachBytes) :
    ∃ t : TxG, cs = t.cells ∧ Sl w 5 t.A t.n (chs t.chs) ∧ t.n ≤ 1759218604390 ∧ ∀ c ∈ t.chs, c.ref.length ≤ maxLen := by
  obtain ⟨n0, y0, h0, hl, _⟩ := fld Tryz.underlying25 h 0 rfl Tryz.cellsStr
  obtain ⟨n1, y1, h1, _, _⟩ := fld Tryz.underlying25 h 1 rfl Tryz.cellsStr
  obtain ⟨n2, y2, h2, _, _⟩ := fld Tryz.underlying25 h 2 rfl Tryz.cellsInt
  obtain ⟨n3, y3, h3, _, w3⟩ := fld Tryz.underlying25 h 3 rfl Tryz.cellsChgs
  obtain ⟨s0, e0, _, _⟩ := DataW.trod_string Tryz.underlying9 h0
  obtain ⟨s1, e1, _, _⟩ := DataW.trod_string Tryz.underlying9 h1
  obtain ⟨z2, e2, _, _⟩ := DataW.trod_int Tryz.underlying3 h2
  rw [Tryz.cellsTxn] at hl
  match cs, hl with
  | [c0, c1, c2, c3], _ =>
    simp at e0 e1 e2
    obtain ⟨l0, rfl⟩ := str_of s0
    obtain ⟨l1, rfl⟩ := str_of s1
    subst e0 e1 e2
    have h3' : DataW.trod enc Tryz.prog w base (fun _ => true) held n3 23 [c3] = some y3 := h3
    obtain ⟨A, n, c, xs, rfl, hnc, _, hby, hxl, hxs, hS⟩ := open_rows (α := Chg) chC (fun c => c.ref.length ≤ maxLen) Tryz.underlying23 Tryz.cellsChg (by omega) (fun n cs y hy _ => open_chg hy) h3' (fun m hm => hw m (w3 m hm))
    rw [Tryz.bytesChg] at hby
    have hr : reachBytes = 140737488351232 := by decide
    exact ⟨⟨l0, l1, z2, A, n, c, xs⟩, rfl, hS, by show n ≤ _; omega, fun x hx => (hxs x hx).1⟩
theorem open_op {fuel : Nat} {cs : List Value} {x : DataW H × List MemPlace} (h : DataW.trod enc Tryz.prog w base (fun _ => true) held fuel 69 cs = some x) (hw : ∀ m ∈ x.1.weights Tryz.prog 69, m ≤ reachBytes) :
    ∃ o : OpG, cs = o.cells ∧ o.ok w := by
  obtain ⟨n0, y0, h0, hl, _⟩ := fld Tryz.underlying69 h 0 rfl Tryz.cellsInt
  obtain ⟨n1, y1, h1, _, w1⟩ := fld Tryz.underlying69 h 1 rfl Tryz.cellsTxn
  obtain ⟨n2, y2, h2, _, _⟩ := fld Tryz.underlying69 h 2 rfl Tryz.cellsBool
  obtain ⟨n3, y3, h3, _, _⟩ := fld Tryz.underlying69 h 3 rfl Tryz.cellsStr
  obtain ⟨n4, y4, h4, _, _⟩ := fld Tryz.underlying69 h 4 rfl Tryz.cellsInt
  obtain ⟨z0, e0, _, _⟩ := DataW.trod_int Tryz.underlying3 h0
  obtain ⟨t, e1, hS, hn, hc⟩ := open_txn h1 (fun m hm => hw m (w1 m hm))
  obtain ⟨b2, e2, _⟩ := DataW.trod_bool Tryz.underlying4 h2
  obtain ⟨s3, e3, _, hs3⟩ := DataW.trod_string Tryz.underlying9 h3
  obtain ⟨z4, e4, _, hz4⟩ := DataW.trod_int Tryz.underlying3 h4
  rw [Tryz.cellsOp] at hl
  match cs, hl with
  | [c0, c1, c2, c3, c4, c5, c6, c7], _ =>
    simp [TxG.cells] at e0 e1 e2 e3 e4
    obtain ⟨l3, rfl⟩ := str_of s3
    obtain ⟨rfl, rfl, rfl, rfl⟩ := e1
    subst e0 e2 e3 e4
    have hz : -9223372036854775808 ≤ z4 ∧ z4 ≤ 9223372036854775807 := by simpa [Lit.wf, IntKind.min, IntKind.max, IntKind.signed, IntKind.bits] using hz4
    exact ⟨⟨z0, t, b2, l3, z4⟩, rfl, hS, hn, hc, by rw [size_mk] at hs3; exact hs3, hz⟩
theorem open_ops {fuel : Nat} {v : Value} {x : DataW H × List MemPlace} (h : DataW.trod enc Tryz.prog w base (fun _ => true) held fuel 22 [v] = some x) (hw : ∀ m ∈ x.1.weights Tryz.prog 22, m ≤ reachBytes) :
    ∃ (A : Option Addr) (n c : Nat) (l : List OpG), v = .slice A n c ∧ Sl w 8 A n (opsC l) ∧ ∀ o ∈ l, o.ok w := by
  obtain ⟨A, n, c, xs, rfl, _, _, _, _, hxs, hS⟩ := open_rows (α := OpG) OpG.cells (fun o => o.ok w) Tryz.underlying22 Tryz.cellsOp (by omega) (fun n cs y hy hwy => open_op hy hwy) h hw
  exact ⟨A, n, c, xs, rfl, hS, fun o ho => (hxs o ho).1⟩
end
end Go.Proofs.YtegehaokfcamfaaGreatDoor
