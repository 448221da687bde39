/-
  Words for a disk in memory: a map from names to rows of bytes. Plain lemmas.
-/
import Derived.Test.YtkginbfpokbhcaaGreatDoorKitW
import Derived.Test.YtkginbfpokbhcaaGreatDoorFiles
namespace Go.Proofs.YtkginbfpokbhcaaGreatDoor
open Go.RowKit

/-- a slice's value, as data: where it lies (block, offset), how long it is, its capacity -/
structure Hd where
  A : Option (Nat × Nat)
  n : Nat
  c : Nat
def Hd.a (h : Hd) : Option Addr := h.A.map fun p => ⟨p.1, p.2, none⟩
def Hd.v (h : Hd) : Value := .slice h.a h.n h.c
def Hd.d (h : Hd) : DataW Unit := match h.A with
  | none => .agg [.lit (.int .i64 h.n), .lit (.int .i64 h.c)]
  | some p => .agg [.lit (.int .i64 p.1), .lit (.int .i64 p.2), .lit (.int .i64 h.n), .lit (.int .i64 h.c)]
def rdH : Value → Option (DataW Unit × List MemPlace)
  | .slice none n c => some ((⟨none, n, c⟩ : Hd).d, [])
  | .slice (some ⟨b, off, none⟩) n c => some ((⟨some (b, off), n, c⟩ : Hd).d, [])
  | _ => none
theorem Hd.d_inj {h k : Hd} (e : h.d = k.d) : h = k := by
  obtain ⟨A, n, c⟩ := h
  obtain ⟨B, m, d⟩ := k
  rcases A with _ | ⟨b, o⟩ <;> rcases B with _ | ⟨b', o'⟩ <;> simp [Hd.d] at e
  · obtain ⟨e1, e2⟩ := e
    obtain rfl : n = m := by omega
    obtain rfl : c = d := by omega
    rfl
  · obtain ⟨e1, e2, e3, e4⟩ := e
    obtain rfl : b = b' := by omega
    obtain rfl : o = o' := by omega
    obtain rfl : n = m := by omega
    obtain rfl : c = d := by omega
    rfl
/-- map[string][]byte -/
def diskC : Coding Tryz.prog 9 34 (List UInt8) Hd where
  kv := S
  kl := Lit.string
  vv := Hd.v
  vd := Hd.d
  R := rdH
  good s := s.length ≤ maxLen
  keyed := Maps.string_keyed Tryz.underlying9
  key s h := by
    have := WideMaps.keyOf_string_mk (P := Tryz.prog) Tryz.underlying9 (s := ⟨s.toArray⟩) (by rw [size_mk]; exact h)
    simpa using this
  inj _ _ _ _ h := by injection h
  enc h := by
    obtain ⟨A, n, c⟩ := h
    rcases A with _ | ⟨b, o⟩ <;> rfl
  dec v a ps h := by
    unfold rdH at h
    split at h
    · simp only [Option.some.injEq, Prod.mk.injEq] at h
      rw [← Hd.d_inj h.1]
      rfl
    · simp only [Option.some.injEq, Prod.mk.injEq] at h
      rw [← Hd.d_inj h.1]
      rfl
    · cases h
theorem Tryz.zeroH (w : World) : (zeroValue 34).run Tryz.prog w = .ok (diskC.vv ⟨none, 0, 0⟩) w := by kernel_rfl
set_option maxRecDepth 100000 in
theorem str_key9 {v : Value} {l : Lit} (h : keyOf Tryz.prog 9 v = some l) : ∃ x : List UInt8, v = S x ∧ x.length ≤ maxLen := by
  have h1 : mapKey Tryz.prog 9 v = some l := by
    unfold keyOf at h
    rw [Tryz.underlying9] at h
    exact h
  unfold mapKey at h1
  rw [Tryz.underlying9] at h1
  cases v with
  | string s =>
    simp only at h1
    split at h1
    · rename_i hs
      obtain ⟨x, rfl⟩ := str_of s
      exact ⟨x, rfl, by rw [size_mk] at hs; exact hs⟩
    · cases h1
  | _ => cases h1
theorem diskC_full : diskC.Full where
  invK v l h := str_key9 h
  invV v y h := by
    change rdH v = some y at h
    unfold rdH at h
    split at h
    · rename_i n c
      exact ⟨⟨none, n, c⟩, rfl⟩
    · rename_i b off n c
      exact ⟨⟨some (b, off), n, c⟩, rfl⟩
    · cases h

/-- may a file be called so? -/
def okName (s : List UInt8) : Bool := decide (1 ≤ s.length) && (decide (s.length ≤ 200) && decide (Lib.indexByte s 0 < 0))
theorem okName_len {s : List UInt8} (h : okName s = true) : 1 ≤ s.length ∧ s.length ≤ 200 := by
  unfold okName at h
  simp only [Bool.and_eq_true, decide_eq_true_eq] at h
  exact ⟨h.1, h.2.1⟩
/-- a file: its name, where its bytes lie, its bytes -/
abbrev DF := List UInt8 × Hd × List UInt8
def cost1 (x : DF) : Nat := 16 + x.1.length + x.2.2.length
def costs : List DF → Nat
  | [] => 0
  | x :: l => cost1 x + costs l
def keyF (L : List DF) : List (List UInt8 × Hd) := L.map fun x => (x.1, x.2.1)
/-- a disk that is on and has no cut ahead: block p; its files' map: block m, of at most n entries; so much room at first; its files -/
structure DiskAt (w : World) (p m n : Nat) (cap : Int) (L : List DF) : Prop where
  blk : ∃ ops : Int, Blk w p 92 #[I cap, .map (some m), I (cap - costs L), I ops, I (-1), .bool false]
  map : MapL diskC w m n (keyF L)
  row : ∀ x ∈ L, SlT (fun _ => True) 5 w 1 x.2.1.a x.2.1.n (u8s x.2.2)
  name : ∀ x ∈ L, okName x.1 = true
  small : ∀ x ∈ L, x.2.1.n ≤ 1000000000000
section
variable {w w' : World} {p m n : Nat} {cap : Int} {L : List DF}
theorem DiskAt.keep (h : DiskAt w p m n cap L) (hp : w'.heap[p]? = w.heap[p]?) (hm : w'.heap[m]? = w.heap[m]?) (hk : KeepT 5 w w') : DiskAt w' p m n cap L := by
  obtain ⟨⟨ops, h1⟩, h2, h3, h4, h5⟩ := h
  exact ⟨⟨ops, hp.trans h1⟩, h2.block hm, fun x hx => (h3 x hx).keep hk, h4, h5⟩
theorem DiskAt.lt (h : DiskAt w p m n cap L) : p < w.heap.size := by obtain ⟨⟨ops, h1⟩, _⟩ := h; exact h1.lt
theorem DiskAt.step (h : DiskAt w p m n cap L) (hb : Below w.heap.size w w') : DiskAt w' p m n cap L := h.keep (hb.block p h.lt) (hb.block m h.map.lt) (.of_below hb)
theorem DiskAt.drewN (h : DiskAt w p m n cap L) (k : Nat) : DiskAt (w.drewN k) p m n cap L := h.step (below_drewN (Below.refl _ _) k)
theorem DiskAt.keys (h : DiskAt w p m n cap L) : (L.map (·.1)).Nodup := by
  have := h.map.nodup
  unfold keyF at this
  rwa [List.map_map] at this
/-- a file by its name -/
def getF (L : List DF) (s : List UInt8) : Option DF := L.find? (fun x => decide (x.1 = s))
theorem getF_lk (L : List DF) (s : List UInt8) : lk (keyF L) s = (getF L s).map (fun x => x.2.1) := by
  unfold lk keyF getF
  rw [List.find?_map]
  simp only [Option.map_map]
  rfl
theorem getF_mem {L : List DF} {s : List UInt8} {x : DF} (h : getF L s = some x) : x ∈ L ∧ x.1 = s := ⟨List.mem_of_find?_eq_some h, by simpa using List.find?_some h⟩
theorem getF_none {L : List DF} {s : List UInt8} : getF L s = none ↔ s ∉ L.map (·.1) := by
  unfold getF
  rw [List.find?_eq_none]
  constructor
  · intro h hm
    obtain ⟨x, hx, e⟩ := List.mem_map.1 hm
    exact h x hx (decide_eq_true e)
  · intro h x hx e
    exact h (List.mem_map.2 ⟨x, hx, of_decide_eq_true e⟩)
end
end Go.Proofs.YtkginbfpokbhcaaGreatDoor
