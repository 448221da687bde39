/-
  Base texts, merged by a program (mkkit.py): words for slices, blocks, maps, regions that draw their order, the plain law of paths and of an index. Conditions: each lemma's own.
-/
import Derived.Test.YtegehaokfcamfaaGreatDoorProg
import Derived.WalkKit
import Derived.WalkSpells
import Derived.WalkLawsBesides
import Derived.Deep.QuietTactic
import Derived.BigQuiet
import Derived.Deep.LoopGhost
import Derived.Deep.Draws
import Derived.Laws.OwnMore
import Derived.Laws.Rows
import Derived.Laws.IdiomStrings
import Derived.Lib.Hide
import Derived.Maps.AppendAt
import Derived.RegionTactic
import Derived.Laws.BytesArg
import Derived.OwnWalk
import Derived.Maps.OwnSet
import Derived.Maps.OwnOps
import Derived.Maps.RangeWalk
import Derived.Sort.MapsRangeIn
import Derived.OwnWalkIn
import Derived.ProofKit
import Derived.OpenShut
import Derived.Deep.Slices
import Derived.SizedLaws
import Derived.Lib.SliceRun
import Derived.OrdersIn
import Derived.TacticsIn
import Derived.RangeFuncNested
import Derived.RangeFuncBound
import Derived.RangeFuncCalls
import Derived.RangeFuncLeaves
import Derived.RangeFuncBox
import Derived.TacticsInMore
import Derived.LoopNIn
import Derived.LoopIn
import Derived.Lib.IndexMore
import Derived.Lib.SlTrimSet
import Derived.Test.YtegehaokfcamfaaGreatDoorRows
import Derived.Carry
import Derived.JoinedCond
import Derived.Lib.SmallJoins
import Derived.SliceStrings
/-
  Words for memory that all walks of this seat use: a slice that reads as a list, a block that is known whole, strings and bytes as lists of bytes. No condition: plain lemmas.
-/
namespace Go.Proofs.YtegehaokfcamfaaGreatDoor
open Go.RowKit

/-- a string's value -/
abbrev S (l : List UInt8) : Value := .string ⟨l.toArray⟩
/-- a byte's value -/
abbrev U8 (x : UInt8) : Value := .int .u8 (x.toNat : Int)
/-- an int's value -/
abbrev I (n : Int) : Value := .int .i64 n
abbrev strs (ss : List (List UInt8)) : List Value := ss.map S
abbrev u8s (l : List UInt8) : List Value := l.map U8

theorem toList_mk (l : List UInt8) : (⟨l.toArray⟩ : ByteArray).toList = l := by simp
theorem str_of (s : ByteArray) : ∃ l : List UInt8, s = ⟨l.toArray⟩ := ⟨s.data.toList, by cases s; simp⟩
theorem size_mk (l : List UInt8) : (⟨l.toArray⟩ : ByteArray).size = l.length := by simp [ByteArray.size]

/-- The slice value '.slice A n c', of elements of 'sz' cells, reads as xs. -/
def Sl (w : World) (sz : Nat) (A : Option Addr) (n : Nat) (xs : List Value) : Prop :=
  xs.length = n * sz ∧ (0 < n → ∃ b off, A = some ⟨b, off, none⟩ ∧ b < w.heap.size ∧ ∀ k, k < n * sz → w.cell? ⟨b, off + k, none⟩ = xs[k]?)

section
variable {w w' : World} {sz n k : Nat} {A : Option Addr} {xs : List Value}
theorem Sl.nil_ : Sl w sz A 0 [] := ⟨by simp, fun h => absurd h (by omega)⟩
theorem Sl.len (h : Sl w 1 A n xs) : xs.length = n := by have := h.1; omega
theorem Sl.at_ (h : Sl w 1 A n xs) (hk : k < n) : ∃ b off u, A = some ⟨b, off, none⟩ ∧ xs[k]? = some u ∧ w.cell? ⟨b, off + k, none⟩ = some u := by
  obtain ⟨b, off, e, hb, hc⟩ := h.2 (by omega)
  have hl : k < xs.length := by have := h.1; omega
  exact ⟨b, off, xs[k], e, List.getElem?_eq_getElem hl, (hc k (by omega)).trans (List.getElem?_eq_getElem hl)⟩
theorem Sl.keep (h : Sl w sz A n xs) (hk : ∀ p : Addr, p.block < w.heap.size → w'.cell? p = w.cell? p) (hs : w.heap.size ≤ w'.heap.size) : Sl w' sz A n xs :=
  ⟨h.1, fun hn => by
    obtain ⟨b, off, e, hb, hc⟩ := h.2 hn
    exact ⟨b, off, e, by omega, fun k hk' => (hk _ hb).trans (hc k hk')⟩⟩
theorem Sl.below (h : Sl w sz A n xs) (hb : Below w.heap.size w w') : Sl w' sz A n xs := h.keep (fun _ hp => hb.cell hp) hb.size
theorem Sl.drew (h : Sl w sz A n xs) : Sl w.drew sz A n xs := h
theorem Sl.drewN (h : Sl w sz A n xs) (k : Nat) : Sl (w.drewN k) sz A n xs := h
theorem Sl.alloc (h : Sl w sz A n xs) (o : Obj) : Sl (w.alloc o) sz A n xs := h.below ((Below.refl _ _).alloc (Nat.le_refl _) o)
theorem Sl.of_own {base : Nat} {e : TypeId} {c : Nat} (h : w.ownsRow base e sz (.slice A n c) n xs) : Sl w sz A n xs := by
  refine ⟨h.1, fun hn => ?_⟩
  have hlt := h.lt
  have hcs := fun g => h.cells (g := g)
  rcases h.2 with ⟨_, h0⟩ | ⟨g, cap, cur, hv, _, _, _, _, _, _⟩
  · omega
  · have hA : A = some ⟨g, 0, none⟩ := by injection hv
    subst hA
    refine ⟨g, 0, rfl, (hlt g rfl).2, fun k hk => ?_⟩
    have hl : k < xs.length := by rw [h.1]; exact hk
    have := hcs g rfl k _ (List.getElem?_eq_getElem hl)
    rw [List.getElem?_eq_getElem hl, ← this]
    unfold Addr.add
    split <;> simp_all
theorem Sl.str {ss : List (List UInt8)} (h : Sl w 1 A n (strs ss)) (hk : k < n) : ∃ b off s, A = some ⟨b, off, none⟩ ∧ ss[k]? = some s ∧ w.cell? ⟨b, off + k, none⟩ = some (S s) := by
  obtain ⟨b, off, u, e, hx, hc⟩ := h.at_ hk
  simp only [strs, List.getElem?_map, Option.map_eq_some_iff] at hx
  obtain ⟨s, hs, rfl⟩ := hx
  exact ⟨b, off, s, e, hs, hc⟩
theorem Sl.byte {l : List UInt8} (h : Sl w 1 A n (u8s l)) (hk : k < n) : ∃ b off x, A = some ⟨b, off, none⟩ ∧ l[k]? = some x ∧ w.cell? ⟨b, off + k, none⟩ = some (U8 x) := by
  obtain ⟨b, off, u, e, hx, hc⟩ := h.at_ hk
  simp only [u8s, List.getElem?_map, Option.map_eq_some_iff] at hx
  obtain ⟨s, hs, rfl⟩ := hx
  exact ⟨b, off, s, e, hs, hc⟩
end

/-- Block g is just the cells cs of element type t, none of them frozen. -/
def Blk (w : World) (g : Nat) (t : TypeId) (cs : Array Value) : Prop := w.heap[g]? = some (.cells cs t (0, 0))

section
variable {w w' : World} {g : Nat} {t : TypeId} {cs : Array Value}
theorem Blk.lt (h : Blk w g t cs) : g < w.heap.size := by
  rcases Nat.lt_or_ge g w.heap.size with hlt | hge
  · exact hlt
  · unfold Blk at h; rw [Array.getElem?_eq_none hge] at h; cases h
theorem Blk.cell (h : Blk w g t cs) (i : Nat) : w.cell? ⟨g, i, none⟩ = cs[i]? := cell_of_row w g i cs t (0, 0) h
theorem Blk.frozen (h : Blk w g t cs) (i : Nat) : w.frozen? ⟨g, i, none⟩ = false := by
  unfold Blk at h
  simp [World.frozen?, h]
theorem Blk.new (w : World) (t : TypeId) (cs : Array Value) : Blk (w.alloc (.cells cs t)) w.heap.size t cs := heap_alloc_new w _
theorem Blk.drew (h : Blk w g t cs) : Blk w.drew g t cs := h
theorem Blk.drewN (h : Blk w g t cs) (n : Nat) : Blk (w.drewN n) g t cs := h
theorem Blk.alloc (h : Blk w g t cs) (o : Obj) : Blk (w.alloc o) g t cs := (Below.heap_alloc w o g h.lt).trans h
theorem Blk.set_ (h : Blk w g t cs) (i : Nat) (u : Value) : Blk (w.setCell ⟨g, i, none⟩ u) g t (cs.setIfInBounds i u) := by
  unfold Blk at h ⊢
  simp [World.setCell, Array.getElem?_modify, h]
theorem Blk.far (h : Blk w g t cs) {p : Addr} (hp : g ≠ p.block) (u : Value) : Blk (w.setCell p u) g t cs := (Below.heap_setCell w p u g hp).trans h
theorem Blk.below {B : Nat} (h : Blk w g t cs) (hb : Below B w w') (hg : g < B) : Blk w' g t cs := (hb.block g hg).trans h
theorem Blk.grown {row : Option Nat} (h : Blk w g t cs) (hb : w.grownBy w' row) (hg : some g ≠ row) : Blk w' g t cs := (hb.block g h.lt hg).trans h
end
theorem Blk.step {w w' : World} {g : Nat} {t : TypeId} {cs : Array Value} (h : Blk w g t cs) (hb : Below w.heap.size w w') : Blk w' g t cs := h.below hb h.lt
theorem Below.step {B : Nat} {w0 w w' : World} (h : Below B w0 w) (hB : B ≤ w0.heap.size) (hb : Below w.heap.size w w') : Below B w0 w' := h.trans (hb.mono (Nat.le_trans hB h.size))
theorem Blk.sl {w : World} {g : Nat} {t : TypeId} {xs : List Value} (h : Blk w g t xs.toArray) : Sl w 1 (some ⟨g, 0, none⟩) xs.length xs :=
  ⟨by simp, fun _ => ⟨g, 0, rfl, h.lt, fun k _ => by rw [h.cell, Nat.zero_add]; simp⟩⟩
theorem setCell_size (w : World) (p : Addr) (u : Value) : (w.setCell p u).heap.size = w.heap.size := by simp [World.setCell]
/-- a call's 'Below' where its caller's world had a cell set -/
theorem below_set {w w' : World} {p : Addr} {u : Value} (h : Below (w.setCell p u).heap.size (w.setCell p u) w') : Below w.heap.size (w.setCell p u) w' := by rwa [setCell_size] at h

theorem below_drewN {B : Nat} {a w : World} (h : Below B a w) (n : Nat) : Below B a (w.drewN n) := ⟨h.os, h.tape, h.output, h.size, h.block⟩
theorem ret_int {k : IntKind} {a b : Int} (h : a = b) : Ending.returned (.int k a) = .returned (.int k b) := by rw [h]
theorem ret_bool {a b : Bool} (h : a = b) : Ending.returned (.bool a) = .returned (.bool b) := by rw [h]

end Go.Proofs.YtegehaokfcamfaaGreatDoor

/-
  append onto a row of the call's own, from whatever slice: laws for a plain statement and for one that draws its order. Conditions: the room that append asks for.
-/
namespace Go.Proofs.YtegehaokfcamfaaGreatDoor
open Go.RowKit

/-- The slice value '.slice A n c' is nil, or owns a row of blocks from w0's end on, which holds xs; below w0's end all is as it was. -/
def Ow (w0 w : World) (e : TypeId) (sz : Nat) (A : Option Addr) (n c : Nat) (xs : List Value) : Prop :=
  w.ownsRow w0.heap.size e sz (.slice A n c) n xs ∧ Below w0.heap.size w0 w

section
variable {w0 w w' : World} {e : TypeId} {sz n c : Nat} {A : Option Addr} {xs : List Value}
theorem Ow.sl (h : Ow w0 w e sz A n c xs) : Sl w sz A n xs := Sl.of_own h.1
theorem Ow.size (h : Ow w0 w e sz A n c xs) : w0.heap.size ≤ w.heap.size := h.2.size
theorem Ow.nil_ (hb : Below w0.heap.size w0 w) : Ow w0 w e sz none 0 0 [] := ⟨World.ownsRow_nil _ _ _ _, hb⟩
theorem Ow.alloc (h : Ow w0 w e sz A n c xs) (o : Obj) : Ow w0 (w.alloc o) e sz A n c xs := ⟨h.1.alloc o, h.2.alloc h.2.size o⟩
theorem Ow.keep (h : Ow w0 w e sz A n c xs) (hb : Below w.heap.size w w') : Ow w0 w' e sz A n c xs := by
  refine ⟨h.1.kept (row := none) ⟨hb.os, hb.tape, hb.output, hb.size, fun k hk _ => hb.block k hk⟩ ?_, h.2.trans (hb.mono h.2.size)⟩
  rcases hv : (Value.slice A n c).ownBlock with _ | g
  · exact .inl rfl
  · exact .inr (by simp)
theorem Ow.drewN (h : Ow w0 w e sz A n c xs) (k : Nat) : Ow w0 (w.drewN k) e sz A n c xs := h.keep (below_drewN (Below.refl _ _) k)
theorem Ow.drew (h : Ow w0 w e sz A n c xs) : Ow w0 w.drew e sz A n c xs := h.keep (Below.refl _ _).drew
theorem Ow.cap (h : Ow w0 w e sz A n c xs) : n ≤ c ∧ c ≤ maxLen := by
  rcases h.1.2 with ⟨hv, h0⟩ | ⟨g, cap, cur, hv, _, _, h1, h2, _, _⟩
  · injection hv with _ h1 h2; subst h2; omega
  · injection hv with _ _ h3; subst h3; exact ⟨h1, h2⟩
theorem Ow.len (h : Ow w0 w e sz A n c xs) : xs.length = n * sz := h.1.1
end

theorem own_shape {w : World} {base sz n : Nat} {e : TypeId} {v : Value} {xs : List Value} (h : w.ownsRow base e sz v n xs) : ∃ A c, v = .slice A n c := by
  rcases h.2 with ⟨rfl, rfl⟩ | ⟨g, cap, cur, rfl, _⟩
  · exact ⟨_, _, rfl⟩
  · exact ⟨_, _, rfl⟩

section
variable {P : Program} (w : World)

theorem run_append_of_nil (base : Nat) (t ty e : TypeId) (i : TypeInfo) (size : Nat) (ht : P.underlying t = some (.slice e)) (hi : P.info? e = some i)
    (v : Value) (n : Nat) (xs : List Value) (hown : w.ownsRow base e size v n xs) (c : Nat) : (Builtin.append_ #[t, t] ty #[v, .slice none 0 c]).run P w = .ok v w := by
  rcases hown.2 with ⟨rfl, rfl⟩ | ⟨g, cap, cur, rfl, _, _, hnc, _⟩
  · simp [Builtin.append_, run_underlying ht, sizeOf, typeInfo, hi, Builtin.lenOf, Builtin.firstCells]
  · simp [Builtin.append_, run_underlying ht, sizeOf, typeInfo, hi, Builtin.lenOf, Builtin.firstCells, hnc, storeCells]

theorem run_append_sl (base : Nat) (t ty e : TypeId) (i : TypeInfo) (z : Value) (size bytes : Nat) (ht : P.underlying t = some (.slice e)) (hi : P.info? e = some i) (hz : i.zero = some z)
    (hsize : i.size = size) (hby : i.bytes = bytes) (hzs : z.cells.size = size) (hsz : 0 < size)
    (v : Value) (n : Nat) (xs : List Value) (hown : w.ownsRow base e size v n xs)
    (A : Option Addr) (m c : Nat) (news : List Value) (hr : Sl w size A m news) (h1 : ∀ u ∈ news, u.oneCell' = true)
    (h63 : n + m ≤ maxLen) (hbytes : (n + m) * bytes ≤ 140737488355328) (hbase : base ≤ w.heap.size) :
    ∃ A' c' w', (Builtin.append_ #[t, t] ty #[v, .slice A m c]).run P w = .ok (.slice A' (n + m) c') w' ∧ w'.ownsRow base e size (.slice A' (n + m) c') (n + m) (xs ++ news) ∧ w.grownBy w' v.ownBlock ∧
      ((Value.slice A' (n + m) c').ownBlock = v.ownBlock ∨ (Value.slice A' (n + m) c').ownBlock = some w.heap.size) := by
  have key : ∃ v' w', (Builtin.append_ #[t, t] ty #[v, .slice A m c]).run P w = .ok v' w' ∧ w'.ownsRow base e size v' (n + m) (xs ++ news) ∧ w.grownBy w' v.ownBlock ∧
      (v'.ownBlock = v.ownBlock ∨ v'.ownBlock = some w.heap.size) := by
    rcases A with _ | ad
    · have hm : m = 0 := by
        rcases Nat.eq_zero_or_pos m with h0 | h0
        · exact h0
        · obtain ⟨_, _, h, _⟩ := hr.2 h0
          cases h
      subst hm
      have hn : news = [] := List.eq_nil_of_length_eq_zero (by simpa using hr.1)
      subst hn
      exact ⟨v, w, run_append_of_nil w base t ty e i size ht hi v n xs hown c, by simpa using hown, World.grownBy.refl w _, .inl rfl⟩
    · have hcells : ∀ j u, news[j]? = some u → w.cell? (ad.add j) = some u := by
        intro j u hu
        have hj := (List.getElem?_eq_some_iff.1 hu).1
        rcases Nat.eq_zero_or_pos m with h0 | h0
        · have := hr.1; rw [h0] at this; omega
        · obtain ⟨b, off, h, _, hc⟩ := hr.2 h0
          injection h with h
          subst h
          rw [← hu, ← hc j (by rw [← hr.1]; exact hj)]
          unfold Addr.add
          split <;> simp_all
      obtain ⟨v', w', hrun, h2, h3, _, h5⟩ := run_append_own_at (P := P) w base t ty e i z size bytes ht hi hz hsize hby hzs hsz v n xs hown ad m c news hr.1 hcells h1 h63 hbytes hbase
      exact ⟨v', w', hrun, h2, h3, h5⟩
  obtain ⟨v', w', hrun, h2, h3, h4⟩ := key
  obtain ⟨A', c', rfl⟩ := own_shape h2
  exact ⟨A', c', w', hrun, h2, h3, h4⟩

theorem wp_append_sl {o : Oper} {a : Act} {K : Act → World → Prop} {Q : Exit → Act → World → Prop} (s x : Operand) (t : TypeId)
    (ho : o.op = .call { callee := .builtin .append, args := #[s, x], argTypes := #[t, t] })
    (w0 : World) (e : TypeId) (i : TypeInfo) (z : Value) (size bytes : Nat) (ht : P.underlying t = some (.slice e)) (hi : P.info? e = some i) (hz : i.zero = some z)
    (hsize : i.size = size) (hby : i.bytes = bytes) (hzs : z.cells.size = size) (hsz : 0 < size)
    (Ad : Option Addr) (n cd : Nat) (xs : List Value) (hs : a.eval s = .slice Ad n cd) (hown : Ow w0 w e size Ad n cd xs)
    (A : Option Addr) (m c : Nat) (news : List Value) (hx : a.eval x = .slice A m c) (hr : Sl w size A m news) (h1 : ∀ u ∈ news, u.oneCell' = true)
    (h63 : n + m ≤ maxLen) (hbytes : (n + m) * bytes ≤ 140737488355328)
    (h : ∀ A' c' w', Ow w0 w' e size A' (n + m) c' (xs ++ news) → w.grownBy w' (Value.slice Ad n cd).ownBlock → ((Value.slice A' (n + m) c').ownBlock = (Value.slice Ad n cd).ownBlock ∨ (Value.slice A' (n + m) c').ownBlock = some w.heap.size) → K (a.put o.dst (.slice A' (n + m) c')) w') : o.wp P a w K Q := by
  obtain ⟨A', c', w', hrun, h2, h3, h4⟩ := run_append_sl (P := P) w w0.heap.size t o.type e i z size bytes ht hi hz hsize hby hzs hsz _ n xs hown.1 A m c news hr h1 h63 hbytes hown.2.size
  unfold Oper.wp execOp
  simp only [ho, resolve, invoke, builtin, Sem.run_bind, Sem.run_pure, Result.andThen_ok, List.map_toArray, List.map_cons, List.map_nil, hs, hx, hrun]
  exact h A' c' w' ⟨h2, hown.2.grown h3 hown.2.size (fun k hk => (hown.1.lt k hk).1)⟩ h3 h4

theorem wpList_append_sl {ops : Array Oper} {rest : List Oper} {o : Oper} {a : Act} {Q : Exit → Act → World → Prop} (hgd : o.guard = none) (s x : Operand) (t : TypeId)
    (ho : o.op = .call { callee := .builtin .append, args := #[s, x], argTypes := #[t, t] })
    (w0 : World) (e : TypeId) (i : TypeInfo) (z : Value) (size bytes : Nat) (ht : P.underlying t = some (.slice e)) (hi : P.info? e = some i) (hz : i.zero = some z)
    (hsize : i.size = size) (hby : i.bytes = bytes) (hzs : z.cells.size = size) (hsz : 0 < size)
    (Ad : Option Addr) (n cd : Nat) (xs : List Value) (hs : a.eval s = .slice Ad n cd) (hown : Ow w0 w e size Ad n cd xs)
    (A : Option Addr) (m c : Nat) (news : List Value) (hx : a.eval x = .slice A m c) (hr : Sl w size A m news) (h1 : ∀ u ∈ news, u.oneCell' = true)
    (h63 : n + m ≤ maxLen) (hbytes : (n + m) * bytes ≤ 140737488355328)
    (h : ∀ A' c' w', Ow w0 w' e size A' (n + m) c' (xs ++ news) → w.grownBy w' (Value.slice Ad n cd).ownBlock → ((Value.slice A' (n + m) c').ownBlock = (Value.slice Ad n cd).ownBlock ∨ (Value.slice A' (n + m) c').ownBlock = some w.heap.size) → wpList P ops Q rest (a.put o.dst (.slice A' (n + m) c')) w') : wpList P ops Q (o :: rest) a w :=
  wpList_plain hgd fun _ hK => wp_append_sl w s x t ho w0 e i z size bytes ht hi hz hsize hby hzs hsz Ad n cd xs hs hown A m c news hx hr h1 h63 hbytes fun A' c' w' h2 h3 h4 => hK _ _ (h A' c' w' h2 h3 h4)

theorem step_append_sl {ops : Array Oper} {o : Oper} {a : Act} {K : Act → World → Prop} {Q : Exit → Act → World → Prop} {E : Prop} (hgd : o.guard = none) (s x : Operand) (t : TypeId)
    (ho : o.op = .call { callee := .builtin .append, args := #[s, x], argTypes := #[t, t] })
    (w0 : World) (e : TypeId) (i : TypeInfo) (z : Value) (size bytes : Nat) (ht : P.underlying t = some (.slice e)) (hi : P.info? e = some i) (hz : i.zero = some z)
    (hsize : i.size = size) (hby : i.bytes = bytes) (hzs : z.cells.size = size) (hsz : 0 < size)
    (Ad : Option Addr) (n cd : Nat) (xs : List Value) (hs : a.eval s = .slice Ad n cd) (hown : Ow w0 w e size Ad n cd xs)
    (A : Option Addr) (m c : Nat) (news : List Value) (hx : a.eval x = .slice A m c) (hr : Sl w size A m news) (h1 : ∀ u ∈ news, u.oneCell' = true)
    (h63 : n + m ≤ maxLen) (hbytes : (n + m) * bytes ≤ 140737488355328)
    (h : ∀ A' c' w', Ow w0 w' e size A' (n + m) c' (xs ++ news) → w.grownBy w' (Value.slice Ad n cd).ownBlock → ((Value.slice A' (n + m) c').ownBlock = (Value.slice Ad n cd).ownBlock ∨ (Value.slice A' (n + m) c').ownBlock = some w.heap.size) → K (a.put o.dst (.slice A' (n + m) c')) w') :
    if Region.wanted o (yielded ops a.tmps) = true then Oper.wp P o a w K Q else E := by
  have hw : Region.wanted o (yielded ops a.tmps) = true := by simp [Region.wanted, hgd]
  rw [if_pos hw]
  exact wp_append_sl w s x t ho w0 e i z size bytes ht hi hz hsize hby hzs hsz Ad n cd xs hs hown A m c news hx hr h1 h63 hbytes h
end

theorem bstep {w0 w w' : World} (h : Below w0.heap.size w0 w) (hb : Below w.heap.size w w') : Below w0.heap.size w0 w' := h.trans (hb.mono h.size)
theorem balloc {w0 w : World} (h : Below w0.heap.size w0 w) (o : Obj) : Below w0.heap.size w0 (w.alloc o) := h.alloc h.size o
theorem own_mono {w : World} {base base' sz n : Nat} {e : TypeId} {v : Value} {xs : List Value} (h : w.ownsRow base e sz v n xs) (hb : base' ≤ base) : w.ownsRow base' e sz v n xs := by
  refine ⟨h.1, ?_⟩
  rcases h.2 with h2 | ⟨g, cap, cur, hv, hg, r⟩
  · exact .inl h2
  · exact .inr ⟨g, cap, cur, hv, Nat.le_trans hb hg, r⟩
/-- owned since a later world, so owned since an earlier one -/
theorem Ow.since {w0 w w' : World} {e : TypeId} {sz n c : Nat} {A : Option Addr} {xs : List Value} (h : Ow w w' e sz A n c xs) (hb : Below w0.heap.size w0 w) : Ow w0 w' e sz A n c xs := ⟨own_mono h.1 hb.size, bstep hb h.2⟩
/-- one value in a block of its own, as 'append(l, x)' lays it -/
theorem sl_one (w : World) (t : TypeId) (v : Value) : Sl (w.alloc (.cells #[v] t)) 1 (some ⟨w.heap.size, 0, none⟩) 1 [v] := by
  refine ⟨rfl, fun _ => ⟨_, _, rfl, by simp, fun k hk => ?_⟩⟩
  obtain rfl : k = 0 := by omega
  simp
theorem one_strs (ss : List (List UInt8)) : ∀ u ∈ strs ss, u.oneCell' = true := by
  intro u hu; obtain ⟨s, _, rfl⟩ := List.mem_map.1 hu; rfl
theorem one_u8s (l : List UInt8) : ∀ u ∈ u8s l, u.oneCell' = true := by
  intro u hu; obtain ⟨s, _, rfl⟩ := List.mem_map.1 hu; rfl
theorem one_one {v : Value} (h : v.oneCell' = true) : ∀ u ∈ [v], u.oneCell' = true := by
  intro u hu; simp at hu; subst hu; exact h

/-- 'string(b)' -/
theorem run_conv_str {P : Program} (w : World) (src dst e : TypeId) (A : Option Addr) (n cap : Nat) (l : List UInt8) (hs : P.underlying src = some (.slice e)) (he : P.underlying e = some (.int .u8)) (hd : P.underlying dst = some .string)
    (h : Sl w 1 A n (u8s l)) : (convert src dst (.slice A n cap)).run P w = .ok (S l) w := by
  have hl : l.length = n := by simpa using h.len
  rcases A with _ | a
  · have hn : n = 0 := by
      rcases Nat.eq_zero_or_pos n with h0 | h0
      · exact h0
      · obtain ⟨_, _, h, _⟩ := h.2 h0
        cases h
    subst hn
    obtain rfl : l = [] := List.eq_nil_of_length_eq_zero hl
    exact run_convert_bytes_nil (P := P) w src e hs he 0 cap dst hd
  · subst hl
    refine run_convert_bytes_back w src dst e a cap l hs he hd (fun j hj => ?_)
    obtain ⟨b, off, x, e1, hx, hc⟩ := h.byte hj
    cases e1
    rw [List.getElem?_eq_getElem hj] at hx
    cases hx
    rw [← hc]
    unfold Addr.add
    split <;> simp_all

theorem Tryz.infoStr : (Tryz.prog.info? 9).map (fun i => (i.zero, i.size, i.bytes)) = some (some (.string ⟨#[]⟩), 1, 16) := by kernel_rfl
theorem Tryz.infoU8 : (Tryz.prog.info? 5).map (fun i => (i.zero, i.size, i.bytes)) = some (some (.int .u8 0), 1, 1) := by kernel_rfl
end Go.Proofs.YtegehaokfcamfaaGreatDoor

/-
  A part of a slice: s[l:], s[:h], s[l:h], as the walk takes it. Conditions: the bounds fit.
-/
namespace Go.Proofs.YtegehaokfcamfaaGreatDoor
open Go.RowKit

/-- where a part of a slice begins -/
def cutA (A : Option Addr) (c l sz : Nat) : Option Addr := if c = l then A else A.map (·.add (l * sz))

theorem cutA_blk {A : Option Addr} {c l sz : Nat} {a : Addr} (h : cutA A c l sz = some a) : ∃ a0, A = some a0 ∧ a.block = a0.block := by
  unfold cutA at h
  split at h
  · exact ⟨a, h, rfl⟩
  · cases A with
    | none => simp at h
    | some a0 =>
      simp only [Option.map_some, Option.some.injEq] at h
      refine ⟨a0, rfl, ?_⟩
      rw [← h]; unfold Addr.add; split <;> rfl
theorem Ow.blk {w0 w : World} {e : TypeId} {sz n c : Nat} {A : Option Addr} {xs : List Value} (h : Ow w0 w e sz A n c xs) {a : Addr} (ha : A = some a) : w0.heap.size ≤ a.block := by
  rcases h.1.2 with ⟨hv, _⟩ | ⟨g, cap, cur, hv, hg, _⟩
  · injection hv with h1; rw [h1] at ha; cases ha
  · injection hv with h1; rw [h1] at ha; cases ha; exact hg

/-- block g holds elements of type t -/
def BlkT (w : World) (g : Nat) (t : TypeId) : Prop := ∃ cur fr, w.heap[g]? = some (.cells cur t fr)
theorem BlkT.lt {w : World} {g : Nat} {t : TypeId} (h : BlkT w g t) : g < w.heap.size := by
  obtain ⟨cur, fr, h⟩ := h
  exact (Array.getElem?_eq_some_iff.1 h).1
theorem BlkT.step {w w' : World} {g : Nat} {t : TypeId} (h : BlkT w g t) (hb : Below w.heap.size w w') : BlkT w' g t := by
  have hlt := h.lt
  obtain ⟨cur, fr, h⟩ := h
  exact ⟨cur, fr, (hb.block g hlt).trans h⟩
theorem BlkT.set_ {w : World} {g : Nat} {t : TypeId} (h : BlkT w g t) (p : Addr) (u : Value) : BlkT (w.setCell p u) g t := by
  obtain ⟨cur, fr, h⟩ := h
  by_cases hp : g = p.block
  · subst hp
    unfold BlkT
    simp only [World.setCell, Array.getElem?_modify, h]
    simp
  · exact ⟨cur, fr, (Below.heap_setCell w p u g hp).trans h⟩
theorem BlkT.grown {w w' : World} {g : Nat} {t : TypeId} {row : Option Nat} (h : BlkT w g t) (hg : w.grownBy w' row) (hne : some g ≠ row) : BlkT w' g t := by
  have hlt := h.lt
  obtain ⟨cur, fr, h⟩ := h
  exact ⟨cur, fr, (hg.block g hlt hne).trans h⟩
theorem BlkT.ne_ {w : World} {g g' : Nat} {t t' : TypeId} {cs : Array Value} (h : BlkT w g t) (h' : Blk w g' t' cs) (hne : t ≠ t') : g ≠ g' := by
  rintro rfl
  obtain ⟨cur, fr, h⟩ := h
  unfold Blk at h'
  rw [h] at h'
  injection h' with h'
  injection h' with _ ht
  exact hne ht
theorem BlkT.ne_own {w0 w : World} {g : Nat} {t e : TypeId} {sz n c : Nat} {A : Option Addr} {xs : List Value} (h : BlkT w g t) (ho : Ow w0 w e sz A n c xs) (hne : t ≠ e) : some g ≠ (Value.slice A n c).ownBlock := by
  rcases ho.1.2 with ⟨hv, _⟩ | ⟨g', cap, cur, hv, _, hh, _⟩
  · rw [hv]; simp [Value.ownBlock]
  · rw [hv]
    intro he
    have : g = g' := by simpa [Value.ownBlock] using he
    subst this
    obtain ⟨cur', fr, h⟩ := h
    rw [hh] at h
    injection h with h
    injection h with _ ht
    exact hne ht.symm
theorem Ow.blkT {w0 w : World} {e : TypeId} {sz n c : Nat} {A : Option Addr} {xs : List Value} (h : Ow w0 w e sz A n c xs) {a : Addr} (ha : A = some a) : BlkT w a.block e := by
  rcases h.1.2 with ⟨hv, _⟩ | ⟨g, cap, cur, hv, hg, hh, _⟩
  · injection hv with h1; rw [h1] at ha; cases ha
  · injection hv with h1; rw [h1] at ha; cases ha; exact ⟨cur, _, hh⟩

theorem Sl.cut {w : World} {sz : Nat} {A : Option Addr} {n : Nat} {xs : List Value} (h : Sl w sz A n xs) {l r c : Nat} (hl : l ≤ r) (hr : r ≤ n) (hc : n ≤ c) :
    Sl w sz (cutA A c l sz) (r - l) ((xs.drop (l * sz)).take ((r - l) * sz)) := by
  refine ⟨?_, fun hn => ?_⟩
  · rw [List.length_take, List.length_drop, h.1, ← Nat.sub_mul, Nat.min_eq_left]
    exact Nat.mul_le_mul_right _ (by omega)
  · obtain ⟨b, off, rfl, hb, hcell⟩ := h.2 (by omega)
    refine ⟨b, off + l * sz, ?_, hb, fun k hk => ?_⟩
    · unfold cutA
      rw [if_neg (by omega)]
      simp only [Option.map_some, Addr.add]
      split <;> simp_all
    · have e : l * sz + k < n * sz := by
        have h1 : l * sz + (r - l) * sz = r * sz := by rw [← Nat.add_mul]; congr 1; omega
        have h2 : r * sz ≤ n * sz := Nat.mul_le_mul_right _ hr
        omega
      rw [Nat.add_assoc, hcell _ e, List.getElem?_take_of_lt hk, List.getElem?_drop]

theorem Sl.tail_ {α : Type} {f : α → Value} {w : World} {A : Option Addr} {n : Nat} {l : List α} (h : Sl w 1 A n (l.map f)) {k c : Nat} (hk : k ≤ n) (hc : n ≤ c) : Sl w 1 (cutA A c k 1) (n - k) ((l.drop k).map f) := by
  have hl : l.length = n := by simpa using h.len
  have := h.cut (l := k) (r := n) (c := c) hk (Nat.le_refl _) hc
  rwa [Nat.mul_one, Nat.mul_one, List.take_of_length_le (by simp [hl]), ← List.map_drop] at this
theorem Sl.head_ {α : Type} {f : α → Value} {w : World} {A : Option Addr} {n : Nat} {l : List α} (h : Sl w 1 A n (l.map f)) {k c : Nat} (hk : k ≤ n) (hc : n ≤ c) : Sl w 1 (cutA A c 0 1) k ((l.take k).map f) := by
  have := h.cut (l := 0) (r := k) (c := c) (Nat.zero_le _) hk hc
  simpa using this
theorem Sl.mid_ {α : Type} {f : α → Value} {w : World} {A : Option Addr} {n : Nat} {l : List α} (h : Sl w 1 A n (l.map f)) {j k c : Nat} (hj : j ≤ k) (hk : k ≤ n) (hc : n ≤ c) : Sl w 1 (cutA A c j 1) (k - j) (((l.drop j).take (k - j)).map f) := by
  have := h.cut (l := j) (r := k) (c := c) hj hk hc
  rwa [Nat.mul_one, Nat.mul_one, ← List.map_drop, ← List.map_take] at this

section
variable {P : Program} (w : World) {t e : TypeId} {sz : Nat}
theorem run_cut_lh (ht : P.underlying t = some (.slice e)) (hz : ∀ w, (sizeOf e).run P w = .ok sz w) (A : Option Addr) (n c : Nat) (kl kh : IntKind) (l h : Nat) (h1 : l ≤ h) (h2 : h ≤ c) :
    (Instr.slice t (.slice A n c) (some (.int kl (l : Int))) (some (.int kh (h : Int))) none).run P w = .ok (.slice (cutA A c l sz) (h - l) (c - l)) w := by
  have ht' : P.underlying t = some (.slice (P.elem t)) := by simp [Program.elem, ht]
  have he : P.elem t = e := by simp [Program.elem, ht]
  rw [run_slice_lh w t A n c ht' kl kh (l : Int) (h : Int) (by omega) (by omega) (by omega), he, hz]
  simp [Result.andThen, sliced, cutA]
theorem run_cut_l (ht : P.underlying t = some (.slice e)) (hz : ∀ w, (sizeOf e).run P w = .ok sz w) (A : Option Addr) (n c : Nat) (kl : IntKind) (l : Nat) (h1 : l ≤ n) :
    (Instr.slice t (.slice A n c) (some (.int kl (l : Int))) none none).run P w = .ok (.slice (cutA A c l sz) (n - l) (c - l)) w := by
  have ht' : P.underlying t = some (.slice (P.elem t)) := by simp [Program.elem, ht]
  have he : P.elem t = e := by simp [Program.elem, ht]
  rw [run_slice_l w t A n c ht' kl (l : Int) (by omega) (by omega), he, hz]
  simp [Result.andThen, sliced, cutA]
theorem run_cut_h (ht : P.underlying t = some (.slice e)) (hz : ∀ w, (sizeOf e).run P w = .ok sz w) (A : Option Addr) (n c : Nat) (kh : IntKind) (h : Nat) (h2 : h ≤ c) :
    (Instr.slice t (.slice A n c) none (some (.int kh (h : Int))) none).run P w = .ok (.slice (cutA A c 0 sz) h c) w := by
  have ht' : P.underlying t = some (.slice (P.elem t)) := by simp [Program.elem, ht]
  have he : P.elem t = e := by simp [Program.elem, ht]
  rw [run_slice_h w t A n c ht' kh (h : Int) (by omega) (by omega), he, hz]
  simp [Result.andThen, sliced, cutA]
end
theorem Tryz.sizeU8 (w : World) : (sizeOf 5).run Tryz.prog w = .ok 1 w := by kernel_rfl
theorem Tryz.sizeStr (w : World) : (sizeOf 9).run Tryz.prog w = .ok 1 w := by kernel_rfl
end Go.Proofs.YtegehaokfcamfaaGreatDoor

/-
  Rows of the call's own: where they lie, what a store into them or elsewhere leaves. Plain lemmas.
-/
namespace Go.Proofs.YtegehaokfcamfaaGreatDoor
open Go.RowKit

theorem row_ne {w0 w : World} {e t : TypeId} {sz n c g : Nat} {A : Option Addr} {xs : List Value} {cs : Array Value} (h : Ow w0 w e sz A n c xs) (hg : Blk w g t cs) (hne : e ≠ t) : some g ≠ (Value.slice A n c).ownBlock := by
  rcases h.1.2 with ⟨hv, _⟩ | ⟨g', cap, cur, hv, _, hh, _⟩
  · rw [hv]; simp [Value.ownBlock]
  · rw [hv]
    intro he
    have : g = g' := by simpa [Value.ownBlock] using he
    subst this
    unfold Blk at hg
    rw [hh] at hg
    injection hg with hg
    injection hg with _ ht
    exact hne ht
/-- a store elsewhere -/
theorem Ow.far {w0 w : World} {sz n c : Nat} {e : TypeId} {A : Option Addr} {xs : List Value} (h : Ow w0 w e sz A n c xs) {p : Addr} (hp : some p.block ≠ (Value.slice A n c).ownBlock) (h0 : w0.heap.size ≤ p.block) (u : Value) : Ow w0 (w.setCell p u) e sz A n c xs := by
  refine ⟨⟨h.1.1, ?_⟩, h.2.setCell h0 u⟩
  rcases h.1.2 with h2 | ⟨g, cap, cur, hv, hg, hh, r⟩
  · exact .inl h2
  · have hne : g ≠ p.block := fun e => hp (by rw [hv]; simp [Value.ownBlock, e])
    exact .inr ⟨g, cap, cur, hv, hg, (Below.heap_setCell w p u g hne).trans hh, r⟩
/-- where a row that is not empty lies -/
theorem Ow.form {w0 w : World} {sz n c : Nat} {e : TypeId} {A : Option Addr} {xs : List Value} (h : Ow w0 w e sz A n c xs) (hn : 0 < n) : ∃ g, A = some ⟨g, 0, none⟩ ∧ w0.heap.size ≤ g ∧ g < w.heap.size := by
  rcases h.1.2 with ⟨hv, h0⟩ | ⟨g, cap, cur, hv, hg, hh, r⟩
  · omega
  · injection hv with h1
    exact ⟨g, h1, hg, (Array.getElem?_eq_some_iff.1 hh).1⟩
/-- a store into it -/
theorem Ow.set_ {w0 w : World} {sz n c g : Nat} {e : TypeId} {xs : List Value} (h : Ow w0 w e sz (some ⟨g, 0, none⟩) n c xs) (j : Nat) (u : Value) : Ow w0 (w.setCell ⟨g, j, none⟩ u) e sz (some ⟨g, 0, none⟩) n c (xs.set j u) :=
  ⟨(h.1.stored j u).1, h.2.setCell (h.1.lt g rfl).1 u⟩
theorem Ow.grown {w0 w w' : World} {sz n c : Nat} {e : TypeId} {A : Option Addr} {xs : List Value} {row : Option Nat} (h : Ow w0 w e sz A n c xs) (hg : w.grownBy w' row) (hne : (Value.slice A n c).ownBlock = none ∨ (Value.slice A n c).ownBlock ≠ row) (h0 : ∀ k, row = some k → w0.heap.size ≤ k) : Ow w0 w' e sz A n c xs :=
  ⟨h.1.kept hg hne, h.2.grown hg h.2.size h0⟩
theorem one_map {α : Type} {f : α → Value} (hf : ∀ x, (f x).oneCell' = true) (l : List α) : ∀ u ∈ l.map f, u.oneCell' = true := by
  intro u hu; obtain ⟨s, _, rfl⟩ := List.mem_map.1 hu; exact hf s
/-- the first append, onto nil -/
theorem wpList_append_first {P : Program} (w : World) {ops : Array Oper} {rest : List Oper} {o : Oper} {a : Act} {Q : Exit → Act → World → Prop} (hgd : o.guard = none) (s x : Operand) (t : TypeId)
    (ho : o.op = .call { callee := .builtin .append, args := #[s, x], argTypes := #[t, t] })
    (w0 : World) (e : TypeId) (i : TypeInfo) (z : Value) (size bytes : Nat) (ht : P.underlying t = some (.slice e)) (hi : P.info? e = some i) (hz : i.zero = some z)
    (hsize : i.size = size) (hby : i.bytes = bytes) (hzs : z.cells.size = size) (hsz : 0 < size)
    (hs : a.eval s = .slice none 0 0) (hb : Below w0.heap.size w0 w)
    (A : Option Addr) (m c : Nat) (news : List Value) (hx : a.eval x = .slice A m c) (hr : Sl w size A m news) (h1 : ∀ u ∈ news, u.oneCell' = true)
    (h63 : m ≤ maxLen) (hbytes : m * bytes ≤ 140737488355328)
    (h : ∀ A' c' w', Ow w0 w' e size A' m c' news → w.grownBy w' none → wpList P ops Q rest (a.put o.dst (.slice A' m c')) w') : wpList P ops Q (o :: rest) a w := by
  refine wpList_append_sl w hgd s x t ho w0 e i z size bytes ht hi hz hsize hby hzs hsz none 0 0 [] hs (Ow.nil_ hb) A m c news hx hr h1 (by omega) (by simpa using hbytes) ?_
  intro A' c' w' hO hg _
  rw [Nat.zero_add, List.nil_append] at hO
  rw [Nat.zero_add]
  exact h A' c' w' hO hg
end Go.Proofs.YtegehaokfcamfaaGreatDoor

/-
  Worlds that differ in named blocks alone; rows and blocks outside of them; append onto a row of one's own among them. Plain lemmas.
-/
namespace Go.Proofs.YtegehaokfcamfaaGreatDoor
open Go.RowKit

/-- w' is w, but for new blocks and for blocks of E -/
structure Fr (E : Nat → Prop) (w w' : World) : Prop where
  os : w'.os = w.os
  tape : w'.tape = w.tape
  output : w'.output = w.output
  size : w.heap.size ≤ w'.heap.size
  block : ∀ k, k < w.heap.size → ¬ E k → w'.heap[k]? = w.heap[k]?

section
variable {E : Nat → Prop} {a b c w w' : World}
theorem Fr.refl (E : Nat → Prop) (w : World) : Fr E w w := ⟨rfl, rfl, rfl, Nat.le_refl _, fun _ _ _ => rfl⟩
theorem Fr.trans (h : Fr E a b) (k : Fr E b c) : Fr E a c :=
  ⟨k.os.trans h.os, k.tape.trans h.tape, k.output.trans h.output, Nat.le_trans h.size k.size, fun i hi he => (k.block i (Nat.lt_of_lt_of_le hi h.size) he).trans (h.block i hi he)⟩
theorem Fr.of_below (h : Below w.heap.size w w') : Fr E w w' := ⟨h.os, h.tape, h.output, h.size, fun k hk _ => h.block k hk⟩
theorem Fr.of_grown {row : Option Nat} (h : w.grownBy w' row) (hr : ∀ k, row = some k → E k) : Fr E w w' :=
  ⟨h.os, h.tape, h.output, h.size, fun k hk he => h.block k hk (fun e => he (hr k e.symm))⟩
theorem Fr.alloc (h : Fr E a w) (o : Obj) : Fr E a (w.alloc o) := h.trans (.of_below (balloc (Below.refl _ _) o))
theorem Fr.drew (h : Fr E a w) : Fr E a w.drew := ⟨h.os, h.tape, h.output, h.size, h.block⟩
theorem Fr.drewN (h : Fr E a w) (n : Nat) : Fr E a (w.drewN n) := ⟨h.os, h.tape, h.output, h.size, h.block⟩
theorem Fr.step (h : Fr E a w) (hb : Below w.heap.size w w') : Fr E a w' := h.trans (.of_below hb)
theorem Fr.setCell (h : Fr E a w) {p : Addr} (hp : E p.block) (u : Value) : Fr E a (w.setCell p u) :=
  h.trans ⟨rfl, rfl, rfl, by rw [setCell_size]; exact Nat.le_refl _, fun k _ he => Below.heap_setCell w p u k (fun e => he (e ▸ hp))⟩
theorem Fr.weak {F : Nat → Prop} (h : Fr E a w) (hEF : ∀ k, E k → F k) : Fr F a w := ⟨h.os, h.tape, h.output, h.size, fun k hk he => h.block k hk (fun e => he (hEF k e))⟩
/-- all that may turn lies above B -/
theorem Fr.below {B : Nat} (h : Fr E w w') (hB : B ≤ w.heap.size) (hE : ∀ k, E k → B ≤ k) : Below B w w' :=
  ⟨h.os, h.tape, h.output, h.size, fun k hk => h.block k (by omega) (fun e => by have := hE k e; omega)⟩
theorem Fr.blk {g : Nat} {t : TypeId} {cs : Array Value} (h : Fr E w w') (hb : Blk w g t cs) (hg : ¬ E g) : Blk w' g t cs := (h.block g hb.lt hg).trans hb
theorem Fr.lt {g : Nat} (h : Fr E w w') (hg : g < w.heap.size) : g < w'.heap.size := Nat.lt_of_lt_of_le hg h.size
theorem Fr.cell (h : Fr E w w') {p : Addr} (hp : p.block < w.heap.size) (he : ¬ E p.block) : w'.cell? p = w.cell? p := World.cell?_of_block (h.block _ hp he)
end

/-- a slice that reads as xs, and lies outside of E -/
def SlF (E : Nat → Prop) (w : World) (sz : Nat) (A : Option Addr) (n : Nat) (xs : List Value) : Prop :=
  Sl w sz A n xs ∧ ∀ b off, 0 < n → A = some ⟨b, off, none⟩ → ¬ E b
section
variable {E : Nat → Prop} {w w' : World} {sz n : Nat} {A : Option Addr} {xs : List Value}
theorem SlF.fr (h : SlF E w sz A n xs) (hf : Fr E w w') : SlF E w' sz A n xs := by
  refine ⟨⟨h.1.1, fun hn => ?_⟩, h.2⟩
  obtain ⟨b, off, e, hb, hc⟩ := h.1.2 hn
  exact ⟨b, off, e, hf.lt hb, fun k hk => (hf.cell hb (h.2 b off hn e)).trans (hc k hk)⟩
theorem SlF.step (h : SlF E w sz A n xs) (hb : Below w.heap.size w w') : SlF E w' sz A n xs := h.fr (.of_below hb)
theorem SlF.weak {F : Nat → Prop} (h : SlF E w sz A n xs) (hEF : ∀ k, F k → E k) : SlF F w sz A n xs := ⟨h.1, fun b off hn e hF => h.2 b off hn e (hEF b hF)⟩
theorem SlF.nil_ : SlF E w sz A 0 [] := ⟨Sl.nil_, fun _ _ h => absurd h (by omega)⟩
/-- a row that lies below B, where E lies from B on -/
theorem Sl.frB {B : Nat} (h : Sl w sz A n xs) (hB : ∀ b off, 0 < n → A = some ⟨b, off, none⟩ → b < B) (hE : ∀ k, E k → B ≤ k) : SlF E w sz A n xs :=
  ⟨h, fun b off hn e hb => by have := hB b off hn e; have := hE b hb; omega⟩
end
/-- where a slice lies -/
theorem Sl.lt_ {w : World} {sz n : Nat} {A : Option Addr} {xs : List Value} (h : Sl w sz A n xs) : ∀ b off, 0 < n → A = some ⟨b, off, none⟩ → b < w.heap.size := by
  intro b off hn e
  obtain ⟨b', off', e', hb, _⟩ := h.2 hn
  rw [e] at e'
  cases e'
  exact hb
/-- texts don't lie in a block that holds none -/
theorem Sl.not_in {w : World} {A : Option Addr} {n g : Nat} {t : TypeId} {ss : List (List UInt8)} {cs : Array Value} (h : Sl w 1 A n (strs ss)) (hg : Blk w g t cs) (hno : ∀ (i : Nat) (s : List UInt8), cs[i]? ≠ some (S s)) : ∀ b off, 0 < n → A = some ⟨b, off, none⟩ → b ≠ g := by
  rintro b off hn e rfl
  obtain ⟨b', off', s, e', _, hc⟩ := h.str hn
  rw [e] at e'
  cases e'
  rw [hg.cell] at hc
  exact hno _ _ hc

section
variable {P : Program} (w : World)
/-- append onto a row of one's own, inside a statement that draws its order; what else turned is not said here -/
theorem step_append_row {ops : Array Oper} {o : Oper} {a : Act} {K : Act → World → Prop} {Q : Exit → Act → World → Prop} {X : Prop} (hgd : o.guard = none) (s x : Operand) (t : TypeId)
    (ho : o.op = .call { callee := .builtin .append, args := #[s, x], argTypes := #[t, t] })
    (base : Nat) (e : TypeId) (i : TypeInfo) (z : Value) (size bytes : Nat) (ht : P.underlying t = some (.slice e)) (hi : P.info? e = some i) (hz : i.zero = some z)
    (hsize : i.size = size) (hby : i.bytes = bytes) (hzs : z.cells.size = size) (hsz : 0 < size)
    (Ad : Option Addr) (n cd : Nat) (xs : List Value) (hs : a.eval s = .slice Ad n cd) (hown : w.ownsRow base e size (.slice Ad n cd) n xs) (hbase : base ≤ w.heap.size)
    (A : Option Addr) (m c : Nat) (news : List Value) (hx : a.eval x = .slice A m c) (hr : Sl w size A m news) (h1 : ∀ u ∈ news, u.oneCell' = true)
    (h63 : n + m ≤ maxLen) (hbytes : (n + m) * bytes ≤ 140737488355328)
    (h : ∀ A' c' w', w'.ownsRow base e size (.slice A' (n + m) c') (n + m) (xs ++ news) → w.grownBy w' (Value.slice Ad n cd).ownBlock → (∀ k, (Value.slice Ad n cd).ownBlock = some k → base ≤ k) → K (a.put o.dst (.slice A' (n + m) c')) w') :
    if Region.wanted o (yielded ops a.tmps) = true then Oper.wp P o a w K Q else X := by
  have hw : Region.wanted o (yielded ops a.tmps) = true := by simp [Region.wanted, hgd]
  rw [if_pos hw]
  obtain ⟨A', c', w', hrun, h2, h3, h4⟩ := run_append_sl (P := P) w base t o.type e i z size bytes ht hi hz hsize hby hzs hsz _ n xs hown A m c news hr h1 h63 hbytes hbase
  unfold Oper.wp execOp
  simp only [ho, resolve, invoke, builtin, Sem.run_bind, Sem.run_pure, Result.andThen_ok, List.map_toArray, List.map_cons, List.map_nil, hs, hx, hrun]
  exact h A' c' w' h2 h3 (fun k hk => (hown.lt k hk).1)
end
end Go.Proofs.YtegehaokfcamfaaGreatDoor

/-
  Slices that lie in blocks of a home and of one element type; what keeps all blocks of a type. Plain lemmas.
-/
namespace Go.Proofs.YtegehaokfcamfaaGreatDoor
open Go.RowKit

/-- all blocks of element type e are as they were -/
def KeepT (e : TypeId) (w w' : World) : Prop := ∀ (b : Nat) (cs : Array Value) (fr : Nat × Nat), w.heap[b]? = some (.cells cs e fr) → w'.heap[b]? = some (.cells cs e fr)
section
variable {e : TypeId} {a w w' : World}
theorem KeepT.refl (e : TypeId) (w : World) : KeepT e w w := fun _ _ _ h => h
theorem KeepT.trans (h : KeepT e a w) (k : KeepT e w w') : KeepT e a w' := fun b cs fr hb => k b cs fr (h b cs fr hb)
theorem heap_lt {w : World} {b : Nat} {o : Obj} (h : w.heap[b]? = some o) : b < w.heap.size := (Array.getElem?_eq_some_iff.1 h).1
theorem KeepT.of_below (h : Below w.heap.size w w') : KeepT e w w' := fun b _ _ hb => (h.block b (heap_lt hb)).trans hb
theorem KeepT.step (h : KeepT e a w) (hb : Below w.heap.size w w') : KeepT e a w' := h.trans (.of_below hb)
theorem KeepT.drewN (h : KeepT e a w) (n : Nat) : KeepT e a (w.drewN n) := h
theorem KeepT.setCell (h : KeepT e a w) {g : Nat} {t : TypeId} {cs : Array Value} (hg : Blk w g t cs) (ht : t ≠ e) {p : Addr} (hp : p.block = g) (u : Value) : KeepT e a (w.setCell p u) :=
  h.trans fun b cs' fr hb => (Below.heap_setCell w p u b (fun e' => by
    unfold Blk at hg
    rw [e', hp, hg] at hb
    cases hb
    exact ht rfl)).trans hb
theorem KeepT.grown {row : Option Nat} (h : KeepT e a w) (hg : w.grownBy w' row) (hr : ∀ k, row = some k → ∀ (cs : Array Value) (fr : Nat × Nat), w.heap[k]? ≠ some (.cells cs e fr)) : KeepT e a w' :=
  h.trans fun b cs fr hb => (hg.block b (heap_lt hb) (fun e' => hr b e'.symm cs fr hb)).trans hb
end
theorem own_type {w : World} {base sz n : Nat} {e t : TypeId} {v : Value} {xs : List Value} (h : w.ownsRow base e sz v n xs) (ht : e ≠ t) : ∀ k, v.ownBlock = some k → ∀ (cs : Array Value) (fr : Nat × Nat), w.heap[k]? ≠ some (.cells cs t fr) := by
  intro k hk cs fr hb
  rcases h.2 with ⟨hv, _⟩ | ⟨g, cap, cur, hv, _, hh, _⟩
  · rw [hv] at hk; simp [Value.ownBlock] at hk
  · rw [hv] at hk
    have : g = k := by simpa [Value.ownBlock] using hk
    subst this
    rw [hh] at hb
    cases hb
    exact ht rfl

/-- reads as xs, in a block of H whose elements are of type e -/
def SlT (H : Nat → Prop) (e : TypeId) (w : World) (sz : Nat) (A : Option Addr) (n : Nat) (xs : List Value) : Prop :=
  Sl w sz A n xs ∧ (0 < n → ∃ (b off : Nat) (cs : Array Value) (fr : Nat × Nat), A = some ⟨b, off, none⟩ ∧ H b ∧ w.heap[b]? = some (.cells cs e fr))
section
variable {H : Nat → Prop} {e : TypeId} {w w' : World} {sz n : Nat} {A : Option Addr} {xs : List Value}
theorem SlT.sl (h : SlT H e w sz A n xs) : Sl w sz A n xs := h.1
theorem SlT.keep (h : SlT H e w sz A n xs) (hk : KeepT e w w') : SlT H e w' sz A n xs := by
  refine ⟨⟨h.1.1, fun hn => ?_⟩, fun hn => ?_⟩
  · obtain ⟨b, off, cs, fr, rfl, _, hb⟩ := h.2 hn
    obtain ⟨b', off', e', _, hc⟩ := h.1.2 hn
    cases e'
    have hb' := hk b cs fr hb
    exact ⟨b, off, rfl, heap_lt hb', fun k hk' => (World.cell?_of_block (hb'.trans hb.symm)).trans (hc k hk')⟩
  · obtain ⟨b, off, cs, fr, rfl, hH, hb⟩ := h.2 hn
    exact ⟨b, off, cs, fr, rfl, hH, hk b cs fr hb⟩
theorem SlT.step (h : SlT H e w sz A n xs) (hb : Below w.heap.size w w') : SlT H e w' sz A n xs := h.keep (.of_below hb)
theorem SlT.weak {G : Nat → Prop} (h : SlT H e w sz A n xs) (hw : ∀ k, k < w.heap.size → H k → G k) : SlT G e w sz A n xs :=
  ⟨h.1, fun hn => by
    obtain ⟨b, off, cs, fr, rfl, hH, hb⟩ := h.2 hn
    exact ⟨b, off, cs, fr, rfl, hw b (heap_lt hb) hH, hb⟩⟩
theorem SlT.nil_ : SlT H e w sz A 0 [] := ⟨⟨by simp, fun h => absurd h (by omega)⟩, fun h => absurd h (by omega)⟩
/-- what lies apart from all that turns -/
theorem SlT.fr {E : Nat → Prop} (h : SlT H e w sz A n xs) (hf : Fr E w w') (hE : ∀ k, H k → ¬ E k) : SlT H e w' sz A n xs := by
  refine ⟨⟨h.1.1, fun hn => ?_⟩, fun hn => ?_⟩
  · obtain ⟨b, off, cs, fr, rfl, hH, hb⟩ := h.2 hn
    obtain ⟨b', off', e', _, hc⟩ := h.1.2 hn
    cases e'
    have hb' := (hf.block b (heap_lt hb) (hE b hH)).trans hb
    exact ⟨b, off, rfl, heap_lt hb', fun k hk' => (World.cell?_of_block (hb'.trans hb.symm)).trans (hc k hk')⟩
  · obtain ⟨b, off, cs, fr, rfl, hH, hb⟩ := h.2 hn
    exact ⟨b, off, cs, fr, rfl, hH, (hf.block b (heap_lt hb) (hE b hH)).trans hb⟩
/-- a row of one's own -/
theorem Ow.slT {w0 : World} {c : Nat} (h : Ow w0 w e sz A n c xs) : SlT (fun k => w0.heap.size ≤ k ∧ k < w.heap.size) e w sz A n xs := by
  refine ⟨h.sl, fun hn => ?_⟩
  rcases h.1.2 with ⟨_, h0⟩ | ⟨g, cap, cur, hv, hg, hh, _⟩
  · omega
  · injection hv with h1
    exact ⟨g, 0, _, _, h1, ⟨hg, heap_lt hh⟩, hh⟩
end
theorem KeepT.of_fr {e : TypeId} {w w' : World} {E : Nat → Prop} (hf : Fr E w w') (hE : ∀ (k : Nat) (cs : Array Value) (fr : Nat × Nat), E k → w.heap[k]? ≠ some (.cells cs e fr)) : KeepT e w w' :=
  fun b cs fr hb => (hf.block b (heap_lt hb) (fun h => hE b cs fr h hb)).trans hb
theorem Blk.type {w : World} {g : Nat} {t e : TypeId} {cs : Array Value} (h : Blk w g t cs) (ht : t ≠ e) (cs' : Array Value) (fr : Nat × Nat) : w.heap[g]? ≠ some (.cells cs' e fr) := by
  unfold Blk at h
  rw [h]
  intro e'
  cases e'
  exact ht rfl
/-- a home with all that is new -/
def ext (H : Nat → Prop) (w w' : World) : Nat → Prop := fun k => H k ∨ (w.heap.size ≤ k ∧ k < w'.heap.size)
end Go.Proofs.YtegehaokfcamfaaGreatDoor

/-
  A map in memory as a function from keys to what is there: look-ups, stores, deletions, for keys and values of any coding. Plain laws; conditions: the coding's own.
-/
namespace Go.Proofs.YtegehaokfcamfaaGreatDoor
open Go.RowKit

/-- how keys and values stand in a map of key type k and element type e -/
structure Coding (P : Program) (k e : TypeId) (κ α : Type) where
  kv : κ → Value
  kl : κ → Lit
  vv : α → Value
  vd : α → DataW Unit
  R : Value → Option (DataW Unit × List MemPlace)
  good : κ → Prop
  keyed : Maps.Keyed P k
  key : ∀ x, good x → keyOf P k (kv x) = some (kl x)
  inj : ∀ x y, good x → good y → kl x = kl y → x = y
  enc : ∀ a, R (vv a) = some (vd a, [])
  dec : ∀ v a ps, R v = some (vd a, ps) → v = vv a

def View (D : DataW Unit) (l : Lit) : Option (DataW Unit) → Prop
  | none => Maps.has D l = false
  | some d => Maps.has D l = true ∧ ∀ z, D.atKey l z = d

/-- block m is a map of at most n entries that holds just what f says -/
def MapIs {P : Program} {k e : TypeId} {κ α : Type} (C : Coding P k e κ α) (w : World) (m n : Nat) (f : κ → Option α) : Prop :=
  ∃ D, w.ownsMap P k C.R m n D ∧ ∀ x, C.good x → View D (C.kl x) ((f x).map C.vd)

def upd {κ α : Type} [DecidableEq κ] (f : κ → Option α) (x : κ) (o : Option α) : κ → Option α := fun y => if y = x then o else f y

section
variable {P : Program} {k e : TypeId} {κ α : Type} {C : Coding P k e κ α} {w w' : World} {m n : Nat} {f : κ → Option α}

theorem MapIs.made (C : Coding P k e κ α) (w : World) : MapIs C (w.alloc (.map #[] 0)) w.heap.size 0 (fun _ => none) :=
  ⟨_, World.ownsMap_made w P k C.R, fun _ _ => rfl⟩
theorem MapIs.mono (h : MapIs C w m n f) {n' : Nat} (hn : n ≤ n') : MapIs C w m n' f := by
  obtain ⟨D, h1, h2⟩ := h
  exact ⟨D, h1.mono hn, h2⟩
theorem MapIs.lt (h : MapIs C w m n f) : m < w.heap.size := by
  obtain ⟨D, h1, _⟩ := h
  exact h1.lt
theorem MapIs.block (h : MapIs C w m n f) (hb : w'.heap[m]? = w.heap[m]?) : MapIs C w' m n f := by
  obtain ⟨D, ⟨es, clock, h1, h2⟩, h3⟩ := h
  exact ⟨D, ⟨es, clock, hb.trans h1, h2⟩, h3⟩
theorem MapIs.grown {row : Option Nat} (h : MapIs C w m n f) (hg : w.grownBy w' row) (hne : some m ≠ row) : MapIs C w' m n f := h.block (hg.block m h.lt hne)
theorem MapIs.step (h : MapIs C w m n f) (hb : Below w.heap.size w w') : MapIs C w' m n f := h.block (hb.block m h.lt)
theorem MapIs.fr {E : Nat → Prop} (h : MapIs C w m n f) (hf : Fr E w w') (hE : ¬ E m) : MapIs C w' m n f := h.block (hf.block m h.lt hE)
theorem MapIs.alloc (h : MapIs C w m n f) (o : Obj) : MapIs C (w.alloc o) m n f := h.step (balloc (Below.refl _ _) o)
theorem MapIs.drew (h : MapIs C w m n f) : MapIs C w.drew m n f := h
theorem MapIs.drewN (h : MapIs C w m n f) (j : Nat) : MapIs C (w.drewN j) m n f := h
theorem MapIs.far (h : MapIs C w m n f) {p : Addr} (hp : m ≠ p.block) (u : Value) : MapIs C (w.setCell p u) m n f := h.block (Below.heap_setCell w p u m hp)
/-- a map is no row of cells -/
theorem MapIs.ne_blk (h : MapIs C w m n f) {g : Nat} {t : TypeId} {cs : Array Value} (hg : Blk w g t cs) : m ≠ g := by
  rintro rfl
  obtain ⟨D, ⟨es, clock, h1, _⟩, _⟩ := h
  unfold Blk at hg
  rw [h1] at hg
  cases hg
theorem MapIs.no_cells (h : MapIs C w m n f) {t : TypeId} (cs : Array Value) (fr : Nat × Nat) : w.heap[m]? ≠ some (.cells cs t fr) := by
  obtain ⟨D, ⟨es, clock, h1, _⟩, _⟩ := h
  rw [h1]
  intro e'
  cases e'
theorem MapIs.ne_own (h : MapIs C w m n f) {base sz j : Nat} {t : TypeId} {v : Value} {xs : List Value} (hg : w.ownsRow base t sz v j xs) : some m ≠ v.ownBlock := by
  rcases hg.2 with ⟨hv, _⟩ | ⟨g', cap, cur, hv, _, hh, _⟩
  · rw [hv]; simp [Value.ownBlock]
  · rw [hv]
    intro he
    have : m = g' := by simpa [Value.ownBlock] using he
    subst this
    obtain ⟨D, ⟨es, clock, h1, _⟩, _⟩ := h
    rw [h1] at hh
    cases hh

theorem MapIs.run_look (h : MapIs C w m n f) {t : TypeId} (ht : P.underlying t = some (.map k e)) {a0 : α} (hz : (zeroValue e).run P w = .ok (C.vv a0) w) {x : κ} (hx : C.good x) :
    (Instr.lookup t (.map (some m)) (C.kv x) false).run P w = .ok (C.vv ((f x).getD a0)) w := by
  obtain ⟨D, h1, h2⟩ := h
  have h3 := h2 x hx
  obtain ⟨v, ps, hrun, hv⟩ := h1.lookup C.keyed ht hz (C.enc a0) (C.key x hx)
  rw [hrun]
  rcases hf : f x with _ | a
  · rw [hf] at h3
    rw [Maps.atKey_of_not_has h3] at hv
    rw [C.dec v a0 ps hv]
    rfl
  · rw [hf] at h3
    rw [h3.2] at hv
    rw [C.dec v a ps hv]
    rfl
theorem MapIs.run_look_ok (h : MapIs C w m n f) {t : TypeId} (ht : P.underlying t = some (.map k e)) {a0 : α} (hz : (zeroValue e).run P w = .ok (C.vv a0) w) {x : κ} (hx : C.good x) :
    (Instr.lookup t (.map (some m)) (C.kv x) true).run P w = .ok (.tuple #[C.vv ((f x).getD a0), .bool (f x).isSome]) w := by
  obtain ⟨D, h1, h2⟩ := h
  have h3 := h2 x hx
  obtain ⟨v, ps, hrun, hv⟩ := h1.look_ok C.keyed ht hz (C.enc a0) (C.key x hx)
  rw [hrun]
  rcases hf : f x with _ | a
  · rw [hf] at h3
    rw [Maps.atKey_of_not_has h3] at hv
    rw [C.dec v a0 ps hv, show Maps.has D (C.kl x) = false from h3]
    rfl
  · rw [hf] at h3
    rw [h3.2] at hv
    rw [C.dec v a ps hv, h3.1]
    rfl
theorem Coding.lit (C : Coding P k e κ α) {x : κ} (hx : C.good x) : WideAt.IsKeyLit (C.kl x) := C.keyed.one.key ⟨C.kv x, C.key x hx⟩
variable [DecidableEq κ]
theorem view_put {D : DataW Unit} (hD : Maps.IsMap D) {x y : κ} {a : α} (hx : C.good x) (hy : C.good y) (hlit : WideAt.IsKeyLit (C.kl x)) (h : View D (C.kl y) ((f y).map C.vd)) : View (D.put (C.kl x) (C.vd a)) (C.kl y) ((upd f x (some a) y).map C.vd) := by
  unfold upd
  by_cases hxy : y = x
  · subst hxy
    rw [if_pos rfl]
    exact ⟨Maps.has_put_same hD hlit _, fun z => Maps.atKey_put_same hD hlit _ z⟩
  · rw [if_neg hxy]
    have hne : C.kl y ≠ C.kl x := fun e => hxy (C.inj y x hy hx e)
    rcases hf : f y with _ | b
    · rw [hf] at h
      exact (Maps.has_put_other hne _).trans h
    · rw [hf] at h
      exact ⟨(Maps.has_put_other hne _).trans h.1, fun z => (Maps.atKey_put_other hne _ z).trans (h.2 z)⟩
theorem view_del {D : DataW Unit} {x y : κ} (hx : C.good x) (hy : C.good y) (h : View D (C.kl y) ((f y).map C.vd)) : View (D.del (C.kl x)) (C.kl y) ((upd f x none y).map C.vd) := by
  unfold upd
  by_cases hxy : y = x
  · subst hxy
    rw [if_pos rfl]
    exact Maps.has_del_same
  · rw [if_neg hxy]
    have hne : C.kl y ≠ C.kl x := fun e => hxy (C.inj y x hy hx e)
    rcases hf : f y with _ | b
    · rw [hf] at h
      exact (Maps.has_del_other hne).trans h
    · rw [hf] at h
      exact ⟨(Maps.has_del_other hne).trans h.1, fun z => (Maps.atKey_del_other hne z).trans (h.2 z)⟩

theorem MapIs.run_store (h : MapIs C w m n f) {t : TypeId} (ht : P.underlying t = some (.map k e)) (hn : n < maxLen) {x : κ} (hx : C.good x) (a : α) :
    ∃ w', (Instr.mapUpdate t (.map (some m)) (C.kv x) (C.vv a)).run P w = .ok () w' ∧ MapIs C w' m (n + 1) (upd f x (some a)) ∧ w.grownBy w' (some m) := by
  obtain ⟨D, h1, h2⟩ := h
  obtain ⟨w', hrun, r1, r2⟩ := h1.update C.keyed ht hn (C.key x hx) (C.enc a)
  exact ⟨w', hrun, ⟨_, r1, fun y hy => view_put h1.isMap hx hy (C.lit hx) (h2 y hy)⟩, r2⟩
theorem MapIs.run_drop (h : MapIs C w m n f) {t : TypeId} (ht : P.underlying t = some (.map k e)) {x : κ} (hx : C.good x) (ty : TypeId) :
    ∃ w', (Builtin.delete_ #[t, k] ty #[.map (some m), C.kv x]).run P w = .ok (.tuple #[]) w' ∧ MapIs C w' m n (upd f x none) ∧ w.grownBy w' (some m) := by
  obtain ⟨D, h1, h2⟩ := h
  obtain ⟨w', hrun, r1, r2⟩ := h1.drop C.keyed ht (C.key x hx) ty
  exact ⟨w', hrun, ⟨_, r1, fun y hy => view_del hx hy (h2 y hy)⟩, r2.grown⟩
end

section
variable {P : Program} (w : World) {ops : Array Oper} {rest : List Oper} {o : Oper} {a : Act} {Q : Exit → Act → World → Prop} {k e : TypeId} {κ α : Type}
theorem wpList_look (hg : o.guard = none) (m x : Operand) (t : TypeId) (hop : o.op = Op.lookup t m x false) (C : Coding P k e κ α) (ht : P.underlying t = some (.map k e)) (a0 : α) (hz : (zeroValue e).run P w = .ok (C.vv a0) w) (b n : Nat) (f : κ → Option α)
    (hm : a.eval m = .map (some b)) (h : MapIs C w b n f) (key : κ) (hx : a.eval x = C.kv key) (hgd : C.good key) (hK : wpList P ops Q rest (a.put o.dst (C.vv ((f key).getD a0))) w) : wpList P ops Q (o :: rest) a w := by
  refine wpList_plain hg fun K' hK' => ?_
  have hrun := h.run_look ht hz hgd
  unfold Oper.wp
  simp [execOp, hop, hm, hx, hrun, Result.andThen]
  exact hK' _ _ hK
theorem wpList_look_ok (hg : o.guard = none) (m x : Operand) (t : TypeId) (hop : o.op = Op.lookup t m x true) (C : Coding P k e κ α) (ht : P.underlying t = some (.map k e)) (a0 : α) (hz : (zeroValue e).run P w = .ok (C.vv a0) w) (b n : Nat) (f : κ → Option α)
    (hm : a.eval m = .map (some b)) (h : MapIs C w b n f) (key : κ) (hx : a.eval x = C.kv key) (hgd : C.good key) (hK : wpList P ops Q rest (a.put o.dst (.tuple #[C.vv ((f key).getD a0), .bool (f key).isSome])) w) : wpList P ops Q (o :: rest) a w := by
  refine wpList_plain hg fun K' hK' => ?_
  have hrun := h.run_look_ok ht hz hgd
  unfold Oper.wp
  simp [execOp, hop, hm, hx, hrun, Result.andThen]
  exact hK' _ _ hK
variable [DecidableEq κ]
theorem wpList_store (hg : o.guard = none) (m x v : Operand) (t : TypeId) (hop : o.op = Op.mapUpdate t m x v) (C : Coding P k e κ α) (ht : P.underlying t = some (.map k e)) (b n : Nat) (f : κ → Option α)
    (hm : a.eval m = .map (some b)) (h : MapIs C w b n f) (hn : n < maxLen) (key : κ) (hx : a.eval x = C.kv key) (hgd : C.good key) (y : α) (hv : a.eval v = C.vv y)
    (hK : ∀ w', MapIs C w' b (n + 1) (upd f key (some y)) → w.grownBy w' (some b) → wpList P ops Q rest (a.put o.dst undef) w') : wpList P ops Q (o :: rest) a w := by
  refine wpList_plain hg fun K' hK' => ?_
  obtain ⟨w', hrun, r1, r2⟩ := h.run_store ht hn hgd y
  unfold Oper.wp
  simp [execOp, hop, hm, hx, hv, hrun, Result.andThen]
  exact hK' _ _ (hK w' r1 r2)
theorem wpList_drop (hg : o.guard = none) (m x : Operand) (t : TypeId) (hop : o.op = Op.call { callee := Callee.builtin Builtin.delete, args := #[m, x], argTypes := #[t, k] }) (C : Coding P k e κ α) (ht : P.underlying t = some (.map k e)) (b n : Nat) (f : κ → Option α)
    (hm : a.eval m = .map (some b)) (h : MapIs C w b n f) (key : κ) (hx : a.eval x = C.kv key) (hgd : C.good key)
    (hK : ∀ w', MapIs C w' b n (upd f key none) → w.grownBy w' (some b) → wpList P ops Q rest (a.put o.dst (.tuple #[])) w') : wpList P ops Q (o :: rest) a w := by
  refine wpList_plain hg fun K' hK' => ?_
  obtain ⟨w', hrun, r1, r2⟩ := h.run_drop ht hgd o.type
  unfold Oper.wp
  simp [execOp, hop, resolve, invoke, builtin, hm, hx, hrun, Result.andThen]
  exact hK' _ _ (hK w' r1 r2)
end
end Go.Proofs.YtegehaokfcamfaaGreatDoor

/-
  A map in memory as a list of keys with their values, no key twice: look-ups, stores, deletions, its length, a range over it. Plain laws; conditions: the coding's own.
-/
namespace Go.Proofs.YtegehaokfcamfaaGreatDoor
open Go.RowKit

/-- what reads as a key or a value is one of the coding's -/
structure Coding.Full {P : Program} {k e : TypeId} {κ α : Type} (C : Coding P k e κ α) : Prop where
  invK : ∀ v l, keyOf P k v = some l → ∃ x, v = C.kv x ∧ C.good x
  invV : ∀ v y, C.R v = some y → ∃ a, v = C.vv a

section
variable {κ α : Type} [DecidableEq κ]
def lk (l : List (κ × α)) (x : κ) : Option α := (l.find? (fun p => p.1 = x)).map (·.2)
def strike (l : List (κ × α)) (x : κ) : List (κ × α) := l.filter (fun p => !decide (p.1 = x))
def layL (l : List (κ × α)) (x : κ) (a : α) : List (κ × α) := (x, a) :: strike l x
theorem lk_cons (p : κ × α) (l : List (κ × α)) (x : κ) : lk (p :: l) x = if p.1 = x then some p.2 else lk l x := by
  unfold lk
  by_cases h : p.1 = x <;> simp [h]
theorem lk_none {l : List (κ × α)} {x : κ} : lk l x = none ↔ x ∉ l.map (·.1) := by
  induction l with
  | nil => simp [lk]
  | cons p r ih =>
    rw [lk_cons]
    by_cases h : p.1 = x
    · simp [h]
    · simp only [if_neg h, ih, List.map_cons, List.mem_cons, not_or]
      exact ⟨fun h1 => ⟨fun e => h e.symm, h1⟩, fun h1 => h1.2⟩
theorem lk_mem {l : List (κ × α)} (hn : (l.map (·.1)).Nodup) {x : κ} {a : α} : lk l x = some a ↔ (x, a) ∈ l := by
  induction l with
  | nil => simp [lk]
  | cons p r ih =>
    rw [List.map_cons, List.nodup_cons] at hn
    rw [lk_cons]
    by_cases h : p.1 = x
    · rw [if_pos h, List.mem_cons]
      constructor
      · intro e
        left
        cases p
        simp at h e ⊢
        exact ⟨h.symm, e.symm⟩
      · rintro (e | e)
        · rw [← e]
        · exact absurd (List.mem_map_of_mem (f := (·.1)) e) (by rw [← h]; exact hn.1)
    · rw [if_neg h, ih hn.2, List.mem_cons]
      constructor
      · exact .inr
      · rintro (e | e)
        · rw [← e] at h; exact absurd rfl h
        · exact e
theorem lk_perm {l k : List (κ × α)} (hn : (l.map (·.1)).Nodup) (h : l.Perm k) (x : κ) : lk l x = lk k x := by
  have hk : (k.map (·.1)).Nodup := (h.map (·.1)).nodup_iff.1 hn
  rcases e : lk k x with _ | a
  · rw [lk_none] at e ⊢
    intro h1
    exact e ((h.map (·.1)).mem_iff.1 h1)
  · rw [lk_mem hk] at e
    rw [lk_mem hn]
    exact h.mem_iff.2 e
theorem strike_keys (l : List (κ × α)) (x : κ) : (strike l x).map (·.1) = (l.map (·.1)).filter (fun y => !decide (y = x)) := by
  unfold strike
  rw [List.filter_map]
  rfl
theorem lk_strike (l : List (κ × α)) (x y : κ) : lk (strike l x) y = if y = x then none else lk l y := by
  by_cases h : y = x
  · rw [if_pos h, lk_none, strike_keys]
    simp [h]
  · rw [if_neg h]
    induction l with
    | nil => rfl
    | cons p r ih =>
      unfold strike at ih ⊢
      rw [List.filter_cons]
      by_cases hp : p.1 = x
      · have : ¬ p.1 = y := fun e => h (e.symm.trans hp)
        simp only [hp, decide_true, Bool.not_true, Bool.false_eq_true, if_false]
        rw [ih, lk_cons, if_neg this]
      · simp only [hp, decide_false, Bool.not_false, if_true]
        rw [lk_cons, lk_cons, ih]
theorem nodup_strike {l : List (κ × α)} (h : (l.map (·.1)).Nodup) (x : κ) : ((strike l x).map (·.1)).Nodup := by
  rw [strike_keys]
  exact h.filter _
theorem strike_len {l : List (κ × α)} (h : (l.map (·.1)).Nodup) (x : κ) : (strike l x).length + (if (lk l x).isSome then 1 else 0) = l.length := by
  induction l with
  | nil => rfl
  | cons p r ih =>
    rw [List.map_cons, List.nodup_cons] at h
    have ih := ih h.2
    rw [lk_cons]
    unfold strike at ih ⊢
    rw [List.filter_cons]
    by_cases hp : p.1 = x
    · have hn : lk r x = none := lk_none.2 (hp ▸ h.1)
      rw [hn] at ih
      simp [hp] at ih ⊢
      omega
    · simp only [hp, decide_false, Bool.not_false, if_true, if_false, List.length_cons]
      omega
theorem strike_self {l : List (κ × α)} {x : κ} (h : x ∉ l.map (·.1)) : strike l x = l := by
  unfold strike
  rw [List.filter_eq_self]
  intro p hp
  have : p.1 ≠ x := fun e => h (e ▸ List.mem_map_of_mem hp)
  simp [this]
end

section
variable {P : Program} {k e : TypeId} {κ α : Type} [DecidableEq κ] {C : Coding P k e κ α} {w w' : World} {m n : Nat} {l : List (κ × α)} {D : DataW Unit}

/-- D holds just what l holds -/
structure HasL (C : Coding P k e κ α) (D : DataW Unit) (l : List (κ × α)) : Prop where
  nodup : (l.map (·.1)).Nodup
  good : ∀ p ∈ l, C.good p.1
  size : Maps.size D = l.length
  view : ∀ x, C.good x → View D (C.kl x) ((lk l x).map C.vd)
theorem HasL.perm {j : List (κ × α)} (h : HasL C D l) (hp : l.Perm j) : HasL C D j :=
  ⟨(hp.map (·.1)).nodup_iff.1 h.nodup, fun p hm => h.good p (hp.mem_iff.2 hm), h.size.trans hp.length_eq, fun x hx => by rw [← lk_perm h.nodup hp]; exact h.view x hx⟩
theorem View.has {o : Option (DataW Unit)} {kl : Lit} (h : View D kl o) : Maps.has D kl = o.isSome := by
  cases o with
  | none => exact h
  | some d => exact h.1
theorem HasL.put (h : HasL C D l) (hD : Maps.Tidy D) {x : κ} (hx : C.good x) (a : α) : HasL C (D.put (C.kl x) (C.vd a)) (layL l x a) where
  nodup := by
    unfold layL
    rw [List.map_cons, List.nodup_cons]
    exact ⟨by rw [strike_keys]; simp, nodup_strike h.nodup x⟩
  good p hp := by
    unfold layL at hp
    rcases List.mem_cons.1 hp with rfl | hp
    · exact hx
    · exact h.good p ((List.mem_filter.1 hp).1)
  size := by
    rw [Maps.size_put hD, (h.view x hx).has, layL, List.length_cons, Option.isSome_map]
    have := strike_len h.nodup x
    have := h.size
    split <;> simp_all <;> omega
  view y hy := by
    have := view_put (f := lk l) (a := a) hD.isMap hx hy (C.lit hx) (h.view y hy)
    unfold upd at this
    rw [layL, lk_cons]
    by_cases hxy : y = x
    · rw [if_pos hxy] at this
      rw [if_pos hxy.symm]
      exact this
    · rw [if_neg hxy] at this
      rw [if_neg (fun e => hxy e.symm), lk_strike, if_neg hxy]
      exact this
theorem HasL.del (h : HasL C D l) (hD : Maps.Tidy D) {x : κ} (hx : C.good x) : HasL C (D.del (C.kl x)) (strike l x) where
  nodup := nodup_strike h.nodup x
  good p hp := h.good p ((List.mem_filter.1 hp).1)
  size := by
    have h1 := Maps.size_del (k := C.kl x) hD
    rw [(h.view x hx).has, Option.isSome_map, h.size, ← strike_len h.nodup x] at h1
    omega
  view y hy := by
    have := view_del (f := lk l) hx hy (h.view y hy)
    unfold upd at this
    rw [lk_strike]
    exact this

/-- block m is a map of at most n entries that holds just what l holds -/
def MapL (C : Coding P k e κ α) (w : World) (m n : Nat) (l : List (κ × α)) : Prop := ∃ D, w.ownsMap P k C.R m n D ∧ HasL C D l
theorem MapL.made (C : Coding P k e κ α) (w : World) : MapL C (w.alloc (.map #[] 0)) w.heap.size 0 [] :=
  ⟨_, World.ownsMap_made w P k C.R, ⟨List.nodup_nil, by simp, rfl, fun _ _ => rfl⟩⟩
theorem MapL.is (h : MapL C w m n l) : MapIs C w m n (lk l) := by
  obtain ⟨D, h1, h2⟩ := h
  exact ⟨D, h1, h2.view⟩
theorem MapL.nodup (h : MapL C w m n l) : (l.map (·.1)).Nodup := by obtain ⟨D, h1, h2⟩ := h; exact h2.nodup
theorem MapL.good (h : MapL C w m n l) : ∀ p ∈ l, C.good p.1 := by obtain ⟨D, h1, h2⟩ := h; exact h2.good
theorem MapL.le (h : MapL C w m n l) : l.length ≤ n := by
  obtain ⟨D, h1, h2⟩ := h
  rw [← h2.size]
  exact h1.size_le
theorem MapL.mono {n' : Nat} (h : MapL C w m n l) (hn : n ≤ n') : MapL C w m n' l := by
  obtain ⟨D, h1, h2⟩ := h
  exact ⟨D, h1.mono hn, h2⟩
theorem MapL.perm {j : List (κ × α)} (h : MapL C w m n l) (hp : l.Perm j) : MapL C w m n j := by
  obtain ⟨D, h1, h2⟩ := h
  exact ⟨D, h1, h2.perm hp⟩
theorem MapL.lt (h : MapL C w m n l) : m < w.heap.size := h.is.lt
theorem MapL.block (h : MapL C w m n l) (hb : w'.heap[m]? = w.heap[m]?) : MapL C w' m n l := by
  obtain ⟨D, ⟨es, clock, h1, h2⟩, h3⟩ := h
  exact ⟨D, ⟨es, clock, hb.trans h1, h2⟩, h3⟩
theorem MapL.grown {row : Option Nat} (h : MapL C w m n l) (hg : w.grownBy w' row) (hne : some m ≠ row) : MapL C w' m n l := h.block (hg.block m h.lt hne)
theorem MapL.step (h : MapL C w m n l) (hb : Below w.heap.size w w') : MapL C w' m n l := h.block (hb.block m h.lt)
theorem MapL.fr {E : Nat → Prop} (h : MapL C w m n l) (hf : Fr E w w') (hE : ¬ E m) : MapL C w' m n l := h.block (hf.block m h.lt hE)
theorem MapL.alloc (h : MapL C w m n l) (o : Obj) : MapL C (w.alloc o) m n l := h.step (balloc (Below.refl _ _) o)
theorem MapL.drew (h : MapL C w m n l) : MapL C w.drew m n l := h
theorem MapL.drewN (h : MapL C w m n l) (j : Nat) : MapL C (w.drewN j) m n l := h
theorem MapL.far (h : MapL C w m n l) {p : Addr} (hp : m ≠ p.block) (u : Value) : MapL C (w.setCell p u) m n l := h.block (Below.heap_setCell w p u m hp)
theorem MapL.ne_blk (h : MapL C w m n l) {g : Nat} {t : TypeId} {cs : Array Value} (hg : Blk w g t cs) : m ≠ g := h.is.ne_blk hg
theorem MapL.ne_own (h : MapL C w m n l) {base sz j : Nat} {t : TypeId} {v : Value} {xs : List Value} (hg : w.ownsRow base t sz v j xs) : some m ≠ v.ownBlock := h.is.ne_own hg
theorem MapL.no_cells (h : MapL C w m n l) {t : TypeId} (cs : Array Value) (fr : Nat × Nat) : w.heap[m]? ≠ some (.cells cs t fr) := h.is.no_cells cs fr

theorem MapL.run_store (h : MapL C w m n l) {t : TypeId} (ht : P.underlying t = some (.map k e)) (hn : n < maxLen) {x : κ} (hx : C.good x) (a : α) :
    ∃ w', (Instr.mapUpdate t (.map (some m)) (C.kv x) (C.vv a)).run P w = .ok () w' ∧ MapL C w' m (n + 1) (layL l x a) ∧ w.grownBy w' (some m) := by
  obtain ⟨D, h1, h2⟩ := h
  obtain ⟨w', hrun, r1, r2⟩ := h1.update C.keyed ht hn (C.key x hx) (C.enc a)
  exact ⟨w', hrun, ⟨_, r1, h2.put (h1.tidy C.keyed) hx a⟩, r2⟩
theorem MapL.run_drop (h : MapL C w m n l) {t : TypeId} (ht : P.underlying t = some (.map k e)) {x : κ} (hx : C.good x) (ty : TypeId) :
    ∃ w', (Builtin.delete_ #[t, k] ty #[.map (some m), C.kv x]).run P w = .ok (.tuple #[]) w' ∧ MapL C w' m n (strike l x) ∧ w.grownBy w' (some m) := by
  obtain ⟨D, h1, h2⟩ := h
  obtain ⟨w', hrun, r1, r2⟩ := h1.drop C.keyed ht (C.key x hx) ty
  exact ⟨w', hrun, ⟨_, r1, h2.del (h1.tidy C.keyed) hx⟩, r2.grown⟩
theorem MapL.run_len (h : MapL C w m n l) {t : TypeId} (ht : P.underlying t = some (.map k e)) (ty : TypeId) : (Builtin.len_ #[t] ty #[.map (some m)]).run P w = .ok (.int .i64 (l.length : Nat)) w := by
  obtain ⟨D, h1, h2⟩ := h
  rw [h1.len ht ty, h2.size]

/-- a range over the map is under way; 'rest' is still to come -/
def RangeL (C : Coding P k e κ α) (w : World) (m r n : Nat) (l rest : List (κ × α)) (cnt : Nat) : Prop :=
  ∃ D left, w.ranges P k C.R m r n D left cnt ∧ HasL C D l ∧ (rest.map (·.1)).Nodup ∧ (∀ p ∈ rest, p ∈ l) ∧ ∀ x, C.good x → left (C.kl x) = decide (x ∈ rest.map (·.1))
section
variable {r cnt : Nat} {rest : List (κ × α)}
theorem RangeL.map (h : RangeL C w m r n l rest cnt) : MapL C w m n l := by
  obtain ⟨D, left, h1, h2, _⟩ := h
  exact ⟨D, h1.owns, h2⟩
theorem RangeL.sub (h : RangeL C w m r n l rest cnt) : ∀ p ∈ rest, p ∈ l := by obtain ⟨D, left, h1, h2, h3, h4, _⟩ := h; exact h4
theorem RangeL.keys (h : RangeL C w m r n l rest cnt) : (rest.map (·.1)).Nodup := by obtain ⟨D, left, h1, h2, h3, h4, _⟩ := h; exact h3
theorem RangeL.kept {row : Option Nat} (h : RangeL C w m r n l rest cnt) (hg : w.grownBy w' row) (hm : some m ≠ row) (hr : some r ≠ row) : RangeL C w' m r n l rest cnt := by
  obtain ⟨D, left, h1, h2⟩ := h
  exact ⟨D, left, h1.kept hg hm hr, h2⟩
theorem RangeL.step (h : RangeL C w m r n l rest cnt) (hb : Below w.heap.size w w') : RangeL C w' m r n l rest cnt :=
  h.kept (row := none) ⟨hb.os, hb.tape, hb.output, hb.size, fun i hi _ => hb.block i hi⟩ (by simp) (by simp)
theorem RangeL.left_eq (h : RangeL C w m r n l rest cnt) : w.rangeLeft m r = cnt := by
  obtain ⟨D, left, h1, _⟩ := h
  exact h1.left_eq
theorem RangeL.ne (h : RangeL C w m r n l rest cnt) : r ≠ m := by
  obtain ⟨D, left, h1, _⟩ := h
  exact h1.ne
theorem RangeL.lt (h : RangeL C w m r n l rest cnt) : r < w.heap.size := by
  obtain ⟨D, left, h1, _⟩ := h
  exact h1.lt
theorem HasL.range (h : HasL C D l) : ∀ x, C.good x → Maps.has D (C.kl x) = decide (x ∈ l.map (·.1)) := by
  intro x hx
  rw [(h.view x hx).has, Option.isSome_map]
  rcases e : lk l x with _ | a
  · rw [lk_none] at e
    simp [e]
  · rw [lk_mem h.nodup] at e
    have := List.mem_map_of_mem (f := (·.1)) e
    simp only [Option.isSome_some]
    exact (decide_eq_true this).symm
theorem RangeL.left_step {left : Lit → Bool} (hl : ∀ x, C.good x → left (C.kl x) = decide (x ∈ rest.map (·.1))) {x0 : κ} (h0 : C.good x0) : ∀ x, C.good x → (left (C.kl x) && !(C.kl x).sameKey (C.kl x0)) = decide (x ∈ (strike rest x0).map (·.1)) := by
  intro x hx
  rw [hl x hx, strike_keys]
  by_cases hxx : x = x0
  · subst hxx
    rw [WideAt.sameKey_self (C.lit hx)]
    simp
  · rw [Maps.sameKey_ne (fun e => hxx (C.inj x x0 hx h0 e))]
    simp [hxx]
/-- what comes next -/
theorem RangeL.came {left : Lit → Bool} (h2 : HasL C D l) (hs : ∀ p ∈ rest, p ∈ l) (hl : ∀ x, C.good x → left (C.kl x) = decide (x ∈ rest.map (·.1))) {x : κ} {a : α} {kl : Lit} {y : DataW Unit × List MemPlace}
    (hk : keyOf P k (C.kv x) = some kl) (hgd : C.good x) (hleft : left kl = true) (hv : C.R (C.vv a) = some y) (hat : ∀ zd, D.atKey kl zd = y.1) : kl = C.kl x ∧ (∃ p ∈ rest, p.1 = x ∧ C.vv p.2 = C.vv a) := by
  rw [C.key x hgd] at hk
  cases hk
  rw [hl x hgd, decide_eq_true_eq] at hleft
  obtain ⟨p, hp, rfl⟩ := List.mem_map.1 hleft
  refine ⟨rfl, p, hp, rfl, ?_⟩
  have h3 := h2.view p.1 hgd
  rw [(lk_mem h2.nodup).2 (hs p hp)] at h3
  have h4 := (h3.2 (.map [])).symm.trans (hat _)
  exact (C.dec (C.vv a) p.2 y.2 (by rw [hv, h4])).symm
end
end

section
variable {P : Program} (w : World) {ops : Array Oper} {rest : List Oper} {o : Oper} {a : Act} {Q : Exit → Act → World → Prop} {k e : TypeId} {κ α : Type} [DecidableEq κ]
theorem wpList_storeL (hg : o.guard = none) (m x v : Operand) (t : TypeId) (hop : o.op = Op.mapUpdate t m x v) (C : Coding P k e κ α) (ht : P.underlying t = some (.map k e)) (b n : Nat) (l : List (κ × α))
    (hm : a.eval m = .map (some b)) (h : MapL C w b n l) (hn : n < maxLen) (key : κ) (hx : a.eval x = C.kv key) (hgd : C.good key) (y : α) (hv : a.eval v = C.vv y)
    (hK : ∀ w', MapL C w' b (n + 1) (layL l key y) → w.grownBy w' (some b) → wpList P ops Q rest (a.put o.dst undef) w') : wpList P ops Q (o :: rest) a w := by
  refine wpList_plain hg fun K' hK' => ?_
  obtain ⟨w', hrun, r1, r2⟩ := h.run_store ht hn hgd y
  unfold Oper.wp
  simp [execOp, hop, hm, hx, hv, hrun, Result.andThen]
  exact hK' _ _ (hK w' r1 r2)
theorem wpList_dropL (hg : o.guard = none) (m x : Operand) (t : TypeId) (hop : o.op = Op.call { callee := Callee.builtin Builtin.delete, args := #[m, x], argTypes := #[t, k] }) (C : Coding P k e κ α) (ht : P.underlying t = some (.map k e)) (b n : Nat) (l : List (κ × α))
    (hm : a.eval m = .map (some b)) (h : MapL C w b n l) (key : κ) (hx : a.eval x = C.kv key) (hgd : C.good key)
    (hK : ∀ w', MapL C w' b n (strike l key) → w.grownBy w' (some b) → wpList P ops Q rest (a.put o.dst (.tuple #[])) w') : wpList P ops Q (o :: rest) a w := by
  refine wpList_plain hg fun K' hK' => ?_
  obtain ⟨w', hrun, r1, r2⟩ := h.run_drop ht hgd o.type
  unfold Oper.wp
  simp [execOp, hop, resolve, invoke, builtin, hm, hx, hrun, Result.andThen]
  exact hK' _ _ (hK w' r1 r2)
theorem wpList_lenL (hg : o.guard = none) (m : Operand) (t : TypeId) (hop : o.op = Op.call { callee := Callee.builtin Builtin.len, args := #[m], argTypes := #[t] }) (C : Coding P k e κ α) (ht : P.underlying t = some (.map k e)) (b n : Nat) (l : List (κ × α))
    (hm : a.eval m = .map (some b)) (h : MapL C w b n l) (hK : wpList P ops Q rest (a.put o.dst (.int .i64 (l.length : Nat))) w) : wpList P ops Q (o :: rest) a w := by
  obtain ⟨D, h1, h2⟩ := h
  exact wpList_len_own w hg m t hop k e ht C.R b n D hm h1 (by rw [h2.size]; exact hK)
theorem wpList_rangeL (hg : o.guard = none) (m : Operand) (t : TypeId) (hop : o.op = Op.range t m) (C : Coding P k e κ α) (ht : P.underlying t = some (.map k e)) (b n : Nat) (l : List (κ × α))
    (hm : a.eval m = .map (some b)) (h : MapL C w b n l)
    (hK : ∀ w' cnt, RangeL C w' b w.heap.size n l l cnt → w.grownBy w' none → w'.heap.size = w.heap.size + 1 → wpList P ops Q rest (a.put o.dst (.pointer (some ⟨w.heap.size, 0, none⟩))) w') :
    wpList P ops Q (o :: rest) a w := by
  obtain ⟨D, h1, h2⟩ := h
  exact wpList_range_own w hg m t hop k e C.keyed ht C.R b n D hm h1 fun w' hr hg' hs => hK w' _ ⟨D, _, hr, h2, h2.nodup, fun _ hp => hp, h2.range⟩ hg' hs
theorem wpList_nextL (hg : o.guard = none) (it : Operand) (hop : o.op = Op.next it false) (C : Coding P k e κ α) (F : C.Full) (b r n : Nat) (l left : List (κ × α)) (cnt : Nat)
    (hit : a.eval it = .pointer (some ⟨r, 0, none⟩)) (h : RangeL C w b r n l left cnt)
    (hDone : left = [] → wpList P ops Q rest (a.put o.dst (.tuple #[.bool false])) w)
    (hMore : ∀ (p : κ × α) (w' : World) (cnt' : Nat), p ∈ left → C.good p.1 → RangeL C w' b r n l (strike left p.1) cnt' → cnt' < cnt →
      w.grownBy w' (some r) → w'.heap.size = w.heap.size → (Instr.entry (.pointer (some ⟨r, 0, none⟩))).run P w' = .ok (.tuple #[C.kv p.1, C.vv p.2]) w' → wpList P ops Q rest (a.put o.dst (.tuple #[.bool true, C.kv p.1, C.vv p.2])) w') :
    wpList P ops Q (o :: rest) a w := by
  obtain ⟨D, lf, h1, h2, h3, h4, h5⟩ := h
  refine wpList_next_ranges w hg it hop k C.keyed C.R (fun x : {x // C.good x} => C.kv x.1) C.vv (fun key kl hkey => ?_) F.invV b r n D lf cnt hit h1 (fun _ hl => hDone ?_) (fun x c kl y w' cnt' hkey hlk hv hat hrg hlt hgr hsz hen => ?_)
  · obtain ⟨x, hx, hgd⟩ := F.invK key kl hkey
    exact ⟨⟨x, hgd⟩, hx⟩
  · rcases left with _ | ⟨p, r⟩
    · rfl
    · have := h5 p.1 (h2.good p (h4 p (by simp)))
      rw [hl] at this
      simp at this
  · obtain ⟨rfl, p, hp, hpx, hpv⟩ := RangeL.came h2 h4 h5 hkey x.2 hlk hv hat
    rw [← hpv, ← hpx]
    rw [← hpv, ← hpx] at hen
    refine hMore p w' cnt' hp (hpx ▸ x.2) ⟨D, _, hrg, h2, nodup_strike h3 _, fun q hq => h4 q ((List.mem_filter.1 hq).1), ?_⟩ hlt hgr hsz hen
    rw [← hpx]
    exact RangeL.left_step h5 (hpx ▸ x.2)
/-- 'delete(m, k)' in the round, k the key that came -/
theorem wpList_deleteL (hg : o.guard = none) (m x : Operand) (t : TypeId) (hop : o.op = Op.call { callee := Callee.builtin Builtin.delete, args := #[m, x], argTypes := #[t, k] }) (C : Coding P k e κ α) (ht : P.underlying t = some (.map k e)) (b r n : Nat) (l left : List (κ × α)) (cnt : Nat)
    (hm : a.eval m = .map (some b)) (h : RangeL C w b r n l left cnt) (key : κ) (hx : a.eval x = C.kv key) (hgd : C.good key) (hno : key ∉ left.map (·.1))
    (hK : ∀ w' cnt', RangeL C w' b r n (strike l key) left cnt' → cnt' ≤ cnt → w.grownBy w' (some b) → wpList P ops Q rest (a.put o.dst (.tuple #[])) w') :
    wpList P ops Q (o :: rest) a w := by
  obtain ⟨D, lf, h1, h2, h3, h4, h5⟩ := h
  refine wpList_delete_ranges w hg m x t k hop e C.keyed ht C.R b r n D lf cnt hm h1 (C.kv key) (C.kl key) hx (C.key key hgd) fun w' cnt' hr hle ht' => hK w' cnt' ⟨_, _, hr, h2.del (h1.owns.tidy C.keyed) hgd, h3, fun q hq => ?_, ?_⟩ hle ht'.grown
  · refine List.mem_filter.2 ⟨h4 q hq, ?_⟩
    have : q.1 ≠ key := fun e => hno (e ▸ List.mem_map_of_mem hq)
    simp [this]
  · have := RangeL.left_step (C := C) h5 hgd
    rwa [strike_self hno] at this
end
end Go.Proofs.YtegehaokfcamfaaGreatDoor

/-
  A map as a function is a map as a list. Condition: whatever reads as a key or a value is one of the coding's.
-/
namespace Go.Proofs.YtegehaokfcamfaaGreatDoor
open Go.RowKit

section
variable {P : Program} {k e : TypeId} {κ α : Type} [DecidableEq κ] {C : Coding P k e κ α} {w : World} {m n : Nat}
theorem hasL_of : ∀ (l : List (κ × α)), (l.map (fun p => (C.kl p.1, C.vd p.2))).Pairwise (fun p q => p.1 ≠ q.1) → (∀ p ∈ l, C.good p.1) →
    HasL C (.map ((l.map (fun p => (C.kl p.1, C.vd p.2))).foldr DataW.insert [])) l
  | [], _, _ => ⟨List.nodup_nil, by simp, rfl, fun _ _ => rfl⟩
  | (x, a) :: l, hp, hg => by
    rw [List.map_cons, List.pairwise_cons] at hp
    have ih := hasL_of l hp.2 (fun p h => hg p (List.mem_cons_of_mem _ h))
    have hT : Maps.Tidy (.map ((l.map (fun p => (C.kl p.1, C.vd p.2))).foldr DataW.insert []) : DataW Unit) := ⟨_, rfl, ((WideShapes.sorted_perm _).pairwise_iff (fun {_ _} hne => Ne.symm hne)).2 hp.2⟩
    have h1 := ih.put hT (hg (x, a) (by simp)) a
    have h2 : x ∉ l.map (·.1) := fun h => by
      obtain ⟨q, hq, e1⟩ := List.mem_map.1 h
      exact hp.1 (C.kl q.1, C.vd q.2) (List.mem_map.2 ⟨q, hq, rfl⟩) (by show C.kl x = C.kl q.1; rw [e1])
    have h3 : layL l x a = (x, a) :: l := by rw [layL, strike_self h2]
    rw [h3] at h1
    have h4 : ((l.map (fun p => (C.kl p.1, C.vd p.2))).foldr DataW.insert []).filter (fun p => !p.1.sameKey (C.kl x)) = (l.map (fun p => (C.kl p.1, C.vd p.2))).foldr DataW.insert [] := by
      rw [List.filter_eq_self]
      intro p hm
      have h5 := hp.1 p ((WideShapes.sorted_perm _).mem_iff.1 hm)
      cases hs : p.1.sameKey (C.kl x) with
      | false => rfl
      | true => exact absurd (WideAt.sameKey_eq hs).symm h5
    have h6 : (DataW.map ((l.map (fun p => (C.kl p.1, C.vd p.2))).foldr DataW.insert []) : DataW Unit).put (C.kl x) (C.vd a) = .map (((x, a) :: l).map (fun p => (C.kl p.1, C.vd p.2)) |>.foldr DataW.insert []) := by
      unfold DataW.put
      simp only
      rw [h4]
      rfl
    rw [← h6]
    exact h1
theorem view_eq {D : DataW Unit} {kl : Lit} {o o' : Option (DataW Unit)} (h : View D kl o) (h' : View D kl o') : o = o' := by
  cases o with
  | none => cases o' with
    | none => rfl
    | some d => exact absurd (h.symm.trans h'.1) (by simp)
  | some d => cases o' with
    | none => exact absurd (h'.symm.trans h.1) (by simp)
    | some d' => rw [← h.2 d, h'.2 d]
theorem MapIs.list {f : κ → Option α} (Fl : C.Full) (hv : ∀ a b, C.vv a = C.vv b → a = b) (h : MapIs C w m n f) : ∃ l, MapL C w m n l ∧ ∀ x, C.good x → lk l x = f x := by
  obtain ⟨D, hO, hV⟩ := h
  have hO' := hO
  obtain ⟨es, clock, hb, F, hs, rfl⟩ := hO'
  have hread : ∀ (ms : List MapEntry), (∀ x ∈ ms, ∃ y, WideElems.rd P k C.R x = some y) → ∃ l : List (κ × α), ms.map (WideElems.rg P k C.R) = l.map (fun p => (C.kl p.1, C.vd p.2)) ∧ ∀ p ∈ l, C.good p.1 := by
    intro ms
    induction ms with
    | nil => intro _; exact ⟨[], rfl, by simp⟩
    | cons x ms ih =>
      intro hx
      obtain ⟨l, h1, h2⟩ := ih (fun y hy => hx y (List.mem_cons_of_mem _ hy))
      obtain ⟨y, hy⟩ := hx x (by simp)
      have hk := WideElems.rd_key hy
      obtain ⟨z, hz, hyz⟩ := WideElems.rd_val hy
      obtain ⟨q, hq, hg⟩ := Fl.invK _ _ hk
      obtain ⟨a, ha⟩ := Fl.invV _ _ hz
      refine ⟨(q, a) :: l, ?_, fun p hp => ?_⟩
      · rw [List.map_cons, List.map_cons, h1, WideElems.rg_of hy]
        congr 1
        have e1 : y.1 = C.kl q := Option.some.inj (by rw [← hk, hq]; exact C.key q hg)
        have e2 : y.2 = C.vd a := by
          rw [hyz]
          rw [ha, C.enc a] at hz
          rw [← Option.some.inj hz]
        exact Prod.ext e1 e2
      · rcases List.mem_cons.1 hp with rfl | hp
        · exact hg
        · exact h2 p hp
  obtain ⟨l, h1, h2⟩ := hread es.toList F.reads
  have hL : HasL C (.map ((es.toList.map (WideElems.rg P k C.R)).foldr DataW.insert [])) l := by
    rw [h1]
    exact hasL_of l (by rw [← h1]; exact Maps.fit_apart C.keyed F) h2
  refine ⟨l, ⟨_, hO, hL⟩, fun x hx => ?_⟩
  have h3 := view_eq (hL.view x hx) (hV x hx)
  rcases h4 : lk l x with _ | a <;> rcases h5 : f x with _ | b
  · rfl
  · rw [h4, h5] at h3; cases h3
  · rw [h4, h5] at h3; cases h3
  · rw [h4, h5] at h3
    have e1 : C.vd a = C.vd b := Option.some.inj h3
    have e2 : C.R (C.vv a) = some (C.vd b, []) := by rw [← e1]; exact C.enc a
    rw [hv a b (C.dec _ b [] e2)]
end
end Go.Proofs.YtegehaokfcamfaaGreatDoor

/-
  A slice of bytes that came in as an argument, opened: its bytes as a list, and its datum. No condition.
-/
namespace Go.Proofs.YtegehaokfcamfaaGreatDoor
open Go.ChangeShapes Go.WideShapes Go.RowKit

section
variable {H : Type} {enc : TypeId × Value → H} {P : Program} {w : World} {base : Nat} {held : Bool}
theorem addr_plain {a : Addr} {u : Value} (h : w.cell? a = some u) : a.spot = none := by
  obtain ⟨b, off, sp⟩ := a
  cases sp with
  | none => rfl
  | some k => simp only [World.cell?] at h; split at h <;> simp at h
theorem bytes_sl {fuel : Nat} {t e : TypeId} {v : Value} {x : DataW H × List MemPlace} (ht : P.underlying t = some (.slice e)) (he : P.underlying e = some (.int .u8)) (hc : P.cellsOf e = 1)
    (h : DataW.trod enc P w base (fun _ => true) held fuel t [v] = some x) : ∃ (A : Option Addr) (n c : Nat) (l : List UInt8), v = .slice A n c ∧ n ≤ c ∧ c ≤ maxLen ∧ Sl w 1 A n (u8s l) ∧ (x.1 = .nil ∧ c = 0 ∨ ∃ es sp, x.1 = .slice es sp ∧ es.length + sp.length = c) := by
  rcases open_ints ht he hc h with ⟨hcs, hx⟩ | ⟨a, len, cap, zs, hcs, _, hl, hm, hlen, hx, hcell, hwf⟩
  · obtain rfl : v = .slice none 0 0 := by simpa using hcs
    exact ⟨none, 0, 0, [], rfl, Nat.le_refl _, Nat.zero_le _, Sl.nil_, .inl ⟨by rw [hx], rfl⟩⟩
  · obtain rfl : v = .slice (some a) len cap := by simpa using hcs
    rw [if_pos rfl] at hlen
    refine ⟨some a, len, cap, (zs.take len).map (fun z => UInt8.ofNat z.toNat), rfl, hl, hm, ⟨?_, fun hn => ?_⟩, .inr ⟨_, _, by rw [hx], ?_⟩⟩
    · simp; omega
    · have h0 := hcell 0 (by omega)
      rw [show a.add 0 = a from by simp [Addr.add]] at h0
      have hsp := addr_plain h0
      obtain ⟨b, off, sp⟩ := a
      subst hsp
      refine ⟨b, off, rfl, ?_, fun k hk => ?_⟩
      · rcases Nat.lt_or_ge b w.heap.size with hlt | hge
        · exact hlt
        · simp [World.cell?, Array.getElem?_eq_none hge] at h0
      · have hk' : k < len := by omega
        have hkz : k < zs.length := by omega
        have h1 := hcell k hkz
        have e1 : (⟨b, off, none⟩ : Addr).add k = ⟨b, off + k, none⟩ := by unfold Addr.add; split <;> simp_all
        rw [e1] at h1
        rw [h1]
        have hz : 0 ≤ zs[k] ∧ zs[k] ≤ 255 := by
          have := hwf zs[k] (List.getElem_mem hkz)
          simpa [Lit.wf, IntKind.min, IntKind.max, IntKind.signed, IntKind.bits] using this
        have e2 : ((UInt8.ofNat zs[k].toNat).toNat : Int) = zs[k] := by simp; omega
        simp only [u8s, List.map_map, List.getElem?_map, List.getElem?_take_of_lt hk', List.getElem?_eq_getElem hkz, Option.map_some, Function.comp, U8, e2]
        simp [hkz]
    · simp [lits]; omega
end
end Go.Proofs.YtegehaokfcamfaaGreatDoor

/-
  A slice of structs that came in as an argument, opened as a list, what its elements lead to with it. No condition.
-/
namespace Go.Proofs.YtegehaokfcamfaaGreatDoor
open Go.ChangeShapes Go.WideShapes Go.RowKit Go.Deep

theorem choose_list {α : Type} {p : Nat → α → Prop} : ∀ n, (∀ i, i < n → ∃ x, p i x) → ∃ xs : List α, xs.length = n ∧ ∀ i x, xs[i]? = some x → p i x
  | 0, _ => ⟨[], rfl, by simp⟩
  | n + 1, h => by
    obtain ⟨xs, hl, hx⟩ := choose_list n (fun i hi => h i (by omega))
    obtain ⟨y, hy⟩ := h n (by omega)
    refine ⟨xs ++ [y], by simp [hl], fun i x hi => ?_⟩
    rcases Nat.lt_or_ge i n with hlt | hge
    · rw [List.getElem?_append_left (by omega)] at hi
      exact hx i x hi
    · rw [List.getElem?_append_right (by omega), hl] at hi
      have : i = n := by
        rcases Nat.lt_or_ge (i - n) 1 with h1 | h1
        · omega
        · rw [List.getElem?_eq_none (by simpa using h1)] at hi; cases hi
      subst this
      simp at hi
      subst hi
      exact hy
/-- cells of a list of structs, all of one size -/
theorem flat_len {α : Type} {f : α → List Value} {sz : Nat} : ∀ {xs : List α}, (∀ x ∈ xs, (f x).length = sz) → (xs.flatMap f).length = xs.length * sz
  | [], _ => by simp
  | x :: xs, h => by
    rw [List.flatMap_cons, List.length_append, h x (by simp), flat_len (xs := xs) (fun y hy => h y (by simp [hy])), List.length_cons, Nat.succ_mul, Nat.add_comm]
theorem flat_at {α : Type} {f : α → List Value} {sz : Nat} : ∀ {xs : List α} {i j : Nat} {x : α}, (∀ x ∈ xs, (f x).length = sz) → xs[i]? = some x → j < sz → (xs.flatMap f)[i * sz + j]? = (f x)[j]?
  | [], _, _, _, _, hx, _ => by simp at hx
  | y :: xs, 0, j, x, h, hx, hj => by
    simp at hx
    subst hx
    rw [Nat.zero_mul, Nat.zero_add, List.flatMap_cons, List.getElem?_append_left (by rw [h y (by simp)]; exact hj)]
  | y :: xs, i + 1, j, x, h, hx, hj => by
    have hy := h y (by simp)
    rw [List.flatMap_cons, List.getElem?_append_right (by rw [hy, Nat.succ_mul]; omega), hy, show (i + 1) * sz + j - sz = i * sz + j by rw [Nat.succ_mul]; omega]
    exact flat_at (xs := xs) (fun z hz => h z (by simp [hz])) (by simpa using hx) hj

theorem weights_all {H : Type} {P : Program} {e : TypeId} : ∀ {l : List (DataW H)} {d : DataW H} {n : Nat}, d ∈ l → n ∈ d.weights P e → n ∈ DataW.weightsAll P e l
  | [], _, _, h, _ => by simp at h
  | x :: l, d, n, h, hn => by
    rw [DataW.weightsAll, List.mem_append]
    rcases List.mem_cons.1 h with rfl | h
    · exact .inl hn
    · exact .inr (weights_all h hn)

section
variable {H : Type} {enc : TypeId × Value → H} {P : Program} {w : World} {base : Nat} {held : Bool}
theorem open_rows {α : Type} (f : α → List Value) (Good : α → Prop) {fuel sz : Nat} {t e : TypeId} {v : Value} {x : DataW H × List MemPlace} (ht : P.underlying t = some (.slice e)) (hc : P.cellsOf e = sz) (h0 : 0 < sz)
    (he : ∀ n cs y, DataW.trod enc P w base (fun _ => true) held n e cs = some y → (∀ m ∈ y.1.weights P e, m ≤ reachBytes) → ∃ x : α, cs = f x ∧ Good x)
    (h : DataW.trod enc P w base (fun _ => true) held fuel t [v] = some x) (hw : ∀ m ∈ x.1.weights P t, m ≤ reachBytes) :
    ∃ (A : Option Addr) (n c : Nat) (xs : List α), v = .slice A n c ∧ n ≤ c ∧ c ≤ maxLen ∧ c * P.bytesOf e ≤ reachBytes ∧ xs.length = n ∧ (∀ x ∈ xs, Good x ∧ (f x).length = sz) ∧ Sl w sz A n (xs.flatMap f) := by
  rcases open_slice ht h with ⟨hcs, hx⟩ | ⟨a, len, cap, m, n, D, Pl, hcs, hb, hl, hm, hmm, hx, hel⟩
  · obtain rfl : v = .slice none 0 0 := by simpa using hcs
    exact ⟨none, 0, 0, [], rfl, Nat.le_refl _, Nat.zero_le _, by simp, rfl, by simp, Sl.nil_⟩
  · obtain rfl : v = .slice (some a) len cap := by simpa using hcs
    rw [if_pos rfl] at hmm
    subst hmm
    have hall : ∀ i, i < len → ∃ x : α, w.cells? base (a.add (i * sz)) sz = some (f x) ∧ Good x := by
      intro i hi
      obtain ⟨cs', h1, h2⟩ := hel i (by omega)
      rw [hc] at h1
      obtain ⟨y, rfl, hg⟩ := he n cs' _ h2 (fun k hk => hw k (by
        rw [hx]
        simp only [DataW.weights, ht]
        exact List.mem_cons_of_mem _ (List.mem_append_left _ (weights_all (List.mem_map.2 ⟨i, by simpa using hi, rfl⟩) hk))))
      exact ⟨y, h1, hg⟩
    obtain ⟨xs, hxl, hxs⟩ := choose_list len hall
    have hsz : ∀ y ∈ xs, Good y ∧ (f y).length = sz := by
      intro y hy
      obtain ⟨i, hi⟩ := List.getElem?_of_mem hy
      obtain ⟨h1, h2⟩ := hxs i y hi
      exact ⟨h2, (World.cells?_some h1).2.1⟩
    refine ⟨some a, len, m, xs, rfl, hl, hm, ?_, hxl, hsz, ?_, fun hn => ?_⟩
    · refine hw _ ?_
      rw [hx]
      simp only [DataW.weights, ht, List.length_map, List.length_range]
      rw [show len + (m - len) = m by omega]
      exact List.mem_cons_self
    · rw [flat_len (fun y hy => (hsz y hy).2), hxl]
    · obtain ⟨y0, hy0⟩ : ∃ y, xs[0]? = some y := ⟨xs[0]'(by omega), List.getElem?_eq_getElem _⟩
      have h00 := (World.cells?_some (hxs 0 y0 hy0).1).2.2 0 h0
      have hfl := (hsz y0 (List.mem_of_getElem? hy0)).2
      rw [Nat.zero_mul, show (a.add 0).add 0 = a by simp [Addr.add], List.getElem?_eq_getElem (by omega)] at h00
      have hsp := addr_plain h00
      obtain ⟨b, off, sp⟩ := a
      subst hsp
      refine ⟨b, off, rfl, World.block_lt_of_cell? _ _ h00, fun k hk => ?_⟩
      have hi : k / sz < len := Nat.div_lt_of_lt_mul (by rw [Nat.mul_comm]; exact hk)
      obtain ⟨y, hy⟩ : ∃ y, xs[k / sz]? = some y := ⟨xs[k / sz]'(by omega), List.getElem?_eq_getElem _⟩
      have h1 := (World.cells?_some (hxs _ y hy).1).2.2 (k % sz) (Nat.mod_lt _ h0)
      have h2 := flat_at (fun y hy => (hsz y hy).2) hy (Nat.mod_lt k h0)
      have e1 : k / sz * sz + k % sz = k := by rw [Nat.mul_comm]; exact Nat.div_add_mod k sz
      rw [e1] at h2
      rw [h2, ← h1, Deep.add_add, e1]
      unfold Addr.add
      split <;> simp_all
end
end Go.Proofs.YtegehaokfcamfaaGreatDoor

/-
  Small functions over texts: equality of two slices of texts, a clone of one, an id's length. Conditions: slices read as lists and are no longer than an int counts.
-/
namespace Go.Proofs.YtegehaokfcamfaaGreatDoor
open Go.RowKit

theorem ne_of_at {α : Type} {xs ys : List α} {k : Nat} {x y : α} (hx : xs[k]? = some x) (hy : ys[k]? = some y) (h : x ≠ y) : xs ≠ ys := by
  rintro rfl; rw [hx] at hy; exact h (Option.some.inj hy)
theorem take_step {α : Type} {xs ys : List α} {k : Nat} {x y : α} (hx : xs[k]? = some x) (hy : ys[k]? = some y) (e : x = y) (h : xs.take k = ys.take k) : xs.take (k + 1) = ys.take (k + 1) := by
  rw [List.take_add_one, List.take_add_one, h, hx, hy, e]
theorem take_all {α : Type} {xs ys : List α} {k : Nat} (hx : xs.length ≤ k) (hy : ys.length ≤ k) (h : xs.take k = ys.take k) : xs = ys := by
  rwa [List.take_of_length_le hx, List.take_of_length_le hy] at h
theorem ret_dec {p : Prop} [Decidable p] (h : p) : Ending.returned (.bool true) = .returned (.bool (decide p)) := by rw [decide_eq_true h]
theorem ret_ndec {p : Prop} [Decidable p] (h : ¬ p) : Ending.returned (.bool false) = .returned (.bool (decide p)) := by rw [decide_eq_false h]
theorem strs_len {w : World} {A : Option Addr} {n : Nat} {ss : List (List UInt8)} (h : Sl w 1 A n (strs ss)) : ss.length = n := by simpa using h.len




end Go.Proofs.YtegehaokfcamfaaGreatDoor

/-
  A statement that draws its order, all whose operations but the last only read or make memory: each operation's value has a property that more memory leaves alone; so the order does not matter. One law, whatever the number of operations. No condition but the closed checks on the operations.
-/
namespace Go.Proofs.YtegehaokfcamfaaGreatDoor
open Go.RowKit

/-- how many are not done -/
def undone : List Bool → Nat
  | [] => 0
  | b :: l => (if b then 0 else 1) + undone l
theorem undone_set : ∀ {l : List Bool} {i : Nat}, l[i]? = some false → undone (l.set i true) + 1 = undone l
  | [], _, h => by simp at h
  | b :: l, 0, h => by simp at h; subst h; simp [undone]; omega
  | b :: l, i + 1, h => by simp at h; have := undone_set h; simp [undone]; omega
theorem undone_zero : ∀ {l : List Bool}, undone l = 0 → ∀ (i : Nat) (b : Bool), l[i]? = some b → b = true
  | [], _, _, _, h => by simp at h
  | c :: l, hz, 0, b, h => by simp at h; subst h; cases c <;> simp [undone] at hz ⊢
  | c :: l, hz, i + 1, b, h => by simp at h; exact undone_zero (by cases c <;> simp [undone] at hz ⊢ <;> omega) i b h

section
variable {P : Program} {ops : Array Oper} {Q : Exit → Act → World → Prop} {md : Region.Mode}
theorem ready_parts {listed : Array Bool} {i : Nat} (hs : listed.size = ops.size) (h : i ∈ Region.ready md ops listed) : ∃ o, ops[i]? = some o ∧ listed[i]? = some false ∧ ∀ e ∈ o.after, Region.binds md e = true → listed[e.on]? = some true := by
  unfold Region.ready at h
  simp only [List.mem_filter, List.mem_range, Bool.and_eq_true, Bool.not_eq_true'] at h
  obtain ⟨hlt, h1, h2⟩ := h
  have hl : i < listed.size := by omega
  refine ⟨ops[i], Array.getElem?_eq_getElem hlt, ?_, fun e he hb => ?_⟩
  · rw [Array.getElem?_eq_getElem hl]
    simp [Array.getD, hl] at h1
    rw [h1]
  · simp only [Array.getElem?_eq_getElem hlt, Option.map_some, Option.getD_some] at h2
    have h3 := Array.all_eq_true_iff_forall_mem.1 h2 e he
    simp only [hb, Bool.not_true, Bool.false_or] at h3
    by_cases hon : e.on < listed.size
    · rw [Array.getElem?_eq_getElem hon]
      simp [Array.getD, hon] at h3
      rw [h3]
    · simp [Array.getD, hon] at h3
theorem ready_mem {listed : Array Bool} {i : Nat} {o : Oper} (ho : ops[i]? = some o) (hl : listed[i]? = some false) (ha : ∀ e ∈ o.after, Region.binds md e = true → listed[e.on]? = some true) : i ∈ Region.ready md ops listed := by
  have hlt := (Array.getElem?_eq_some_iff.1 ho).1
  obtain ⟨hl1, hl2⟩ := Array.getElem?_eq_some_iff.1 hl
  unfold Region.ready
  simp only [List.mem_filter, List.mem_range, Bool.and_eq_true, Bool.not_eq_true']
  refine ⟨hlt, by simp [Array.getD, hl1, hl2], ?_⟩
  rw [ho]
  simp only [Option.map_some, Option.getD_some]
  refine Array.all_eq_true_iff_forall_mem.2 (fun e he => ?_)
  by_cases hb : Region.binds md e = true
  · obtain ⟨h1, h2⟩ := Array.getElem?_eq_some_iff.1 (ha e he hb)
    simp [Array.getD, h1, h2]
  · simp at hb
    simp [hb]
theorem wpAny_inv (Inv : Array Bool → Act → World → Prop)
    (hstep : ∀ listed a w i, listed.size = ops.size → Inv listed a w → i ∈ Region.ready md ops listed → wpOp P ops Q i (Inv (listed.setIfInBounds i true)) a w)
    (hdone : ∀ listed a w, listed.size = ops.size → Inv listed a w → Region.ready md ops listed = [] → Q .normal a w) :
    ∀ (fuel : Nat) (listed : Array Bool) (a : Act) (w : World), listed.size = ops.size → undone listed.toList ≤ fuel → Inv listed a w → wpAny P md ops Q fuel listed a w
  | 0, listed, a, w, hs, hu, hI => by
    have hr : Region.ready md ops listed = [] := by
      rw [List.eq_nil_iff_forall_not_mem]
      intro i hi
      obtain ⟨o, _, hl, _⟩ := ready_parts hs hi
      have := undone_zero (by omega : undone listed.toList = 0) i false (by simpa using hl)
      cases this
    exact ⟨hr, hdone listed a w hs hI hr⟩
  | fuel + 1, listed, a, w, hs, hu, hI => by
    refine ⟨hdone listed a w hs hI, fun i hi => ?_⟩
    obtain ⟨o, _, hl, _⟩ := ready_parts hs hi
    refine wpOp_mono (fun a' w' h' => ?_) (hstep listed a w i hs hI hi)
    refine wpAny_inv Inv hstep hdone fuel _ a' w' (by simpa using hs) ?_ h'
    have := undone_set (l := listed.toList) (i := i) (by simpa using hl)
    rw [Array.toList_setIfInBounds]
    omega
end

/-- the closed checks: edges go back; no guard; each slot is written once; whatever is not the last is met by the last one's edges, in two steps at most -/
def regionOk (ops : Array Oper) (n : Nat) : Bool :=
  ops.size == n + 1 && (List.range (n + 1)).all (fun i => match ops[i]? with
    | some o => o.guard.isNone && o.after.all (fun e => e.on < i) && (List.range i).all (fun j => match ops[j]? with
      | some p => (match p.dst, o.dst with | some x, some y => x != y | _, _ => true)
      | none => true)
    | none => false) &&
  (List.range n).all (fun j => match ops[n]? with
    | some o => o.after.any (fun e => Region.binds .any e && (e.on == j || (match ops[e.on]? with | some p => p.after.any (fun f => Region.binds .any f && f.on == j) | none => false)))
    | none => false)

/-- the frame outside of what the region writes is as it was -/
structure SameAct (ops : Array Oper) (a0 a : Act) : Prop where
  defers : a.defers = a0.defers
  size : a.tmps.size = a0.tmps.size
  slot : ∀ t, (∀ (i : Nat) (o : Oper), ops[i]? = some o → o.dst ≠ some t) → a.tmps[t]? = a0.tmps[t]?
theorem SameAct.put {ops : Array Oper} {a0 a : Act} (h : SameAct ops a0 a) {i : Nat} {o : Oper} (ho : ops[i]? = some o) (v : Value) : SameAct ops a0 (a.put o.dst v) := by
  cases hd : o.dst with
  | none => exact h
  | some d =>
    refine ⟨h.defers, by simpa [Act.put] using h.size, fun t ht => ?_⟩
    have hne : d ≠ t := fun e => ht i o ho (by rw [hd, e])
    rw [← h.slot t ht]
    simp [Act.put, hne]
theorem SameAct.eval {ops : Array Oper} {a0 a : Act} (h : SameAct ops a0 a) {t : Nat} (ht : ∀ (i : Nat) (o : Oper), ops[i]? = some o → o.dst ≠ some t) : a.eval (.tmp t) = a0.eval (.tmp t) := by
  have := h.slot t ht
  simp only [Act.eval, Array.getD_eq_getD_getElem?, this]

/-- what is known of the values that an operation waits for -/
def Met (ops : Array Oper) (φ : Nat → Value → World → Prop) (o : Oper) (a : Act) (w : World) : Prop :=
  ∀ e ∈ o.after, Region.binds .any e = true → ∀ p d, ops[e.on]? = some p → p.dst = some d → φ e.on (a.eval (.tmp d)) w

theorem wp_region_grow {P : Program} {ops : Array Oper} {Q : Exit → Act → World → Prop} {id : Nat} {a0 : Act} {w0 : World} (hm : P.follows .mixedOrders = true) (n : Nat) (hok : regionOk ops n = true)
    (hsz : ∀ (i : Nat) (o : Oper) (d : Nat), ops[i]? = some o → o.dst = some d → d < a0.tmps.size)
    (φ : Nat → Value → World → Prop) (hmono : ∀ j v w w', φ j v w → Below w.heap.size w w' → φ j v w')
    (hstep : ∀ (i : Nat) (o : Oper), i < n → ops[i]? = some o → ∀ a w, Below w0.heap.size w0 w → SameAct ops a0 a → Met ops φ o a w →
      Oper.wp P o a w (fun a' w' => ∃ v, a' = a.put o.dst v ∧ φ i v w' ∧ Below w.heap.size w w') Q)
    (hlast : ∀ (o : Oper), ops[n]? = some o → ∀ a w, Below w0.heap.size w0 w → SameAct ops a0 a → Met ops φ o a w → Oper.wp P o a w (fun a' w' => Q .normal a' w') Q) :
    (Code.region id ops true).wp P Q a0 w0 := by
  have hok' := hok
  simp only [regionOk, Bool.and_eq_true, beq_iff_eq, List.all_eq_true, List.mem_range] at hok'
  obtain ⟨⟨hn, hop⟩, hcov⟩ := hok'
  have hback : ∀ (i : Nat) (o : Oper), ops[i]? = some o → o.guard = none ∧ (∀ e ∈ o.after, e.on < i) ∧ ∀ (j : Nat) (p : Oper) (x : Nat), j < i → ops[j]? = some p → p.dst = some x → o.dst ≠ some x := by
    intro i o ho
    have hlt := (Array.getElem?_eq_some_iff.1 ho).1
    have h1 := hop i (by omega)
    rw [ho] at h1
    simp only [Bool.and_eq_true, List.all_eq_true, List.mem_range] at h1
    obtain ⟨⟨h2, h3⟩, h4⟩ := h1
    refine ⟨by simpa using h2, fun e he => by simpa using Array.all_eq_true_iff_forall_mem.1 h3 e he, fun j p x hj hp hx hd => ?_⟩
    have h5 := h4 j hj
    rw [hp] at h5
    simp only [hx, hd] at h5
    simp at h5
  have hdst : ∀ (i j : Nat) (o p : Oper) (x : Nat), i ≠ j → ops[i]? = some o → ops[j]? = some p → o.dst = some x → p.dst ≠ some x := by
    intro i j o p x hne ho hp hx hpx
    rcases Nat.lt_or_gt_of_ne hne with h | h
    · exact (hback j p hp).2.2 i o x h ho hx hpx
    · exact (hback i o ho).2.2 j p x h hp hpx hx
  refine wp_region_any hm ?_
  refine wpAny_inv (fun listed a w => (∀ (i : Nat) (o : Oper), ops[i]? = some o → listed[i]? = some true → ∀ e ∈ o.after, Region.binds .any e = true → listed[e.on]? = some true) ∧
      (listed[n]? = some false → SameAct ops a0 a ∧ Below w0.heap.size w0 w ∧ ∀ (j : Nat) (p : Oper) (d : Nat), j < n → ops[j]? = some p → p.dst = some d → listed[j]? = some true → φ j (a.eval (.tmp d)) w) ∧
      (listed[n]? = some true → (∀ j, j < n → listed[j]? = some true) ∧ Q .normal a w)) ?_ ?_ ops.size (Array.replicate ops.size false) a0 _ (by simp) ?_ ?_
  · rintro listed a w i hs ⟨hcl, hun, hfin⟩ hi
    obtain ⟨o, ho, hl, haft⟩ := ready_parts hs hi
    have hlt := (Array.getElem?_eq_some_iff.1 ho).1
    have hnl : listed[n]? = some false := by
      cases hb : listed[n]? with
      | none => rw [Array.getElem?_eq_none_iff] at hb; omega
      | some b => cases b with
        | false => rfl
        | true =>
          obtain ⟨h1, _⟩ := hfin hb
          rcases Nat.lt_or_ge i n with h | h
          · rw [h1 i h] at hl; cases hl
          · obtain rfl : i = n := by omega
            rw [hb] at hl; cases hl
    obtain ⟨hsame, hbel, hphi⟩ := hun hnl
    have hmet : Met ops φ o a w := by
      intro e he hb p d hp hd
      have hon := (hback i o ho).2.1 e he
      exact hphi e.on p d (by omega) hp hd (haft e he hb)
    have hset : ∀ k, (listed.setIfInBounds i true)[k]? = if i = k then some true else listed[k]? := by
      intro k
      rw [Array.getElem?_setIfInBounds]
      split
      · rename_i h; subst h; rw [if_pos (by omega)]
      · rfl
    refine wpOp_step ho (fun K' hK' => ?_)
    have hwant : Region.wanted o (yielded ops a.tmps) = true := by simp [Region.wanted, (hback i o ho).1]
    rw [if_pos hwant]
    have hcl' : ∀ (k : Nat) (p : Oper), ops[k]? = some p → (listed.setIfInBounds i true)[k]? = some true → ∀ e ∈ p.after, Region.binds .any e = true → (listed.setIfInBounds i true)[e.on]? = some true := by
      intro k p hp hk e he hb
      rw [hset] at hk ⊢
      split
      · rfl
      · by_cases hik : i = k
        · subst hik
          obtain rfl : p = o := Option.some.inj (hp.symm.trans ho)
          exact haft e he hb
        · rw [if_neg hik] at hk
          exact hcl k p hp hk e he hb
    rcases Nat.lt_or_ge i n with hin | hin
    · refine Oper.wp_mono (fun a' w' h' => hK' a' w' ?_) (hstep i o hin ho a w hbel hsame hmet)
      obtain ⟨v, rfl, hv, hb'⟩ := h'
      refine ⟨hcl', fun _ => ⟨hsame.put ho v, hbel.trans (hb'.mono hbel.size), fun j p d hj hp hd hlj => ?_⟩, fun hf => ?_⟩
      · rw [hset] at hlj
        by_cases hij : i = j
        · subst hij
          obtain rfl : p = o := Option.some.inj (hp.symm.trans ho)
          have hdlt := hsz i p d ho hd
          rw [hd]
          have : (a.put (some d) v).eval (.tmp d) = v := by
            simp [Act.put, Act.eval, Array.getD_eq_getD_getElem?, hsame.size, hdlt]
          rw [this]
          exact hv
        · rw [if_neg hij] at hlj
          have hne : o.dst ≠ some d := hdst j i p o d (fun e => hij e.symm) hp ho hd
          have : (a.put o.dst v).eval (.tmp d) = a.eval (.tmp d) := by
            cases hod : o.dst with
            | none => rfl
            | some x =>
              have hxd : x ≠ d := fun e => hne (by rw [hod, e])
              simp [Act.put, Act.eval, Array.getD_eq_getD_getElem?, hxd]
          rw [this]
          exact hmono _ _ _ _ (hphi j p d hj hp hd hlj) hb'
      · rw [hset, if_neg (by omega), hnl] at hf
        cases hf
    · obtain rfl : i = n := by omega
      refine Oper.wp_mono (fun a' w' h' => hK' a' w' ?_) (hlast o ho a w hbel hsame hmet)
      refine ⟨hcl', fun hf => ?_, fun _ => ⟨fun j hj => ?_, h'⟩⟩
      · rw [hset, if_pos rfl] at hf
        cases hf
      · rw [hset, if_neg (by omega)]
        have h1 := hcov j hj
        rw [ho] at h1
        simp only at h1
        rw [← Array.any_toList, List.any_eq_true] at h1
        obtain ⟨e, he, h1⟩ := h1
        simp only [Bool.and_eq_true, Bool.or_eq_true, beq_iff_eq] at h1
        obtain ⟨hb, h2⟩ := h1
        replace he := Array.mem_toList_iff.1 he
        have hon := haft e he hb
        rcases h2 with rfl | h2
        · exact hon
        · split at h2
          · rename_i p hp
            rw [← Array.any_toList, List.any_eq_true] at h2
            obtain ⟨f, hf, h2⟩ := h2
            simp only [Bool.and_eq_true, beq_iff_eq] at h2
            obtain ⟨hfb, rfl⟩ := h2
            replace hf := Array.mem_toList_iff.1 hf
            exact hcl e.on p hp hon f hf hfb
          · cases h2
  · rintro listed a w hs ⟨hcl, hun, hfin⟩ hr
    have hall : ∀ i, i ≤ n → listed[i]? = some true := by
      intro i
      induction i using Nat.strongRecOn with
      | _ i ih =>
        intro hi
        have hlt : i < listed.size := by omega
        have hlo : i < ops.size := by omega
        cases hb : listed[i] with
        | true => rw [Array.getElem?_eq_getElem hlt, hb]
        | false =>
          have hmem := ready_mem (md := .any) (Array.getElem?_eq_getElem hlo) (by rw [Array.getElem?_eq_getElem hlt, hb] : listed[i]? = some false) (fun e he _ => ih e.on ((hback i _ (Array.getElem?_eq_getElem hlo)).2.1 e he) (by have := (hback i _ (Array.getElem?_eq_getElem hlo)).2.1 e he; omega))
          rw [hr] at hmem
          cases hmem
    exact (hfin (hall n (Nat.le_refl _))).2
  · have hu : ∀ m, undone (List.replicate m false) = m := by
      intro m
      induction m with
      | zero => rfl
      | succ m ih => rw [List.replicate_succ, undone, ih]; simp; omega
    simp [hu]
  · refine ⟨fun i o ho hl => ?_, fun _ => ⟨⟨rfl, rfl, fun _ _ => rfl⟩, ⟨rfl, rfl, rfl, Nat.le_refl _, fun _ _ => rfl⟩, fun j p d hj hp hd hl => ?_⟩, fun hl => ?_⟩
    · rw [Array.getElem?_replicate] at hl; split at hl <;> cases hl
    · rw [Array.getElem?_replicate] at hl; split at hl <;> cases hl
    · rw [Array.getElem?_replicate] at hl; split at hl <;> cases hl

/-- no operation of the region writes slot t -/
def noDst (ops : Array Oper) (t : Nat) : Bool := ops.all (fun o => o.dst != some t)
theorem SameAct.keeps {ops : Array Oper} {a0 a : Act} (h : SameAct ops a0 a) {t : Nat} (hn : noDst ops t = true) : a.eval (.tmp t) = a0.eval (.tmp t) :=
  h.eval (fun i o ho e => by
    have hm := Array.mem_of_getElem? ho
    have h1 := Array.all_eq_true_iff_forall_mem.1 hn o hm
    rw [e] at h1
    simp at h1)
/-- operation o waits for number j, which writes slot d -/
def waitsFor (ops : Array Oper) (o : Oper) (j d : Nat) : Bool := o.after.any (fun e => e.on == j && Region.binds .any e) && (match ops[j]? with | some p => p.dst == some d | none => false)
theorem Met.get {ops : Array Oper} {φ : Nat → Value → World → Prop} {o : Oper} {a : Act} {w : World} (h : Met ops φ o a w) (j d : Nat) (hc : waitsFor ops o j d = true) : φ j (a.eval (.tmp d)) w := by
  simp only [waitsFor, Bool.and_eq_true] at hc
  obtain ⟨h1, h2⟩ := hc
  rw [← Array.any_toList, List.any_eq_true] at h1
  obtain ⟨e, he, h1⟩ := h1
  simp only [Bool.and_eq_true, beq_iff_eq] at h1
  obtain ⟨rfl, hb⟩ := h1
  split at h2
  · rename_i p hp
    exact h e (Array.mem_toList_iff.1 he) hb p d hp (by simpa using h2)
  · cases h2

section
variable {P : Program} {o : Oper} {a : Act} {w w' : World} {K : Act → World → Prop} {Q : Exit → Act → World → Prop} {v v' : Value} {x : Operand}
theorem wp_value (h : (execOp a.eval o).run P w = .ok (.value v) w') (hk : K (a.put o.dst v) w') : Oper.wp P o a w K Q := by
  unfold Oper.wp; rw [h]; exact hk
theorem wp_skip (h : (execOp a.eval o).run P w = .ok .skip w') (hk : K (a.put o.dst undef) w') : Oper.wp P o a w K Q := by
  unfold Oper.wp; rw [h]; exact hk
theorem st_move (ho : o.op = .move x) (hx : a.eval x = v) : (execOp a.eval o).run P w = .ok (.value v) w := by simp only [execOp, ho, hx]; rfl
theorem st_nil {p : Addr} (ho : o.op = .nilCheck x) (hx : a.eval x = .pointer (some p)) : (execOp a.eval o).run P w = .ok (.value (.pointer (some p))) w := by simp only [execOp, ho, hx]; rfl
theorem st_field {s : TypeId} {f : Nat} (ho : o.op = .fieldAddr s x f) (hx : a.eval x = v) (hr : (Instr.fieldAt s v f).run P w = .ok v' w) : (execOp a.eval o).run P w = .ok (.value v') w := by
  simp only [execOp, ho, hx, Sem.run_bind, hr, Result.andThen_ok, Sem.run_pure]
theorem st_index {s : TypeId} {y : Operand} {u : Value} (ho : o.op = .indexAddr s x y) (hx : a.eval x = v) (hy : a.eval y = u) (hr : (Instr.indexAt s v u).run P w = .ok v' w) : (execOp a.eval o).run P w = .ok (.value v') w := by
  simp only [execOp, ho, hx, hy, Sem.run_bind, hr, Result.andThen_ok, Sem.run_pure]
theorem st_load {s : TypeId} (ho : o.op = .load s x) (hx : a.eval x = v) (hr : (Instr.loadAt s v).run P w = .ok v' w) : (execOp a.eval o).run P w = .ok (.value v') w := by
  simp only [execOp, ho, hx, Sem.run_bind, hr, Result.andThen_ok, Sem.run_pure]
theorem st_build {s : TypeId} {n : Nat} {parts : Array (Nat × Operand)} {q : Array (Nat × Value)} (ho : o.op = .buildSlice s n parts) (hq : (parts.map fun (i, x) => (i, a.eval x)) = q) (hr : (Instr.buildSlice s n q).run P w = .ok v' w') : (execOp a.eval o).run P w = .ok (.value v') w' := by
  simp only [execOp, ho, hq, Sem.run_bind, hr, Result.andThen_ok, Sem.run_pure]
theorem st_store {s : TypeId} {y : Operand} {u : Value} (ho : o.op = .store s x y) (hx : a.eval x = v) (hy : a.eval y = u) (hr : (Instr.storeAt s v u).run P w = .ok () w') : (execOp a.eval o).run P w = .ok .skip w' := by
  simp only [execOp, ho, hx, hy, Sem.run_bind, hr, Result.andThen_ok, Sem.run_pure]
theorem eval_getD {t : Nat} (h : a.eval (.tmp t) = v) : a.tmps[t]?.getD undef = v := by rw [← h]; simp [Act.eval]
end
end Go.Proofs.YtegehaokfcamfaaGreatDoor

/-
  A law for a region that draws its order and has guards: whatever is not the last operation only reads or makes memory; what a guard leaves out yields nothing. Plain lemmas.
-/
namespace Go.Proofs.YtegehaokfcamfaaGreatDoor
open Go.RowKit

/-- the closed checks: edges go back; guards look back, the last one has none; each slot is written once; whatever is not the last is met by the last one's edges, in two steps at most -/
def regionOk2 (ops : Array Oper) (n : Nat) : Bool :=
  ops.size == n + 1 && (List.range (n + 1)).all (fun i => match ops[i]? with
    | some o => (match o.guard with | none => true | some (g, _) => g < i && i != n) && o.after.all (fun e => e.on < i) && (List.range i).all (fun j => match ops[j]? with
      | some p => (match p.dst, o.dst with | some x, some y => x != y | _, _ => true)
      | none => true)
    | none => false) &&
  (List.range n).all (fun j => (List.range (n + 1)).any (fun k => decide (j < k) && (match ops[k]? with
    | some o => o.after.any (fun e => Region.binds .any e && e.on == j)
    | none => false)))

theorem wp_region_guards {P : Program} {ops : Array Oper} {Q : Exit → Act → World → Prop} {id : Nat} {a0 : Act} {w0 : World} (hm : P.follows .mixedOrders = true) (n : Nat) (hok : regionOk2 ops n = true)
    (hsz : ∀ (i : Nat) (o : Oper) (d : Nat), ops[i]? = some o → o.dst = some d → d < a0.tmps.size)
    (φ : Nat → Value → World → Prop) (hmono : ∀ j v w w', φ j v w → Below w.heap.size w w' → φ j v w')
    (hstep : ∀ (i : Nat) (o : Oper), i < n → ops[i]? = some o → ∀ a w, Below w0.heap.size w0 w → SameAct ops a0 a → Met ops φ o a w →
      if Region.wanted o (yielded ops a.tmps) = true then Oper.wp P o a w (fun a' w' => ∃ v, a' = a.put o.dst v ∧ φ i v w' ∧ Below w.heap.size w w') Q else φ i undef w)
    (hlast : ∀ (o : Oper), ops[n]? = some o → ∀ a w, Below w0.heap.size w0 w → SameAct ops a0 a → Met ops φ o a w → Oper.wp P o a w (fun a' w' => Q .normal a' w') Q) :
    (Code.region id ops true).wp P Q a0 w0 := by
  have hok' := hok
  simp only [regionOk2, Bool.and_eq_true, beq_iff_eq, List.all_eq_true, List.mem_range] at hok'
  obtain ⟨⟨hn, hop⟩, hcov⟩ := hok'
  have hback : ∀ (i : Nat) (o : Oper), ops[i]? = some o → (i = n → o.guard = none) ∧ (∀ e ∈ o.after, e.on < i) ∧ ∀ (j : Nat) (p : Oper) (x : Nat), j < i → ops[j]? = some p → p.dst = some x → o.dst ≠ some x := by
    intro i o ho
    have hlt := (Array.getElem?_eq_some_iff.1 ho).1
    have h1 := hop i (by omega)
    rw [ho] at h1
    simp only [Bool.and_eq_true, List.all_eq_true, List.mem_range] at h1
    obtain ⟨⟨h2, h3⟩, h4⟩ := h1
    refine ⟨fun hi => by
      cases hg : o.guard with
      | none => rfl
      | some q => rw [hg] at h2; simp at h2; omega, fun e he => by simpa using Array.all_eq_true_iff_forall_mem.1 h3 e he, fun j p x hj hp hx hd => ?_⟩
    have h5 := h4 j hj
    rw [hp] at h5
    simp only [hx, hd] at h5
    simp at h5
  have hdst : ∀ (i j : Nat) (o p : Oper) (x : Nat), i ≠ j → ops[i]? = some o → ops[j]? = some p → o.dst = some x → p.dst ≠ some x := by
    intro i j o p x hne ho hp hx hpx
    rcases Nat.lt_or_gt_of_ne hne with h | h
    · exact (hback j p hp).2.2 i o x h ho hx hpx
    · exact (hback i o ho).2.2 j p x h hp hpx hx
  refine wp_region_any hm ?_
  refine wpAny_inv (fun listed a w => (∀ (i : Nat) (o : Oper), ops[i]? = some o → listed[i]? = some true → ∀ e ∈ o.after, Region.binds .any e = true → listed[e.on]? = some true) ∧
      (listed[n]? = some false → SameAct ops a0 a ∧ Below w0.heap.size w0 w ∧ ∀ (j : Nat) (p : Oper) (d : Nat), j < n → ops[j]? = some p → p.dst = some d → listed[j]? = some true → φ j (a.eval (.tmp d)) w) ∧
      (listed[n]? = some true → (∀ j, j < n → listed[j]? = some true) ∧ Q .normal a w)) ?_ ?_ ops.size (Array.replicate ops.size false) a0 _ (by simp) ?_ ?_
  · rintro listed a w i hs ⟨hcl, hun, hfin⟩ hi
    obtain ⟨o, ho, hl, haft⟩ := ready_parts hs hi
    have hlt := (Array.getElem?_eq_some_iff.1 ho).1
    have hnl : listed[n]? = some false := by
      cases hb : listed[n]? with
      | none => rw [Array.getElem?_eq_none_iff] at hb; omega
      | some b => cases b with
        | false => rfl
        | true =>
          obtain ⟨h1, _⟩ := hfin hb
          rcases Nat.lt_or_ge i n with h | h
          · rw [h1 i h] at hl; cases hl
          · obtain rfl : i = n := by omega
            rw [hb] at hl; cases hl
    obtain ⟨hsame, hbel, hphi⟩ := hun hnl
    have hmet : Met ops φ o a w := by
      intro e he hb p d hp hd
      have hon := (hback i o ho).2.1 e he
      exact hphi e.on p d (by omega) hp hd (haft e he hb)
    have hset : ∀ k, (listed.setIfInBounds i true)[k]? = if i = k then some true else listed[k]? := by
      intro k
      rw [Array.getElem?_setIfInBounds]
      split
      · rename_i h; subst h; rw [if_pos (by omega)]
      · rfl
    refine wpOp_step ho (fun K' hK' => ?_)
    have hcl' : ∀ (k : Nat) (p : Oper), ops[k]? = some p → (listed.setIfInBounds i true)[k]? = some true → ∀ e ∈ p.after, Region.binds .any e = true → (listed.setIfInBounds i true)[e.on]? = some true := by
      intro k p hp hk e he hb
      rw [hset] at hk ⊢
      split
      · rfl
      · by_cases hik : i = k
        · subst hik
          obtain rfl : p = o := Option.some.inj (hp.symm.trans ho)
          exact haft e he hb
        · rw [if_neg hik] at hk
          exact hcl k p hp hk e he hb
    rcases Nat.lt_or_ge i n with hin | hin
    · have key : ∀ (v : Value) (w' : World), φ i v w' → Below w.heap.size w w' → K' (a.put o.dst v) w' := by
        intro v w' hv hb'
        refine hK' _ _ ?_
        refine ⟨hcl', fun _ => ⟨hsame.put ho v, hbel.trans (hb'.mono hbel.size), fun j p d hj hp hd hlj => ?_⟩, fun hf => ?_⟩
        · rw [hset] at hlj
          by_cases hij : i = j
          · subst hij
            obtain rfl : p = o := Option.some.inj (hp.symm.trans ho)
            have hdlt := hsz i p d ho hd
            rw [hd]
            have : (a.put (some d) v).eval (.tmp d) = v := by
              simp [Act.put, Act.eval, Array.getD_eq_getD_getElem?, hsame.size, hdlt]
            rw [this]
            exact hv
          · rw [if_neg hij] at hlj
            have hne : o.dst ≠ some d := hdst j i p o d (fun e => hij e.symm) hp ho hd
            have : (a.put o.dst v).eval (.tmp d) = a.eval (.tmp d) := by
              cases hod : o.dst with
              | none => rfl
              | some x =>
                have hxd : x ≠ d := fun e => hne (by rw [hod, e])
                simp [Act.put, Act.eval, Array.getD_eq_getD_getElem?, hxd]
            rw [this]
            exact hmono _ _ _ _ (hphi j p d hj hp hd hlj) hb'
        · rw [hset, if_neg (by omega), hnl] at hf
          cases hf
      have hst := hstep i o hin ho a w hbel hsame hmet
      split
      · rename_i hw
        rw [if_pos hw] at hst
        refine Oper.wp_mono (fun a' w' h' => ?_) hst
        obtain ⟨v, rfl, hv, hb'⟩ := h'
        exact key v w' hv hb'
      · rename_i hw
        rw [if_neg hw] at hst
        exact key undef w hst (Below.refl _ _)
    · obtain rfl : i = n := by omega
      rw [if_pos (by simp [Region.wanted, (hback i o ho).1 rfl])]
      refine Oper.wp_mono (fun a' w' h' => hK' a' w' ?_) (hlast o ho a w hbel hsame hmet)
      refine ⟨hcl', fun hf => ?_, fun _ => ⟨fun j hj => ?_, h'⟩⟩
      · rw [hset, if_pos rfl] at hf
        cases hf
      · rw [hset, if_neg (by omega)]
        have hall : ∀ (d j : Nat), j < i → i - j ≤ d → listed[j]? = some true := by
          intro d
          induction d with
          | zero => intro j hj hd; omega
          | succ d ih =>
            intro j hj hd
            have h1 := hcov j hj
            rw [List.any_eq_true] at h1
            obtain ⟨k, hk, h1⟩ := h1
            rw [List.mem_range] at hk
            simp only [Bool.and_eq_true, decide_eq_true_eq] at h1
            obtain ⟨hjk, h1⟩ := h1
            split at h1
            · rename_i q hq
              rw [← Array.any_toList, List.any_eq_true] at h1
              obtain ⟨e, he, h1⟩ := h1
              simp only [Bool.and_eq_true, beq_iff_eq] at h1
              obtain ⟨hb, rfl⟩ := h1
              replace he := Array.mem_toList_iff.1 he
              by_cases hki : k = i
              · subst hki
                obtain rfl : q = o := Option.some.inj (hq.symm.trans ho)
                exact haft e he hb
              · exact hcl k q hq (ih k (by omega) (by omega)) e he hb
            · cases h1
        exact hall i j hj (by omega)
  · rintro listed a w hs ⟨hcl, hun, hfin⟩ hr
    have hall : ∀ i, i ≤ n → listed[i]? = some true := by
      intro i
      induction i using Nat.strongRecOn with
      | _ i ih =>
        intro hi
        have hlt : i < listed.size := by omega
        have hlo : i < ops.size := by omega
        cases hb : listed[i] with
        | true => rw [Array.getElem?_eq_getElem hlt, hb]
        | false =>
          have hmem := ready_mem (md := .any) (Array.getElem?_eq_getElem hlo) (by rw [Array.getElem?_eq_getElem hlt, hb] : listed[i]? = some false) (fun e he _ => ih e.on ((hback i _ (Array.getElem?_eq_getElem hlo)).2.1 e he) (by have := (hback i _ (Array.getElem?_eq_getElem hlo)).2.1 e he; omega))
          rw [hr] at hmem
          cases hmem
    exact (hfin (hall n (Nat.le_refl _))).2
  · have hu : ∀ m, undone (List.replicate m false) = m := by
      intro m
      induction m with
      | zero => rfl
      | succ m ih => rw [List.replicate_succ, undone, ih]; simp; omega
    simp [hu]
  · refine ⟨fun i o ho hl => ?_, fun _ => ⟨⟨rfl, rfl, fun _ _ => rfl⟩, ⟨rfl, rfl, rfl, Nat.le_refl _, fun _ _ => rfl⟩, fun j p d hj hp hd hl => ?_⟩, fun hl => ?_⟩
    · rw [Array.getElem?_replicate] at hl; split at hl <;> cases hl
    · rw [Array.getElem?_replicate] at hl; split at hl <;> cases hl
    · rw [Array.getElem?_replicate] at hl; split at hl <;> cases hl

/-- is a guarded operation wanted? -/
theorem wanted_of {ops : Array Oper} {o p : Oper} {a : Act} {j d : Nat} {b c : Bool} (hg : o.guard = some (j, b)) (hp : ops[j]? = some p) (hd : p.dst = some d) (hv : a.eval (.tmp d) = .bool c) : Region.wanted o (yielded ops a.tmps) = (c == b) := by
  have h : a.tmps[d]? = some (.bool c) := by
    simp only [Act.eval, Array.getD_eq_getD_getElem?] at hv
    cases hx : a.tmps[d]? with
    | none => rw [hx] at hv; simp [undef] at hv
    | some u => rw [hx] at hv; simp at hv; rw [hv]
  unfold Region.wanted yielded
  rw [hg]
  simp [hp, hd, h]
theorem wanted_none {o : Oper} (y : Nat → Option Bool) (hg : o.guard = none) : Region.wanted o y = true := by simp [Region.wanted, hg]
/-- the frame behind a region: the slots of D are what they are, all others are as before -/
theorem act_fold {a : Act} : ∀ (D : List Nat) (acc : Act), acc.tmps.size = a.tmps.size → acc.defers = a.defers → (∀ t, t ∉ D → acc.tmps[t]? = a.tmps[t]?) → D.foldl (fun acc d => acc.put (some d) (a.eval (.tmp d))) acc = a
  | [], acc, hs, hd, ht => by
    obtain ⟨t0, d0⟩ := acc
    obtain ⟨t1, d1⟩ := a
    simp only at hs hd ht
    subst hd
    have : t0 = t1 := Array.ext_getElem? (fun i => ht i (by simp))
    subst this
    rfl
  | d :: D, acc, hs, hd, ht => by
    rw [List.foldl_cons]
    refine act_fold D _ (by simpa [Act.put] using hs) hd (fun t hn => ?_)
    by_cases e : d = t
    · subst e
      simp only [Act.put, Act.eval, Array.getD_eq_getD_getElem?]
      rw [Array.getElem?_setIfInBounds, if_pos rfl]
      by_cases hlt : d < acc.tmps.size
      · rw [if_pos hlt, Array.getElem?_eq_getElem (by omega : d < a.tmps.size)]; rfl
      · rw [if_neg hlt, Array.getElem?_eq_none (by omega)]
    · simp only [Act.put]
      rw [Array.getElem?_setIfInBounds, if_neg e]
      exact ht t (by simp [Ne.symm e, hn])
def dstsIn (ops : Array Oper) (D : List Nat) : Bool := ops.all (fun o => match o.dst with | some d => D.contains d | none => true)
theorem SameAct.frame {ops : Array Oper} {a0 a : Act} (h : SameAct ops a0 a) (D : List Nat) (hD : dstsIn ops D = true) : a = D.foldl (fun acc d => acc.put (some d) (a.eval (.tmp d))) a0 := by
  refine (act_fold D a0 h.size.symm h.defers.symm (fun t ht => ?_)).symm
  refine (h.slot t (fun i o ho e => ht ?_)).symm
  have h1 := Array.all_eq_true_iff_forall_mem.1 hD o (Array.mem_of_getElem? ho)
  rw [e] at h1
  simpa using h1
end Go.Proofs.YtegehaokfcamfaaGreatDoor

/-
  A region that draws its order, inside a round: one walk for each order that its edges allow. Plain lemmas.
-/
namespace Go.Proofs.YtegehaokfcamfaaGreatDoor
open Go.RowKit

/-- all orders that the edges allow -/
def orders (md : Region.Mode) (ops : Array Oper) : Nat → Array Bool → List (List Nat)
  | 0, _ => [[]]
  | fuel + 1, listed => if (Region.ready md ops listed).isEmpty = true then [[]] else (Region.ready md ops listed).flatMap fun i => (orders md ops fuel (listed.setIfInBounds i true)).map (i :: ·)
theorem orders_all {md : Region.Mode} {ops : Array Oper} : ∀ (fuel t : Nat) (listed : Array Bool), Region.linearise.go md ops fuel t listed [] ∈ orders md ops fuel listed
  | 0, t, listed => by simp [Region.linearise.go, orders]
  | fuel + 1, t, listed => by
    simp only [Region.linearise.go]
    change (match (Region.ready md ops listed)[t % (Region.ready md ops listed).length]? with
      | some i => Region.linearise.go md ops fuel (t / (Region.ready md ops listed).length) (listed.setIfInBounds i true) [i]
      | none => [].reverse) ∈ _
    unfold orders
    cases hi : (Region.ready md ops listed)[t % (Region.ready md ops listed).length]? with
    | none =>
      have hnil : Region.ready md ops listed = [] := by
        cases hr : Region.ready md ops listed with
        | nil => rfl
        | cons x xs =>
          rw [hr] at hi
          have hlt : t % (x :: xs).length < (x :: xs).length := Nat.mod_lt _ (by simp)
          simp at hi
          simp at hlt
          omega
      rw [hnil]
      simp
    | some i =>
      have hm := List.mem_of_getElem? hi
      rw [if_neg (by intro he; rw [List.isEmpty_iff] at he; rw [he] at hm; cases hm)]
      simp only []
      rw [linearise_go_acc, List.reverse_singleton, List.singleton_append]
      exact List.mem_flatMap.2 ⟨i, hm, List.mem_map.2 ⟨_, orders_all fuel _ _, rfl⟩⟩
def pick (ops : Array Oper) (l : List Nat) : List Oper := l.filterMap (ops[·]?)
theorem wpOpsIn_pick {F : Fence} {n : Nat} {P : Program} {ops : Array Oper} {Q : Exit → Act → World → Prop} : ∀ (l : List Nat), wpOpsIn F n P ops Q l = wpListIn F n P ops Q (pick ops l)
  | [] => by funext a w; simp [wpOpsIn, wpListIn, pick]
  | i :: l => by
    funext a w
    have ih := wpOpsIn_pick (F := F) (n := n) (P := P) (ops := ops) (Q := Q) l
    cases h : ops[i]? with
    | none => simp [wpOpsIn, h, pick, ih]
    | some o => simp [wpOpsIn, h, pick, wpListIn, ih]
theorem wpIn_region_orders {F : Fence} {n : Nat} {P : Program} {id : Nat} {ops : Array Oper} {Q : Exit → Act → World → Prop} {a : Act} {w : World} (hm : P.follows .mixedOrders = true) (L : List (List Nat)) (hL : orders .any ops ops.size (Array.replicate ops.size false) = L)
    (h : ∀ l ∈ L, wpListIn F n P ops Q (pick ops l) a w.drew) : (Code.region id ops true).wpIn F n P Q a w := by
  refine wpIn_region_draw fun t => ?_
  simp only [Region.schedule, hm, Bool.true_or, if_true]
  rw [wpOpsIn_pick]
  exact h _ (hL ▸ orders_all _ _ _)

theorem letsOut_then {K : Act → World → Prop} {Q : Exit → Act → World → Prop} (h : LetsOut (Exit.then K Q)) : LetsOut Q := by
  obtain ⟨a, w, h⟩ := h
  exact ⟨a, w, h⟩
theorem wpIn_op_then {F : Fence} {n : Nat} {P : Program} {o : Oper} {a : Act} {w : World} {N K : Act → World → Prop} {Q : Exit → Act → World → Prop} (h : o.wpIn F n P a w N (Exit.then K Q)) : o.wpIn F n P a w N Q := by
  unfold Oper.wpIn at *
  refine ⟨h.1, ?_⟩
  have hh := h.2
  generalize (o.semAt F.round a.eval).run P w = r at *
  cases r with
  | ok x w' =>
    cases x <;> simp only [Oper.uponIn] at hh ⊢ <;>
      first
        | exact hh
        | exact ⟨hh.1, CallsIn.mono hh.2 (fun e w'' he => by cases e <;> first | exact he | exact letsOut_then he)⟩
        | exact ⟨hh.1, RoundIn.mono hh.2 (fun e w'' he => by cases e <;> first | exact he | exact letsOut_then he)⟩
  | halt x w' => cases x <;> simp only [Oper.uponIn] at hh ⊢ <;> exact hh
theorem wpListIn_then {F : Fence} {n : Nat} {P : Program} {ops : Array Oper} {Q : Exit → Act → World → Prop} {l2 : List Oper} : ∀ {l1 : List Oper} {a : Act} {w : World}, wpListIn F n P ops (Exit.then (fun a w => wpListIn F n P ops Q l2 a w) Q) l1 a w → wpListIn F n P ops Q (l1 ++ l2) a w
  | [], _, _, h => h
  | o :: l1, a, w, h => by
    rw [List.cons_append]
    unfold wpListIn at h ⊢
    split
    · rename_i hw
      rw [if_pos hw] at h
      exact Oper.wpIn_mono (fun a w h => wpListIn_then h) (wpIn_op_then h)
    · rename_i hw
      rw [if_neg hw] at h
      exact ⟨h.1, wpListIn_then h.2⟩
/-- .. where all orders end alike: what stands ahead of that end is walked up to a continuation -/
theorem wpIn_region_heads {F : Fence} {n : Nat} {P : Program} {id : Nat} {ops : Array Oper} {Q : Exit → Act → World → Prop} {a : Act} {w : World} (hm : P.follows .mixedOrders = true) (L : List (List Nat)) (T : List Nat) (hL : orders .any ops ops.size (Array.replicate ops.size false) = L.map (· ++ T))
    (h : ∀ l ∈ L, ∀ K : Act → World → Prop, Hid (∀ a w, wpListIn F n P ops Q (pick ops T) a w → K a w) → wpListIn F n P ops (Exit.then K Q) (pick ops l) a w.drew) : (Code.region id ops true).wpIn F n P Q a w := by
  refine wpIn_region_orders hm _ hL fun l hl => ?_
  obtain ⟨l1, h1, rfl⟩ := List.mem_map.1 hl
  have e : pick ops (l1 ++ T) = pick ops l1 ++ pick ops T := by simp [pick]
  rw [e]
  exact wpListIn_then (h l1 h1 _ (Lib.hid fun _ _ h => h))
end Go.Proofs.YtegehaokfcamfaaGreatDoor

/-
  append onto a row of one's own, in a round of a range over a function; what keeps walks. Plain laws; conditions: the room that append asks for.
-/
namespace Go.Proofs.YtegehaokfcamfaaGreatDoor
open Go.RowKit
theorem keepsFrom_below {B : Nat} {W W' : World} (h : Below W.heap.size W W') : KeepsFrom B W W' := ⟨h.size, fun k _o _ hk _ => (h.block k (heap_lt hk)).trans hk⟩
theorem keepT_own {e : TypeId} {W W' : World} {row : Option Nat} (hg : W.grownBy W' row) (hr : ∀ r, row = some r → ∃ o : Obj, W.heap[r]? = some o ∧ o.isCells = false) : KeepT e W W' :=
  (KeepT.refl e W).grown hg (fun k hk cs fr hh => by
    obtain ⟨o, ho, hc⟩ := hr k hk
    rw [hh] at ho
    cases ho
    cases hc)
theorem keepsWalks_below {W W' : World} (h : Below W.heap.size W W') : KeepsWalks W W' := ⟨h.size, fun k _o hk _ => (h.block k (heap_lt hk)).trans hk⟩
theorem own_abides {e : TypeId} {base sz n : Nat} {v : Value} {xs : List Value} {W W' : World} {row : Option Nat} (h : W.ownsRow base e sz v n xs) (hg : W.grownBy W' row) (hr : ∀ r, row = some r → ∃ o : Obj, W.heap[r]? = some o ∧ o.isCells = false) : W'.ownsRow base e sz v n xs := by
  refine h.kept hg ?_
  rcases h.2 with ⟨hv, _⟩ | ⟨g, cap, cur, hv, _, hgb, _⟩
  · rw [hv]; exact .inl rfl
  · rw [hv]
    refine .inr fun e' => ?_
    obtain ⟨o, ho, hc⟩ := hr g e'.symm
    rw [hgb] at ho
    cases ho
    cases hc
theorem box_abides {B : Nat} {t : TypeId} {v : Value} {W W' : World} {row : Option Nat} (h : Boxed W B t v) (hg : W.grownBy W' row) (hr : ∀ r, row = some r → ∃ o : Obj, W.heap[r]? = some o ∧ o.isCells = false) : Boxed W' B t v := by
  refine h.kept hg (fun e' => ?_)
  obtain ⟨o, ho, hc⟩ := hr B e'.symm
  rw [show W.heap[B]? = _ from h] at ho
  cases ho
  cases hc
theorem own_far {w : World} {base sz n : Nat} {e : TypeId} {v : Value} {xs : List Value} (h : w.ownsRow base e sz v n xs) {p : Addr} (hp : some p.block ≠ v.ownBlock) (u : Value) : (w.setCell p u).ownsRow base e sz v n xs := by
  refine ⟨h.1, ?_⟩
  rcases h.2 with h2 | ⟨g, cap, cur, hv, hg, hh, r⟩
  · exact .inl h2
  · have hne : g ≠ p.block := fun e => hp (by rw [hv]; simp [Value.ownBlock, e])
    exact .inr ⟨g, cap, cur, hv, hg, (Below.heap_setCell w p u g hne).trans hh, r⟩
/-- a row of one's own is no walk's object -/
theorem own_noWalk {e : TypeId} {base sz n : Nat} {v : Value} {xs : List Value} {W : World} (h : W.ownsRow base e sz v n xs) : ∀ (j : Nat) (o : Obj), v.ownBlock = some j → W.heap[j]? = some o → o.isWalk = false := by
  intro j o hj ho
  rcases h.2 with ⟨hv, _⟩ | ⟨g, cap, cur, hv, _, hgb, _⟩
  · rw [hv] at hj; simp [Value.ownBlock] at hj
  · rw [hv] at hj
    have : g = j := by simpa [Value.ownBlock] using hj
    subst this; rw [hgb] at ho; cases ho; rfl
section
variable {P : Program} (w : World)
/-- append onto a row of one's own, in a round -/
theorem wpListIn_append_at {l n0 : Nat} {ops : Array Oper} {rest : List Oper} {o : Oper} {a : Act} {Q : Exit → Act → World → Prop} (hgd : o.guard = none) (s x : Operand) (t : TypeId)
    (ho : o.op = .call { callee := .builtin .append, args := #[s, x], argTypes := #[t, t] })
    (base : Nat) (e : TypeId) (i : TypeInfo) (z : Value) (size bytes : Nat) (ht : P.underlying t = some (.slice e)) (hi : P.info? e = some i) (hz : i.zero = some z)
    (hsize : i.size = size) (hby : i.bytes = bytes) (hzs : z.cells.size = size) (hsz : 0 < size)
    (Ad : Option Addr) (n cd : Nat) (xs : List Value) (hs : a.eval s = .slice Ad n cd) (hown : w.ownsRow base e size (.slice Ad n cd) n xs) (hbase : base ≤ w.heap.size)
    (A : Option Addr) (m c : Nat) (news : List Value) (hx : a.eval x = .slice A m c) (hr : Sl w size A m news) (h1 : ∀ u ∈ news, u.oneCell' = true)
    (h63 : n + m ≤ maxLen) (hbytes : (n + m) * bytes ≤ 140737488355328)
    (h : ∀ A' c' w', w'.ownsRow base e size (.slice A' (n + m) c') (n + m) (xs ++ news) → w.grownBy w' (Value.slice Ad n cd).ownBlock → wpListIn (Fence.wide.inRound l) n0 P ops Q rest (a.put o.dst (.slice A' (n + m) c')) w') :
    wpListIn (Fence.wide.inRound l) n0 P ops Q (o :: rest) a w := by
  refine wpListIn_plain hgd fun K hK => ⟨fun _ _ => trivial, ?_⟩
  obtain ⟨A', c', w', hrun, h2, h3, _⟩ := run_append_sl (P := P) w base t o.type e i z size bytes ht hi hz hsize hby hzs hsz _ n xs hown A m c news hr h1 h63 hbytes hbase
  rw [show (Fence.wide.inRound l).round = some l from rfl, Oper.semAt_some l _ _ (by rw [ho]; intro c h; cases h)]
  unfold execOp
  simp only [ho, resolve, invoke, builtin, Sem.run_bind, Sem.run_pure, Result.andThen_ok, List.map_toArray, List.map_cons, List.map_nil, hs, hx, hrun]
  exact hK _ _ (h A' c' w' h2 h3)
end
end Go.Proofs.YtegehaokfcamfaaGreatDoor

/-
  Plain law of package refs: a book is what each ref is, and its transactions; told from the newest back each ref's changes lead from what it is; where names lead. No program in sight, no condition.
-/
namespace Go.Proofs.YtegehaokfcamfaaGreatDoor
namespace RefsLaw
abbrev Bs := List UInt8
structure Val where
  id : Bs
  name : Bs
deriving DecidableEq
structure Chg where
  ref : Bs
  old : Val
  new : Val
deriving DecidableEq
structure Txn where
  who : Bs
  text : Bs
  stamp : Int
  chs : List Chg
deriving DecidableEq
def zv : Val := ⟨[], []⟩
abbrev Refs := Bs → Val
def put (f : Refs) (r : Bs) (v : Val) : Refs := fun x => if x = r then v else f x
def none_ : Refs := fun _ => zv

def okc (c : UInt8) : Bool := !((decide ((c.toNat : Int) < 97) || decide (122 < (c.toNat : Int))) && ((decide ((c.toNat : Int) < 48) || decide (57 < (c.toNat : Int))) && decide (Go.Lib.indexByte [45, 46, 47] c < 0)))
theorem okc_iff {c : UInt8} : okc c = true ↔ ¬ (((c.toNat : Int) < 97 ∨ 122 < (c.toNat : Int)) ∧ ((c.toNat : Int) < 48 ∨ 57 < (c.toNat : Int)) ∧ Go.Lib.indexByte [45, 46, 47] c < 0) := by
  unfold okc
  rw [Bool.not_eq_true', ← Bool.not_eq_true]
  simp only [Bool.and_eq_true, Bool.or_eq_true, decide_eq_true_eq]
/-- may a ref be called so? -/
def named (s : Bs) : Bool := decide (1 ≤ s.length) && decide (s.length ≤ 200) && !Go.Lib.contains s [47, 47] && !Go.Lib.contains s [46, 46] && decide (Go.Lib.trimS s [47, 46] = s) && s.all okc
def there (v : Val) : Bool := (decide (v.id.length = 32) && decide (v.name = [])) || (decide (v.id = []) && named v.name)
def rightV (v : Val) : Bool := decide (v = zv) || there v
/-- the changes, as the program looks at them: each ref once -/
def goodC (c : Chg) : Bool := named c.ref && rightV c.old && rightV c.new && !decide (c.old = c.new)
def okChs : List Bs → List Chg → Bool
  | _, [] => true
  | seen, c :: cs => !decide (c.ref ∈ seen) && goodC c && okChs (c.ref :: seen) cs
def rightT (t : Txn) : Bool := okChs [] t.chs && decide (t.who.length ≤ 1000) && decide (t.text.length ≤ 1000) && decide (0 ≤ t.stamp) && decide (t.stamp ≤ 1099511627776) && decide (1 ≤ t.chs.length) && decide (t.chs.length ≤ 4096)
def putAll (f : Refs) (cs : List Chg) : Refs := cs.foldl (fun f c => put f c.ref c.new) f
structure Book where
  f : Refs
  txns : List Txn
def fits (f : Refs) (cs : List Chg) : Bool := cs.all fun c => decide (f c.ref = c.old)
/-- the error's number, and the book behind it -/
def apply (b : Book) (t : Txn) : Nat × Book :=
  if rightT t = true then if fits b.f t.chs = true then (0, ⟨putAll b.f t.chs, b.txns ++ [t]⟩) else (8, b) else (1, b)
def trim (b : Book) (keep : Int) : Book := ⟨b.f, b.txns.drop (b.txns.length - keep.toNat)⟩
def get (b : Book) (ref : Bs) : Val × Nat := if named ref = true then (b.f ref, if b.f ref = zv then 9 else 0) else (zv, 1)
def follow (f : Refs) : Nat → Bs → Bs × Bs × Nat
  | k, r => if (f r).name = [] then (if (f r).id = [] then (r, [], 9) else (r, (f r).id, 0)) else
    match k with
    | 0 => (r, [], 9)
    | k + 1 => follow f k (f r).name
def resolve (b : Book) (ref : Bs) : Bs × Bs × Nat := if named ref = true then follow b.f 8 ref else ([], [], 1)
def has (ref : Bs) (t : Txn) : Bool := t.chs.any fun c => decide (c.ref = ref)
def log (b : Book) (ref : Bs) : List Txn := b.txns.reverse.filter (has ref)

/-- from what a ref is back through the transactions, the newest first -/
def chain (ref : Bs) : Val → List Txn → Prop
  | _, [] => True
  | now, t :: ts => match t.chs.filter (fun c => decide (c.ref = ref)) with
    | [] => chain ref now ts
    | [c] => c.new = now ∧ chain ref c.old ts
    | _ => False
structure Inv (b : Book) : Prop where
  led : ∀ ref, chain ref (b.f ref) b.txns.reverse
  val : ∀ ref, b.f ref = zv ∨ (named ref = true ∧ there (b.f ref) = true)
  txn : ∀ t ∈ b.txns, rightT t = true

theorem inv_empty : Inv ⟨none_, []⟩ := ⟨fun _ => trivial, fun _ => .inl rfl, by simp⟩

theorem okChs_good : ∀ {seen : List Bs} {cs : List Chg}, okChs seen cs = true → ∀ c ∈ cs, goodC c = true ∧ c.ref ∉ seen
  | _, [], _ => by simp
  | seen, x :: cs, h => by
    simp only [okChs, Bool.and_eq_true, Bool.not_eq_true', decide_eq_false_iff_not] at h
    obtain ⟨⟨h1, h2⟩, h3⟩ := h
    intro c hc
    rcases List.mem_cons.1 hc with rfl | hc
    · exact ⟨h2, h1⟩
    · obtain ⟨a, b⟩ := okChs_good h3 c hc
      exact ⟨a, fun hm => b (List.mem_cons_of_mem _ hm)⟩
theorem putAll_miss {r : Bs} : ∀ {cs : List Chg} {f : Refs}, (∀ c ∈ cs, c.ref ≠ r) → putAll f cs r = f r
  | [], _, _ => rfl
  | c :: cs, f, h => by
    show putAll (put f c.ref c.new) cs r = _
    rw [putAll_miss (fun x hx => h x (List.mem_cons_of_mem _ hx)), put, if_neg (fun e => h c (by simp) e.symm)]
/-- each ref once: at most one change is of a ref -/
theorem okChs_one {r : Bs} : ∀ {seen : List Bs} {cs : List Chg}, okChs seen cs = true → ∀ f : Refs,
    (cs.filter (fun c => decide (c.ref = r)) = [] ∧ putAll f cs r = f r) ∨ ∃ c, c ∈ cs ∧ cs.filter (fun c => decide (c.ref = r)) = [c] ∧ c.ref = r ∧ putAll f cs r = c.new
  | _, [], _, _ => .inl ⟨rfl, rfl⟩
  | seen, c :: cs, h, f => by
    have h0 := h
    simp only [okChs, Bool.and_eq_true, Bool.not_eq_true', decide_eq_false_iff_not] at h
    obtain ⟨⟨h1, h2⟩, h3⟩ := h
    by_cases hc : c.ref = r
    · have hno : ∀ x ∈ cs, x.ref ≠ r := fun x hx e => (okChs_good h3 x hx).2 (by rw [e, hc]; simp)
      refine .inr ⟨c, by simp, ?_, hc, ?_⟩
      · rw [List.filter_cons_of_pos (by simpa using hc), List.filter_eq_nil_iff.2 (fun x hx => by simpa using hno x hx)]
      · show putAll (put f c.ref c.new) cs r = _
        rw [putAll_miss hno, put, if_pos hc.symm]
    · rw [List.filter_cons_of_neg (by simpa using hc)]
      have e : putAll f (c :: cs) r = putAll (put f c.ref c.new) cs r := rfl
      have e2 : put f c.ref c.new r = f r := by rw [put, if_neg (fun e => hc e.symm)]
      rw [e]
      rcases okChs_one h3 (put f c.ref c.new) with ⟨a, b⟩ | ⟨x, hx, a, b, d⟩
      · exact .inl ⟨a, by rw [b, e2]⟩
      · exact .inr ⟨x, List.mem_cons_of_mem _ hx, a, b, d⟩
theorem rightT_chs {t : Txn} (h : rightT t = true) : okChs [] t.chs = true := by
  simp only [rightT, Bool.and_eq_true] at h
  exact h.1.1.1.1.1.1
theorem inv_apply {b : Book} (h : Inv b) (t : Txn) : Inv (apply b t).2 := by
  unfold apply
  by_cases h1 : rightT t = true
  · rw [if_pos h1]
    by_cases h2 : fits b.f t.chs = true
    · rw [if_pos h2]
      have hok := rightT_chs h1
      refine ⟨fun ref => ?_, fun ref => ?_, fun x hx => ?_⟩
      · show chain ref (putAll b.f t.chs ref) (b.txns ++ [t]).reverse
        rw [List.reverse_append, List.reverse_singleton, List.singleton_append, chain]
        rcases okChs_one hok b.f with ⟨a, e⟩ | ⟨c, hc, a, e, d⟩
        · rw [a]; show chain _ _ _; rw [e]; exact h.led ref
        · rw [a]
          show c.new = _ ∧ chain _ _ _
          have ho : b.f c.ref = c.old := by simpa using List.all_eq_true.1 h2 c hc
          rw [e] at ho
          exact ⟨d.symm, ho ▸ h.led ref⟩
      · show putAll b.f t.chs ref = zv ∨ _
        rcases okChs_one hok b.f with ⟨_, e⟩ | ⟨c, hc, _, e, d⟩
        · show putAll b.f t.chs ref = zv ∨ (named ref = true ∧ there (putAll b.f t.chs ref) = true)
          rw [e]; exact h.val ref
        · have hg := (okChs_good hok c hc).1
          simp only [goodC, Bool.and_eq_true, rightV, Bool.or_eq_true, decide_eq_true_eq] at hg
          obtain ⟨⟨⟨g1, _⟩, g3⟩, _⟩ := hg
          rcases g3 with g3 | g3
          · exact .inl (d.trans g3)
          · exact .inr ⟨e ▸ g1, by rw [show (⟨putAll b.f t.chs, b.txns ++ [t]⟩ : Book).f ref = c.new from d]; exact g3⟩
      · rcases List.mem_append.1 hx with hx | hx
        · exact h.txn x hx
        · rw [List.mem_singleton] at hx; rw [hx]; exact h1
    · rw [if_neg h2]; exact h
  · rw [if_neg h1]; exact h
theorem chain_take {ref : Bs} : ∀ {ts : List Txn} {now : Val} (k : Nat), chain ref now ts → chain ref now (ts.take k)
  | [], _, k, _ => by simp [chain]
  | t :: ts, now, 0, _ => by simp [chain]
  | t :: ts, now, k + 1, h => by
    rw [List.take_succ_cons]
    unfold chain at h ⊢
    rcases hf : t.chs.filter (fun c => decide (c.ref = ref)) with _ | ⟨c, _ | ⟨d, l⟩⟩
    · rw [hf] at h; rw [hf]; exact chain_take k h
    · rw [hf] at h; rw [hf]; exact ⟨h.1, chain_take k h.2⟩
    · rw [hf] at h; exact h.elim
theorem inv_trim {b : Book} (h : Inv b) (k : Int) : Inv (trim b k) := by
  refine ⟨fun ref => ?_, h.val, fun t ht => h.txn t (List.mem_of_mem_drop ht)⟩
  show chain ref (b.f ref) (b.txns.drop _).reverse
  rw [List.reverse_drop]
  exact chain_take _ (h.led ref)

/-- the law's look through one transaction's changes: what is now, and has one been met? -/
def scan (ref : Bs) : Val → Bool → List Chg → Option (Val × Bool)
  | now, met, [] => some (now, met)
  | now, met, c :: cs => if c.ref = ref then if c.new ≠ now ∨ met = true then none else scan ref c.old true cs else scan ref now met cs
def leads (ref : Bs) : Val → List Txn → Bool
  | _, [] => true
  | now, t :: ts => match scan ref now false t.chs with
    | some (now', true) => leads ref now' ts
    | _ => false
theorem scan_miss {ref : Bs} : ∀ {cs : List Chg} {now : Val} {met : Bool}, cs.filter (fun c => decide (c.ref = ref)) = [] → scan ref now met cs = some (now, met)
  | [], _, _, _ => rfl
  | c :: cs, now, met, h => by
    have hc : c.ref ≠ ref := by
      intro e
      rw [List.filter_cons_of_pos (by simpa using e)] at h
      cases h
    rw [List.filter_cons_of_neg (by simpa using hc)] at h
    rw [scan, if_neg hc]
    exact scan_miss h
theorem scan_one {ref : Bs} : ∀ {cs : List Chg} {now : Val} {c : Chg}, cs.filter (fun c => decide (c.ref = ref)) = [c] → c.new = now → scan ref now false cs = some (c.old, true)
  | [], _, _, h, _ => by cases h
  | x :: cs, now, c, h, hn => by
    by_cases hc : x.ref = ref
    · rw [List.filter_cons_of_pos (by simpa using hc)] at h
      injection h with h1 h2
      subst h1
      rw [scan, if_pos hc, if_neg (by simp [hn])]
      exact scan_miss h2
    · rw [List.filter_cons_of_neg (by simpa using hc)] at h
      rw [scan, if_neg hc]
      exact scan_one h hn
theorem has_nil {ref : Bs} {t : Txn} : t.chs.filter (fun c => decide (c.ref = ref)) = [] ↔ has ref t = false := by
  simp [has, List.filter_eq_nil_iff]
theorem leads_chain {ref : Bs} : ∀ {ts : List Txn} {now : Val}, chain ref now ts → leads ref now (ts.filter (has ref)) = true
  | [], _, _ => rfl
  | t :: ts, now, h => by
    unfold chain at h
    rcases hf : t.chs.filter (fun c => decide (c.ref = ref)) with _ | ⟨c, _ | ⟨d, l⟩⟩
    · rw [hf] at h
      rw [List.filter_cons_of_neg (by rw [has_nil.1 hf]; simp)]
      exact leads_chain h
    · rw [hf] at h
      have hh : has ref t = true := by
        rcases hb : has ref t with _ | _
        · rw [has_nil.2 hb] at hf; cases hf
        · rfl
      rw [List.filter_cons_of_pos hh, leads, scan_one hf h.1]
      exact leads_chain h.2
    · rw [hf] at h; exact h.elim
/-- a ref that may not be called so is in no change -/
theorem log_unnamed {b : Book} (h : Inv b) {ref : Bs} (hn : named ref = false) : log b ref = [] := by
  rw [log, List.filter_eq_nil_iff]
  intro t ht hh
  simp only [has, List.any_eq_true, decide_eq_true_eq] at hh
  obtain ⟨c, hc, rfl⟩ := hh
  have hg := (okChs_good (rightT_chs (h.txn t (List.mem_reverse.1 ht))) c hc).1
  simp only [goodC, Bool.and_eq_true] at hg
  rw [hg.1.1.1] at hn
  cases hn
/-- RefsLeads -/
theorem leads_law {b : Book} (h : Inv b) (ref : Bs) : leads ref (get b ref).1 (log b ref) = true := by
  by_cases hn : named ref = true
  · rw [get, if_pos hn]; exact leads_chain (h.led ref)
  · rw [log_unnamed h (by simpa using hn)]; rfl

theorem follow_err {f : Refs} : ∀ {k : Nat} {r : Bs}, (follow f k r).2.2 ≠ 0 → (follow f k r).2.1 = [] ∧ (follow f k r).2.2 = 9
  | k, r, h => by
    unfold follow at h ⊢
    by_cases h1 : (f r).name = []
    · simp only [if_pos h1] at h ⊢
      by_cases h2 : (f r).id = []
      · simp only [if_pos h2]; exact ⟨trivial, trivial⟩
      · simp only [if_neg h2] at h; exact absurd rfl h
    · simp only [if_neg h1] at h ⊢
      cases k with
      | zero => exact ⟨rfl, rfl⟩
      | succ k => exact follow_err (k := k) h
theorem follow_more {f : Refs} : ∀ {k m : Nat} {r : Bs}, (follow f k r).2.2 = 0 → k ≤ m → follow f m r = follow f k r
  | k, m, r, h, hm => by
    unfold follow at h ⊢
    by_cases h1 : (f r).name = []
    · simp only [if_pos h1]
    · simp only [if_neg h1] at h ⊢
      cases k with
      | zero => cases h
      | succ k =>
        cases m with
        | zero => omega
        | succ m => exact follow_more (k := k) h (by omega)
/-- RefsFollow, its last part -/
theorem follow_law {b : Book} (h : Inv b) {ref : Bs} (hn : named ref = true) (hv : (b.f ref).name ≠ []) :
    (if (resolve b (b.f ref).name).2.2 = 0 ∧ (resolve b ref).2.2 = 0 then (resolve b (b.f ref).name).1 = (resolve b ref).1 ∧ (resolve b (b.f ref).name).2.1 = (resolve b ref).2.1 else (resolve b ref).2.2 = 9 ∧ (resolve b ref).2.1 = []) := by
  have hz : b.f ref ≠ zv := fun e => hv (by rw [e]; rfl)
  have hnn : named (b.f ref).name = true := by
    rcases h.val ref with e | ⟨_, e⟩
    · exact absurd e hz
    · simp only [there, Bool.or_eq_true, Bool.and_eq_true, decide_eq_true_eq] at e
      rcases e with e | e
      · exact absurd e.2 hv
      · exact e.2
  have e1 : resolve b ref = follow b.f 7 (b.f ref).name := by
    rw [resolve, if_pos hn, follow, if_neg hv]
  have e2 : resolve b (b.f ref).name = follow b.f 8 (b.f ref).name := by rw [resolve, if_pos hnn]
  rw [e1, e2]
  by_cases h0 : (follow b.f 7 (b.f ref).name).2.2 = 0
  · rw [follow_more h0 (by omega : 7 ≤ 8), if_pos ⟨h0, h0⟩]; exact ⟨rfl, rfl⟩
  · rw [if_neg (fun e => h0 e.2)]
    exact ⟨(follow_err h0).2, (follow_err h0).1⟩
end RefsLaw
end Go.Proofs.YtegehaokfcamfaaGreatDoor

/-
  From a walk to a row: a law that returns true and turns nothing that lay before the call meets its specification, whatever its parameters. Conditions: the parameters' types are readable.
-/
namespace Go.Proofs.YtegehaokfcamfaaGreatDoor
open Go.ChangeShapes Go.WideShapes Go.ChangeAt Go.RowKit

theorem Tryz.own : ownKnob Tryz.prog.godebug = none := by kernel_rfl
theorem Tryz.laidOut : laidOutB Tryz.prog = true := by kernel_rfl
theorem Tryz.cellsStr : Tryz.prog.cellsOf 9 = 1 := by kernel_rfl
theorem Tryz.cellsU8 : Tryz.prog.cellsOf 5 = 1 := by kernel_rfl
theorem Tryz.cellsInt : Tryz.prog.cellsOf 3 = 1 := by kernel_rfl

section
variable {H : Type} {enc : TypeId × Value → H} {P : Program}
theorem trodAll_stays (hl : laidOutB P = true) {W W' : World} {sp : Nat → Bool} : ∀ {ts : List TypeId} {vs : List Value} {ds : List (DataW H)} {ps : List MemPlace}, (∀ t ∈ ts, P.readableRec t = true ∧ t < P.types.size) →
    DataW.TrodAll enc P W 0 (fun _ => true) true ts vs ds ps → (∀ p ∈ ps, W.sameAt W' p) → (∀ p ∈ ps, sp p.block = true) → DataW.TrodAll enc P W' 0 sp true ts vs ds ps
  | [], _, _, _, _, h, _, _ => by obtain ⟨rfl, rfl, rfl⟩ := trodAll_nil h; exact trodAll_mk0
  | t :: ts, _, _, _, hr, h, hsame, hs => by
    obtain ⟨v, vs', d, ds', p, q, rfl, rfl, rfl, h0, h1⟩ := trodAll_cons h
    obtain ⟨r1, r2⟩ := hr t (by simp)
    exact trodAll_cons_mk (WideElems.Trod_stays hl r1 r2 h0 (fun x hx => hsame x (by simp [hx])) (fun x hx => hs x (by simp [hx])))
      (trodAll_stays hl (fun u hu => hr u (by simp [hu])) h1 (fun x hx => hsame x (by simp [hx])) (fun x hx => hs x (by simp [hx])))

/-- THE ROW's POST: the law returns true; below the old end of memory nothing has turned. -/
theorem post_true {f : Func} {s : ChangeSpec} {tb : TypeId} {W W' : World} {args : Array Value} {ds : List (DataW H)} {before : List MemPlace}
    (hl : laidOutB P = true) (htb : P.underlying tb = some .bool) (hft : f.resultTypes = #[tb]) (hvars : s.vars = []) (hr : ∀ t ∈ f.params.toList, P.readableRec t = true ∧ t < P.types.size)
    (hW : DataW.Whole enc P f.params.toList s.vars false W args.toList ds [] before)
    (hres : (s.fn H (ds ++ [])).results = [.lit (.bool true)]) (hargs : (s.fn H (ds ++ [])).args = ds) (hvar2 : (s.fn H (ds ++ [])).vars = []) (hb : Below W.heap.size W W') :
    s.post enc P f false true false false W args (.bool true) W' := by
  have hW0 := hW
  obtain ⟨p, q, hA, hV, rfl, hz, hn⟩ := hW
  rw [hvars] at hV
  obtain ⟨_, rfl⟩ := trodVars_none hV
  have hlt : ∀ x ∈ p, x.block < W.heap.size := fun x hx => hW0.lt x (by simp [hx])
  refine ⟨ds, [], p ++ [], [], p, [], hW0, ?_, ?_, ?_, World.keptBut_mono (fun x hx => ⟨by simpa using hx, ?_⟩) (hb.frame (· ∈ p)), fun h => by cases h⟩
  · rw [hft, hres]
    exact trodAll_mk1 (shut_bool htb true)
  · rw [hargs]
    exact trodAll_stays hl hr hA (fun x hx => hb.same (hlt x hx)) (fun x hx => by simpa using hlt x hx)
  · rw [hvars, hvar2]
    rfl
  · simpa using hx
end
end Go.Proofs.YtegehaokfcamfaaGreatDoor

/-
  Numbers as bytes, in plain Lean: putNum, takeNum, and that what was put is taken. No condition, no program.
-/
namespace Go.Proofs.YtegehaokfcamfaaGreatDoor

/-- 2^62 -/
def top62 : Nat := 4611686018427387904

/-- a number's bytes -/
def putNum (n : Nat) : List UInt8 :=
  if _h : n < 128 then [UInt8.ofNat n] else UInt8.ofNat (128 + n % 128) :: putNum (n / 128)
termination_by n
decreasing_by omega

theorem putNum_lt {n : Nat} (h : n < 128) : putNum n = [UInt8.ofNat n] := by rw [putNum, dif_pos h]
theorem putNum_ge {n : Nat} (h : 128 ≤ n) : putNum n = UInt8.ofNat (128 + n % 128) :: putNum (n / 128) := by rw [putNum, dif_neg (by omega)]

/-- what is clamped first -/
def clamp62 (n : Int) : Nat := if n < 0 then 0 else if 4611686018427387903 < n then 4611686018427387903 else n.toNat

/-- a number out of bytes, from its k-th group on, acc being what the groups before it made -/
def takeGo (k acc : Nat) : List UInt8 → Option (Nat × List UInt8)
  | [] => none
  | c :: r => if k = 9 then none else if c = 0 ∧ 0 < k then none else
      if c < 128 then (if acc + (c.toNat % 128) * 128 ^ k < top62 then some (acc + (c.toNat % 128) * 128 ^ k, r) else none)
      else takeGo (k + 1) (acc + (c.toNat % 128) * 128 ^ k) r

def takeNum (b : List UInt8) : Option (Nat × List UInt8) := takeGo 0 0 b

theorem toNat_ofNat_lt {n : Nat} (h : n < 256) : (UInt8.ofNat n).toNat = n := by simp; omega

theorem putNum_len_pos (n : Nat) : 0 < (putNum n).length := by
  unfold putNum; split <;> simp

theorem putNum_low : ∀ (m : Nat), 128 ≤ m → 128 ^ ((putNum m).length - 1) ≤ m := by
  intro m
  induction m using Nat.strongRecOn with
  | ind m ih =>
    intro h
    rw [putNum_ge h]
    by_cases h2 : 128 ≤ m / 128
    · have := ih (m / 128) (by omega) h2
      have hp := putNum_len_pos (m / 128)
      simp only [List.length_cons, Nat.add_sub_cancel]
      have e : (putNum (m / 128)).length = ((putNum (m / 128)).length - 1) + 1 := by omega
      rw [e, Nat.pow_succ]
      calc 128 ^ ((putNum (m / 128)).length - 1) * 128 ≤ m / 128 * 128 := Nat.mul_le_mul_right _ this
        _ ≤ m := Nat.div_mul_le_self _ _
    · rw [putNum_lt (by omega)]
      simpa using h

theorem takeGo_put : ∀ (m k acc : Nat) (r : List UInt8), (k = 0 ∨ 0 < m) → acc + m * 128 ^ k < top62 → k + (putNum m).length ≤ 9 → takeGo k acc (putNum m ++ r) = some (acc + m * 128 ^ k, r) := by
  intro m
  induction m using Nat.strongRecOn with
  | ind m ih =>
    intro k acc r hk hlt hlen
    by_cases h : m < 128
    · rw [putNum_lt h] at hlen ⊢
      simp at hlen
      have e : (UInt8.ofNat m).toNat = m := toNat_ofNat_lt (by omega)
      have e2 : m % 128 = m := Nat.mod_eq_of_lt h
      have c1 : ¬ (UInt8.ofNat m = 0 ∧ 0 < k) := by
        rintro ⟨h0, h1⟩
        have := congrArg UInt8.toNat h0
        rw [e] at this
        simp at this
        omega
      have c2 : UInt8.ofNat m < 128 := by rw [UInt8.lt_iff_toNat_lt, e]; exact h
      simp only [List.singleton_append, takeGo, e, e2]
      rw [if_neg (by omega), if_neg c1, if_pos c2, if_pos hlt]
    · have h' : 128 ≤ m := by omega
      rw [putNum_ge h'] at hlen ⊢
      have e : (UInt8.ofNat (128 + m % 128)).toNat = 128 + m % 128 := toNat_ofNat_lt (by omega)
      have e2 : (128 + m % 128) % 128 = m % 128 := by omega
      have c1 : ¬ (UInt8.ofNat (128 + m % 128) = 0 ∧ 0 < k) := by
        rintro ⟨h0, _⟩
        have := congrArg UInt8.toNat h0
        rw [e] at this
        simp at this
      have c2 : ¬ UInt8.ofNat (128 + m % 128) < 128 := by rw [UInt8.lt_iff_toNat_lt, e]; simp
      simp only [List.length_cons] at hlen
      have hp := putNum_len_pos (m / 128)
      have hs : acc + m % 128 * 128 ^ k + m / 128 * 128 ^ (k + 1) = acc + m * 128 ^ k := by
        rw [Nat.pow_succ, Nat.add_assoc]
        congr 1
        have hm := Nat.mod_add_div m 128
        calc m % 128 * 128 ^ k + m / 128 * (128 ^ k * 128) = (m % 128 + 128 * (m / 128)) * 128 ^ k := by rw [Nat.add_mul, Nat.mul_comm (128 ^ k) 128, ← Nat.mul_assoc, Nat.mul_comm (m / 128) 128]
          _ = m * 128 ^ k := by rw [hm]
      simp only [List.cons_append, takeGo, e, e2]
      rw [if_neg (by omega), if_neg c1, if_neg c2, ih (m / 128) (by omega) (k + 1) _ r (.inr (by omega)) (by rw [hs]; exact hlt) (by omega), hs]

theorem putNum_len_le {n : Nat} (h : n < top62) : (putNum n).length ≤ 9 := by
  by_cases h1 : 128 ≤ n
  · have := putNum_low n h1
    rcases Nat.lt_or_ge 9 (putNum n).length with hl | hl
    · have h2 : 128 ^ 9 ≤ 128 ^ ((putNum n).length - 1) := Nat.pow_le_pow_right (by omega) (by omega)
      unfold top62 at h
      omega
    · exact hl
  · rw [putNum_lt (by omega)]; simp

/-- WHAT WAS PUT IS TAKEN -/
theorem take_putN {n : Nat} (h : n < top62) (r : List UInt8) : takeNum (putNum n ++ r) = some (n, r) := by
  have := takeGo_put n 0 0 r (.inl rfl) (by simpa using h) (by have := putNum_len_le h; omega)
  simpa [takeNum] using this

theorem takeGo_nine (acc : Nat) (b : List UInt8) : takeGo 9 acc b = none := by cases b <;> simp [takeGo]

/-- how many bytes a number has: one for a top group d, k groups being beneath -/
theorem putNum_len_of : ∀ (k acc d : Nat), acc < 128 ^ k → d < 128 → (0 < d ∨ k = 0) → (putNum (acc + d * 128 ^ k)).length = k + 1
  | 0, acc, d, h1, h2, _ => by
    have : acc = 0 := by simpa using h1
    subst this
    rw [putNum_lt (by simpa using h2)]; simp
  | k + 1, acc, d, h1, h2, h3 => by
    have hd : 0 < d := by omega
    have hp : 0 < 128 ^ k := Nat.pow_pos (by omega)
    have hge : 128 ≤ acc + d * 128 ^ (k + 1) := by
      have : 128 ≤ d * 128 ^ (k + 1) := by
        rw [Nat.pow_succ]
        calc 128 = 1 * (1 * 128) := by omega
          _ ≤ d * (128 ^ k * 128) := Nat.mul_le_mul hd (Nat.mul_le_mul_right _ hp)
      omega
    have hdiv : (acc + d * 128 ^ (k + 1)) / 128 = acc / 128 + d * 128 ^ k := by
      rw [Nat.pow_succ, ← Nat.mul_assoc, Nat.add_mul_div_right _ _ (by omega)]
    rw [putNum_ge hge, List.length_cons, hdiv, putNum_len_of k (acc / 128) d (by rw [Nat.pow_succ] at h1; exact Nat.div_lt_of_lt_mul (by rw [Nat.mul_comm]; exact h1)) h2 (.inl hd)]

theorem putNum_len_below : ∀ (k n : Nat), 0 < k → n < 128 ^ k → (putNum n).length ≤ k
  | 0, _, h, _ => by omega
  | k + 1, n, _, h => by
    by_cases h1 : n < 128
    · rw [putNum_lt h1]; simp
    · rw [putNum_ge (by omega)]
      rcases Nat.eq_zero_or_pos k with h0 | h0
      · subst h0; simp at h; omega
      · have := putNum_len_below k (n / 128) h0 (by rw [Nat.pow_succ] at h; exact Nat.div_lt_of_lt_mul (by rw [Nat.mul_comm]; exact h))
        simp; omega

theorem takeGo_len : ∀ (b : List UInt8) (k acc v : Nat) (r : List UInt8), takeGo k acc b = some (v, r) → r.length < b.length
  | [], _, _, _, _, h => by simp [takeGo] at h
  | c :: b, k, acc, v, r, h => by
    rw [takeGo] at h
    split at h
    · cases h
    · split at h
      · cases h
      · split at h
        · split at h
          · cases h; simp
          · cases h
        · have := takeGo_len b _ _ _ _ h; simp; omega
theorem takeNum_len {b r : List UInt8} {v : Nat} (h : takeNum b = some (v, r)) : r.length < b.length := takeGo_len b 0 0 v r h
end Go.Proofs.YtegehaokfcamfaaGreatDoor

/-
  The law of AnyGuards, where the region's last operation writes a slot that an earlier one reads. Plain lemmas.
-/
namespace Go.Proofs.YtegehaokfcamfaaGreatDoor
open Go.RowKit

theorem wp_region_guardsL {P : Program} {ops : Array Oper} {Q : Exit → Act → World → Prop} {id : Nat} {a0 : Act} {w0 : World} (hm : P.follows .mixedOrders = true) (n : Nat) (hok : regionOk2 ops n = true)
    (hsz : ∀ (i : Nat) (o : Oper) (d : Nat), ops[i]? = some o → o.dst = some d → d < a0.tmps.size)
    (φ : Nat → Value → World → Prop) (hmono : ∀ j v w w', φ j v w → Below w.heap.size w w' → φ j v w')
    (hstep : ∀ (i : Nat) (o : Oper), i < n → ops[i]? = some o → ∀ a w, Below w0.heap.size w0 w → SameAct (ops.extract 0 n) a0 a → Met ops φ o a w →
      if Region.wanted o (yielded ops a.tmps) = true then Oper.wp P o a w (fun a' w' => ∃ v, a' = a.put o.dst v ∧ φ i v w' ∧ Below w.heap.size w w') Q else φ i undef w)
    (hlast : ∀ (o : Oper), ops[n]? = some o → ∀ a w, Below w0.heap.size w0 w → SameAct (ops.extract 0 n) a0 a → Met ops φ o a w → Oper.wp P o a w (fun a' w' => Q .normal a' w') Q) :
    (Code.region id ops true).wp P Q a0 w0 := by
  have hok' := hok
  simp only [regionOk2, Bool.and_eq_true, beq_iff_eq, List.all_eq_true, List.mem_range] at hok'
  obtain ⟨⟨hn, hop⟩, hcov⟩ := hok'
  have hback : ∀ (i : Nat) (o : Oper), ops[i]? = some o → (i = n → o.guard = none) ∧ (∀ e ∈ o.after, e.on < i) ∧ ∀ (j : Nat) (p : Oper) (x : Nat), j < i → ops[j]? = some p → p.dst = some x → o.dst ≠ some x := by
    intro i o ho
    have hlt := (Array.getElem?_eq_some_iff.1 ho).1
    have h1 := hop i (by omega)
    rw [ho] at h1
    simp only [Bool.and_eq_true, List.all_eq_true, List.mem_range] at h1
    obtain ⟨⟨h2, h3⟩, h4⟩ := h1
    refine ⟨fun hi => by
      cases hg : o.guard with
      | none => rfl
      | some q => rw [hg] at h2; simp at h2; omega, fun e he => by simpa using Array.all_eq_true_iff_forall_mem.1 h3 e he, fun j p x hj hp hx hd => ?_⟩
    have h5 := h4 j hj
    rw [hp] at h5
    simp only [hx, hd] at h5
    simp at h5
  have hdst : ∀ (i j : Nat) (o p : Oper) (x : Nat), i ≠ j → ops[i]? = some o → ops[j]? = some p → o.dst = some x → p.dst ≠ some x := by
    intro i j o p x hne ho hp hx hpx
    rcases Nat.lt_or_gt_of_ne hne with h | h
    · exact (hback j p hp).2.2 i o x h ho hx hpx
    · exact (hback i o ho).2.2 j p x h hp hpx hx
  have hex : ∀ (i : Nat) (o : Oper), i < n → ops[i]? = some o → (ops.extract 0 n)[i]? = some o := fun i o hi ho => by
    rw [Array.getElem?_extract, if_pos (by have := (Array.getElem?_eq_some_iff.1 ho).1; omega), Nat.zero_add, ho]
  refine wp_region_any hm ?_
  refine wpAny_inv (fun listed a w => (∀ (i : Nat) (o : Oper), ops[i]? = some o → listed[i]? = some true → ∀ e ∈ o.after, Region.binds .any e = true → listed[e.on]? = some true) ∧
      (listed[n]? = some false → SameAct (ops.extract 0 n) a0 a ∧ Below w0.heap.size w0 w ∧ ∀ (j : Nat) (p : Oper) (d : Nat), j < n → ops[j]? = some p → p.dst = some d → listed[j]? = some true → φ j (a.eval (.tmp d)) w) ∧
      (listed[n]? = some true → (∀ j, j < n → listed[j]? = some true) ∧ Q .normal a w)) ?_ ?_ ops.size (Array.replicate ops.size false) a0 _ (by simp) ?_ ?_
  · rintro listed a w i hs ⟨hcl, hun, hfin⟩ hi
    obtain ⟨o, ho, hl, haft⟩ := ready_parts hs hi
    have hlt := (Array.getElem?_eq_some_iff.1 ho).1
    have hnl : listed[n]? = some false := by
      cases hb : listed[n]? with
      | none => rw [Array.getElem?_eq_none_iff] at hb; omega
      | some b => cases b with
        | false => rfl
        | true =>
          obtain ⟨h1, _⟩ := hfin hb
          rcases Nat.lt_or_ge i n with h | h
          · rw [h1 i h] at hl; cases hl
          · obtain rfl : i = n := by omega
            rw [hb] at hl; cases hl
    obtain ⟨hsame, hbel, hphi⟩ := hun hnl
    have hmet : Met ops φ o a w := by
      intro e he hb p d hp hd
      have hon := (hback i o ho).2.1 e he
      exact hphi e.on p d (by omega) hp hd (haft e he hb)
    have hset : ∀ k, (listed.setIfInBounds i true)[k]? = if i = k then some true else listed[k]? := by
      intro k
      rw [Array.getElem?_setIfInBounds]
      split
      · rename_i h; subst h; rw [if_pos (by omega)]
      · rfl
    refine wpOp_step ho (fun K' hK' => ?_)
    have hcl' : ∀ (k : Nat) (p : Oper), ops[k]? = some p → (listed.setIfInBounds i true)[k]? = some true → ∀ e ∈ p.after, Region.binds .any e = true → (listed.setIfInBounds i true)[e.on]? = some true := by
      intro k p hp hk e he hb
      rw [hset] at hk ⊢
      split
      · rfl
      · by_cases hik : i = k
        · subst hik
          obtain rfl : p = o := Option.some.inj (hp.symm.trans ho)
          exact haft e he hb
        · rw [if_neg hik] at hk
          exact hcl k p hp hk e he hb
    rcases Nat.lt_or_ge i n with hin | hin
    · have key : ∀ (v : Value) (w' : World), φ i v w' → Below w.heap.size w w' → K' (a.put o.dst v) w' := by
        intro v w' hv hb'
        refine hK' _ _ ?_
        refine ⟨hcl', fun _ => ⟨hsame.put (hex i o hin ho) v, hbel.trans (hb'.mono hbel.size), fun j p d hj hp hd hlj => ?_⟩, fun hf => ?_⟩
        · rw [hset] at hlj
          by_cases hij : i = j
          · subst hij
            obtain rfl : p = o := Option.some.inj (hp.symm.trans ho)
            have hdlt := hsz i p d ho hd
            rw [hd]
            have : (a.put (some d) v).eval (.tmp d) = v := by
              simp [Act.put, Act.eval, Array.getD_eq_getD_getElem?, hsame.size, hdlt]
            rw [this]
            exact hv
          · rw [if_neg hij] at hlj
            have hne : o.dst ≠ some d := hdst j i p o d (fun e => hij e.symm) hp ho hd
            have : (a.put o.dst v).eval (.tmp d) = a.eval (.tmp d) := by
              cases hod : o.dst with
              | none => rfl
              | some x =>
                have hxd : x ≠ d := fun e => hne (by rw [hod, e])
                simp [Act.put, Act.eval, Array.getD_eq_getD_getElem?, hxd]
            rw [this]
            exact hmono _ _ _ _ (hphi j p d hj hp hd hlj) hb'
        · rw [hset, if_neg (by omega), hnl] at hf
          cases hf
      have hst := hstep i o hin ho a w hbel hsame hmet
      split
      · rename_i hw
        rw [if_pos hw] at hst
        refine Oper.wp_mono (fun a' w' h' => ?_) hst
        obtain ⟨v, rfl, hv, hb'⟩ := h'
        exact key v w' hv hb'
      · rename_i hw
        rw [if_neg hw] at hst
        exact key undef w hst (Below.refl _ _)
    · obtain rfl : i = n := by omega
      rw [if_pos (by simp [Region.wanted, (hback i o ho).1 rfl])]
      refine Oper.wp_mono (fun a' w' h' => hK' a' w' ?_) (hlast o ho a w hbel hsame hmet)
      refine ⟨hcl', fun hf => ?_, fun _ => ⟨fun j hj => ?_, h'⟩⟩
      · rw [hset, if_pos rfl] at hf
        cases hf
      · rw [hset, if_neg (by omega)]
        have hall : ∀ (d j : Nat), j < i → i - j ≤ d → listed[j]? = some true := by
          intro d
          induction d with
          | zero => intro j hj hd; omega
          | succ d ih =>
            intro j hj hd
            have h1 := hcov j hj
            rw [List.any_eq_true] at h1
            obtain ⟨k, hk, h1⟩ := h1
            rw [List.mem_range] at hk
            simp only [Bool.and_eq_true, decide_eq_true_eq] at h1
            obtain ⟨hjk, h1⟩ := h1
            split at h1
            · rename_i q hq
              rw [← Array.any_toList, List.any_eq_true] at h1
              obtain ⟨e, he, h1⟩ := h1
              simp only [Bool.and_eq_true, beq_iff_eq] at h1
              obtain ⟨hb, rfl⟩ := h1
              replace he := Array.mem_toList_iff.1 he
              by_cases hki : k = i
              · subst hki
                obtain rfl : q = o := Option.some.inj (hq.symm.trans ho)
                exact haft e he hb
              · exact hcl k q hq (ih k (by omega) (by omega)) e he hb
            · cases h1
        exact hall i j hj (by omega)
  · rintro listed a w hs ⟨hcl, hun, hfin⟩ hr
    have hall : ∀ i, i ≤ n → listed[i]? = some true := by
      intro i
      induction i using Nat.strongRecOn with
      | _ i ih =>
        intro hi
        have hlt : i < listed.size := by omega
        have hlo : i < ops.size := by omega
        cases hb : listed[i] with
        | true => rw [Array.getElem?_eq_getElem hlt, hb]
        | false =>
          have hmem := ready_mem (md := .any) (Array.getElem?_eq_getElem hlo) (by rw [Array.getElem?_eq_getElem hlt, hb] : listed[i]? = some false) (fun e he _ => ih e.on ((hback i _ (Array.getElem?_eq_getElem hlo)).2.1 e he) (by have := (hback i _ (Array.getElem?_eq_getElem hlo)).2.1 e he; omega))
          rw [hr] at hmem
          cases hmem
    exact (hfin (hall n (Nat.le_refl _))).2
  · have hu : ∀ m, undone (List.replicate m false) = m := by
      intro m
      induction m with
      | zero => rfl
      | succ m ih => rw [List.replicate_succ, undone, ih]; simp; omega
    simp [hu]
  · refine ⟨fun i o ho hl => ?_, fun _ => ⟨⟨rfl, rfl, fun _ _ => rfl⟩, ⟨rfl, rfl, rfl, Nat.le_refl _, fun _ _ => rfl⟩, fun j p d hj hp hd hl => ?_⟩, fun hl => ?_⟩
    · rw [Array.getElem?_replicate] at hl; split at hl <;> cases hl
    · rw [Array.getElem?_replicate] at hl; split at hl <;> cases hl
    · rw [Array.getElem?_replicate] at hl; split at hl <;> cases hl

end Go.Proofs.YtegehaokfcamfaaGreatDoor
