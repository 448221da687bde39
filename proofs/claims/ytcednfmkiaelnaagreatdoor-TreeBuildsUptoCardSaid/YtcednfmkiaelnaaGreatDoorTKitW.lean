/-
  Texts merged: Row, Base, Append, OpenBytes, OpenRows, AnyOrder, AnyGuards, PairRegion, Cut, Own, Frame, Maps, MapL, Home, CodeLaw, Texts, PathLaw. What each law says and asks stands at its head.
-/
import Derived.Test.YtcednfmkiaelnaaGreatDoorRows
import Derived.WalkKit
import Derived.ProofKit
import Derived.OpenShut
import Derived.Carry
import Derived.JoinedCond
import Derived.Lib.SmallJoins
import Derived.SliceStrings
import Derived.Test.YtcednfmkiaelnaaGreatDoorProg
import Derived.WalkSpells
import Derived.WalkLawsBesides
import Derived.Deep.QuietTactic
import Derived.BigQuiet
import Derived.Deep.LoopGhost
import Derived.Deep.Draws
import Derived.Laws.OwnMore
import Derived.Laws.Rows
import Derived.Laws.IdiomStrings
import Derived.Lib.Hide
import Derived.Maps.AppendAt
import Derived.RegionTactic
import Derived.Laws.BytesArg
import Derived.OwnWalk
import Derived.Deep.Slices
import Derived.SizedLaws
import Derived.Maps.OwnSet
import Derived.Maps.OwnOps
import Derived.Maps.RangeWalk
import Derived.Sort.MapsRangeIn
import Derived.OwnWalkIn
import Derived.Lib.SliceRun
import Derived.Lib.Split
import Derived.Lib.IndexMore
import Derived.Lib.SplitLaws
namespace Go.Proofs.YtcednfmkiaelnaaGreatDoor
open Go.ChangeShapes Go.WideShapes Go.ChangeAt Go.RowKit
theorem Tryz.own : ownKnob Tryz.prog.godebug = none := by kernel_rfl
theorem Tryz.laidOut : laidOutB Tryz.prog = true := by kernel_rfl
theorem Tryz.cellsStr : Tryz.prog.cellsOf 9 = 1 := by kernel_rfl
section
variable {H : Type} {enc : TypeId × Value → H} {P : Program}
theorem trodAll_stays (hl : laidOutB P = true) {W W' : World} {sp : Nat → Bool} : ∀ {ts : List TypeId} {vs : List Value} {ds : List (DataW H)} {ps : List MemPlace}, (∀ t ∈ ts, P.readableRec t = true ∧ t < P.types.size) →
  DataW.TrodAll enc P W 0 (fun _ => true) true ts vs ds ps → (∀ p ∈ ps, W.sameAt W' p) → (∀ p ∈ ps, sp p.block = true) → DataW.TrodAll enc P W' 0 sp true ts vs ds ps
 | [], _, _, _, _, h, _, _ => by obtain ⟨rfl, rfl, rfl⟩ := trodAll_nil h; exact trodAll_mk0
 | t :: ts, _, _, _, hr, h, hsame, hs => by
  obtain ⟨v, vs', d, ds', p, q, rfl, rfl, rfl, h0, h1⟩ := trodAll_cons h
  obtain ⟨r1, r2⟩ := hr t (by simp)
  exact trodAll_cons_mk (WideElems.Trod_stays hl r1 r2 h0 (fun x hx => hsame x (by simp [hx])) (fun x hx => hs x (by simp [hx])))
   (trodAll_stays hl (fun u hu => hr u (by simp [hu])) h1 (fun x hx => hsame x (by simp [hx])) (fun x hx => hs x (by simp [hx])))
theorem post_true {f : Func} {s : ChangeSpec} {tb : TypeId} {W W' : World} {args : Array Value} {ds : List (DataW H)} {before : List MemPlace}
  (hl : laidOutB P = true) (htb : P.underlying tb = some .bool) (hft : f.resultTypes = #[tb]) (hvars : s.vars = []) (hr : ∀ t ∈ f.params.toList, P.readableRec t = true ∧ t < P.types.size)
  (hW : DataW.Whole enc P f.params.toList s.vars false W args.toList ds [] before)
  (hres : (s.fn H (ds ++ [])).results = [.lit (.bool true)]) (hargs : (s.fn H (ds ++ [])).args = ds) (hvar2 : (s.fn H (ds ++ [])).vars = []) (hb : Below W.heap.size W W') :
  s.post enc P f false true false false W args (.bool true) W' := by
 have hW0 := hW
 obtain ⟨p, q, hA, hV, rfl, hz, hn⟩ := hW
 rw [hvars] at hV
 obtain ⟨_, rfl⟩ := trodVars_none hV
 have hlt : ∀ x ∈ p, x.block < W.heap.size := fun x hx => hW0.lt x (by simp [hx])
 refine ⟨ds, [], p ++ [], [], p, [], hW0, ?_, ?_, ?_, World.keptBut_mono (fun x hx => ⟨by simpa using hx, ?_⟩) (hb.frame (· ∈ p)), fun h => by cases h⟩
 ·rw [hft, hres]
  exact trodAll_mk1 (shut_bool htb true)
 ·rw [hargs]
  exact trodAll_stays hl hr hA (fun x hx => hb.same (hlt x hx)) (fun x hx => by simpa using hlt x hx)
 ·rw [hvars, hvar2]
  rfl
 ·simpa using hx
end
end Go.Proofs.YtcednfmkiaelnaaGreatDoor
namespace Go.Proofs.YtcednfmkiaelnaaGreatDoor
open Go.RowKit
abbrev S (l : List UInt8) : Value := .string ⟨l.toArray⟩
abbrev U8 (x : UInt8) : Value := .int .u8 (x.toNat : Int)
abbrev I (n : Int) : Value := .int .i64 n
abbrev strs (ss : List (List UInt8)) : List Value := ss.map S
abbrev u8s (l : List UInt8) : List Value := l.map U8
theorem str_of (s : ByteArray) : ∃ l : List UInt8, s = ⟨l.toArray⟩ := ⟨s.data.toList, by cases s; simp⟩
theorem size_mk (l : List UInt8) : (⟨l.toArray⟩ : ByteArray).size = l.length := by simp [ByteArray.size]
def Sl (w : World) (sz : Nat) (A : Option Addr) (n : Nat) (xs : List Value) : Prop :=
 xs.length = n * sz ∧ (0 < n → ∃ b off, A = some ⟨b, off, none⟩ ∧ b < w.heap.size ∧ ∀ k, k < n * sz → w.cell? ⟨b, off + k, none⟩ = xs[k]?)
section
variable {w w' : World} {sz n k : Nat} {A : Option Addr} {xs : List Value}
theorem Sl.nil_ : Sl w sz A 0 [] := ⟨by simp, fun h => absurd h (by omega)⟩
theorem Sl.len (h : Sl w 1 A n xs) : xs.length = n := by have := h.1; omega
theorem Sl.at_ (h : Sl w 1 A n xs) (hk : k < n) : ∃ b off u, A = some ⟨b, off, none⟩ ∧ xs[k]? = some u ∧ w.cell? ⟨b, off + k, none⟩ = some u := by
 obtain ⟨b, off, e, hb, hc⟩ := h.2 (by omega)
 have hl : k < xs.length := by have := h.1; omega
 exact ⟨b, off, xs[k], e, List.getElem?_eq_getElem hl, (hc k (by omega)).trans (List.getElem?_eq_getElem hl)⟩
theorem Sl.keep (h : Sl w sz A n xs) (hk : ∀ p : Addr, p.block < w.heap.size → w'.cell? p = w.cell? p) (hs : w.heap.size ≤ w'.heap.size) : Sl w' sz A n xs :=
 ⟨h.1, fun hn => by
  obtain ⟨b, off, e, hb, hc⟩ := h.2 hn
  exact ⟨b, off, e, by omega, fun k hk' => (hk _ hb).trans (hc k hk')⟩⟩
theorem Sl.below (h : Sl w sz A n xs) (hb : Below w.heap.size w w') : Sl w' sz A n xs := h.keep (fun _ hp => hb.cell hp) hb.size
theorem Sl.drew (h : Sl w sz A n xs) : Sl w.drew sz A n xs := h
theorem Sl.drewN (h : Sl w sz A n xs) (k : Nat) : Sl (w.drewN k) sz A n xs := h
theorem Sl.alloc (h : Sl w sz A n xs) (o : Obj) : Sl (w.alloc o) sz A n xs := h.below ((Below.refl _ _).alloc (Nat.le_refl _) o)
theorem Sl.of_own {base : Nat} {e : TypeId} {c : Nat} (h : w.ownsRow base e sz (.slice A n c) n xs) : Sl w sz A n xs := by
 refine ⟨h.1, fun hn => ?_⟩
 have hlt := h.lt
 have hcs := fun g => h.cells (g := g)
 rcases h.2 with ⟨_, h0⟩ | ⟨g, cap, cur, hv, _, _, _, _, _, _⟩
 ·omega
 ·have hA : A = some ⟨g, 0, none⟩ := by injection hv
  subst hA
  refine ⟨g, 0, rfl, (hlt g rfl).2, fun k hk => ?_⟩
  have hl : k < xs.length := by rw [h.1]; exact hk
  have := hcs g rfl k _ (List.getElem?_eq_getElem hl)
  rw [List.getElem?_eq_getElem hl, ← this]
  unfold Addr.add
  split <;> simp_all
theorem Sl.str {ss : List (List UInt8)} (h : Sl w 1 A n (strs ss)) (hk : k < n) : ∃ b off s, A = some ⟨b, off, none⟩ ∧ ss[k]? = some s ∧ w.cell? ⟨b, off + k, none⟩ = some (S s) := by
 obtain ⟨b, off, u, e, hx, hc⟩ := h.at_ hk
 simp only [strs, List.getElem?_map, Option.map_eq_some_iff] at hx
 obtain ⟨s, hs, rfl⟩ := hx
 exact ⟨b, off, s, e, hs, hc⟩
theorem Sl.byte {l : List UInt8} (h : Sl w 1 A n (u8s l)) (hk : k < n) : ∃ b off x, A = some ⟨b, off, none⟩ ∧ l[k]? = some x ∧ w.cell? ⟨b, off + k, none⟩ = some (U8 x) := by
 obtain ⟨b, off, u, e, hx, hc⟩ := h.at_ hk
 simp only [u8s, List.getElem?_map, Option.map_eq_some_iff] at hx
 obtain ⟨s, hs, rfl⟩ := hx
 exact ⟨b, off, s, e, hs, hc⟩
end
def Blk (w : World) (g : Nat) (t : TypeId) (cs : Array Value) : Prop := w.heap[g]? = some (.cells cs t (0, 0))
section
variable {w w' : World} {g : Nat} {t : TypeId} {cs : Array Value}
theorem Blk.lt (h : Blk w g t cs) : g < w.heap.size := by
 rcases Nat.lt_or_ge g w.heap.size with hlt | hge
 ·exact hlt
 ·unfold Blk at h; rw [Array.getElem?_eq_none hge] at h; cases h
theorem Blk.cell (h : Blk w g t cs) (i : Nat) : w.cell? ⟨g, i, none⟩ = cs[i]? := cell_of_row w g i cs t (0, 0) h
theorem Blk.frozen (h : Blk w g t cs) (i : Nat) : w.frozen? ⟨g, i, none⟩ = false := by
 unfold Blk at h
 simp [World.frozen?, h]
theorem Blk.new (w : World) (t : TypeId) (cs : Array Value) : Blk (w.alloc (.cells cs t)) w.heap.size t cs := heap_alloc_new w _
theorem Blk.drew (h : Blk w g t cs) : Blk w.drew g t cs := h
theorem Blk.drewN (h : Blk w g t cs) (n : Nat) : Blk (w.drewN n) g t cs := h
theorem Blk.alloc (h : Blk w g t cs) (o : Obj) : Blk (w.alloc o) g t cs := (Below.heap_alloc w o g h.lt).trans h
theorem Blk.set_ (h : Blk w g t cs) (i : Nat) (u : Value) : Blk (w.setCell ⟨g, i, none⟩ u) g t (cs.setIfInBounds i u) := by
 unfold Blk at h ⊢
 simp [World.setCell, Array.getElem?_modify, h]
theorem Blk.far (h : Blk w g t cs) {p : Addr} (hp : g ≠ p.block) (u : Value) : Blk (w.setCell p u) g t cs := (Below.heap_setCell w p u g hp).trans h
theorem Blk.below {B : Nat} (h : Blk w g t cs) (hb : Below B w w') (hg : g < B) : Blk w' g t cs := (hb.block g hg).trans h
theorem Blk.grown {row : Option Nat} (h : Blk w g t cs) (hb : w.grownBy w' row) (hg : some g ≠ row) : Blk w' g t cs := (hb.block g h.lt hg).trans h
end
theorem Blk.step {w w' : World} {g : Nat} {t : TypeId} {cs : Array Value} (h : Blk w g t cs) (hb : Below w.heap.size w w') : Blk w' g t cs := h.below hb h.lt
theorem Below.step {B : Nat} {w0 w w' : World} (h : Below B w0 w) (hB : B ≤ w0.heap.size) (hb : Below w.heap.size w w') : Below B w0 w' := h.trans (hb.mono (Nat.le_trans hB h.size))
theorem Blk.sl {w : World} {g : Nat} {t : TypeId} {xs : List Value} (h : Blk w g t xs.toArray) : Sl w 1 (some ⟨g, 0, none⟩) xs.length xs :=
 ⟨by simp, fun _ => ⟨g, 0, rfl, h.lt, fun k _ => by rw [h.cell, Nat.zero_add]; simp⟩⟩
theorem setCell_size (w : World) (p : Addr) (u : Value) : (w.setCell p u).heap.size = w.heap.size := by simp [World.setCell]
theorem below_drewN {B : Nat} {a w : World} (h : Below B a w) (n : Nat) : Below B a (w.drewN n) := ⟨h.os, h.tape, h.output, h.size, h.block⟩
theorem ret_bool {a b : Bool} (h : a = b) : Ending.returned (.bool a) = .returned (.bool b) := by rw [h]
def Ow (w0 w : World) (e : TypeId) (sz : Nat) (A : Option Addr) (n c : Nat) (xs : List Value) : Prop :=
 w.ownsRow w0.heap.size e sz (.slice A n c) n xs ∧ Below w0.heap.size w0 w
section
variable {w0 w w' : World} {e : TypeId} {sz n c : Nat} {A : Option Addr} {xs : List Value}
theorem Ow.sl (h : Ow w0 w e sz A n c xs) : Sl w sz A n xs := Sl.of_own h.1
theorem Ow.size (h : Ow w0 w e sz A n c xs) : w0.heap.size ≤ w.heap.size := h.2.size
theorem Ow.nil_ (hb : Below w0.heap.size w0 w) : Ow w0 w e sz none 0 0 [] := ⟨World.ownsRow_nil _ _ _ _, hb⟩
theorem Ow.alloc (h : Ow w0 w e sz A n c xs) (o : Obj) : Ow w0 (w.alloc o) e sz A n c xs := ⟨h.1.alloc o, h.2.alloc h.2.size o⟩
theorem Ow.keep (h : Ow w0 w e sz A n c xs) (hb : Below w.heap.size w w') : Ow w0 w' e sz A n c xs := by
 refine ⟨h.1.kept (row := none) ⟨hb.os, hb.tape, hb.output, hb.size, fun k hk _ => hb.block k hk⟩ ?_, h.2.trans (hb.mono h.2.size)⟩
 rcases hv : (Value.slice A n c).ownBlock with _ | g
 ·exact .inl rfl
 ·exact .inr (by simp)
theorem Ow.drewN (h : Ow w0 w e sz A n c xs) (k : Nat) : Ow w0 (w.drewN k) e sz A n c xs := h.keep (below_drewN (Below.refl _ _) k)
theorem Ow.drew (h : Ow w0 w e sz A n c xs) : Ow w0 w.drew e sz A n c xs := h.keep (Below.refl _ _).drew
theorem Ow.cap (h : Ow w0 w e sz A n c xs) : n ≤ c ∧ c ≤ maxLen := by
 rcases h.1.2 with ⟨hv, h0⟩ | ⟨g, cap, cur, hv, _, _, h1, h2, _, _⟩
 ·injection hv with _ h1 h2; subst h2; omega
 ·injection hv with _ _ h3; subst h3; exact ⟨h1, h2⟩
theorem Ow.len (h : Ow w0 w e sz A n c xs) : xs.length = n * sz := h.1.1
end
theorem own_shape {w : World} {base sz n : Nat} {e : TypeId} {v : Value} {xs : List Value} (h : w.ownsRow base e sz v n xs) : ∃ A c, v = .slice A n c := by
 rcases h.2 with ⟨rfl, rfl⟩ | ⟨g, cap, cur, rfl, _⟩
 ·exact ⟨_, _, rfl⟩
 ·exact ⟨_, _, rfl⟩
section
variable {P : Program} (w : World)
theorem run_append_of_nil (base : Nat) (t ty e : TypeId) (i : TypeInfo) (size : Nat) (ht : P.underlying t = some (.slice e)) (hi : P.info? e = some i)
  (v : Value) (n : Nat) (xs : List Value) (hown : w.ownsRow base e size v n xs) (c : Nat) : (Builtin.append_ #[t, t] ty #[v, .slice none 0 c]).run P w = .ok v w := by
 rcases hown.2 with ⟨rfl, rfl⟩ | ⟨g, cap, cur, rfl, _, _, hnc, _⟩
 ·simp [Builtin.append_, run_underlying ht, sizeOf, typeInfo, hi, Builtin.lenOf, Builtin.firstCells]
 ·simp [Builtin.append_, run_underlying ht, sizeOf, typeInfo, hi, Builtin.lenOf, Builtin.firstCells, hnc, storeCells]
theorem run_append_sl (base : Nat) (t ty e : TypeId) (i : TypeInfo) (z : Value) (size bytes : Nat) (ht : P.underlying t = some (.slice e)) (hi : P.info? e = some i) (hz : i.zero = some z)
  (hsize : i.size = size) (hby : i.bytes = bytes) (hzs : z.cells.size = size) (hsz : 0 < size)
  (v : Value) (n : Nat) (xs : List Value) (hown : w.ownsRow base e size v n xs)
  (A : Option Addr) (m c : Nat) (news : List Value) (hr : Sl w size A m news) (h1 : ∀ u ∈ news, u.oneCell' = true)
  (h63 : n + m ≤ maxLen) (hbytes : (n + m) * bytes ≤ 140737488355328) (hbase : base ≤ w.heap.size) :
  ∃ A' c' w', (Builtin.append_ #[t, t] ty #[v, .slice A m c]).run P w = .ok (.slice A' (n + m) c') w' ∧ w'.ownsRow base e size (.slice A' (n + m) c') (n + m) (xs ++ news) ∧ w.grownBy w' v.ownBlock ∧
   ((Value.slice A' (n + m) c').ownBlock = v.ownBlock ∨ (Value.slice A' (n + m) c').ownBlock = some w.heap.size) := by
 have key : ∃ v' w', (Builtin.append_ #[t, t] ty #[v, .slice A m c]).run P w = .ok v' w' ∧ w'.ownsRow base e size v' (n + m) (xs ++ news) ∧ w.grownBy w' v.ownBlock ∧
   (v'.ownBlock = v.ownBlock ∨ v'.ownBlock = some w.heap.size) := by
  rcases A with _ | ad
  ·have hm : m = 0 := by
    rcases Nat.eq_zero_or_pos m with h0 | h0
    ·exact h0
    ·obtain ⟨_, _, h, _⟩ := hr.2 h0
     cases h
   subst hm
   have hn : news = [] := List.eq_nil_of_length_eq_zero (by simpa using hr.1)
   subst hn
   exact ⟨v, w, run_append_of_nil w base t ty e i size ht hi v n xs hown c, by simpa using hown, World.grownBy.refl w _, .inl rfl⟩
  ·have hcells : ∀ j u, news[j]? = some u → w.cell? (ad.add j) = some u := by
    intro j u hu
    have hj := (List.getElem?_eq_some_iff.1 hu).1
    rcases Nat.eq_zero_or_pos m with h0 | h0
    ·have := hr.1; rw [h0] at this; omega
    ·obtain ⟨b, off, h, _, hc⟩ := hr.2 h0
     injection h with h
     subst h
     rw [← hu, ← hc j (by rw [← hr.1]; exact hj)]
     unfold Addr.add
     split <;> simp_all
   obtain ⟨v', w', hrun, h2, h3, _, h5⟩ := run_append_own_at (P := P) w base t ty e i z size bytes ht hi hz hsize hby hzs hsz v n xs hown ad m c news hr.1 hcells h1 h63 hbytes hbase
   exact ⟨v', w', hrun, h2, h3, h5⟩
 obtain ⟨v', w', hrun, h2, h3, h4⟩ := key
 obtain ⟨A', c', rfl⟩ := own_shape h2
 exact ⟨A', c', w', hrun, h2, h3, h4⟩
theorem wp_append_sl {o : Oper} {a : Act} {K : Act → World → Prop} {Q : Exit → Act → World → Prop} (s x : Operand) (t : TypeId)
  (ho : o.op = .call { callee := .builtin .append, args := #[s, x], argTypes := #[t, t] })
  (w0 : World) (e : TypeId) (i : TypeInfo) (z : Value) (size bytes : Nat) (ht : P.underlying t = some (.slice e)) (hi : P.info? e = some i) (hz : i.zero = some z)
  (hsize : i.size = size) (hby : i.bytes = bytes) (hzs : z.cells.size = size) (hsz : 0 < size)
  (Ad : Option Addr) (n cd : Nat) (xs : List Value) (hs : a.eval s = .slice Ad n cd) (hown : Ow w0 w e size Ad n cd xs)
  (A : Option Addr) (m c : Nat) (news : List Value) (hx : a.eval x = .slice A m c) (hr : Sl w size A m news) (h1 : ∀ u ∈ news, u.oneCell' = true)
  (h63 : n + m ≤ maxLen) (hbytes : (n + m) * bytes ≤ 140737488355328)
  (h : ∀ A' c' w', Ow w0 w' e size A' (n + m) c' (xs ++ news) → w.grownBy w' (Value.slice Ad n cd).ownBlock → ((Value.slice A' (n + m) c').ownBlock = (Value.slice Ad n cd).ownBlock ∨ (Value.slice A' (n + m) c').ownBlock = some w.heap.size) → K (a.put o.dst (.slice A' (n + m) c')) w') : o.wp P a w K Q := by
 obtain ⟨A', c', w', hrun, h2, h3, h4⟩ := run_append_sl (P := P) w w0.heap.size t o.type e i z size bytes ht hi hz hsize hby hzs hsz _ n xs hown.1 A m c news hr h1 h63 hbytes hown.2.size
 unfold Oper.wp execOp
 simp only [ho, resolve, invoke, builtin, Sem.run_bind, Sem.run_pure, Result.andThen_ok, List.map_toArray, List.map_cons, List.map_nil, hs, hx, hrun]
 exact h A' c' w' ⟨h2, hown.2.grown h3 hown.2.size (fun k hk => (hown.1.lt k hk).1)⟩ h3 h4
theorem wpList_append_sl {ops : Array Oper} {rest : List Oper} {o : Oper} {a : Act} {Q : Exit → Act → World → Prop} (hgd : o.guard = none) (s x : Operand) (t : TypeId)
  (ho : o.op = .call { callee := .builtin .append, args := #[s, x], argTypes := #[t, t] })
  (w0 : World) (e : TypeId) (i : TypeInfo) (z : Value) (size bytes : Nat) (ht : P.underlying t = some (.slice e)) (hi : P.info? e = some i) (hz : i.zero = some z)
  (hsize : i.size = size) (hby : i.bytes = bytes) (hzs : z.cells.size = size) (hsz : 0 < size)
  (Ad : Option Addr) (n cd : Nat) (xs : List Value) (hs : a.eval s = .slice Ad n cd) (hown : Ow w0 w e size Ad n cd xs)
  (A : Option Addr) (m c : Nat) (news : List Value) (hx : a.eval x = .slice A m c) (hr : Sl w size A m news) (h1 : ∀ u ∈ news, u.oneCell' = true)
  (h63 : n + m ≤ maxLen) (hbytes : (n + m) * bytes ≤ 140737488355328)
  (h : ∀ A' c' w', Ow w0 w' e size A' (n + m) c' (xs ++ news) → w.grownBy w' (Value.slice Ad n cd).ownBlock → ((Value.slice A' (n + m) c').ownBlock = (Value.slice Ad n cd).ownBlock ∨ (Value.slice A' (n + m) c').ownBlock = some w.heap.size) → wpList P ops Q rest (a.put o.dst (.slice A' (n + m) c')) w') : wpList P ops Q (o :: rest) a w :=
 wpList_plain hgd fun _ hK => wp_append_sl w s x t ho w0 e i z size bytes ht hi hz hsize hby hzs hsz Ad n cd xs hs hown A m c news hx hr h1 h63 hbytes fun A' c' w' h2 h3 h4 => hK _ _ (h A' c' w' h2 h3 h4)
end
theorem bstep {w0 w w' : World} (h : Below w0.heap.size w0 w) (hb : Below w.heap.size w w') : Below w0.heap.size w0 w' := h.trans (hb.mono h.size)
theorem balloc {w0 w : World} (h : Below w0.heap.size w0 w) (o : Obj) : Below w0.heap.size w0 (w.alloc o) := h.alloc h.size o
theorem own_mono {w : World} {base base' sz n : Nat} {e : TypeId} {v : Value} {xs : List Value} (h : w.ownsRow base e sz v n xs) (hb : base' ≤ base) : w.ownsRow base' e sz v n xs := by
 refine ⟨h.1, ?_⟩
 rcases h.2 with h2 | ⟨g, cap, cur, hv, hg, r⟩
 ·exact .inl h2
 ·exact .inr ⟨g, cap, cur, hv, Nat.le_trans hb hg, r⟩
theorem Ow.since {w0 w w' : World} {e : TypeId} {sz n c : Nat} {A : Option Addr} {xs : List Value} (h : Ow w w' e sz A n c xs) (hb : Below w0.heap.size w0 w) : Ow w0 w' e sz A n c xs := ⟨own_mono h.1 hb.size, bstep hb h.2⟩
theorem sl_one (w : World) (t : TypeId) (v : Value) : Sl (w.alloc (.cells #[v] t)) 1 (some ⟨w.heap.size, 0, none⟩) 1 [v] := by
 refine ⟨rfl, fun _ => ⟨_, _, rfl, by simp, fun k hk => ?_⟩⟩
 obtain rfl : k = 0 := by omega
 simp
theorem one_strs (ss : List (List UInt8)) : ∀ u ∈ strs ss, u.oneCell' = true := by
 intro u hu; obtain ⟨s, _, rfl⟩ := List.mem_map.1 hu; rfl
theorem one_u8s (l : List UInt8) : ∀ u ∈ u8s l, u.oneCell' = true := by
 intro u hu; obtain ⟨s, _, rfl⟩ := List.mem_map.1 hu; rfl
theorem one_one {v : Value} (h : v.oneCell' = true) : ∀ u ∈ [v], u.oneCell' = true := by
 intro u hu; simp at hu; subst hu; exact h
theorem run_conv_str {P : Program} (w : World) (src dst e : TypeId) (A : Option Addr) (n cap : Nat) (l : List UInt8) (hs : P.underlying src = some (.slice e)) (he : P.underlying e = some (.int .u8)) (hd : P.underlying dst = some .string)
  (h : Sl w 1 A n (u8s l)) : (convert src dst (.slice A n cap)).run P w = .ok (S l) w := by
 have hl : l.length = n := by simpa using h.len
 rcases A with _ | a
 ·have hn : n = 0 := by
   rcases Nat.eq_zero_or_pos n with h0 | h0
   ·exact h0
   ·obtain ⟨_, _, h, _⟩ := h.2 h0
    cases h
  subst hn
  obtain rfl : l = [] := List.eq_nil_of_length_eq_zero hl
  exact run_convert_bytes_nil (P := P) w src e hs he 0 cap dst hd
 ·subst hl
  refine run_convert_bytes_back w src dst e a cap l hs he hd (fun j hj => ?_)
  obtain ⟨b, off, x, e1, hx, hc⟩ := h.byte hj
  cases e1
  rw [List.getElem?_eq_getElem hj] at hx
  cases hx
  rw [← hc]
  unfold Addr.add
  split <;> simp_all
theorem Tryz.infoStr : (Tryz.prog.info? 9).map (fun i => (i.zero, i.size, i.bytes)) = some (some (.string ⟨#[]⟩), 1, 16) := by kernel_rfl
theorem Tryz.infoU8 : (Tryz.prog.info? 5).map (fun i => (i.zero, i.size, i.bytes)) = some (some (.int .u8 0), 1, 1) := by kernel_rfl
end Go.Proofs.YtcednfmkiaelnaaGreatDoor
namespace Go.Proofs.YtcednfmkiaelnaaGreatDoor
open Go.ChangeShapes Go.WideShapes Go.RowKit
section
variable {H : Type} {enc : TypeId × Value → H} {P : Program} {w : World} {base : Nat} {held : Bool}
theorem addr_plain {a : Addr} {u : Value} (h : w.cell? a = some u) : a.spot = none := by
 obtain ⟨b, off, sp⟩ := a
 cases sp with
 | none => rfl
 | some k => simp only [World.cell?] at h; split at h <;> simp at h
end
end Go.Proofs.YtcednfmkiaelnaaGreatDoor
namespace Go.Proofs.YtcednfmkiaelnaaGreatDoor
open Go.ChangeShapes Go.WideShapes Go.RowKit Go.Deep
theorem choose_list {α : Type} {p : Nat → α → Prop} : ∀ n, (∀ i, i < n → ∃ x, p i x) → ∃ xs : List α, xs.length = n ∧ ∀ i x, xs[i]? = some x → p i x
 | 0, _ => ⟨[], rfl, by simp⟩
 | n + 1, h => by
  obtain ⟨xs, hl, hx⟩ := choose_list n (fun i hi => h i (by omega))
  obtain ⟨y, hy⟩ := h n (by omega)
  refine ⟨xs ++ [y], by simp [hl], fun i x hi => ?_⟩
  rcases Nat.lt_or_ge i n with hlt | hge
  ·rw [List.getElem?_append_left (by omega)] at hi
   exact hx i x hi
  ·rw [List.getElem?_append_right (by omega), hl] at hi
   have : i = n := by
    rcases Nat.lt_or_ge (i - n) 1 with h1 | h1
    ·omega
    ·rw [List.getElem?_eq_none (by simpa using h1)] at hi; cases hi
   subst this
   simp at hi
   subst hi
   exact hy
theorem flat_len {α : Type} {f : α → List Value} {sz : Nat} : ∀ {xs : List α}, (∀ x ∈ xs, (f x).length = sz) → (xs.flatMap f).length = xs.length * sz
 | [], _ => by simp
 | x :: xs, h => by
  rw [List.flatMap_cons, List.length_append, h x (by simp), flat_len (xs := xs) (fun y hy => h y (by simp [hy])), List.length_cons, Nat.succ_mul, Nat.add_comm]
theorem flat_at {α : Type} {f : α → List Value} {sz : Nat} : ∀ {xs : List α} {i j : Nat} {x : α}, (∀ x ∈ xs, (f x).length = sz) → xs[i]? = some x → j < sz → (xs.flatMap f)[i * sz + j]? = (f x)[j]?
 | [], _, _, _, _, hx, _ => by simp at hx
 | y :: xs, 0, j, x, h, hx, hj => by
  simp at hx
  subst hx
  rw [Nat.zero_mul, Nat.zero_add, List.flatMap_cons, List.getElem?_append_left (by rw [h y (by simp)]; exact hj)]
 | y :: xs, i + 1, j, x, h, hx, hj => by
  have hy := h y (by simp)
  rw [List.flatMap_cons, List.getElem?_append_right (by rw [hy, Nat.succ_mul]; omega), hy, show (i + 1) * sz + j - sz = i * sz + j by rw [Nat.succ_mul]; omega]
  exact flat_at (xs := xs) (fun z hz => h z (by simp [hz])) (by simpa using hx) hj
section
variable {H : Type} {enc : TypeId × Value → H} {P : Program} {w : World} {base : Nat} {held : Bool}
end
end Go.Proofs.YtcednfmkiaelnaaGreatDoor
namespace Go.Proofs.YtcednfmkiaelnaaGreatDoor
open Go.RowKit
def undone : List Bool → Nat
 | [] => 0
 | b :: l => (if b then 0 else 1) + undone l
theorem undone_set : ∀ {l : List Bool} {i : Nat}, l[i]? = some false → undone (l.set i true) + 1 = undone l
 | [], _, h => by simp at h
 | b :: l, 0, h => by simp at h; subst h; simp [undone]; omega
 | b :: l, i + 1, h => by simp at h; have := undone_set h; simp [undone]; omega
theorem undone_zero : ∀ {l : List Bool}, undone l = 0 → ∀ (i : Nat) (b : Bool), l[i]? = some b → b = true
 | [], _, _, _, h => by simp at h
 | c :: l, hz, 0, b, h => by simp at h; subst h; cases c <;> simp [undone] at hz ⊢
 | c :: l, hz, i + 1, b, h => by simp at h; exact undone_zero (by cases c <;> simp [undone] at hz ⊢ <;> omega) i b h
section
variable {P : Program} {ops : Array Oper} {Q : Exit → Act → World → Prop} {md : Region.Mode}
theorem ready_parts {listed : Array Bool} {i : Nat} (hs : listed.size = ops.size) (h : i ∈ Region.ready md ops listed) : ∃ o, ops[i]? = some o ∧ listed[i]? = some false ∧ ∀ e ∈ o.after, Region.binds md e = true → listed[e.on]? = some true := by
 unfold Region.ready at h
 simp only [List.mem_filter, List.mem_range, Bool.and_eq_true, Bool.not_eq_true'] at h
 obtain ⟨hlt, h1, h2⟩ := h
 have hl : i < listed.size := by omega
 refine ⟨ops[i], Array.getElem?_eq_getElem hlt, ?_, fun e he hb => ?_⟩
 ·rw [Array.getElem?_eq_getElem hl]
  simp [Array.getD, hl] at h1
  rw [h1]
 ·simp only [Array.getElem?_eq_getElem hlt, Option.map_some, Option.getD_some] at h2
  have h3 := Array.all_eq_true_iff_forall_mem.1 h2 e he
  simp only [hb, Bool.not_true, Bool.false_or] at h3
  by_cases hon : e.on < listed.size
  ·rw [Array.getElem?_eq_getElem hon]
   simp [Array.getD, hon] at h3
   rw [h3]
  ·simp [Array.getD, hon] at h3
theorem ready_mem {listed : Array Bool} {i : Nat} {o : Oper} (ho : ops[i]? = some o) (hl : listed[i]? = some false) (ha : ∀ e ∈ o.after, Region.binds md e = true → listed[e.on]? = some true) : i ∈ Region.ready md ops listed := by
 have hlt := (Array.getElem?_eq_some_iff.1 ho).1
 obtain ⟨hl1, hl2⟩ := Array.getElem?_eq_some_iff.1 hl
 unfold Region.ready
 simp only [List.mem_filter, List.mem_range, Bool.and_eq_true, Bool.not_eq_true']
 refine ⟨hlt, by simp [Array.getD, hl1, hl2], ?_⟩
 rw [ho]
 simp only [Option.map_some, Option.getD_some]
 refine Array.all_eq_true_iff_forall_mem.2 (fun e he => ?_)
 by_cases hb : Region.binds md e = true
 ·obtain ⟨h1, h2⟩ := Array.getElem?_eq_some_iff.1 (ha e he hb)
  simp [Array.getD, h1, h2]
 ·simp at hb
  simp [hb]
theorem wpAny_inv (Inv : Array Bool → Act → World → Prop)
  (hstep : ∀ listed a w i, listed.size = ops.size → Inv listed a w → i ∈ Region.ready md ops listed → wpOp P ops Q i (Inv (listed.setIfInBounds i true)) a w)
  (hdone : ∀ listed a w, listed.size = ops.size → Inv listed a w → Region.ready md ops listed = [] → Q .normal a w) :
  ∀ (fuel : Nat) (listed : Array Bool) (a : Act) (w : World), listed.size = ops.size → undone listed.toList ≤ fuel → Inv listed a w → wpAny P md ops Q fuel listed a w
 | 0, listed, a, w, hs, hu, hI => by
  have hr : Region.ready md ops listed = [] := by
   rw [List.eq_nil_iff_forall_not_mem]
   intro i hi
   obtain ⟨o, _, hl, _⟩ := ready_parts hs hi
   have := undone_zero (by omega : undone listed.toList = 0) i false (by simpa using hl)
   cases this
  exact ⟨hr, hdone listed a w hs hI hr⟩
 | fuel + 1, listed, a, w, hs, hu, hI => by
  refine ⟨hdone listed a w hs hI, fun i hi => ?_⟩
  obtain ⟨o, _, hl, _⟩ := ready_parts hs hi
  refine wpOp_mono (fun a' w' h' => ?_) (hstep listed a w i hs hI hi)
  refine wpAny_inv Inv hstep hdone fuel _ a' w' (by simpa using hs) ?_ h'
  have := undone_set (l := listed.toList) (i := i) (by simpa using hl)
  rw [Array.toList_setIfInBounds]
  omega
end
structure SameAct (ops : Array Oper) (a0 a : Act) : Prop where
 defers : a.defers = a0.defers
 size : a.tmps.size = a0.tmps.size
 slot : ∀ t, (∀ (i : Nat) (o : Oper), ops[i]? = some o → o.dst ≠ some t) → a.tmps[t]? = a0.tmps[t]?
theorem SameAct.put {ops : Array Oper} {a0 a : Act} (h : SameAct ops a0 a) {i : Nat} {o : Oper} (ho : ops[i]? = some o) (v : Value) : SameAct ops a0 (a.put o.dst v) := by
 cases hd : o.dst with
 | none => exact h
 | some d =>
  refine ⟨h.defers, by simpa [Act.put] using h.size, fun t ht => ?_⟩
  have hne : d ≠ t := fun e => ht i o ho (by rw [hd, e])
  rw [← h.slot t ht]
  simp [Act.put, hne]
theorem SameAct.eval {ops : Array Oper} {a0 a : Act} (h : SameAct ops a0 a) {t : Nat} (ht : ∀ (i : Nat) (o : Oper), ops[i]? = some o → o.dst ≠ some t) : a.eval (.tmp t) = a0.eval (.tmp t) := by
 have := h.slot t ht
 simp only [Act.eval, Array.getD_eq_getD_getElem?, this]
def Met (ops : Array Oper) (φ : Nat → Value → World → Prop) (o : Oper) (a : Act) (w : World) : Prop :=
 ∀ e ∈ o.after, Region.binds .any e = true → ∀ p d, ops[e.on]? = some p → p.dst = some d → φ e.on (a.eval (.tmp d)) w
def noDst (ops : Array Oper) (t : Nat) : Bool := ops.all (fun o => o.dst != some t)
theorem SameAct.keeps {ops : Array Oper} {a0 a : Act} (h : SameAct ops a0 a) {t : Nat} (hn : noDst ops t = true) : a.eval (.tmp t) = a0.eval (.tmp t) :=
 h.eval (fun i o ho e => by
  have hm := Array.mem_of_getElem? ho
  have h1 := Array.all_eq_true_iff_forall_mem.1 hn o hm
  rw [e] at h1
  simp at h1)
def waitsFor (ops : Array Oper) (o : Oper) (j d : Nat) : Bool := o.after.any (fun e => e.on == j && Region.binds .any e) && (match ops[j]? with | some p => p.dst == some d | none => false)
theorem Met.get {ops : Array Oper} {φ : Nat → Value → World → Prop} {o : Oper} {a : Act} {w : World} (h : Met ops φ o a w) (j d : Nat) (hc : waitsFor ops o j d = true) : φ j (a.eval (.tmp d)) w := by
 simp only [waitsFor, Bool.and_eq_true] at hc
 obtain ⟨h1, h2⟩ := hc
 rw [← Array.any_toList, List.any_eq_true] at h1
 obtain ⟨e, he, h1⟩ := h1
 simp only [Bool.and_eq_true, beq_iff_eq] at h1
 obtain ⟨rfl, hb⟩ := h1
 split at h2
 ·rename_i p hp
  exact h e (Array.mem_toList_iff.1 he) hb p d hp (by simpa using h2)
 ·cases h2
section
variable {P : Program} {o : Oper} {a : Act} {w w' : World} {K : Act → World → Prop} {Q : Exit → Act → World → Prop} {v v' : Value} {x : Operand}
theorem wp_value (h : (execOp a.eval o).run P w = .ok (.value v) w') (hk : K (a.put o.dst v) w') : Oper.wp P o a w K Q := by
 unfold Oper.wp; rw [h]; exact hk
theorem st_move (ho : o.op = .move x) (hx : a.eval x = v) : (execOp a.eval o).run P w = .ok (.value v) w := by simp only [execOp, ho, hx]; rfl
theorem st_nil {p : Addr} (ho : o.op = .nilCheck x) (hx : a.eval x = .pointer (some p)) : (execOp a.eval o).run P w = .ok (.value (.pointer (some p))) w := by simp only [execOp, ho, hx]; rfl
theorem st_field {s : TypeId} {f : Nat} (ho : o.op = .fieldAddr s x f) (hx : a.eval x = v) (hr : (Instr.fieldAt s v f).run P w = .ok v' w) : (execOp a.eval o).run P w = .ok (.value v') w := by
 simp only [execOp, ho, hx, Sem.run_bind, hr, Result.andThen_ok, Sem.run_pure]
theorem st_load {s : TypeId} (ho : o.op = .load s x) (hx : a.eval x = v) (hr : (Instr.loadAt s v).run P w = .ok v' w) : (execOp a.eval o).run P w = .ok (.value v') w := by
 simp only [execOp, ho, hx, Sem.run_bind, hr, Result.andThen_ok, Sem.run_pure]
theorem eval_getD {t : Nat} (h : a.eval (.tmp t) = v) : a.tmps[t]?.getD undef = v := by rw [← h]; simp [Act.eval]
end
def regionOk2 (ops : Array Oper) (n : Nat) : Bool :=
 ops.size == n + 1 && (List.range (n + 1)).all (fun i => match ops[i]? with
  | some o => (match o.guard with | none => true | some (g, _) => g < i && i != n) && o.after.all (fun e => e.on < i) && (List.range i).all (fun j => match ops[j]? with
   | some p => (match p.dst, o.dst with | some x, some y => x != y | _, _ => true)
   | none => true)
  | none => false) &&
 (List.range n).all (fun j => (List.range (n + 1)).any (fun k => decide (j < k) && (match ops[k]? with
  | some o => o.after.any (fun e => Region.binds .any e && e.on == j)
  | none => false)))
theorem wp_region_guards {P : Program} {ops : Array Oper} {Q : Exit → Act → World → Prop} {id : Nat} {a0 : Act} {w0 : World} (hm : P.follows .mixedOrders = true) (n : Nat) (hok : regionOk2 ops n = true)
  (hsz : ∀ (i : Nat) (o : Oper) (d : Nat), ops[i]? = some o → o.dst = some d → d < a0.tmps.size)
  (φ : Nat → Value → World → Prop) (hmono : ∀ j v w w', φ j v w → Below w.heap.size w w' → φ j v w')
  (hstep : ∀ (i : Nat) (o : Oper), i < n → ops[i]? = some o → ∀ a w, Below w0.heap.size w0 w → SameAct ops a0 a → Met ops φ o a w →
   if Region.wanted o (yielded ops a.tmps) = true then Oper.wp P o a w (fun a' w' => ∃ v, a' = a.put o.dst v ∧ φ i v w' ∧ Below w.heap.size w w') Q else φ i undef w)
  (hlast : ∀ (o : Oper), ops[n]? = some o → ∀ a w, Below w0.heap.size w0 w → SameAct ops a0 a → Met ops φ o a w → Oper.wp P o a w (fun a' w' => Q .normal a' w') Q) :
  (Code.region id ops true).wp P Q a0 w0 := by
 have hok' := hok
 simp only [regionOk2, Bool.and_eq_true, beq_iff_eq, List.all_eq_true, List.mem_range] at hok'
 obtain ⟨⟨hn, hop⟩, hcov⟩ := hok'
 have hback : ∀ (i : Nat) (o : Oper), ops[i]? = some o → (i = n → o.guard = none) ∧ (∀ e ∈ o.after, e.on < i) ∧ ∀ (j : Nat) (p : Oper) (x : Nat), j < i → ops[j]? = some p → p.dst = some x → o.dst ≠ some x := by
  intro i o ho
  have hlt := (Array.getElem?_eq_some_iff.1 ho).1
  have h1 := hop i (by omega)
  rw [ho] at h1
  simp only [Bool.and_eq_true, List.all_eq_true, List.mem_range] at h1
  obtain ⟨⟨h2, h3⟩, h4⟩ := h1
  refine ⟨fun hi => by
   cases hg : o.guard with
   | none => rfl
   | some q => rw [hg] at h2; simp at h2; omega, fun e he => by simpa using Array.all_eq_true_iff_forall_mem.1 h3 e he, fun j p x hj hp hx hd => ?_⟩
  have h5 := h4 j hj
  rw [hp] at h5
  simp only [hx, hd] at h5
  simp at h5
 have hdst : ∀ (i j : Nat) (o p : Oper) (x : Nat), i ≠ j → ops[i]? = some o → ops[j]? = some p → o.dst = some x → p.dst ≠ some x := by
  intro i j o p x hne ho hp hx hpx
  rcases Nat.lt_or_gt_of_ne hne with h | h
  ·exact (hback j p hp).2.2 i o x h ho hx hpx
  ·exact (hback i o ho).2.2 j p x h hp hpx hx
 refine wp_region_any hm ?_
 refine wpAny_inv (fun listed a w => (∀ (i : Nat) (o : Oper), ops[i]? = some o → listed[i]? = some true → ∀ e ∈ o.after, Region.binds .any e = true → listed[e.on]? = some true) ∧
   (listed[n]? = some false → SameAct ops a0 a ∧ Below w0.heap.size w0 w ∧ ∀ (j : Nat) (p : Oper) (d : Nat), j < n → ops[j]? = some p → p.dst = some d → listed[j]? = some true → φ j (a.eval (.tmp d)) w) ∧
   (listed[n]? = some true → (∀ j, j < n → listed[j]? = some true) ∧ Q .normal a w)) ?_ ?_ ops.size (Array.replicate ops.size false) a0 _ (by simp) ?_ ?_
 ·rintro listed a w i hs ⟨hcl, hun, hfin⟩ hi
  obtain ⟨o, ho, hl, haft⟩ := ready_parts hs hi
  have hlt := (Array.getElem?_eq_some_iff.1 ho).1
  have hnl : listed[n]? = some false := by
   cases hb : listed[n]? with
   | none => rw [Array.getElem?_eq_none_iff] at hb; omega
   | some b => cases b with
    | false => rfl
    | true =>
     obtain ⟨h1, _⟩ := hfin hb
     rcases Nat.lt_or_ge i n with h | h
     ·rw [h1 i h] at hl; cases hl
     ·obtain rfl : i = n := by omega
      rw [hb] at hl; cases hl
  obtain ⟨hsame, hbel, hphi⟩ := hun hnl
  have hmet : Met ops φ o a w := by
   intro e he hb p d hp hd
   have hon := (hback i o ho).2.1 e he
   exact hphi e.on p d (by omega) hp hd (haft e he hb)
  have hset : ∀ k, (listed.setIfInBounds i true)[k]? = if i = k then some true else listed[k]? := by
   intro k
   rw [Array.getElem?_setIfInBounds]
   split
   ·rename_i h; subst h; rw [if_pos (by omega)]
   ·rfl
  refine wpOp_step ho (fun K' hK' => ?_)
  have hcl' : ∀ (k : Nat) (p : Oper), ops[k]? = some p → (listed.setIfInBounds i true)[k]? = some true → ∀ e ∈ p.after, Region.binds .any e = true → (listed.setIfInBounds i true)[e.on]? = some true := by
   intro k p hp hk e he hb
   rw [hset] at hk ⊢
   split
   ·rfl
   ·by_cases hik : i = k
    ·subst hik
     obtain rfl : p = o := Option.some.inj (hp.symm.trans ho)
     exact haft e he hb
    ·rw [if_neg hik] at hk
     exact hcl k p hp hk e he hb
  rcases Nat.lt_or_ge i n with hin | hin
  ·have key : ∀ (v : Value) (w' : World), φ i v w' → Below w.heap.size w w' → K' (a.put o.dst v) w' := by
    intro v w' hv hb'
    refine hK' _ _ ?_
    refine ⟨hcl', fun _ => ⟨hsame.put ho v, hbel.trans (hb'.mono hbel.size), fun j p d hj hp hd hlj => ?_⟩, fun hf => ?_⟩
    ·rw [hset] at hlj
     by_cases hij : i = j
     ·subst hij
      obtain rfl : p = o := Option.some.inj (hp.symm.trans ho)
      have hdlt := hsz i p d ho hd
      rw [hd]
      have : (a.put (some d) v).eval (.tmp d) = v := by
       simp [Act.put, Act.eval, Array.getD_eq_getD_getElem?, hsame.size, hdlt]
      rw [this]
      exact hv
     ·rw [if_neg hij] at hlj
      have hne : o.dst ≠ some d := hdst j i p o d (fun e => hij e.symm) hp ho hd
      have : (a.put o.dst v).eval (.tmp d) = a.eval (.tmp d) := by
       cases hod : o.dst with
       | none => rfl
       | some x =>
        have hxd : x ≠ d := fun e => hne (by rw [hod, e])
        simp [Act.put, Act.eval, Array.getD_eq_getD_getElem?, hxd]
      rw [this]
      exact hmono _ _ _ _ (hphi j p d hj hp hd hlj) hb'
    ·rw [hset, if_neg (by omega), hnl] at hf
     cases hf
   have hst := hstep i o hin ho a w hbel hsame hmet
   split
   ·rename_i hw
    rw [if_pos hw] at hst
    refine Oper.wp_mono (fun a' w' h' => ?_) hst
    obtain ⟨v, rfl, hv, hb'⟩ := h'
    exact key v w' hv hb'
   ·rename_i hw
    rw [if_neg hw] at hst
    exact key undef w hst (Below.refl _ _)
  ·obtain rfl : i = n := by omega
   rw [if_pos (by simp [Region.wanted, (hback i o ho).1 rfl])]
   refine Oper.wp_mono (fun a' w' h' => hK' a' w' ?_) (hlast o ho a w hbel hsame hmet)
   refine ⟨hcl', fun hf => ?_, fun _ => ⟨fun j hj => ?_, h'⟩⟩
   ·rw [hset, if_pos rfl] at hf
    cases hf
   ·rw [hset, if_neg (by omega)]
    have hall : ∀ (d j : Nat), j < i → i - j ≤ d → listed[j]? = some true := by
     intro d
     induction d with
     | zero => intro j hj hd; omega
     | succ d ih =>
      intro j hj hd
      have h1 := hcov j hj
      rw [List.any_eq_true] at h1
      obtain ⟨k, hk, h1⟩ := h1
      rw [List.mem_range] at hk
      simp only [Bool.and_eq_true, decide_eq_true_eq] at h1
      obtain ⟨hjk, h1⟩ := h1
      split at h1
      ·rename_i q hq
       rw [← Array.any_toList, List.any_eq_true] at h1
       obtain ⟨e, he, h1⟩ := h1
       simp only [Bool.and_eq_true, beq_iff_eq] at h1
       obtain ⟨hb, rfl⟩ := h1
       replace he := Array.mem_toList_iff.1 he
       by_cases hki : k = i
       ·subst hki
        obtain rfl : q = o := Option.some.inj (hq.symm.trans ho)
        exact haft e he hb
       ·exact hcl k q hq (ih k (by omega) (by omega)) e he hb
      ·cases h1
    exact hall i j hj (by omega)
 ·rintro listed a w hs ⟨hcl, hun, hfin⟩ hr
  have hall : ∀ i, i ≤ n → listed[i]? = some true := by
   intro i
   induction i using Nat.strongRecOn with
   | _ i ih =>
    intro hi
    have hlt : i < listed.size := by omega
    have hlo : i < ops.size := by omega
    cases hb : listed[i] with
    | true => rw [Array.getElem?_eq_getElem hlt, hb]
    | false =>
     have hmem := ready_mem (md := .any) (Array.getElem?_eq_getElem hlo) (by rw [Array.getElem?_eq_getElem hlt, hb] : listed[i]? = some false) (fun e he _ => ih e.on ((hback i _ (Array.getElem?_eq_getElem hlo)).2.1 e he) (by have := (hback i _ (Array.getElem?_eq_getElem hlo)).2.1 e he; omega))
     rw [hr] at hmem
     cases hmem
  exact (hfin (hall n (Nat.le_refl _))).2
 ·have hu : ∀ m, undone (List.replicate m false) = m := by
   intro m
   induction m with
   | zero => rfl
   | succ m ih => rw [List.replicate_succ, undone, ih]; simp; omega
  simp [hu]
 ·refine ⟨fun i o ho hl => ?_, fun _ => ⟨⟨rfl, rfl, fun _ _ => rfl⟩, ⟨rfl, rfl, rfl, Nat.le_refl _, fun _ _ => rfl⟩, fun j p d hj hp hd hl => ?_⟩, fun hl => ?_⟩
  ·rw [Array.getElem?_replicate] at hl; split at hl <;> cases hl
  ·rw [Array.getElem?_replicate] at hl; split at hl <;> cases hl
  ·rw [Array.getElem?_replicate] at hl; split at hl <;> cases hl
theorem wanted_of {ops : Array Oper} {o p : Oper} {a : Act} {j d : Nat} {b c : Bool} (hg : o.guard = some (j, b)) (hp : ops[j]? = some p) (hd : p.dst = some d) (hv : a.eval (.tmp d) = .bool c) : Region.wanted o (yielded ops a.tmps) = (c == b) := by
 have h : a.tmps[d]? = some (.bool c) := by
  simp only [Act.eval, Array.getD_eq_getD_getElem?] at hv
  cases hx : a.tmps[d]? with
  | none => rw [hx] at hv; simp [undef] at hv
  | some u => rw [hx] at hv; simp at hv; rw [hv]
 unfold Region.wanted yielded
 rw [hg]
 simp [hp, hd, h]
theorem wanted_none {o : Oper} (y : Nat → Option Bool) (hg : o.guard = none) : Region.wanted o y = true := by simp [Region.wanted, hg]
theorem act_fold {a : Act} : ∀ (D : List Nat) (acc : Act), acc.tmps.size = a.tmps.size → acc.defers = a.defers → (∀ t, t ∉ D → acc.tmps[t]? = a.tmps[t]?) → D.foldl (fun acc d => acc.put (some d) (a.eval (.tmp d))) acc = a
 | [], acc, hs, hd, ht => by
  obtain ⟨t0, d0⟩ := acc
  obtain ⟨t1, d1⟩ := a
  simp only at hs hd ht
  subst hd
  have : t0 = t1 := Array.ext_getElem? (fun i => ht i (by simp))
  subst this
  rfl
 | d :: D, acc, hs, hd, ht => by
  rw [List.foldl_cons]
  refine act_fold D _ (by simpa [Act.put] using hs) hd (fun t hn => ?_)
  by_cases e : d = t
  ·subst e
   simp only [Act.put, Act.eval, Array.getD_eq_getD_getElem?]
   rw [Array.getElem?_setIfInBounds, if_pos rfl]
   by_cases hlt : d < acc.tmps.size
   ·rw [if_pos hlt, Array.getElem?_eq_getElem (by omega : d < a.tmps.size)]; rfl
   ·rw [if_neg hlt, Array.getElem?_eq_none (by omega)]
  ·simp only [Act.put]
   rw [Array.getElem?_setIfInBounds, if_neg e]
   exact ht t (by simp [Ne.symm e, hn])
def dstsIn (ops : Array Oper) (D : List Nat) : Bool := ops.all (fun o => match o.dst with | some d => D.contains d | none => true)
theorem SameAct.frame {ops : Array Oper} {a0 a : Act} (h : SameAct ops a0 a) (D : List Nat) (hD : dstsIn ops D = true) : a = D.foldl (fun acc d => acc.put (some d) (a.eval (.tmp d))) a0 := by
 refine (act_fold D a0 h.size.symm h.defers.symm (fun t ht => ?_)).symm
 refine (h.slot t (fun i o ho e => ht ?_)).symm
 have h1 := Array.all_eq_true_iff_forall_mem.1 hD o (Array.mem_of_getElem? ho)
 rw [e] at h1
 simpa using h1
def pairOk (ops : Array Oper) (n c1 c2 : Nat) : Bool :=
 decide (c1 < c2) && decide (c2 < n) && (match ops[c2]? with
  | some o => o.guard.isNone && o.after.any (fun e => Region.binds .any e && e.on == c1)
  | none => false) && (match ops[c1]? with
  | some o => o.guard.isNone
  | none => false)
def PairSt (J : Nat → World → Prop) (c1 c2 : Nat) (listed : Array Bool) (w : World) : Prop :=
 (listed[c1]? = some false ∧ listed[c2]? = some false ∧ J 0 w) ∨ (listed[c1]? = some true ∧ listed[c2]? = some false ∧ J 1 w) ∨ (listed[c1]? = some true ∧ listed[c2]? = some true ∧ J 2 w)
theorem SameAct.all {ops : Array Oper} {n : Nat} {a0 a : Act} (h : SameAct (ops.extract 0 n) a0 a) : SameAct ops a0 a :=
 ⟨h.defers, h.size, fun t ht => h.slot t (fun i o ho => by
  rw [Array.getElem?_extract] at ho
  split at ho
  ·rw [Nat.zero_add] at ho; exact ht i o ho
  ·cases ho)⟩
theorem wp_region_pairR {P : Program} {ops : Array Oper} {Q : Exit → Act → World → Prop} {id : Nat} {a0 : Act} {w0 : World} (hm : P.follows .mixedOrders = true) (n : Nat) (hok : regionOk2 ops n = true)
  (hsz : ∀ (i : Nat) (o : Oper) (d : Nat), ops[i]? = some o → o.dst = some d → d < a0.tmps.size)
  (φ : Nat → Value → Prop) (c1 c2 : Nat) (hpair : pairOk ops n c1 c2 = true) (R : World → World → Prop) (hR : ∀ w, R w w) (J : Nat → World → Prop) (hJ : ∀ k w w', J k w → R w w' → J k w') (h0 : J 0 w0.drew)
  (hstep : ∀ (i : Nat) (o : Oper), i < n → i ≠ c1 → i ≠ c2 → ops[i]? = some o → ∀ a w k, J k w → k ≤ 2 → SameAct (ops.extract 0 n) a0 a → Met ops (fun j v _ => φ j v) o a w →
   if Region.wanted o (yielded ops a.tmps) = true then Oper.wp P o a w (fun a' w' => ∃ v, a' = a.put o.dst v ∧ φ i v ∧ R w w') Q else φ i undef)
  (hc1 : ∀ (o : Oper), ops[c1]? = some o → ∀ a w, J 0 w → SameAct (ops.extract 0 n) a0 a → Met ops (fun j v _ => φ j v) o a w → Oper.wp P o a w (fun a' w' => ∃ v, a' = a.put o.dst v ∧ φ c1 v ∧ J 1 w') Q)
  (hc2 : ∀ (o : Oper), ops[c2]? = some o → ∀ a w, J 1 w → SameAct (ops.extract 0 n) a0 a → Met ops (fun j v _ => φ j v) o a w → Oper.wp P o a w (fun a' w' => ∃ v, a' = a.put o.dst v ∧ φ c2 v ∧ J 2 w') Q)
  (hlast : ∀ (o : Oper), ops[n]? = some o → ∀ a w, J 2 w → SameAct (ops.extract 0 n) a0 a → Met ops (fun j v _ => φ j v) o a w → Oper.wp P o a w (fun a' w' => Q .normal a' w') Q) :
  (Code.region id ops true).wp P Q a0 w0 := by
 have hok' := hok
 simp only [regionOk2, Bool.and_eq_true, beq_iff_eq, List.all_eq_true, List.mem_range] at hok'
 obtain ⟨⟨hn, hop⟩, hcov⟩ := hok'
 have hback : ∀ (i : Nat) (o : Oper), ops[i]? = some o → (i = n → o.guard = none) ∧ (∀ e ∈ o.after, e.on < i) ∧ ∀ (j : Nat) (p : Oper) (x : Nat), j < i → ops[j]? = some p → p.dst = some x → o.dst ≠ some x := by
  intro i o ho
  have hlt := (Array.getElem?_eq_some_iff.1 ho).1
  have h1 := hop i (by omega)
  rw [ho] at h1
  simp only [Bool.and_eq_true, List.all_eq_true, List.mem_range] at h1
  obtain ⟨⟨h2, h3⟩, h4⟩ := h1
  refine ⟨fun hi => by
   cases hg : o.guard with
   | none => rfl
   | some q => rw [hg] at h2; simp at h2; omega, fun e he => by simpa using Array.all_eq_true_iff_forall_mem.1 h3 e he, fun j p x hj hp hx hd => ?_⟩
  have h5 := h4 j hj
  rw [hp] at h5
  simp only [hx, hd] at h5
  simp at h5
 have hdst : ∀ (i j : Nat) (o p : Oper) (x : Nat), i ≠ j → ops[i]? = some o → ops[j]? = some p → o.dst = some x → p.dst ≠ some x := by
  intro i j o p x hne ho hp hx hpx
  rcases Nat.lt_or_gt_of_ne hne with h | h
  ·exact (hback j p hp).2.2 i o x h ho hx hpx
  ·exact (hback i o ho).2.2 j p x h hp hpx hx
 simp only [pairOk, Bool.and_eq_true, decide_eq_true_eq] at hpair
 obtain ⟨⟨⟨hlt12, hlt2⟩, hp2⟩, hp1⟩ := hpair
 have hg1 : ∀ o, ops[c1]? = some o → o.guard = none := fun o ho => by rw [ho] at hp1; simpa using hp1
 have hg2 : ∀ o, ops[c2]? = some o → o.guard = none ∧ ∃ e ∈ o.after, Region.binds .any e = true ∧ e.on = c1 := fun o ho => by
  rw [ho] at hp2
  simp only [Bool.and_eq_true] at hp2
  refine ⟨by simpa using hp2.1, ?_⟩
  have h2 := hp2.2
  rw [← Array.any_toList, List.any_eq_true] at h2
  obtain ⟨e, he, h2⟩ := h2
  simp only [Bool.and_eq_true, beq_iff_eq] at h2
  exact ⟨e, Array.mem_toList_iff.1 he, h2.1, h2.2⟩
 have hex : ∀ (i : Nat) (o : Oper), i < n → ops[i]? = some o → (ops.extract 0 n)[i]? = some o := fun i o hi ho => by
  have := (Array.getElem?_eq_some_iff.1 ho).1
  rw [Array.getElem?_extract, if_pos (by omega), Nat.zero_add, ho]
 refine wp_region_any hm ?_
 refine wpAny_inv (fun listed a w => (∀ (i : Nat) (o : Oper), ops[i]? = some o → listed[i]? = some true → ∀ e ∈ o.after, Region.binds .any e = true → listed[e.on]? = some true) ∧
   (listed[n]? = some false → SameAct (ops.extract 0 n) a0 a ∧ PairSt J c1 c2 listed w ∧ ∀ (j : Nat) (p : Oper) (d : Nat), j < n → ops[j]? = some p → p.dst = some d → listed[j]? = some true → φ j (a.eval (.tmp d))) ∧
   (listed[n]? = some true → (∀ j, j < n → listed[j]? = some true) ∧ Q .normal a w)) ?_ ?_ ops.size (Array.replicate ops.size false) a0 _ (by simp) ?_ ?_
 ·rintro listed a w i hs ⟨hcl, hun, hfin⟩ hi
  obtain ⟨o, ho, hl, haft⟩ := ready_parts hs hi
  have hlt := (Array.getElem?_eq_some_iff.1 ho).1
  have hnl : listed[n]? = some false := by
   cases hb : listed[n]? with
   | none => rw [Array.getElem?_eq_none_iff] at hb; omega
   | some b => cases b with
    | false => rfl
    | true =>
     obtain ⟨h1, _⟩ := hfin hb
     rcases Nat.lt_or_ge i n with h | h
     ·rw [h1 i h] at hl; cases hl
     ·obtain rfl : i = n := by omega
      rw [hb] at hl; cases hl
  obtain ⟨hsame, hbel, hphi⟩ := hun hnl
  have hmet : Met ops (fun j v _ => φ j v) o a w := by
   intro e he hb p d hp hd
   have hon := (hback i o ho).2.1 e he
   exact hphi e.on p d (by omega) hp hd (haft e he hb)
  have hset : ∀ k, (listed.setIfInBounds i true)[k]? = if i = k then some true else listed[k]? := by
   intro k
   rw [Array.getElem?_setIfInBounds]
   split
   ·rename_i h; subst h; rw [if_pos (by omega)]
   ·rfl
  refine wpOp_step ho (fun K' hK' => ?_)
  have hcl' : ∀ (k : Nat) (p : Oper), ops[k]? = some p → (listed.setIfInBounds i true)[k]? = some true → ∀ e ∈ p.after, Region.binds .any e = true → (listed.setIfInBounds i true)[e.on]? = some true := by
   intro k p hp hk e he hb
   rw [hset] at hk ⊢
   split
   ·rfl
   ·by_cases hik : i = k
    ·subst hik
     obtain rfl : p = o := Option.some.inj (hp.symm.trans ho)
     exact haft e he hb
    ·rw [if_neg hik] at hk
     exact hcl k p hp hk e he hb
  rcases Nat.lt_or_ge i n with hin | hin
  ·have key : ∀ (v : Value) (w' : World), φ i v → PairSt J c1 c2 (listed.setIfInBounds i true) w' → K' (a.put o.dst v) w' := by
    intro v w' hv hst'
    refine hK' _ _ ?_
    refine ⟨hcl', fun _ => ⟨hsame.put (hex i o hin ho) v, hst', fun j p d hj hp hd hlj => ?_⟩, fun hf => ?_⟩
    ·rw [hset] at hlj
     by_cases hij : i = j
     ·subst hij
      obtain rfl : p = o := Option.some.inj (hp.symm.trans ho)
      have hdlt := hsz i p d ho hd
      rw [hd]
      have : (a.put (some d) v).eval (.tmp d) = v := by
       simp [Act.put, Act.eval, Array.getD_eq_getD_getElem?, hsame.size, hdlt]
      rw [this]
      exact hv
     ·rw [if_neg hij] at hlj
      have hne : o.dst ≠ some d := hdst j i p o d (fun e => hij e.symm) hp ho hd
      have : (a.put o.dst v).eval (.tmp d) = a.eval (.tmp d) := by
       cases hod : o.dst with
       | none => rfl
       | some x =>
        have hxd : x ≠ d := fun e => hne (by rw [hod, e])
        simp [Act.put, Act.eval, Array.getD_eq_getD_getElem?, hxd]
      rw [this]
      exact hphi j p d hj hp hd hlj
    ·rw [hset, if_neg (by omega), hnl] at hf
     cases hf
   by_cases hi1 : i = c1
   ·subst hi1
    obtain ⟨hb1, hb2, hJ0⟩ : listed[i]? = some false ∧ listed[c2]? = some false ∧ J 0 w := by
     rcases hbel with h | ⟨h, _⟩ | ⟨h, _⟩
     ·exact h
     ·rw [h] at hl; cases hl
     ·rw [h] at hl; cases hl
    rw [if_pos (by simp [Region.wanted, hg1 o ho])]
    refine Oper.wp_mono (fun a' w' h' => ?_) (hc1 o ho a w hJ0 hsame hmet)
    obtain ⟨v, rfl, hv, hj⟩ := h'
    exact key v w' hv (.inr (.inl ⟨by rw [hset, if_pos rfl], by rw [hset, if_neg (by omega)]; exact hb2, hj⟩))
   ·by_cases hi2 : i = c2
    ·subst hi2
     obtain ⟨hgn, e, he, hbe, hon⟩ := hg2 o ho
     have hc1l : listed[c1]? = some true := hon ▸ haft e he hbe
     obtain ⟨hb1, hb2, hJ1⟩ : listed[c1]? = some true ∧ listed[i]? = some false ∧ J 1 w := by
      rcases hbel with ⟨h, _⟩ | h | ⟨_, h, _⟩
      ·rw [hc1l] at h; cases h
      ·exact h
      ·rw [h] at hl; cases hl
     rw [if_pos (by simp [Region.wanted, hgn])]
     refine Oper.wp_mono (fun a' w' h' => ?_) (hc2 o ho a w hJ1 hsame hmet)
     obtain ⟨v, rfl, hv, hj⟩ := h'
     exact key v w' hv (.inr (.inr ⟨by rw [hset, if_neg hi1]; exact hb1, by rw [hset, if_pos rfl], hj⟩))
    ·have hsome : ∃ k, J k w ∧ k ≤ 2 := by
      rcases hbel with ⟨_, _, h⟩ | ⟨_, _, h⟩ | ⟨_, _, h⟩
      ·exact ⟨0, h, by omega⟩
      ·exact ⟨1, h, by omega⟩
      ·exact ⟨2, h, by omega⟩
     have hkeep : ∀ w', R w w' → PairSt J c1 c2 (listed.setIfInBounds i true) w' := by
      intro w' hb
      unfold PairSt
      rw [hset, hset, if_neg hi1, if_neg hi2]
      rcases hbel with ⟨h1, h2, h⟩ | ⟨h1, h2, h⟩ | ⟨h1, h2, h⟩
      ·exact .inl ⟨h1, h2, hJ _ _ _ h hb⟩
      ·exact .inr (.inl ⟨h1, h2, hJ _ _ _ h hb⟩)
      ·exact .inr (.inr ⟨h1, h2, hJ _ _ _ h hb⟩)
     obtain ⟨k, hk, hk2⟩ := hsome
     have hst := hstep i o hin hi1 hi2 ho a w k hk hk2 hsame hmet
     split
     ·rename_i hw
      rw [if_pos hw] at hst
      refine Oper.wp_mono (fun a' w' h' => ?_) hst
      obtain ⟨v, rfl, hv, hb'⟩ := h'
      exact key v w' hv (hkeep w' hb')
     ·rename_i hw
      rw [if_neg hw] at hst
      exact key undef w hst (hkeep w (hR w))
  ·obtain rfl : i = n := by omega
   rw [if_pos (by simp [Region.wanted, (hback i o ho).1 rfl])]
   have hall : ∀ (d j : Nat), j < i → i - j ≤ d → listed[j]? = some true := by
    intro d
    induction d with
    | zero => intro j hj hd; omega
    | succ d ih =>
     intro j hj hd
     have h1 := hcov j hj
     rw [List.any_eq_true] at h1
     obtain ⟨k, hk, h1⟩ := h1
     rw [List.mem_range] at hk
     simp only [Bool.and_eq_true, decide_eq_true_eq] at h1
     obtain ⟨hjk, h1⟩ := h1
     split at h1
     ·rename_i q hq
      rw [← Array.any_toList, List.any_eq_true] at h1
      obtain ⟨e, he, h1⟩ := h1
      simp only [Bool.and_eq_true, beq_iff_eq] at h1
      obtain ⟨hb, rfl⟩ := h1
      replace he := Array.mem_toList_iff.1 he
      by_cases hki : k = i
      ·subst hki
       obtain rfl : q = o := Option.some.inj (hq.symm.trans ho)
       exact haft e he hb
      ·exact hcl k q hq (ih k (by omega) (by omega)) e he hb
     ·cases h1
   have hJ2 : J 2 w := by
    rcases hbel with ⟨h, _⟩ | ⟨_, h, _⟩ | ⟨_, _, h⟩
    ·rw [hall i c1 (by omega) (by omega)] at h; cases h
    ·rw [hall i c2 (by omega) (by omega)] at h; cases h
    ·exact h
   refine Oper.wp_mono (fun a' w' h' => hK' a' w' ?_) (hlast o ho a w hJ2 hsame hmet)
   refine ⟨hcl', fun hf => ?_, fun _ => ⟨fun j hj => ?_, h'⟩⟩
   ·rw [hset, if_pos rfl] at hf
    cases hf
   ·rw [hset, if_neg (by omega)]
    exact hall i j hj (by omega)
 ·rintro listed a w hs ⟨hcl, hun, hfin⟩ hr
  have hall : ∀ i, i ≤ n → listed[i]? = some true := by
   intro i
   induction i using Nat.strongRecOn with
   | _ i ih =>
    intro hi
    have hlt : i < listed.size := by omega
    have hlo : i < ops.size := by omega
    cases hb : listed[i] with
    | true => rw [Array.getElem?_eq_getElem hlt, hb]
    | false =>
     have hmem := ready_mem (md := .any) (Array.getElem?_eq_getElem hlo) (by rw [Array.getElem?_eq_getElem hlt, hb] : listed[i]? = some false) (fun e he _ => ih e.on ((hback i _ (Array.getElem?_eq_getElem hlo)).2.1 e he) (by have := (hback i _ (Array.getElem?_eq_getElem hlo)).2.1 e he; omega))
     rw [hr] at hmem
     cases hmem
  exact (hfin (hall n (Nat.le_refl _))).2
 ·have hu : ∀ m, undone (List.replicate m false) = m := by
   intro m
   induction m with
   | zero => rfl
   | succ m ih => rw [List.replicate_succ, undone, ih]; simp; omega
  simp [hu]
 ·refine ⟨fun i o ho hl => ?_, fun _ => ⟨⟨rfl, rfl, fun _ _ => rfl⟩, .inl ⟨by rw [Array.getElem?_replicate, if_pos (by omega)], by rw [Array.getElem?_replicate, if_pos (by omega)], h0⟩, fun j p d hj hp hd hl => ?_⟩, fun hl => ?_⟩
  ·rw [Array.getElem?_replicate] at hl; split at hl <;> cases hl
  ·rw [Array.getElem?_replicate] at hl; split at hl <;> cases hl
  ·rw [Array.getElem?_replicate] at hl; split at hl <;> cases hl
def cutA (A : Option Addr) (c l sz : Nat) : Option Addr := if c = l then A else A.map (·.add (l * sz))
theorem cutA_blk {A : Option Addr} {c l sz : Nat} {a : Addr} (h : cutA A c l sz = some a) : ∃ a0, A = some a0 ∧ a.block = a0.block := by
 unfold cutA at h
 split at h
 ·exact ⟨a, h, rfl⟩
 ·cases A with
  | none => simp at h
  | some a0 =>
   simp only [Option.map_some, Option.some.injEq] at h
   refine ⟨a0, rfl, ?_⟩
   rw [← h]; unfold Addr.add; split <;> rfl
theorem Ow.blk {w0 w : World} {e : TypeId} {sz n c : Nat} {A : Option Addr} {xs : List Value} (h : Ow w0 w e sz A n c xs) {a : Addr} (ha : A = some a) : w0.heap.size ≤ a.block := by
 rcases h.1.2 with ⟨hv, _⟩ | ⟨g, cap, cur, hv, hg, _⟩
 ·injection hv with h1; rw [h1] at ha; cases ha
 ·injection hv with h1; rw [h1] at ha; cases ha; exact hg
def BlkT (w : World) (g : Nat) (t : TypeId) : Prop := ∃ cur fr, w.heap[g]? = some (.cells cur t fr)
theorem BlkT.lt {w : World} {g : Nat} {t : TypeId} (h : BlkT w g t) : g < w.heap.size := by
 obtain ⟨cur, fr, h⟩ := h
 exact (Array.getElem?_eq_some_iff.1 h).1
theorem BlkT.step {w w' : World} {g : Nat} {t : TypeId} (h : BlkT w g t) (hb : Below w.heap.size w w') : BlkT w' g t := by
 have hlt := h.lt
 obtain ⟨cur, fr, h⟩ := h
 exact ⟨cur, fr, (hb.block g hlt).trans h⟩
theorem BlkT.set_ {w : World} {g : Nat} {t : TypeId} (h : BlkT w g t) (p : Addr) (u : Value) : BlkT (w.setCell p u) g t := by
 obtain ⟨cur, fr, h⟩ := h
 by_cases hp : g = p.block
 ·subst hp
  unfold BlkT
  simp only [World.setCell, Array.getElem?_modify, h]
  simp
 ·exact ⟨cur, fr, (Below.heap_setCell w p u g hp).trans h⟩
theorem BlkT.grown {w w' : World} {g : Nat} {t : TypeId} {row : Option Nat} (h : BlkT w g t) (hg : w.grownBy w' row) (hne : some g ≠ row) : BlkT w' g t := by
 have hlt := h.lt
 obtain ⟨cur, fr, h⟩ := h
 exact ⟨cur, fr, (hg.block g hlt hne).trans h⟩
theorem BlkT.ne_ {w : World} {g g' : Nat} {t t' : TypeId} {cs : Array Value} (h : BlkT w g t) (h' : Blk w g' t' cs) (hne : t ≠ t') : g ≠ g' := by
 rintro rfl
 obtain ⟨cur, fr, h⟩ := h
 unfold Blk at h'
 rw [h] at h'
 injection h' with h'
 injection h' with _ ht
 exact hne ht
theorem BlkT.ne_own {w0 w : World} {g : Nat} {t e : TypeId} {sz n c : Nat} {A : Option Addr} {xs : List Value} (h : BlkT w g t) (ho : Ow w0 w e sz A n c xs) (hne : t ≠ e) : some g ≠ (Value.slice A n c).ownBlock := by
 rcases ho.1.2 with ⟨hv, _⟩ | ⟨g', cap, cur, hv, _, hh, _⟩
 ·rw [hv]; simp [Value.ownBlock]
 ·rw [hv]
  intro he
  have : g = g' := by simpa [Value.ownBlock] using he
  subst this
  obtain ⟨cur', fr, h⟩ := h
  rw [hh] at h
  injection h with h
  injection h with _ ht
  exact hne ht.symm
theorem Ow.blkT {w0 w : World} {e : TypeId} {sz n c : Nat} {A : Option Addr} {xs : List Value} (h : Ow w0 w e sz A n c xs) {a : Addr} (ha : A = some a) : BlkT w a.block e := by
 rcases h.1.2 with ⟨hv, _⟩ | ⟨g, cap, cur, hv, hg, hh, _⟩
 ·injection hv with h1; rw [h1] at ha; cases ha
 ·injection hv with h1; rw [h1] at ha; cases ha; exact ⟨cur, _, hh⟩
theorem Sl.cut {w : World} {sz : Nat} {A : Option Addr} {n : Nat} {xs : List Value} (h : Sl w sz A n xs) {l r c : Nat} (hl : l ≤ r) (hr : r ≤ n) (hc : n ≤ c) :
  Sl w sz (cutA A c l sz) (r - l) ((xs.drop (l * sz)).take ((r - l) * sz)) := by
 refine ⟨?_, fun hn => ?_⟩
 ·rw [List.length_take, List.length_drop, h.1, ← Nat.sub_mul, Nat.min_eq_left]
  exact Nat.mul_le_mul_right _ (by omega)
 ·obtain ⟨b, off, rfl, hb, hcell⟩ := h.2 (by omega)
  refine ⟨b, off + l * sz, ?_, hb, fun k hk => ?_⟩
  ·unfold cutA
   rw [if_neg (by omega)]
   simp only [Option.map_some, Addr.add]
   split <;> simp_all
  ·have e : l * sz + k < n * sz := by
    have h1 : l * sz + (r - l) * sz = r * sz := by rw [← Nat.add_mul]; congr 1; omega
    have h2 : r * sz ≤ n * sz := Nat.mul_le_mul_right _ hr
    omega
   rw [Nat.add_assoc, hcell _ e, List.getElem?_take_of_lt hk, List.getElem?_drop]
theorem Sl.tail_ {α : Type} {f : α → Value} {w : World} {A : Option Addr} {n : Nat} {l : List α} (h : Sl w 1 A n (l.map f)) {k c : Nat} (hk : k ≤ n) (hc : n ≤ c) : Sl w 1 (cutA A c k 1) (n - k) ((l.drop k).map f) := by
 have hl : l.length = n := by simpa using h.len
 have := h.cut (l := k) (r := n) (c := c) hk (Nat.le_refl _) hc
 rwa [Nat.mul_one, Nat.mul_one, List.take_of_length_le (by simp [hl]), ← List.map_drop] at this
theorem Sl.head_ {α : Type} {f : α → Value} {w : World} {A : Option Addr} {n : Nat} {l : List α} (h : Sl w 1 A n (l.map f)) {k c : Nat} (hk : k ≤ n) (hc : n ≤ c) : Sl w 1 (cutA A c 0 1) k ((l.take k).map f) := by
 have := h.cut (l := 0) (r := k) (c := c) (Nat.zero_le _) hk hc
 simpa using this
theorem Sl.mid_ {α : Type} {f : α → Value} {w : World} {A : Option Addr} {n : Nat} {l : List α} (h : Sl w 1 A n (l.map f)) {j k c : Nat} (hj : j ≤ k) (hk : k ≤ n) (hc : n ≤ c) : Sl w 1 (cutA A c j 1) (k - j) (((l.drop j).take (k - j)).map f) := by
 have := h.cut (l := j) (r := k) (c := c) hj hk hc
 rwa [Nat.mul_one, Nat.mul_one, ← List.map_drop, ← List.map_take] at this
section
variable {P : Program} (w : World) {t e : TypeId} {sz : Nat}
theorem run_cut_lh (ht : P.underlying t = some (.slice e)) (hz : ∀ w, (sizeOf e).run P w = .ok sz w) (A : Option Addr) (n c : Nat) (kl kh : IntKind) (l h : Nat) (h1 : l ≤ h) (h2 : h ≤ c) :
  (Instr.slice t (.slice A n c) (some (.int kl (l : Int))) (some (.int kh (h : Int))) none).run P w = .ok (.slice (cutA A c l sz) (h - l) (c - l)) w := by
 have ht' : P.underlying t = some (.slice (P.elem t)) := by simp [Program.elem, ht]
 have he : P.elem t = e := by simp [Program.elem, ht]
 rw [run_slice_lh w t A n c ht' kl kh (l : Int) (h : Int) (by omega) (by omega) (by omega), he, hz]
 simp [Result.andThen, sliced, cutA]
theorem run_cut_l (ht : P.underlying t = some (.slice e)) (hz : ∀ w, (sizeOf e).run P w = .ok sz w) (A : Option Addr) (n c : Nat) (kl : IntKind) (l : Nat) (h1 : l ≤ n) :
  (Instr.slice t (.slice A n c) (some (.int kl (l : Int))) none none).run P w = .ok (.slice (cutA A c l sz) (n - l) (c - l)) w := by
 have ht' : P.underlying t = some (.slice (P.elem t)) := by simp [Program.elem, ht]
 have he : P.elem t = e := by simp [Program.elem, ht]
 rw [run_slice_l w t A n c ht' kl (l : Int) (by omega) (by omega), he, hz]
 simp [Result.andThen, sliced, cutA]
theorem run_cut_h (ht : P.underlying t = some (.slice e)) (hz : ∀ w, (sizeOf e).run P w = .ok sz w) (A : Option Addr) (n c : Nat) (kh : IntKind) (h : Nat) (h2 : h ≤ c) :
  (Instr.slice t (.slice A n c) none (some (.int kh (h : Int))) none).run P w = .ok (.slice (cutA A c 0 sz) h c) w := by
 have ht' : P.underlying t = some (.slice (P.elem t)) := by simp [Program.elem, ht]
 have he : P.elem t = e := by simp [Program.elem, ht]
 rw [run_slice_h w t A n c ht' kh (h : Int) (by omega) (by omega), he, hz]
 simp [Result.andThen, sliced, cutA]
end
theorem Tryz.sizeU8 (w : World) : (sizeOf 5).run Tryz.prog w = .ok 1 w := by kernel_rfl
theorem row_ne {w0 w : World} {e t : TypeId} {sz n c g : Nat} {A : Option Addr} {xs : List Value} {cs : Array Value} (h : Ow w0 w e sz A n c xs) (hg : Blk w g t cs) (hne : e ≠ t) : some g ≠ (Value.slice A n c).ownBlock := by
 rcases h.1.2 with ⟨hv, _⟩ | ⟨g', cap, cur, hv, _, hh, _⟩
 ·rw [hv]; simp [Value.ownBlock]
 ·rw [hv]
  intro he
  have : g = g' := by simpa [Value.ownBlock] using he
  subst this
  unfold Blk at hg
  rw [hh] at hg
  injection hg with hg
  injection hg with _ ht
  exact hne ht
theorem Ow.far {w0 w : World} {sz n c : Nat} {e : TypeId} {A : Option Addr} {xs : List Value} (h : Ow w0 w e sz A n c xs) {p : Addr} (hp : some p.block ≠ (Value.slice A n c).ownBlock) (h0 : w0.heap.size ≤ p.block) (u : Value) : Ow w0 (w.setCell p u) e sz A n c xs := by
 refine ⟨⟨h.1.1, ?_⟩, h.2.setCell h0 u⟩
 rcases h.1.2 with h2 | ⟨g, cap, cur, hv, hg, hh, r⟩
 ·exact .inl h2
 ·have hne : g ≠ p.block := fun e => hp (by rw [hv]; simp [Value.ownBlock, e])
  exact .inr ⟨g, cap, cur, hv, hg, (Below.heap_setCell w p u g hne).trans hh, r⟩
theorem Ow.form {w0 w : World} {sz n c : Nat} {e : TypeId} {A : Option Addr} {xs : List Value} (h : Ow w0 w e sz A n c xs) (hn : 0 < n) : ∃ g, A = some ⟨g, 0, none⟩ ∧ w0.heap.size ≤ g ∧ g < w.heap.size := by
 rcases h.1.2 with ⟨hv, h0⟩ | ⟨g, cap, cur, hv, hg, hh, r⟩
 ·omega
 ·injection hv with h1
  exact ⟨g, h1, hg, (Array.getElem?_eq_some_iff.1 hh).1⟩
theorem Ow.set_ {w0 w : World} {sz n c g : Nat} {e : TypeId} {xs : List Value} (h : Ow w0 w e sz (some ⟨g, 0, none⟩) n c xs) (j : Nat) (u : Value) : Ow w0 (w.setCell ⟨g, j, none⟩ u) e sz (some ⟨g, 0, none⟩) n c (xs.set j u) :=
 ⟨(h.1.stored j u).1, h.2.setCell (h.1.lt g rfl).1 u⟩
theorem Ow.grown {w0 w w' : World} {sz n c : Nat} {e : TypeId} {A : Option Addr} {xs : List Value} {row : Option Nat} (h : Ow w0 w e sz A n c xs) (hg : w.grownBy w' row) (hne : (Value.slice A n c).ownBlock = none ∨ (Value.slice A n c).ownBlock ≠ row) (h0 : ∀ k, row = some k → w0.heap.size ≤ k) : Ow w0 w' e sz A n c xs :=
 ⟨h.1.kept hg hne, h.2.grown hg h.2.size h0⟩
structure Fr (E : Nat → Prop) (w w' : World) : Prop where
 os : w'.os = w.os
 tape : w'.tape = w.tape
 output : w'.output = w.output
 size : w.heap.size ≤ w'.heap.size
 block : ∀ k, k < w.heap.size → ¬ E k → w'.heap[k]? = w.heap[k]?
section
variable {E : Nat → Prop} {a b c w w' : World}
theorem Fr.refl (E : Nat → Prop) (w : World) : Fr E w w := ⟨rfl, rfl, rfl, Nat.le_refl _, fun _ _ _ => rfl⟩
theorem Fr.trans (h : Fr E a b) (k : Fr E b c) : Fr E a c :=
 ⟨k.os.trans h.os, k.tape.trans h.tape, k.output.trans h.output, Nat.le_trans h.size k.size, fun i hi he => (k.block i (Nat.lt_of_lt_of_le hi h.size) he).trans (h.block i hi he)⟩
theorem Fr.of_below (h : Below w.heap.size w w') : Fr E w w' := ⟨h.os, h.tape, h.output, h.size, fun k hk _ => h.block k hk⟩
theorem Fr.of_grown {row : Option Nat} (h : w.grownBy w' row) (hr : ∀ k, row = some k → E k) : Fr E w w' :=
 ⟨h.os, h.tape, h.output, h.size, fun k hk he => h.block k hk (fun e => he (hr k e.symm))⟩
theorem Fr.alloc (h : Fr E a w) (o : Obj) : Fr E a (w.alloc o) := h.trans (.of_below (balloc (Below.refl _ _) o))
theorem Fr.drew (h : Fr E a w) : Fr E a w.drew := ⟨h.os, h.tape, h.output, h.size, h.block⟩
theorem Fr.drewN (h : Fr E a w) (n : Nat) : Fr E a (w.drewN n) := ⟨h.os, h.tape, h.output, h.size, h.block⟩
theorem Fr.step (h : Fr E a w) (hb : Below w.heap.size w w') : Fr E a w' := h.trans (.of_below hb)
theorem Fr.setCell (h : Fr E a w) {p : Addr} (hp : E p.block) (u : Value) : Fr E a (w.setCell p u) :=
 h.trans ⟨rfl, rfl, rfl, by rw [setCell_size]; exact Nat.le_refl _, fun k _ he => Below.heap_setCell w p u k (fun e => he (e ▸ hp))⟩
theorem Fr.weak {F : Nat → Prop} (h : Fr E a w) (hEF : ∀ k, E k → F k) : Fr F a w := ⟨h.os, h.tape, h.output, h.size, fun k hk he => h.block k hk (fun e => he (hEF k e))⟩
theorem Fr.below {B : Nat} (h : Fr E w w') (hB : B ≤ w.heap.size) (hE : ∀ k, E k → B ≤ k) : Below B w w' :=
 ⟨h.os, h.tape, h.output, h.size, fun k hk => h.block k (by omega) (fun e => by have := hE k e; omega)⟩
theorem Fr.blk {g : Nat} {t : TypeId} {cs : Array Value} (h : Fr E w w') (hb : Blk w g t cs) (hg : ¬ E g) : Blk w' g t cs := (h.block g hb.lt hg).trans hb
theorem Fr.lt {g : Nat} (h : Fr E w w') (hg : g < w.heap.size) : g < w'.heap.size := Nat.lt_of_lt_of_le hg h.size
theorem Fr.cell (h : Fr E w w') {p : Addr} (hp : p.block < w.heap.size) (he : ¬ E p.block) : w'.cell? p = w.cell? p := World.cell?_of_block (h.block _ hp he)
end
def SlF (E : Nat → Prop) (w : World) (sz : Nat) (A : Option Addr) (n : Nat) (xs : List Value) : Prop :=
 Sl w sz A n xs ∧ ∀ b off, 0 < n → A = some ⟨b, off, none⟩ → ¬ E b
section
variable {E : Nat → Prop} {w w' : World} {sz n : Nat} {A : Option Addr} {xs : List Value}
theorem SlF.fr (h : SlF E w sz A n xs) (hf : Fr E w w') : SlF E w' sz A n xs := by
 refine ⟨⟨h.1.1, fun hn => ?_⟩, h.2⟩
 obtain ⟨b, off, e, hb, hc⟩ := h.1.2 hn
 exact ⟨b, off, e, hf.lt hb, fun k hk => (hf.cell hb (h.2 b off hn e)).trans (hc k hk)⟩
theorem SlF.step (h : SlF E w sz A n xs) (hb : Below w.heap.size w w') : SlF E w' sz A n xs := h.fr (.of_below hb)
theorem SlF.weak {F : Nat → Prop} (h : SlF E w sz A n xs) (hEF : ∀ k, F k → E k) : SlF F w sz A n xs := ⟨h.1, fun b off hn e hF => h.2 b off hn e (hEF b hF)⟩
theorem SlF.nil_ : SlF E w sz A 0 [] := ⟨Sl.nil_, fun _ _ h => absurd h (by omega)⟩
end
theorem Sl.lt_ {w : World} {sz n : Nat} {A : Option Addr} {xs : List Value} (h : Sl w sz A n xs) : ∀ b off, 0 < n → A = some ⟨b, off, none⟩ → b < w.heap.size := by
 intro b off hn e
 obtain ⟨b', off', e', hb, _⟩ := h.2 hn
 rw [e] at e'
 cases e'
 exact hb
section
variable {P : Program} (w : World)
theorem step_append_row {ops : Array Oper} {o : Oper} {a : Act} {K : Act → World → Prop} {Q : Exit → Act → World → Prop} {X : Prop} (hgd : o.guard = none) (s x : Operand) (t : TypeId)
  (ho : o.op = .call { callee := .builtin .append, args := #[s, x], argTypes := #[t, t] })
  (base : Nat) (e : TypeId) (i : TypeInfo) (z : Value) (size bytes : Nat) (ht : P.underlying t = some (.slice e)) (hi : P.info? e = some i) (hz : i.zero = some z)
  (hsize : i.size = size) (hby : i.bytes = bytes) (hzs : z.cells.size = size) (hsz : 0 < size)
  (Ad : Option Addr) (n cd : Nat) (xs : List Value) (hs : a.eval s = .slice Ad n cd) (hown : w.ownsRow base e size (.slice Ad n cd) n xs) (hbase : base ≤ w.heap.size)
  (A : Option Addr) (m c : Nat) (news : List Value) (hx : a.eval x = .slice A m c) (hr : Sl w size A m news) (h1 : ∀ u ∈ news, u.oneCell' = true)
  (h63 : n + m ≤ maxLen) (hbytes : (n + m) * bytes ≤ 140737488355328)
  (h : ∀ A' c' w', w'.ownsRow base e size (.slice A' (n + m) c') (n + m) (xs ++ news) → w.grownBy w' (Value.slice Ad n cd).ownBlock → (∀ k, (Value.slice Ad n cd).ownBlock = some k → base ≤ k) → K (a.put o.dst (.slice A' (n + m) c')) w') :
  if Region.wanted o (yielded ops a.tmps) = true then Oper.wp P o a w K Q else X := by
 have hw : Region.wanted o (yielded ops a.tmps) = true := by simp [Region.wanted, hgd]
 rw [if_pos hw]
 obtain ⟨A', c', w', hrun, h2, h3, h4⟩ := run_append_sl (P := P) w base t o.type e i z size bytes ht hi hz hsize hby hzs hsz _ n xs hown A m c news hr h1 h63 hbytes hbase
 unfold Oper.wp execOp
 simp only [ho, resolve, invoke, builtin, Sem.run_bind, Sem.run_pure, Result.andThen_ok, List.map_toArray, List.map_cons, List.map_nil, hs, hx, hrun]
 exact h A' c' w' h2 h3 (fun k hk => (hown.lt k hk).1)
end
structure Coding (P : Program) (k e : TypeId) (κ α : Type) where
 kv : κ → Value
 kl : κ → Lit
 vv : α → Value
 vd : α → DataW Unit
 R : Value → Option (DataW Unit × List MemPlace)
 good : κ → Prop
 keyed : Maps.Keyed P k
 key : ∀ x, good x → keyOf P k (kv x) = some (kl x)
 inj : ∀ x y, good x → good y → kl x = kl y → x = y
 enc : ∀ a, R (vv a) = some (vd a, [])
 dec : ∀ v a ps, R v = some (vd a, ps) → v = vv a
def View (D : DataW Unit) (l : Lit) : Option (DataW Unit) → Prop
 | none => Maps.has D l = false
 | some d => Maps.has D l = true ∧ ∀ z, D.atKey l z = d
def MapIs {P : Program} {k e : TypeId} {κ α : Type} (C : Coding P k e κ α) (w : World) (m n : Nat) (f : κ → Option α) : Prop :=
 ∃ D, w.ownsMap P k C.R m n D ∧ ∀ x, C.good x → View D (C.kl x) ((f x).map C.vd)
def upd {κ α : Type} [DecidableEq κ] (f : κ → Option α) (x : κ) (o : Option α) : κ → Option α := fun y => if y = x then o else f y
section
variable {P : Program} {k e : TypeId} {κ α : Type} {C : Coding P k e κ α} {w w' : World} {m n : Nat} {f : κ → Option α}
theorem MapIs.made (C : Coding P k e κ α) (w : World) : MapIs C (w.alloc (.map #[] 0)) w.heap.size 0 (fun _ => none) :=
 ⟨_, World.ownsMap_made w P k C.R, fun _ _ => rfl⟩
theorem MapIs.mono (h : MapIs C w m n f) {n' : Nat} (hn : n ≤ n') : MapIs C w m n' f := by
 obtain ⟨D, h1, h2⟩ := h
 exact ⟨D, h1.mono hn, h2⟩
theorem MapIs.lt (h : MapIs C w m n f) : m < w.heap.size := by
 obtain ⟨D, h1, _⟩ := h
 exact h1.lt
theorem MapIs.block (h : MapIs C w m n f) (hb : w'.heap[m]? = w.heap[m]?) : MapIs C w' m n f := by
 obtain ⟨D, ⟨es, clock, h1, h2⟩, h3⟩ := h
 exact ⟨D, ⟨es, clock, hb.trans h1, h2⟩, h3⟩
theorem MapIs.grown {row : Option Nat} (h : MapIs C w m n f) (hg : w.grownBy w' row) (hne : some m ≠ row) : MapIs C w' m n f := h.block (hg.block m h.lt hne)
theorem MapIs.step (h : MapIs C w m n f) (hb : Below w.heap.size w w') : MapIs C w' m n f := h.block (hb.block m h.lt)
theorem MapIs.fr {E : Nat → Prop} (h : MapIs C w m n f) (hf : Fr E w w') (hE : ¬ E m) : MapIs C w' m n f := h.block (hf.block m h.lt hE)
theorem MapIs.alloc (h : MapIs C w m n f) (o : Obj) : MapIs C (w.alloc o) m n f := h.step (balloc (Below.refl _ _) o)
theorem MapIs.drew (h : MapIs C w m n f) : MapIs C w.drew m n f := h
theorem MapIs.drewN (h : MapIs C w m n f) (j : Nat) : MapIs C (w.drewN j) m n f := h
theorem MapIs.far (h : MapIs C w m n f) {p : Addr} (hp : m ≠ p.block) (u : Value) : MapIs C (w.setCell p u) m n f := h.block (Below.heap_setCell w p u m hp)
theorem MapIs.ne_blk (h : MapIs C w m n f) {g : Nat} {t : TypeId} {cs : Array Value} (hg : Blk w g t cs) : m ≠ g := by
 rintro rfl
 obtain ⟨D, ⟨es, clock, h1, _⟩, _⟩ := h
 unfold Blk at hg
 rw [h1] at hg
 cases hg
theorem MapIs.no_cells (h : MapIs C w m n f) {t : TypeId} (cs : Array Value) (fr : Nat × Nat) : w.heap[m]? ≠ some (.cells cs t fr) := by
 obtain ⟨D, ⟨es, clock, h1, _⟩, _⟩ := h
 rw [h1]
 intro e'
 cases e'
theorem MapIs.ne_own (h : MapIs C w m n f) {base sz j : Nat} {t : TypeId} {v : Value} {xs : List Value} (hg : w.ownsRow base t sz v j xs) : some m ≠ v.ownBlock := by
 rcases hg.2 with ⟨hv, _⟩ | ⟨g', cap, cur, hv, _, hh, _⟩
 ·rw [hv]; simp [Value.ownBlock]
 ·rw [hv]
  intro he
  have : m = g' := by simpa [Value.ownBlock] using he
  subst this
  obtain ⟨D, ⟨es, clock, h1, _⟩, _⟩ := h
  rw [h1] at hh
  cases hh
theorem MapIs.run_look (h : MapIs C w m n f) {t : TypeId} (ht : P.underlying t = some (.map k e)) {a0 : α} (hz : (zeroValue e).run P w = .ok (C.vv a0) w) {x : κ} (hx : C.good x) :
  (Instr.lookup t (.map (some m)) (C.kv x) false).run P w = .ok (C.vv ((f x).getD a0)) w := by
 obtain ⟨D, h1, h2⟩ := h
 have h3 := h2 x hx
 obtain ⟨v, ps, hrun, hv⟩ := h1.lookup C.keyed ht hz (C.enc a0) (C.key x hx)
 rw [hrun]
 rcases hf : f x with _ | a
 ·rw [hf] at h3
  rw [Maps.atKey_of_not_has h3] at hv
  rw [C.dec v a0 ps hv]
  rfl
 ·rw [hf] at h3
  rw [h3.2] at hv
  rw [C.dec v a ps hv]
  rfl
theorem MapIs.run_look_ok (h : MapIs C w m n f) {t : TypeId} (ht : P.underlying t = some (.map k e)) {a0 : α} (hz : (zeroValue e).run P w = .ok (C.vv a0) w) {x : κ} (hx : C.good x) :
  (Instr.lookup t (.map (some m)) (C.kv x) true).run P w = .ok (.tuple #[C.vv ((f x).getD a0), .bool (f x).isSome]) w := by
 obtain ⟨D, h1, h2⟩ := h
 have h3 := h2 x hx
 obtain ⟨v, ps, hrun, hv⟩ := h1.look_ok C.keyed ht hz (C.enc a0) (C.key x hx)
 rw [hrun]
 rcases hf : f x with _ | a
 ·rw [hf] at h3
  rw [Maps.atKey_of_not_has h3] at hv
  rw [C.dec v a0 ps hv, show Maps.has D (C.kl x) = false from h3]
  rfl
 ·rw [hf] at h3
  rw [h3.2] at hv
  rw [C.dec v a ps hv, h3.1]
  rfl
theorem Coding.lit (C : Coding P k e κ α) {x : κ} (hx : C.good x) : WideAt.IsKeyLit (C.kl x) := C.keyed.one.key ⟨C.kv x, C.key x hx⟩
variable [DecidableEq κ]
theorem view_put {D : DataW Unit} (hD : Maps.IsMap D) {x y : κ} {a : α} (hx : C.good x) (hy : C.good y) (hlit : WideAt.IsKeyLit (C.kl x)) (h : View D (C.kl y) ((f y).map C.vd)) : View (D.put (C.kl x) (C.vd a)) (C.kl y) ((upd f x (some a) y).map C.vd) := by
 unfold upd
 by_cases hxy : y = x
 ·subst hxy
  rw [if_pos rfl]
  exact ⟨Maps.has_put_same hD hlit _, fun z => Maps.atKey_put_same hD hlit _ z⟩
 ·rw [if_neg hxy]
  have hne : C.kl y ≠ C.kl x := fun e => hxy (C.inj y x hy hx e)
  rcases hf : f y with _ | b
  ·rw [hf] at h
   exact (Maps.has_put_other hne _).trans h
  ·rw [hf] at h
   exact ⟨(Maps.has_put_other hne _).trans h.1, fun z => (Maps.atKey_put_other hne _ z).trans (h.2 z)⟩
theorem view_del {D : DataW Unit} {x y : κ} (hx : C.good x) (hy : C.good y) (h : View D (C.kl y) ((f y).map C.vd)) : View (D.del (C.kl x)) (C.kl y) ((upd f x none y).map C.vd) := by
 unfold upd
 by_cases hxy : y = x
 ·subst hxy
  rw [if_pos rfl]
  exact Maps.has_del_same
 ·rw [if_neg hxy]
  have hne : C.kl y ≠ C.kl x := fun e => hxy (C.inj y x hy hx e)
  rcases hf : f y with _ | b
  ·rw [hf] at h
   exact (Maps.has_del_other hne).trans h
  ·rw [hf] at h
   exact ⟨(Maps.has_del_other hne).trans h.1, fun z => (Maps.atKey_del_other hne z).trans (h.2 z)⟩
theorem MapIs.run_store (h : MapIs C w m n f) {t : TypeId} (ht : P.underlying t = some (.map k e)) (hn : n < maxLen) {x : κ} (hx : C.good x) (a : α) :
  ∃ w', (Instr.mapUpdate t (.map (some m)) (C.kv x) (C.vv a)).run P w = .ok () w' ∧ MapIs C w' m (n + 1) (upd f x (some a)) ∧ w.grownBy w' (some m) := by
 obtain ⟨D, h1, h2⟩ := h
 obtain ⟨w', hrun, r1, r2⟩ := h1.update C.keyed ht hn (C.key x hx) (C.enc a)
 exact ⟨w', hrun, ⟨_, r1, fun y hy => view_put h1.isMap hx hy (C.lit hx) (h2 y hy)⟩, r2⟩
theorem MapIs.run_drop (h : MapIs C w m n f) {t : TypeId} (ht : P.underlying t = some (.map k e)) {x : κ} (hx : C.good x) (ty : TypeId) :
  ∃ w', (Builtin.delete_ #[t, k] ty #[.map (some m), C.kv x]).run P w = .ok (.tuple #[]) w' ∧ MapIs C w' m n (upd f x none) ∧ w.grownBy w' (some m) := by
 obtain ⟨D, h1, h2⟩ := h
 obtain ⟨w', hrun, r1, r2⟩ := h1.drop C.keyed ht (C.key x hx) ty
 exact ⟨w', hrun, ⟨_, r1, fun y hy => view_del hx hy (h2 y hy)⟩, r2.grown⟩
end
section
variable {P : Program} (w : World) {ops : Array Oper} {rest : List Oper} {o : Oper} {a : Act} {Q : Exit → Act → World → Prop} {k e : TypeId} {κ α : Type}
theorem wpList_look (hg : o.guard = none) (m x : Operand) (t : TypeId) (hop : o.op = Op.lookup t m x false) (C : Coding P k e κ α) (ht : P.underlying t = some (.map k e)) (a0 : α) (hz : (zeroValue e).run P w = .ok (C.vv a0) w) (b n : Nat) (f : κ → Option α)
  (hm : a.eval m = .map (some b)) (h : MapIs C w b n f) (key : κ) (hx : a.eval x = C.kv key) (hgd : C.good key) (hK : wpList P ops Q rest (a.put o.dst (C.vv ((f key).getD a0))) w) : wpList P ops Q (o :: rest) a w := by
 refine wpList_plain hg fun K' hK' => ?_
 have hrun := h.run_look ht hz hgd
 unfold Oper.wp
 simp [execOp, hop, hm, hx, hrun, Result.andThen]
 exact hK' _ _ hK
theorem wpList_look_ok (hg : o.guard = none) (m x : Operand) (t : TypeId) (hop : o.op = Op.lookup t m x true) (C : Coding P k e κ α) (ht : P.underlying t = some (.map k e)) (a0 : α) (hz : (zeroValue e).run P w = .ok (C.vv a0) w) (b n : Nat) (f : κ → Option α)
  (hm : a.eval m = .map (some b)) (h : MapIs C w b n f) (key : κ) (hx : a.eval x = C.kv key) (hgd : C.good key) (hK : wpList P ops Q rest (a.put o.dst (.tuple #[C.vv ((f key).getD a0), .bool (f key).isSome])) w) : wpList P ops Q (o :: rest) a w := by
 refine wpList_plain hg fun K' hK' => ?_
 have hrun := h.run_look_ok ht hz hgd
 unfold Oper.wp
 simp [execOp, hop, hm, hx, hrun, Result.andThen]
 exact hK' _ _ hK
variable [DecidableEq κ]
theorem wpList_store (hg : o.guard = none) (m x v : Operand) (t : TypeId) (hop : o.op = Op.mapUpdate t m x v) (C : Coding P k e κ α) (ht : P.underlying t = some (.map k e)) (b n : Nat) (f : κ → Option α)
  (hm : a.eval m = .map (some b)) (h : MapIs C w b n f) (hn : n < maxLen) (key : κ) (hx : a.eval x = C.kv key) (hgd : C.good key) (y : α) (hv : a.eval v = C.vv y)
  (hK : ∀ w', MapIs C w' b (n + 1) (upd f key (some y)) → w.grownBy w' (some b) → wpList P ops Q rest (a.put o.dst undef) w') : wpList P ops Q (o :: rest) a w := by
 refine wpList_plain hg fun K' hK' => ?_
 obtain ⟨w', hrun, r1, r2⟩ := h.run_store ht hn hgd y
 unfold Oper.wp
 simp [execOp, hop, hm, hx, hv, hrun, Result.andThen]
 exact hK' _ _ (hK w' r1 r2)
end
structure Coding.Full {P : Program} {k e : TypeId} {κ α : Type} (C : Coding P k e κ α) : Prop where
 invK : ∀ v l, keyOf P k v = some l → ∃ x, v = C.kv x ∧ C.good x
 invV : ∀ v y, C.R v = some y → ∃ a, v = C.vv a
section
variable {κ α : Type} [DecidableEq κ]
def lk (l : List (κ × α)) (x : κ) : Option α := (l.find? (fun p => p.1 = x)).map (·.2)
def strike (l : List (κ × α)) (x : κ) : List (κ × α) := l.filter (fun p => !decide (p.1 = x))
def layL (l : List (κ × α)) (x : κ) (a : α) : List (κ × α) := (x, a) :: strike l x
theorem lk_cons (p : κ × α) (l : List (κ × α)) (x : κ) : lk (p :: l) x = if p.1 = x then some p.2 else lk l x := by
 unfold lk
 by_cases h : p.1 = x <;> simp [h]
theorem lk_none {l : List (κ × α)} {x : κ} : lk l x = none ↔ x ∉ l.map (·.1) := by
 induction l with
 | nil => simp [lk]
 | cons p r ih =>
  rw [lk_cons]
  by_cases h : p.1 = x
  ·simp [h]
  ·simp only [if_neg h, ih, List.map_cons, List.mem_cons, not_or]
   exact ⟨fun h1 => ⟨fun e => h e.symm, h1⟩, fun h1 => h1.2⟩
theorem lk_mem {l : List (κ × α)} (hn : (l.map (·.1)).Nodup) {x : κ} {a : α} : lk l x = some a ↔ (x, a) ∈ l := by
 induction l with
 | nil => simp [lk]
 | cons p r ih =>
  rw [List.map_cons, List.nodup_cons] at hn
  rw [lk_cons]
  by_cases h : p.1 = x
  ·rw [if_pos h, List.mem_cons]
   constructor
   ·intro e
    left
    cases p
    simp at h e ⊢
    exact ⟨h.symm, e.symm⟩
   ·rintro (e | e)
    ·rw [← e]
    ·exact absurd (List.mem_map_of_mem (f := (·.1)) e) (by rw [← h]; exact hn.1)
  ·rw [if_neg h, ih hn.2, List.mem_cons]
   constructor
   ·exact .inr
   ·rintro (e | e)
    ·rw [← e] at h; exact absurd rfl h
    ·exact e
theorem strike_keys (l : List (κ × α)) (x : κ) : (strike l x).map (·.1) = (l.map (·.1)).filter (fun y => !decide (y = x)) := by
 unfold strike
 rw [List.filter_map]
 rfl
theorem lk_strike (l : List (κ × α)) (x y : κ) : lk (strike l x) y = if y = x then none else lk l y := by
 by_cases h : y = x
 ·rw [if_pos h, lk_none, strike_keys]
  simp [h]
 ·rw [if_neg h]
  induction l with
  | nil => rfl
  | cons p r ih =>
   unfold strike at ih ⊢
   rw [List.filter_cons]
   by_cases hp : p.1 = x
   ·have : ¬ p.1 = y := fun e => h (e.symm.trans hp)
    simp only [hp, decide_true, Bool.not_true, Bool.false_eq_true, if_false]
    rw [ih, lk_cons, if_neg this]
   ·simp only [hp, decide_false, Bool.not_false, if_true]
    rw [lk_cons, lk_cons, ih]
theorem nodup_strike {l : List (κ × α)} (h : (l.map (·.1)).Nodup) (x : κ) : ((strike l x).map (·.1)).Nodup := by
 rw [strike_keys]
 exact h.filter _
theorem strike_len {l : List (κ × α)} (h : (l.map (·.1)).Nodup) (x : κ) : (strike l x).length + (if (lk l x).isSome then 1 else 0) = l.length := by
 induction l with
 | nil => rfl
 | cons p r ih =>
  rw [List.map_cons, List.nodup_cons] at h
  have ih := ih h.2
  rw [lk_cons]
  unfold strike at ih ⊢
  rw [List.filter_cons]
  by_cases hp : p.1 = x
  ·have hn : lk r x = none := lk_none.2 (hp ▸ h.1)
   rw [hn] at ih
   simp [hp] at ih ⊢
   omega
  ·simp only [hp, decide_false, Bool.not_false, if_true, if_false, List.length_cons]
   omega
theorem strike_self {l : List (κ × α)} {x : κ} (h : x ∉ l.map (·.1)) : strike l x = l := by
 unfold strike
 rw [List.filter_eq_self]
 intro p hp
 have : p.1 ≠ x := fun e => h (e ▸ List.mem_map_of_mem hp)
 simp [this]
end
section
variable {P : Program} {k e : TypeId} {κ α : Type} [DecidableEq κ] {C : Coding P k e κ α} {w w' : World} {m n : Nat} {l : List (κ × α)} {D : DataW Unit}
structure HasL (C : Coding P k e κ α) (D : DataW Unit) (l : List (κ × α)) : Prop where
 nodup : (l.map (·.1)).Nodup
 good : ∀ p ∈ l, C.good p.1
 size : Maps.size D = l.length
 view : ∀ x, C.good x → View D (C.kl x) ((lk l x).map C.vd)
theorem View.has {o : Option (DataW Unit)} {kl : Lit} (h : View D kl o) : Maps.has D kl = o.isSome := by
 cases o with
 | none => exact h
 | some d => exact h.1
theorem HasL.put (h : HasL C D l) (hD : Maps.Tidy D) {x : κ} (hx : C.good x) (a : α) : HasL C (D.put (C.kl x) (C.vd a)) (layL l x a) where
 nodup := by
  unfold layL
  rw [List.map_cons, List.nodup_cons]
  exact ⟨by rw [strike_keys]; simp, nodup_strike h.nodup x⟩
 good p hp := by
  unfold layL at hp
  rcases List.mem_cons.1 hp with rfl | hp
  ·exact hx
  ·exact h.good p ((List.mem_filter.1 hp).1)
 size := by
  rw [Maps.size_put hD, (h.view x hx).has, layL, List.length_cons, Option.isSome_map]
  have := strike_len h.nodup x
  have := h.size
  split <;> simp_all <;> omega
 view y hy := by
  have := view_put (f := lk l) (a := a) hD.isMap hx hy (C.lit hx) (h.view y hy)
  unfold upd at this
  rw [layL, lk_cons]
  by_cases hxy : y = x
  ·rw [if_pos hxy] at this
   rw [if_pos hxy.symm]
   exact this
  ·rw [if_neg hxy] at this
   rw [if_neg (fun e => hxy e.symm), lk_strike, if_neg hxy]
   exact this
theorem HasL.del (h : HasL C D l) (hD : Maps.Tidy D) {x : κ} (hx : C.good x) : HasL C (D.del (C.kl x)) (strike l x) where
 nodup := nodup_strike h.nodup x
 good p hp := h.good p ((List.mem_filter.1 hp).1)
 size := by
  have h1 := Maps.size_del (k := C.kl x) hD
  rw [(h.view x hx).has, Option.isSome_map, h.size, ← strike_len h.nodup x] at h1
  omega
 view y hy := by
  have := view_del (f := lk l) hx hy (h.view y hy)
  unfold upd at this
  rw [lk_strike]
  exact this
def MapL (C : Coding P k e κ α) (w : World) (m n : Nat) (l : List (κ × α)) : Prop := ∃ D, w.ownsMap P k C.R m n D ∧ HasL C D l
theorem MapL.made (C : Coding P k e κ α) (w : World) : MapL C (w.alloc (.map #[] 0)) w.heap.size 0 [] :=
 ⟨_, World.ownsMap_made w P k C.R, ⟨List.nodup_nil, by simp, rfl, fun _ _ => rfl⟩⟩
theorem MapL.is (h : MapL C w m n l) : MapIs C w m n (lk l) := by
 obtain ⟨D, h1, h2⟩ := h
 exact ⟨D, h1, h2.view⟩
theorem MapL.nodup (h : MapL C w m n l) : (l.map (·.1)).Nodup := by obtain ⟨D, h1, h2⟩ := h; exact h2.nodup
theorem MapL.good (h : MapL C w m n l) : ∀ p ∈ l, C.good p.1 := by obtain ⟨D, h1, h2⟩ := h; exact h2.good
theorem MapL.le (h : MapL C w m n l) : l.length ≤ n := by
 obtain ⟨D, h1, h2⟩ := h
 rw [← h2.size]
 exact h1.size_le
theorem MapL.mono {n' : Nat} (h : MapL C w m n l) (hn : n ≤ n') : MapL C w m n' l := by
 obtain ⟨D, h1, h2⟩ := h
 exact ⟨D, h1.mono hn, h2⟩
theorem MapL.lt (h : MapL C w m n l) : m < w.heap.size := h.is.lt
theorem MapL.block (h : MapL C w m n l) (hb : w'.heap[m]? = w.heap[m]?) : MapL C w' m n l := by
 obtain ⟨D, ⟨es, clock, h1, h2⟩, h3⟩ := h
 exact ⟨D, ⟨es, clock, hb.trans h1, h2⟩, h3⟩
theorem MapL.grown {row : Option Nat} (h : MapL C w m n l) (hg : w.grownBy w' row) (hne : some m ≠ row) : MapL C w' m n l := h.block (hg.block m h.lt hne)
theorem MapL.step (h : MapL C w m n l) (hb : Below w.heap.size w w') : MapL C w' m n l := h.block (hb.block m h.lt)
theorem MapL.fr {E : Nat → Prop} (h : MapL C w m n l) (hf : Fr E w w') (hE : ¬ E m) : MapL C w' m n l := h.block (hf.block m h.lt hE)
theorem MapL.alloc (h : MapL C w m n l) (o : Obj) : MapL C (w.alloc o) m n l := h.step (balloc (Below.refl _ _) o)
theorem MapL.drew (h : MapL C w m n l) : MapL C w.drew m n l := h
theorem MapL.drewN (h : MapL C w m n l) (j : Nat) : MapL C (w.drewN j) m n l := h
theorem MapL.far (h : MapL C w m n l) {p : Addr} (hp : m ≠ p.block) (u : Value) : MapL C (w.setCell p u) m n l := h.block (Below.heap_setCell w p u m hp)
theorem MapL.ne_blk (h : MapL C w m n l) {g : Nat} {t : TypeId} {cs : Array Value} (hg : Blk w g t cs) : m ≠ g := h.is.ne_blk hg
theorem MapL.ne_own (h : MapL C w m n l) {base sz j : Nat} {t : TypeId} {v : Value} {xs : List Value} (hg : w.ownsRow base t sz v j xs) : some m ≠ v.ownBlock := h.is.ne_own hg
theorem MapL.no_cells (h : MapL C w m n l) {t : TypeId} (cs : Array Value) (fr : Nat × Nat) : w.heap[m]? ≠ some (.cells cs t fr) := h.is.no_cells cs fr
theorem MapL.run_store (h : MapL C w m n l) {t : TypeId} (ht : P.underlying t = some (.map k e)) (hn : n < maxLen) {x : κ} (hx : C.good x) (a : α) :
  ∃ w', (Instr.mapUpdate t (.map (some m)) (C.kv x) (C.vv a)).run P w = .ok () w' ∧ MapL C w' m (n + 1) (layL l x a) ∧ w.grownBy w' (some m) := by
 obtain ⟨D, h1, h2⟩ := h
 obtain ⟨w', hrun, r1, r2⟩ := h1.update C.keyed ht hn (C.key x hx) (C.enc a)
 exact ⟨w', hrun, ⟨_, r1, h2.put (h1.tidy C.keyed) hx a⟩, r2⟩
theorem MapL.run_drop (h : MapL C w m n l) {t : TypeId} (ht : P.underlying t = some (.map k e)) {x : κ} (hx : C.good x) (ty : TypeId) :
  ∃ w', (Builtin.delete_ #[t, k] ty #[.map (some m), C.kv x]).run P w = .ok (.tuple #[]) w' ∧ MapL C w' m n (strike l x) ∧ w.grownBy w' (some m) := by
 obtain ⟨D, h1, h2⟩ := h
 obtain ⟨w', hrun, r1, r2⟩ := h1.drop C.keyed ht (C.key x hx) ty
 exact ⟨w', hrun, ⟨_, r1, h2.del (h1.tidy C.keyed) hx⟩, r2.grown⟩
def RangeL (C : Coding P k e κ α) (w : World) (m r n : Nat) (l rest : List (κ × α)) (cnt : Nat) : Prop :=
 ∃ D left, w.ranges P k C.R m r n D left cnt ∧ HasL C D l ∧ (rest.map (·.1)).Nodup ∧ (∀ p ∈ rest, p ∈ l) ∧ ∀ x, C.good x → left (C.kl x) = decide (x ∈ rest.map (·.1))
section
variable {r cnt : Nat} {rest : List (κ × α)}
theorem RangeL.map (h : RangeL C w m r n l rest cnt) : MapL C w m n l := by
 obtain ⟨D, left, h1, h2, _⟩ := h
 exact ⟨D, h1.owns, h2⟩
theorem RangeL.sub (h : RangeL C w m r n l rest cnt) : ∀ p ∈ rest, p ∈ l := by obtain ⟨D, left, h1, h2, h3, h4, _⟩ := h; exact h4
theorem RangeL.keys (h : RangeL C w m r n l rest cnt) : (rest.map (·.1)).Nodup := by obtain ⟨D, left, h1, h2, h3, h4, _⟩ := h; exact h3
theorem RangeL.kept {row : Option Nat} (h : RangeL C w m r n l rest cnt) (hg : w.grownBy w' row) (hm : some m ≠ row) (hr : some r ≠ row) : RangeL C w' m r n l rest cnt := by
 obtain ⟨D, left, h1, h2⟩ := h
 exact ⟨D, left, h1.kept hg hm hr, h2⟩
theorem RangeL.step (h : RangeL C w m r n l rest cnt) (hb : Below w.heap.size w w') : RangeL C w' m r n l rest cnt :=
 h.kept (row := none) ⟨hb.os, hb.tape, hb.output, hb.size, fun i hi _ => hb.block i hi⟩ (by simp) (by simp)
theorem RangeL.left_eq (h : RangeL C w m r n l rest cnt) : w.rangeLeft m r = cnt := by
 obtain ⟨D, left, h1, _⟩ := h
 exact h1.left_eq
theorem RangeL.ne (h : RangeL C w m r n l rest cnt) : r ≠ m := by
 obtain ⟨D, left, h1, _⟩ := h
 exact h1.ne
theorem RangeL.lt (h : RangeL C w m r n l rest cnt) : r < w.heap.size := by
 obtain ⟨D, left, h1, _⟩ := h
 exact h1.lt
theorem HasL.range (h : HasL C D l) : ∀ x, C.good x → Maps.has D (C.kl x) = decide (x ∈ l.map (·.1)) := by
 intro x hx
 rw [(h.view x hx).has, Option.isSome_map]
 rcases e : lk l x with _ | a
 ·rw [lk_none] at e
  simp [e]
 ·rw [lk_mem h.nodup] at e
  have := List.mem_map_of_mem (f := (·.1)) e
  simp only [Option.isSome_some]
  exact (decide_eq_true this).symm
theorem RangeL.left_step {left : Lit → Bool} (hl : ∀ x, C.good x → left (C.kl x) = decide (x ∈ rest.map (·.1))) {x0 : κ} (h0 : C.good x0) : ∀ x, C.good x → (left (C.kl x) && !(C.kl x).sameKey (C.kl x0)) = decide (x ∈ (strike rest x0).map (·.1)) := by
 intro x hx
 rw [hl x hx, strike_keys]
 by_cases hxx : x = x0
 ·subst hxx
  rw [WideAt.sameKey_self (C.lit hx)]
  simp
 ·rw [Maps.sameKey_ne (fun e => hxx (C.inj x x0 hx h0 e))]
  simp [hxx]
theorem RangeL.came {left : Lit → Bool} (h2 : HasL C D l) (hs : ∀ p ∈ rest, p ∈ l) (hl : ∀ x, C.good x → left (C.kl x) = decide (x ∈ rest.map (·.1))) {x : κ} {a : α} {kl : Lit} {y : DataW Unit × List MemPlace}
  (hk : keyOf P k (C.kv x) = some kl) (hgd : C.good x) (hleft : left kl = true) (hv : C.R (C.vv a) = some y) (hat : ∀ zd, D.atKey kl zd = y.1) : kl = C.kl x ∧ (∃ p ∈ rest, p.1 = x ∧ C.vv p.2 = C.vv a) := by
 rw [C.key x hgd] at hk
 cases hk
 rw [hl x hgd, decide_eq_true_eq] at hleft
 obtain ⟨p, hp, rfl⟩ := List.mem_map.1 hleft
 refine ⟨rfl, p, hp, rfl, ?_⟩
 have h3 := h2.view p.1 hgd
 rw [(lk_mem h2.nodup).2 (hs p hp)] at h3
 have h4 := (h3.2 (.map [])).symm.trans (hat _)
 exact (C.dec (C.vv a) p.2 y.2 (by rw [hv, h4])).symm
end
end
section
variable {P : Program} (w : World) {ops : Array Oper} {rest : List Oper} {o : Oper} {a : Act} {Q : Exit → Act → World → Prop} {k e : TypeId} {κ α : Type} [DecidableEq κ]
end
def KeepT (e : TypeId) (w w' : World) : Prop := ∀ (b : Nat) (cs : Array Value) (fr : Nat × Nat), w.heap[b]? = some (.cells cs e fr) → w'.heap[b]? = some (.cells cs e fr)
section
variable {e : TypeId} {a w w' : World}
theorem KeepT.refl (e : TypeId) (w : World) : KeepT e w w := fun _ _ _ h => h
theorem KeepT.trans (h : KeepT e a w) (k : KeepT e w w') : KeepT e a w' := fun b cs fr hb => k b cs fr (h b cs fr hb)
theorem heap_lt {w : World} {b : Nat} {o : Obj} (h : w.heap[b]? = some o) : b < w.heap.size := (Array.getElem?_eq_some_iff.1 h).1
theorem KeepT.of_below (h : Below w.heap.size w w') : KeepT e w w' := fun b _ _ hb => (h.block b (heap_lt hb)).trans hb
theorem KeepT.step (h : KeepT e a w) (hb : Below w.heap.size w w') : KeepT e a w' := h.trans (.of_below hb)
theorem KeepT.drewN (h : KeepT e a w) (n : Nat) : KeepT e a (w.drewN n) := h
theorem KeepT.setCell (h : KeepT e a w) {g : Nat} {t : TypeId} {cs : Array Value} (hg : Blk w g t cs) (ht : t ≠ e) {p : Addr} (hp : p.block = g) (u : Value) : KeepT e a (w.setCell p u) :=
 h.trans fun b cs' fr hb => (Below.heap_setCell w p u b (fun e' => by
  unfold Blk at hg
  rw [e', hp, hg] at hb
  cases hb
  exact ht rfl)).trans hb
theorem KeepT.grown {row : Option Nat} (h : KeepT e a w) (hg : w.grownBy w' row) (hr : ∀ k, row = some k → ∀ (cs : Array Value) (fr : Nat × Nat), w.heap[k]? ≠ some (.cells cs e fr)) : KeepT e a w' :=
 h.trans fun b cs fr hb => (hg.block b (heap_lt hb) (fun e' => hr b e'.symm cs fr hb)).trans hb
end
def SlT (H : Nat → Prop) (e : TypeId) (w : World) (sz : Nat) (A : Option Addr) (n : Nat) (xs : List Value) : Prop :=
 Sl w sz A n xs ∧ (0 < n → ∃ (b off : Nat) (cs : Array Value) (fr : Nat × Nat), A = some ⟨b, off, none⟩ ∧ H b ∧ w.heap[b]? = some (.cells cs e fr))
section
variable {H : Nat → Prop} {e : TypeId} {w w' : World} {sz n : Nat} {A : Option Addr} {xs : List Value}
theorem SlT.sl (h : SlT H e w sz A n xs) : Sl w sz A n xs := h.1
theorem SlT.keep (h : SlT H e w sz A n xs) (hk : KeepT e w w') : SlT H e w' sz A n xs := by
 refine ⟨⟨h.1.1, fun hn => ?_⟩, fun hn => ?_⟩
 ·obtain ⟨b, off, cs, fr, rfl, _, hb⟩ := h.2 hn
  obtain ⟨b', off', e', _, hc⟩ := h.1.2 hn
  cases e'
  have hb' := hk b cs fr hb
  exact ⟨b, off, rfl, heap_lt hb', fun k hk' => (World.cell?_of_block (hb'.trans hb.symm)).trans (hc k hk')⟩
 ·obtain ⟨b, off, cs, fr, rfl, hH, hb⟩ := h.2 hn
  exact ⟨b, off, cs, fr, rfl, hH, hk b cs fr hb⟩
theorem SlT.step (h : SlT H e w sz A n xs) (hb : Below w.heap.size w w') : SlT H e w' sz A n xs := h.keep (.of_below hb)
theorem SlT.weak {G : Nat → Prop} (h : SlT H e w sz A n xs) (hw : ∀ k, k < w.heap.size → H k → G k) : SlT G e w sz A n xs :=
 ⟨h.1, fun hn => by
  obtain ⟨b, off, cs, fr, rfl, hH, hb⟩ := h.2 hn
  exact ⟨b, off, cs, fr, rfl, hw b (heap_lt hb) hH, hb⟩⟩
theorem SlT.nil_ : SlT H e w sz A 0 [] := ⟨⟨by simp, fun h => absurd h (by omega)⟩, fun h => absurd h (by omega)⟩
theorem SlT.fr {E : Nat → Prop} (h : SlT H e w sz A n xs) (hf : Fr E w w') (hE : ∀ k, H k → ¬ E k) : SlT H e w' sz A n xs := by
 refine ⟨⟨h.1.1, fun hn => ?_⟩, fun hn => ?_⟩
 ·obtain ⟨b, off, cs, fr, rfl, hH, hb⟩ := h.2 hn
  obtain ⟨b', off', e', _, hc⟩ := h.1.2 hn
  cases e'
  have hb' := (hf.block b (heap_lt hb) (hE b hH)).trans hb
  exact ⟨b, off, rfl, heap_lt hb', fun k hk' => (World.cell?_of_block (hb'.trans hb.symm)).trans (hc k hk')⟩
 ·obtain ⟨b, off, cs, fr, rfl, hH, hb⟩ := h.2 hn
  exact ⟨b, off, cs, fr, rfl, hH, (hf.block b (heap_lt hb) (hE b hH)).trans hb⟩
theorem Ow.slT {w0 : World} {c : Nat} (h : Ow w0 w e sz A n c xs) : SlT (fun k => w0.heap.size ≤ k ∧ k < w.heap.size) e w sz A n xs := by
 refine ⟨h.sl, fun hn => ?_⟩
 rcases h.1.2 with ⟨_, h0⟩ | ⟨g, cap, cur, hv, hg, hh, _⟩
 ·omega
 ·injection hv with h1
  exact ⟨g, 0, _, _, h1, ⟨hg, heap_lt hh⟩, hh⟩
end
theorem KeepT.of_fr {e : TypeId} {w w' : World} {E : Nat → Prop} (hf : Fr E w w') (hE : ∀ (k : Nat) (cs : Array Value) (fr : Nat × Nat), E k → w.heap[k]? ≠ some (.cells cs e fr)) : KeepT e w w' :=
 fun b cs fr hb => (hf.block b (heap_lt hb) (fun h => hE b cs fr h hb)).trans hb
theorem Blk.type {w : World} {g : Nat} {t e : TypeId} {cs : Array Value} (h : Blk w g t cs) (ht : t ≠ e) (cs' : Array Value) (fr : Nat × Nat) : w.heap[g]? ≠ some (.cells cs' e fr) := by
 unfold Blk at h
 rw [h]
 intro e'
 cases e'
 exact ht rfl
def ext (H : Nat → Prop) (w w' : World) : Nat → Prop := fun k => H k ∨ (w.heap.size ≤ k ∧ k < w'.heap.size)
end Go.Proofs.YtcednfmkiaelnaaGreatDoor
namespace Go.Proofs.YtcednfmkiaelnaaGreatDoor
def top62 : Nat := 4611686018427387904
def putNum (n : Nat) : List UInt8 :=
 if _h : n < 128 then [UInt8.ofNat n] else UInt8.ofNat (128 + n % 128) :: putNum (n / 128)
termination_by n
decreasing_by omega
theorem putNum_lt {n : Nat} (h : n < 128) : putNum n = [UInt8.ofNat n] := by rw [putNum, dif_pos h]
theorem putNum_ge {n : Nat} (h : 128 ≤ n) : putNum n = UInt8.ofNat (128 + n % 128) :: putNum (n / 128) := by rw [putNum, dif_neg (by omega)]
def takeGo (k acc : Nat) : List UInt8 → Option (Nat × List UInt8)
 | [] => none
 | c :: r => if k = 9 then none else if c = 0 ∧ 0 < k then none else
   if c < 128 then (if acc + (c.toNat % 128) * 128 ^ k < top62 then some (acc + (c.toNat % 128) * 128 ^ k, r) else none)
   else takeGo (k + 1) (acc + (c.toNat % 128) * 128 ^ k) r
def takeNum (b : List UInt8) : Option (Nat × List UInt8) := takeGo 0 0 b
theorem toNat_ofNat_lt {n : Nat} (h : n < 256) : (UInt8.ofNat n).toNat = n := by simp; omega
theorem putNum_len_pos (n : Nat) : 0 < (putNum n).length := by
 unfold putNum; split <;> simp
theorem putNum_low : ∀ (m : Nat), 128 ≤ m → 128 ^ ((putNum m).length - 1) ≤ m := by
 intro m
 induction m using Nat.strongRecOn with
 | ind m ih =>
  intro h
  rw [putNum_ge h]
  by_cases h2 : 128 ≤ m / 128
  ·have := ih (m / 128) (by omega) h2
   have hp := putNum_len_pos (m / 128)
   simp only [List.length_cons, Nat.add_sub_cancel]
   have e : (putNum (m / 128)).length = ((putNum (m / 128)).length - 1) + 1 := by omega
   rw [e, Nat.pow_succ]
   calc 128 ^ ((putNum (m / 128)).length - 1) * 128 ≤ m / 128 * 128 := Nat.mul_le_mul_right _ this
    _ ≤ m := Nat.div_mul_le_self _ _
  ·rw [putNum_lt (by omega)]
   simpa using h
theorem takeGo_put : ∀ (m k acc : Nat) (r : List UInt8), (k = 0 ∨ 0 < m) → acc + m * 128 ^ k < top62 → k + (putNum m).length ≤ 9 → takeGo k acc (putNum m ++ r) = some (acc + m * 128 ^ k, r) := by
 intro m
 induction m using Nat.strongRecOn with
 | ind m ih =>
  intro k acc r hk hlt hlen
  by_cases h : m < 128
  ·rw [putNum_lt h] at hlen ⊢
   simp at hlen
   have e : (UInt8.ofNat m).toNat = m := toNat_ofNat_lt (by omega)
   have e2 : m % 128 = m := Nat.mod_eq_of_lt h
   have c1 : ¬ (UInt8.ofNat m = 0 ∧ 0 < k) := by
    rintro ⟨h0, h1⟩
    have := congrArg UInt8.toNat h0
    rw [e] at this
    simp at this
    omega
   have c2 : UInt8.ofNat m < 128 := by rw [UInt8.lt_iff_toNat_lt, e]; exact h
   simp only [List.singleton_append, takeGo, e, e2]
   rw [if_neg (by omega), if_neg c1, if_pos c2, if_pos hlt]
  ·have h' : 128 ≤ m := by omega
   rw [putNum_ge h'] at hlen ⊢
   have e : (UInt8.ofNat (128 + m % 128)).toNat = 128 + m % 128 := toNat_ofNat_lt (by omega)
   have e2 : (128 + m % 128) % 128 = m % 128 := by omega
   have c1 : ¬ (UInt8.ofNat (128 + m % 128) = 0 ∧ 0 < k) := by
    rintro ⟨h0, _⟩
    have := congrArg UInt8.toNat h0
    rw [e] at this
    simp at this
   have c2 : ¬ UInt8.ofNat (128 + m % 128) < 128 := by rw [UInt8.lt_iff_toNat_lt, e]; simp
   simp only [List.length_cons] at hlen
   have hp := putNum_len_pos (m / 128)
   have hs : acc + m % 128 * 128 ^ k + m / 128 * 128 ^ (k + 1) = acc + m * 128 ^ k := by
    rw [Nat.pow_succ, Nat.add_assoc]
    congr 1
    have hm := Nat.mod_add_div m 128
    calc m % 128 * 128 ^ k + m / 128 * (128 ^ k * 128) = (m % 128 + 128 * (m / 128)) * 128 ^ k := by rw [Nat.add_mul, Nat.mul_comm (128 ^ k) 128, ← Nat.mul_assoc, Nat.mul_comm (m / 128) 128]
     _ = m * 128 ^ k := by rw [hm]
   simp only [List.cons_append, takeGo, e, e2]
   rw [if_neg (by omega), if_neg c1, if_neg c2, ih (m / 128) (by omega) (k + 1) _ r (.inr (by omega)) (by rw [hs]; exact hlt) (by omega), hs]
theorem putNum_len_le {n : Nat} (h : n < top62) : (putNum n).length ≤ 9 := by
 by_cases h1 : 128 ≤ n
 ·have := putNum_low n h1
  rcases Nat.lt_or_ge 9 (putNum n).length with hl | hl
  ·have h2 : 128 ^ 9 ≤ 128 ^ ((putNum n).length - 1) := Nat.pow_le_pow_right (by omega) (by omega)
   unfold top62 at h
   omega
  ·exact hl
 ·rw [putNum_lt (by omega)]; simp
theorem take_putN {n : Nat} (h : n < top62) (r : List UInt8) : takeNum (putNum n ++ r) = some (n, r) := by
 have := takeGo_put n 0 0 r (.inl rfl) (by simpa using h) (by have := putNum_len_le h; omega)
 simpa [takeNum] using this
theorem takeGo_nine (acc : Nat) (b : List UInt8) : takeGo 9 acc b = none := by cases b <;> simp [takeGo]
theorem putNum_len_below : ∀ (k n : Nat), 0 < k → n < 128 ^ k → (putNum n).length ≤ k
 | 0, _, h, _ => by omega
 | k + 1, n, _, h => by
  by_cases h1 : n < 128
  ·rw [putNum_lt h1]; simp
  ·rw [putNum_ge (by omega)]
   rcases Nat.eq_zero_or_pos k with h0 | h0
   ·subst h0; simp at h; omega
   ·have := putNum_len_below k (n / 128) h0 (by rw [Nat.pow_succ] at h; exact Nat.div_lt_of_lt_mul (by rw [Nat.mul_comm]; exact h))
    simp; omega
theorem takeGo_len : ∀ (b : List UInt8) (k acc v : Nat) (r : List UInt8), takeGo k acc b = some (v, r) → r.length < b.length
 | [], _, _, _, _, h => by simp [takeGo] at h
 | c :: b, k, acc, v, r, h => by
  rw [takeGo] at h
  split at h
  ·cases h
  ·split at h
   ·cases h
   ·split at h
    ·split at h
     ·cases h; simp
     ·cases h
    ·have := takeGo_len b _ _ _ _ h; simp; omega
theorem takeNum_len {b r : List UInt8} {v : Nat} (h : takeNum b = some (v, r)) : r.length < b.length := takeGo_len b 0 0 v r h
end Go.Proofs.YtcednfmkiaelnaaGreatDoor
namespace Go.Proofs.YtcednfmkiaelnaaGreatDoor
open Go.RowKit
theorem ne_of_at {α : Type} {xs ys : List α} {k : Nat} {x y : α} (hx : xs[k]? = some x) (hy : ys[k]? = some y) (h : x ≠ y) : xs ≠ ys := by
 rintro rfl; rw [hx] at hy; exact h (Option.some.inj hy)
theorem take_step {α : Type} {xs ys : List α} {k : Nat} {x y : α} (hx : xs[k]? = some x) (hy : ys[k]? = some y) (e : x = y) (h : xs.take k = ys.take k) : xs.take (k + 1) = ys.take (k + 1) := by
 rw [List.take_add_one, List.take_add_one, h, hx, hy, e]
theorem take_all {α : Type} {xs ys : List α} {k : Nat} (hx : xs.length ≤ k) (hy : ys.length ≤ k) (h : xs.take k = ys.take k) : xs = ys := by
 rwa [List.take_of_length_le hx, List.take_of_length_le hy] at h
theorem ret_dec {p : Prop} [Decidable p] (h : p) : Ending.returned (.bool true) = .returned (.bool (decide p)) := by rw [decide_eq_true h]
theorem ret_ndec {p : Prop} [Decidable p] (h : ¬ p) : Ending.returned (.bool false) = .returned (.bool (decide p)) := by rw [decide_eq_false h]
end Go.Proofs.YtcednfmkiaelnaaGreatDoor
namespace Go.Proofs.YtcednfmkiaelnaaGreatDoor
namespace PathLaw
abbrev Bs := List UInt8
def pc : Bs → List Bs
 | [] => [[]]
 | x :: b => if x = 47 then [] :: pc b else match pc b with
  | [] => [[x]]
  | y :: r => (x :: y) :: r
theorem pc_ne (s : Bs) : pc s ≠ [] := by
 cases s with
 | nil => simp [pc]
 | cons x b =>
  unfold pc
  split
  ·simp
  ·split <;> simp
theorem pc_len : ∀ s : Bs, (pc s).length ≤ s.length + 1
 | [] => by simp [pc]
 | x :: b => by
  have ih := pc_len b
  unfold pc
  split
  ·simp; omega
  ·split
   ·simp
   ·rename_i y r h; rw [h] at ih; simp at ih ⊢; omega
theorem pc_index : ∀ (s : Bs), (Lib.indexByte s 47 = -1 → pc s = [s]) ∧ ∀ i : Nat, Lib.indexByte s 47 = i → pc s = s.take i :: pc (s.drop (i + 1))
 | [] => ⟨fun _ => by simp [pc], fun i h => by simp [Lib.indexByte] at h⟩
 | x :: b => by
  obtain ⟨h1, h2⟩ := pc_index b
  have hge := Lib.indexByte_ge b 47
  by_cases hx : x = 47
  ·have e : Lib.indexByte (x :: b) 47 = 0 := by simp [Lib.indexByte, hx]
   refine ⟨fun h => by omega, fun i h => ?_⟩
   obtain rfl : i = 0 := by omega
   conv => lhs; unfold pc
   simp [hx]
  ·have e : Lib.indexByte (x :: b) 47 = if Lib.indexByte b 47 == -1 then -1 else Lib.indexByte b 47 + 1 := by
    conv => lhs; unfold Lib.indexByte
    simp [hx]
   by_cases hb : Lib.indexByte b 47 = -1
   ·rw [hb] at e
    simp at e
    refine ⟨fun _ => ?_, fun i h => by omega⟩
    conv => lhs; unfold pc
    rw [if_neg hx, h1 hb]
   ·rw [if_neg (by simpa using hb)] at e
    refine ⟨fun h => by omega, fun i h => ?_⟩
    obtain ⟨k, rfl⟩ : ∃ k, i = k + 1 := ⟨i - 1, by omega⟩
    conv => lhs; unfold pc
    rw [if_neg hx, h2 k (by omega)]
    simp
theorem split_pc : ∀ (k : Nat) (s : Bs), Lib.count s [47] = k → Lib.splitK [47] 0 k s = pc s
 | 0, s, h => by
  rw [Lib.splitK]
  have hi := Lib.index_one s 47
  by_cases hm : Lib.index s [47] = -1
  ·exact ((pc_index s).1 (hi ▸ hm)).symm
  ·have hge := Lib.index_ge s [47]
   have := Lib.count_hit (s := s) (sub := [47]) (i := (Lib.index s [47]).toNat) (by simp) (by omega)
   omega
 | k + 1, s, h => by
  have hi := Lib.index_one s 47
  have hm : Lib.index s [47] ≠ -1 := fun hm => by have := Lib.count_miss hm; omega
  have hge := Lib.index_ge s [47]
  obtain ⟨i, hii⟩ : ∃ i : Nat, Lib.index s [47] = i := ⟨(Lib.index s [47]).toNat, by omega⟩
  have hc := Lib.count_hit (s := s) (sub := [47]) (i := i) (by simp) hii
  rw [Lib.splitK, if_neg (by simpa using hm), hii, (pc_index s).2 i (hi ▸ hii)]
  simp only [Int.toNat_natCast, List.length_singleton, Nat.add_zero]
  rw [split_pc k _ (by simp only [List.length_singleton] at hc; omega)]
def part (s : Bs) : Bool := decide (1 ≤ s.length) && (decide (s.length ≤ 100) && (decide (Lib.indexByte s 47 < 0) && (decide (Lib.indexByte s 0 < 0) && (!decide (s = [46]) && !decide (s = [46, 46])))))
def named (s : Bs) : Bool := (pc s).all part && (decide ((pc s).length ≤ 16) && decide (s.length ≤ 150))
def under (p d : Bs) : Bool := (d ++ [47]).isPrefixOf p
theorem under_iff {p d : Bs} : under p d = true ↔ ∃ r, p = d ++ 47 :: r := by
 unfold under
 rw [List.isPrefixOf_iff_prefix]
 constructor
 ·rintro ⟨r, h⟩
  exact ⟨r, by rw [← h]; simp⟩
 ·rintro ⟨r, rfl⟩
  exact ⟨r, by simp⟩
theorem under_irrefl (p : Bs) : under p p = false := by
 rw [← Bool.not_eq_true, under_iff]
 rintro ⟨r, h⟩
 have := congrArg List.length h
 simp at this
end PathLaw
end Go.Proofs.YtcednfmkiaelnaaGreatDoor
