/-
  refs.Book in memory; New, all, Count, value, Get. Conditions: the book lies in its home.
-/
import Derived.Test.YtegehaokfcamfaaGreatDoorRefsRight
import Derived.Test.YtegehaokfcamfaaGreatDoorKitZ
namespace Go.Proofs.YtegehaokfcamfaaGreatDoor
open Go.RowKit
open RefsLaw (named okc Val Chg Txn there rightV zv rightT okChs goodC Refs Book Inv)

/-- a transaction, with where its changes lie -/
structure TxG where
  who : List UInt8
  text : List UInt8
  stamp : Int
  A : Option Addr
  n : Nat
  c : Nat
  chs : List Chg
def TxG.cells (x : TxG) : List Value := [S x.who, S x.text, I x.stamp, .slice x.A x.n x.c]
def TxG.txn (x : TxG) : Txn := ⟨x.who, x.text, x.stamp, x.chs⟩
def txs (l : List TxG) : List Value := l.flatMap TxG.cells
theorem tx_len (l : List TxG) : ∀ x ∈ l, x.cells.length = 4 := fun _ _ => rfl
theorem txs_len (l : List TxG) : (txs l).length = l.length * 4 := flat_len (tx_len l)
theorem txs_append (l k : List TxG) : txs (l ++ k) = txs l ++ txs k := by simp [txs]
theorem one_txs (l : List TxG) : ∀ u ∈ txs l, u.oneCell' = true := by
  intro u hu
  obtain ⟨c, _, hu⟩ := List.mem_flatMap.1 hu
  simp [TxG.cells] at hu
  rcases hu with rfl | rfl | rfl | rfl <;> rfl
theorem txs_at {l : List TxG} {k j : Nat} {x : TxG} (h : l[k]? = some x) (hj : j < 4) : (txs l)[k * 4 + j]? = x.cells[j]? := flat_at (tx_len l) h hj
theorem txs_count {w : World} {A : Option Addr} {m : Nat} {l : List TxG} (h : Sl w 4 A m (txs l)) : l.length = m := by have := h.1; rw [txs_len] at this; omega
theorem Sl.txn {w : World} {A : Option Addr} {m k : Nat} {l : List TxG} (h : Sl w 4 A m (txs l)) (hk : k < m) : ∃ b off x, A = some ⟨b, off, none⟩ ∧ b < w.heap.size ∧ l[k]? = some x ∧
    w.cell? ⟨b, off + k * 4, none⟩ = some (S x.who) ∧ w.cell? ⟨b, off + k * 4 + 1, none⟩ = some (S x.text) ∧ w.cell? ⟨b, off + k * 4 + 2, none⟩ = some (I x.stamp) ∧ w.cell? ⟨b, off + k * 4 + 3, none⟩ = some (.slice x.A x.n x.c) := by
  obtain ⟨b, off, rfl, hb, hc⟩ := h.2 (by omega)
  have hl := txs_count h
  obtain ⟨x, hx⟩ : ∃ x, l[k]? = some x := ⟨l[k]'(by omega), List.getElem?_eq_getElem _⟩
  refine ⟨b, off, x, rfl, hb, hx, ?_, ?_, ?_, ?_⟩
  · have := (hc (k * 4 + 0) (by omega)).trans (txs_at hx (by omega : 0 < 4)); simpa [TxG.cells] using this
  · have := (hc (k * 4 + 1) (by omega)).trans (txs_at hx (by omega : 1 < 4)); simpa [TxG.cells, Nat.add_assoc] using this
  · have := (hc (k * 4 + 2) (by omega)).trans (txs_at hx (by omega : 2 < 4)); simpa [TxG.cells, Nat.add_assoc] using this
  · have := (hc (k * 4 + 3) (by omega)).trans (txs_at hx (by omega : 3 < 4)); simpa [TxG.cells, Nat.add_assoc] using this

def optF (f : Refs) : List UInt8 → Option Val := fun s => if f s = zv then none else some (f s)
theorem optF_get (f : Refs) (s : List UInt8) : (optF f s).getD zv = f s := by
  unfold optF
  split
  · rename_i h; rw [h]; rfl
  · rfl

/-- a book lies at block p, in its home H; z: how many times one was applied to at most -/
structure BookIn (w : World) (p : Nat) (H : Nat → Prop) (bk : Book) (z m : Nat) (A : Option Addr) (n c : Nat) (xs : List TxG) (cnt : Nat) : Prop where
  blk : Blk w p 73 #[.map (some m), .slice A n c]
  map : MapIs refsC w m cnt (optF bk.f)
  row : w.ownsRow 0 37 4 (.slice A n c) n (txs xs)
  hp : H p
  hm : H m
  hrow : ∀ g, (Value.slice A n c).ownBlock = some g → H g
  txns : xs.map TxG.txn = bk.txns
  chg : ∀ x ∈ xs, SlT H 58 w 5 x.A x.n (chs x.chs)
  inv : Inv bk
  cap : cnt ≤ z * 4096 ∧ n ≤ z
def BookAt (w : World) (p : Nat) (H : Nat → Prop) (bk : Book) (z : Nat) : Prop := ∃ m A n c xs cnt, BookIn w p H bk z m A n c xs cnt

section
variable {w w' : World} {p : Nat} {H : Nat → Prop} {bk : Book} {z m n c cnt : Nat} {A : Option Addr} {xs : List TxG}
theorem BookIn.sl (h : BookIn w p H bk z m A n c xs cnt) : Sl w 4 A n (txs xs) := Sl.of_own h.row
theorem BookIn.len (h : BookIn w p H bk z m A n c xs cnt) : bk.txns.length = n := by rw [← h.txns, List.length_map]; exact txs_count h.sl
theorem BookIn.fr {E : Nat → Prop} (h : BookIn w p H bk z m A n c xs cnt) (hf : Fr E w w') (hE : ∀ k, H k → ¬ E k) : BookIn w' p H bk z m A n c xs cnt where
  blk := hf.blk h.blk (hE p h.hp)
  map := h.map.fr hf (hE m h.hm)
  row := by
    refine ⟨h.row.1, ?_⟩
    rcases h.row.2 with h2 | ⟨g, cap, cur, hv, hg, hh, r⟩
    · exact .inl h2
    · exact .inr ⟨g, cap, cur, hv, hg, (hf.block g (heap_lt hh) (hE g (h.hrow g (by rw [hv]; rfl)))).trans hh, r⟩
  hp := h.hp
  hm := h.hm
  hrow := h.hrow
  txns := h.txns
  chg x hx := (h.chg x hx).fr hf hE
  inv := h.inv
  cap := h.cap
theorem BookIn.step (h : BookIn w p H bk z m A n c xs cnt) (hb : Below w.heap.size w w') : BookIn w' p H bk z m A n c xs cnt := h.fr (E := fun _ => False) (.of_below hb) (fun _ _ h => h)
theorem BookAt.fr {E : Nat → Prop} (h : BookAt w p H bk z) (hf : Fr E w w') (hE : ∀ k, H k → ¬ E k) : BookAt w' p H bk z := by
  obtain ⟨m, A, n, c, xs, cnt, h⟩ := h
  exact ⟨m, A, n, c, xs, cnt, h.fr hf hE⟩
theorem BookAt.step (h : BookAt w p H bk z) (hb : Below w.heap.size w w') : BookAt w' p H bk z := by
  obtain ⟨m, A, n, c, xs, cnt, h⟩ := h
  exact ⟨m, A, n, c, xs, cnt, h.step hb⟩
end

set_option maxHeartbeats 1000000 in
theorem new_any (w : World) : Calls Tryz.prog 18 #[] w fun e w' => ∃ p, e = .returned (.pointer (some ⟨p, 0, none⟩)) ∧ BookAt w' p (fun k => w.heap.size ≤ k ∧ k < w'.heap.size) ⟨RefsLaw.none_, []⟩ 0 ∧ Below w.heap.size w w' := by
  have hmm := @run_makeMap Tryz.prog
  go_enter Tryz.func18, Tryz.ntmps18
  go_wp2
  go_ret
  refine ⟨_, rfl, ⟨w.heap.size, none, 0, 0, [], 0, ?_⟩, balloc (balloc (Below.refl _ w) _) _⟩
  have hb := Blk.new (w.alloc (.map #[] 0)) 73 #[.map (some w.heap.size), .slice none 0 0]
  simp at hb
  refine ⟨by simpa using hb, ?_, World.ownsRow_nil _ _ _ _, by simp, by simp; omega, fun g h => by simp [Value.ownBlock] at h, rfl, by simp, RefsLaw.inv_empty, by omega⟩
  have e : optF RefsLaw.none_ = fun _ => none := by funext s; simp [optF, RefsLaw.none_]
  rw [e]
  exact (MapIs.made refsC w).alloc _

theorem all_any (w : World) (p : Nat) (H : Nat → Prop) (bk : Book) (z m : Nat) (A : Option Addr) (n c : Nat) (xs : List TxG) (cnt : Nat) (hB : BookIn w p H bk z m A n c xs cnt) :
    Calls Tryz.prog 23 #[.pointer (some ⟨p, 0, none⟩)] w fun e w' => e = .returned (.slice A n c) ∧ w = w' := by
  have r := hB.blk.cell
  clear hB
  go_enter Tryz.func23, Tryz.ntmps23
  go_wp2
  go_ret
  exact ⟨rfl, rfl⟩
theorem count_any (w : World) (p : Nat) (H : Nat → Prop) (bk : Book) (z : Nat) (hB : BookAt w p H bk z) :
    Calls Tryz.prog 15 #[.pointer (some ⟨p, 0, none⟩)] w fun e w' => e = .returned (I (bk.txns.length : Nat)) ∧ w = w' := by
  obtain ⟨m, A, n, c, xs, cnt, hB⟩ := hB
  have hl := Lib.hid hB.len
  have C := Lib.hid (all_any w p H bk z m A n c xs cnt hB)
  clear hB
  go_enter Tryz.func15, Tryz.ntmps15
  go_wp2_with (go_at_call 23; refine C.out.mono ?_; rintro e w' ⟨rfl, rfl⟩)
  go_ret
  exact ⟨by rw [hl.out]; rfl, rfl⟩
theorem Tryz.zeroV (w : World) : (zeroValue 43).run Tryz.prog w = .ok (refsC.vv zv) w := by kernel_rfl
set_option maxHeartbeats 1000000 in
theorem value_any (w : World) (p : Nat) (H : Nat → Prop) (bk : Book) (z : Nat) (ref : List UInt8) (hB : BookAt w p H bk z) (hr : ref.length ≤ maxLen) :
    Calls Tryz.prog 26 #[.pointer (some ⟨p, 0, none⟩), S ref] w fun e w' => e = .returned (vV (bk.f ref)) ∧ Below w.heap.size w w' := by
  obtain ⟨m, A, n, c, xs, cnt, hB⟩ := hB
  have r := (hB.blk.alloc (.cells #[S [], S []] 43)).cell
  have hm := hB.map.alloc (.cells #[S [], S []] 43)
  have e1 := Lib.hid (show refsC.vv ((optF bk.f ref).getD zv) = .agg #[S (bk.f ref).id, S (bk.f ref).name] by rw [optF_get]; rfl)
  clear hB
  go_enter Tryz.func26, Tryz.ntmps26
  go_wp2_with (at_lookup; refine wpList_look _ rfl _ _ 71 rfl refsC Tryz.underlying71 zv (Tryz.zeroV _) m cnt _ rfl hm ref rfl hr ?_; rw [e1.out])
  refine bodyPost_ret (v := vV (bk.f ref)) (by simp [results, Tryz.results26, go_sem]) rfl ⟨rfl, ?_⟩
  exact balloc (Below.refl _ w) _

set_option maxHeartbeats 1000000 in
set_option maxRecDepth 100000 in
theorem get_any (w : World) (p : Nat) (H : Nat → Prop) (bk : Book) (z : Nat) (ref : List UInt8) (hB : BookAt w p H bk z) (hr : ref.length ≤ maxLen) (hM : MaxL w) :
    Calls Tryz.prog 13 #[.pointer (some ⟨p, 0, none⟩), S ref] w fun e w' => e = .returned (.tuple #[vV (RefsLaw.get bk ref).1, I ((RefsLaw.get bk ref).2 : Nat)]) ∧ Below w.heap.size w w' := by
  have C1 := Lib.hid (fun W h => value_any W p H bk z ref h hr)
  have kE := eql_val
  have kG := guard_val
  have HB := Lib.hid hB
  have HM := Lib.hid hM
  have hways : (named ref = true ∧ eqV (bk.f ref).id (bk.f ref).name [] [] = true ∧ RefsLaw.get bk ref = (bk.f ref, 9)) ∨ (named ref = true ∧ eqV (bk.f ref).id (bk.f ref).name [] [] = false ∧ RefsLaw.get bk ref = (bk.f ref, 0)) ∨ (named ref = false ∧ RefsLaw.get bk ref = (zv, 1)) := by
    unfold RefsLaw.get
    cases hn : named ref with
    | false => exact .inr (.inr ⟨rfl, rfl⟩)
    | true =>
      cases hv : eqV (bk.f ref).id (bk.f ref).name [] [] with
      | true => exact .inl ⟨rfl, rfl, by rw [if_pos rfl, if_pos (show bk.f ref = zv from eqV_iff.1 hv)]⟩
      | false => exact .inr (.inl ⟨rfl, rfl, by rw [if_pos rfl, if_neg (show ¬ bk.f ref = zv from eqV_not.1 hv)]⟩)
  clear hB hM
  rcases hways with ⟨w1, w2, w3⟩ | ⟨w1, w2, w3⟩ | ⟨w1, w3⟩
  all_goals
    have W3 := Lib.hid w3
    clear w3
    go_enter Tryz.func13, Tryz.ntmps13
    go_wp2_with (first
      | (go_at_call 26; refine (C1.out _ (HB.out.step (balloc (Below.refl _ w) _))).mono ?_; rintro e w1 ⟨rfl, b1⟩; have q1 := Lib.hid (bstep (balloc (Below.refl _ w) _) b1); have rz := Lib.hid b1.size; have r0 := Lib.hid ((Blk.new w 43 #[S [], S []]).step b1); clear b1)
      | (go_at_call 30; refine (named_any _ _ (HM.out.step (balloc q1.out _))).mono ?_; rintro e w2 ⟨rfl, b2⟩; have q2 := Lib.hid (bstep (balloc q1.out _) b2); have rt := ((Blk.new w1 43 #[S (bk.f ref).id, S (bk.f ref).name]).step b2).cell; have r0c := ((r0.out.alloc _).step b2).cell; have r0f := ((r0.out.alloc _).step b2).frozen; have z2 := Lib.hid b2.size; clear b2))
    refine bodyPost_ret (v := .tuple #[vV (RefsLaw.get bk ref).1, I ((RefsLaw.get bk ref).2 : Nat)]) ?_ rfl ⟨rfl, ?_⟩
    · rw [W3.out]
      simp [results, Tryz.results13, go_sem, r0c]
      try exact ⟨rfl, rfl⟩
    · exact (q2.out.setCell (Nat.le_refl _) _).setCell (Nat.le_refl _) _
end Go.Proofs.YtegehaokfcamfaaGreatDoor
