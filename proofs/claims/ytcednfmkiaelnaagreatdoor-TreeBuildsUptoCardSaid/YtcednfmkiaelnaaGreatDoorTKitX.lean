/-
  Texts merged: MaxL, OpenBulk, Files, OpenFiles, OpenFilesU, CopyKit, PathWalk, Compact, Bools, ChainRegion, SumLaw, SortKit, ConcatB, RangeS, AppendIn, SortK, SortS, DiffLaw, MapSS. What each law says and asks stands at its head.
-/
import Derived.Test.YtcednfmkiaelnaaGreatDoorTKitW
import Derived.Test.YtcednfmkiaelnaaGreatDoorShelf
import Derived.Outline
import Derived.Test.YtcednfmkiaelnaaGreatDoorRows
import Derived.Lib.SlicesCompact
import Derived.BigQuiet
import Derived.Sort.Walk0
import Derived.Lib.AppendZerosOnto
import Derived.Lib.SliceRun
import Derived.RangeFuncNested
import Derived.RangeFuncWrites
import Derived.RangeFuncBound
import Derived.RangeFuncCalls
import Derived.RangeFuncLeaves
import Derived.RangeFuncBox
import Derived.OwnWalkIn
import Derived.TacticsInMore
import Derived.LoopNIn
import Derived.LoopIn
import Derived.Maps.AppendAt
import Derived.Shelf.SlSortCmp.NoneTotal
import Derived.Sort.OwnSorted
import Derived.Lib.RowBridge
namespace Go.Proofs.YtcednfmkiaelnaaGreatDoor
open Go.RowKit
def MaxL (w : World) : Prop := ∃ m : Int, w.cell? ⟨0, 0, none⟩ = some (I m)
theorem MaxL.lt {w : World} (h : MaxL w) : 0 < w.heap.size := by obtain ⟨m, hm⟩ := h; exact World.block_lt_of_cell? _ _ hm
theorem MaxL.step {w w' : World} (h : MaxL w) (hb : Below w.heap.size w w') : MaxL w' := by
 have hl := h.lt
 obtain ⟨m, hm⟩ := h
 exact ⟨m, (hb.cell (p := ⟨0, 0, none⟩) hl).trans hm⟩
theorem indexByte_any (s : List UInt8) (c : UInt8) (w : World) :
  Calls Tryz.prog 75 #[S s, U8 c] w fun e w' => e = .returned (I (Lib.indexByte s c)) ∧ w = w' := by
 refine (Tryz.strings_IndexByte ⟨s.toArray⟩ (c.toNat : Int) w).mono ?_
 rintro e w' ⟨rfl, rfl⟩
 exact ⟨by simp, rfl⟩
theorem conv_bytes (w : World) (s : List UInt8) : ∃ (c : Nat) (o : Obj), (convert 9 38 (S s)).run Tryz.prog w = .ok (.slice (some ⟨w.heap.size, 0, none⟩) s.length c) (w.drew.alloc o) ∧
  ∀ (i : Nat) (x : UInt8), s[i]? = some x → (w.alloc o).cell? ⟨w.heap.size, i, none⟩ = some (U8 x) := by
 have h := run_bytes_of_string (P := Tryz.prog) w 9 38 5 ⟨s.toArray⟩ Tryz.underlying9 Tryz.underlying38 Tryz.underlying5
 rw [size_mk] at h
 refine ⟨_, _, h, fun i x hi => ?_⟩
 have hl := (List.getElem?_eq_some_iff.1 hi).1
 have hr : (w.drew.alloc (.cells (bytesRow ⟨s.toArray⟩ (grownCap w s.length 0 5)) 5 ((bytesRow ⟨s.toArray⟩ (grownCap w s.length 0 5)).size, (bytesRow ⟨s.toArray⟩ (grownCap w s.length 0 5)).size + 1))).heap[w.heap.size]? = some (.cells (bytesRow ⟨s.toArray⟩ (grownCap w s.length 0 5)) 5 ((bytesRow ⟨s.toArray⟩ (grownCap w s.length 0 5)).size, (bytesRow ⟨s.toArray⟩ (grownCap w s.length 0 5)).size + 1)) := heap_alloc_new w.drew _
 show (w.drew.alloc _).cell? _ = _
 rw [cell_of_row _ _ i _ _ _ hr, bytesRow, Array.getElem?_append_left (by simpa using hl)]
 simp [hi]
end Go.Proofs.YtcednfmkiaelnaaGreatDoor
namespace Go.Proofs.YtcednfmkiaelnaaGreatDoor
open Go.ChangeShapes Go.WideShapes Go.RowKit Go.Deep
section
variable {H : Type} {enc : TypeId × Value → H} {P : Program} {w : World} {base : Nat} {spare : Nat → Bool} {held : Bool}
theorem bulk_mem {d : DataW H} : ∀ {l : List (DataW H)}, d ∈ l → Rows.uptoBulk d ≤ Rows.uptoBulkAll l
 | [], h => by cases h
 | a :: l, h => by
  rw [Rows.uptoBulkAll]
  rcases List.mem_cons.1 h with rfl | h
  ·omega
  ·have := bulk_mem h; omega
theorem bulk_pos (d : DataW H) : 1 ≤ Rows.uptoBulk d := by
 cases d with
 | lit l => cases l <;> simp [Rows.uptoBulk]
 | _ => simp [Rows.uptoBulk]
theorem bulk_len : ∀ l : List (DataW H), l.length ≤ Rows.uptoBulkAll l
 | [] => by simp
 | a :: l => by
  have h1 := bulk_len l
  have h2 := bulk_pos a
  rw [Rows.uptoBulkAll, List.length_cons]
  omega
theorem open_rowsB {α : Type} (f : α → List Value) (Good : α → Prop) {fuel sz N : Nat} {t e : TypeId} {v : Value} {x : DataW H × List MemPlace} (ht : P.underlying t = some (.slice e)) (hc : P.cellsOf e = sz) (h0 : 0 < sz)
  (he : ∀ n cs y, DataW.trod enc P w base (fun _ => true) held n e cs = some y → Rows.uptoBulk y.1 ≤ N → ∃ x : α, cs = f x ∧ Good x)
  (h : DataW.trod enc P w base (fun _ => true) held fuel t [v] = some x) (hw : Rows.uptoBulk x.1 ≤ N) :
  ∃ (A : Option Addr) (n c : Nat) (xs : List α), v = .slice A n c ∧ xs.length = n ∧ n ≤ N ∧ (∀ x ∈ xs, Good x ∧ (f x).length = sz) ∧ Sl w sz A n (xs.flatMap f) := by
 rcases open_slice ht h with ⟨hcs, hx⟩ | ⟨a, len, cap, m, n, D, Pl, hcs, hb, hl, hm, hmm, hx, hel⟩
 ·obtain rfl : v = .slice none 0 0 := by simpa using hcs
  exact ⟨none, 0, 0, [], rfl, rfl, by omega, by simp, Sl.nil_⟩
 ·obtain rfl : v = .slice (some a) len cap := by simpa using hcs
  rw [if_pos rfl] at hmm
  subst hmm
  have hall : ∀ i, i < len → ∃ x : α, w.cells? base (a.add (i * sz)) sz = some (f x) ∧ Good x := by
   intro i hi
   obtain ⟨cs', h1, h2⟩ := hel i (by omega)
   rw [hc] at h1
   obtain ⟨y, rfl, hg⟩ := he n cs' _ h2 (by
    rw [hx, Rows.uptoBulk] at hw
    have h3 := bulk_mem (List.mem_map.2 ⟨i, List.mem_range.2 hi, rfl⟩ : D i ∈ (List.range len).map D)
    show Rows.uptoBulk (D i) ≤ N
    omega)
   exact ⟨y, h1, hg⟩
  obtain ⟨xs, hxl, hxs⟩ := choose_list len hall
  have hsz : ∀ y ∈ xs, Good y ∧ (f y).length = sz := by
   intro y hy
   obtain ⟨i, hi⟩ := List.getElem?_of_mem hy
   obtain ⟨h1, h2⟩ := hxs i y hi
   exact ⟨h2, (World.cells?_some h1).2.1⟩
  have hlN : len ≤ N := by
   rw [hx, Rows.uptoBulk] at hw
   have h3 := bulk_len ((List.range len).map D)
   rw [List.length_map, List.length_range] at h3
   omega
  refine ⟨some a, len, m, xs, rfl, hxl, hlN, hsz, ?_, fun hn => ?_⟩
  ·rw [flat_len (fun y hy => (hsz y hy).2), hxl]
  ·obtain ⟨y0, hy0⟩ : ∃ y, xs[0]? = some y := ⟨xs[0]'(by omega), List.getElem?_eq_getElem _⟩
   have h00 := (World.cells?_some (hxs 0 y0 hy0).1).2.2 0 h0
   have hfl := (hsz y0 (List.mem_of_getElem? hy0)).2
   rw [Nat.zero_mul, show (a.add 0).add 0 = a by simp [Addr.add], List.getElem?_eq_getElem (by omega)] at h00
   have hsp := addr_plain h00
   obtain ⟨b, off, sp⟩ := a
   subst hsp
   refine ⟨b, off, rfl, World.block_lt_of_cell? _ _ h00, fun k hk => ?_⟩
   have hi : k / sz < len := Nat.div_lt_of_lt_mul (by rw [Nat.mul_comm]; exact hk)
   obtain ⟨y, hy⟩ : ∃ y, xs[k / sz]? = some y := ⟨xs[k / sz]'(by omega), List.getElem?_eq_getElem _⟩
   have h1 := (World.cells?_some (hxs _ y hy).1).2.2 (k % sz) (Nat.mod_lt _ h0)
   have h2 := flat_at (fun y hy => (hsz y hy).2) hy (Nat.mod_lt k h0)
   have e1 : k / sz * sz + k % sz = k := by rw [Nat.mul_comm]; exact Nat.div_add_mod k sz
   rw [e1] at h2
   rw [h2, ← h1, Deep.add_add, e1]
   unfold Addr.add
   split <;> simp_all
theorem fldB {fs : Array Field} {t : TypeId} {fuel k : Nat} {cs : List Value} {x : DataW H × List MemPlace} (ht : P.underlying t = some (.struct fs)) (h : DataW.trod enc P w base spare held fuel t cs = some x) (i : Nat) {f : Field} (hf : fs[i]? = some f) (hk : P.cellsOf f.type = k) :
  ∃ n y, DataW.trod enc P w base spare held n f.type ((cs.drop f.offset).take k) = some y ∧ cs.length = P.cellsOf t ∧ Rows.uptoBulk y.1 ≤ Rows.uptoBulk x.1 := by
 obtain ⟨xs, n, _, rfl, hl, hlen, hg⟩ := DataW.trod_struct ht h
 have hi : i < xs.length := by rw [hlen]; exact (Array.getElem?_eq_some_iff.1 hf).1
 have h1 := hg i f hf
 rw [hk, List.getElem?_eq_getElem hi] at h1
 refine ⟨n, xs[i], h1, hl, ?_⟩
 have h3 := bulk_mem (List.mem_map.2 ⟨xs[i], List.getElem_mem hi, rfl⟩ : (xs[i]).1 ∈ xs.map (·.1))
 simp only [Rows.uptoBulk]
 omega
end
end Go.Proofs.YtcednfmkiaelnaaGreatDoor
namespace Go.Proofs.YtcednfmkiaelnaaGreatDoor
open Go.RowKit
abbrev Fil := List UInt8 × List UInt8
def flC (f : Fil) : List Value := [S f.1, S f.2]
def fls (l : List Fil) : List Value := l.flatMap flC
theorem flC_len (l : List Fil) : ∀ x ∈ l, (flC x).length = 2 := fun _ _ => rfl
theorem fls_len (l : List Fil) : (fls l).length = l.length * 2 := flat_len (flC_len l)
theorem fls_append (l k : List Fil) : fls (l ++ k) = fls l ++ fls k := by simp [fls]
theorem one_fls (l : List Fil) : ∀ u ∈ fls l, u.oneCell' = true := by
 intro u hu
 obtain ⟨c, _, hu⟩ := List.mem_flatMap.1 hu
 simp [flC] at hu
 rcases hu with rfl | rfl <;> rfl
theorem fls_at {l : List Fil} {k j : Nat} {c : Fil} (h : l[k]? = some c) (hj : j < 2) : (fls l)[k * 2 + j]? = (flC c)[j]? := flat_at (flC_len l) h hj
theorem fls_count {w : World} {A : Option Addr} {m : Nat} {l : List Fil} (h : Sl w 2 A m (fls l)) : l.length = m := by have := h.1; rw [fls_len] at this; omega
theorem Sl.fil {w : World} {A : Option Addr} {m k : Nat} {l : List Fil} (h : Sl w 2 A m (fls l)) (hk : k < m) : ∃ b off c, A = some ⟨b, off, none⟩ ∧ b < w.heap.size ∧ l[k]? = some c ∧
  w.cell? ⟨b, off + k * 2, none⟩ = some (S c.1) ∧ w.cell? ⟨b, off + k * 2 + 1, none⟩ = some (S c.2) := by
 obtain ⟨b, off, rfl, hb, hc⟩ := h.2 (by omega)
 have hl := fls_count h
 obtain ⟨x, hx⟩ : ∃ x, l[k]? = some x := ⟨l[k]'(by omega), List.getElem?_eq_getElem _⟩
 refine ⟨b, off, x, rfl, hb, hx, ?_, ?_⟩
 ·have := (hc (k * 2 + 0) (by omega)).trans (fls_at hx (by omega : 0 < 2)); simpa [flC] using this
 ·have := (hc (k * 2 + 1) (by omega)).trans (fls_at hx (by omega : 1 < 2)); simpa [flC, Nat.add_assoc] using this
theorem sl_fil (w : World) (t : TypeId) (x : Fil) : Sl (w.alloc (.cells #[S x.1, S x.2] t)) 2 (some ⟨w.heap.size, 0, none⟩) 1 (fls [x]) := by
 refine ⟨by simp [fls, flC], fun _ => ⟨_, _, rfl, by simp, fun k hk => ?_⟩⟩
 rw [Nat.zero_add]
 simp [fls, flC]
theorem Tryz.infoFil : (Tryz.prog.info? 61).map (fun i => (i.zero, i.size, i.bytes)) = some (some (.agg #[.string ⟨#[]⟩, .string ⟨#[]⟩]), 2, 32) := by kernel_rfl
theorem Tryz.infoRFil : (Tryz.prog.info? 76).map (fun i => (i.zero, i.size, i.bytes)) = some (some (.agg #[.string ⟨#[]⟩, .string ⟨#[]⟩]), 2, 32) := by kernel_rfl
end Go.Proofs.YtcednfmkiaelnaaGreatDoor
namespace Go.Proofs.YtcednfmkiaelnaaGreatDoor
open Go.ChangeShapes Go.WideShapes Go.RowKit Go.Deep
theorem Tryz.cellsRFil : Tryz.prog.cellsOf 76 = 2 := by kernel_rfl
section
variable {H : Type} {enc : TypeId × Value → H} {w : World} {base : Nat} {held : Bool}
end
section
variable {H : Type} {enc : TypeId × Value → H} {w : World} {base : Nat} {held : Bool}
theorem open_rfilU {fuel : Nat} {cs : List Value} {x : DataW H × List MemPlace} (h : DataW.trod enc Tryz.prog w base (fun _ => true) held fuel 76 cs = some x) : ∃ f : Fil, cs = flC f ∧ f.1.length ≤ Rows.uptoBulk x.1 ∧ f.2.length ≤ Rows.uptoBulk x.1 := by
 obtain ⟨n0, y0, h0, hl, b0⟩ := fldB Tryz.underlying76 h 0 rfl Tryz.cellsStr
 obtain ⟨n1, y1, h1, _, b1⟩ := fldB Tryz.underlying76 h 1 rfl Tryz.cellsStr
 obtain ⟨s0, e0, f0, _⟩ := DataW.trod_string Tryz.underlying9 h0
 obtain ⟨s1, e1, f1, _⟩ := DataW.trod_string Tryz.underlying9 h1
 rw [Tryz.cellsRFil] at hl
 match cs, hl with
 | [c0, c1], _ =>
  simp at e0 e1
  subst e0 e1
  obtain ⟨l0, rfl⟩ := str_of s0
  obtain ⟨l1, rfl⟩ := str_of s1
  rw [f0] at b0
  rw [f1] at b1
  simp [Rows.uptoBulk] at b0 b1
  exact ⟨(l0, l1), rfl, by show l0.length ≤ _; omega, by show l1.length ≤ _; omega⟩
theorem open_rfilesU {fuel : Nat} {v : Value} {x : DataW H × List MemPlace} (h : DataW.trod enc Tryz.prog w base (fun _ => true) held fuel 22 [v] = some x) (hw : Rows.uptoBulk x.1 ≤ 1048576) :
  ∃ (A : Option Addr) (n c : Nat) (l : List Fil), v = .slice A n c ∧ Sl w 2 A n (fls l) ∧ n ≤ 1048576 ∧ ∀ f ∈ l, f.1.length ≤ 1048576 := by
 obtain ⟨A, n, c, xs, rfl, _, hn, hxs, hS⟩ := open_rowsB (α := Fil) flC (fun f => f.1.length ≤ 1048576) Tryz.underlying22 Tryz.cellsRFil (by omega) (fun n cs y hy hwy => by
  obtain ⟨f, e, h1, _⟩ := open_rfilU hy
  exact ⟨f, e, by omega⟩) h hw
 exact ⟨A, n, c, xs, rfl, hS, hn, fun o ho => (hxs o ho).1⟩
end
end Go.Proofs.YtcednfmkiaelnaaGreatDoor
namespace Go.Proofs.YtcednfmkiaelnaaGreatDoor
open Go.RowKit
def CJ (W0 W1 W2 : World) : Nat → World → Prop
 | 0, w => w = W0
 | 1, w => w = W1
 | _, w => w = W2
theorem CJ.step {W0 W1 W2 : World} : ∀ (k : Nat) (w w' : World), CJ W0 W1 W2 k w → w' = w → CJ W0 W1 W2 k w' := by
 rintro k w w' h rfl
 exact h
theorem CJ.bel {B : Nat} {w0 W0 W1 W2 : World} (h0 : Below B w0 W0) (h1 : Below B w0 W1) (h2 : Below B w0 W2) : ∀ (k : Nat) (w : World), CJ W0 W1 W2 k w → Below B w0 w
 | 0, _, h => by cases h; exact h0
 | 1, _, h => by cases h; exact h1
 | (_ + 2), _, h => by cases h; exact h2
def dstAllC2 (ops : Array Oper) (n : Nat) : Bool := ops.all (fun o => match o.dst with | some d => decide (d < n) | none => true)
theorem dst_ltC2 {ops : Array Oper} {n : Nat} (h : dstAllC2 ops n = true) (i : Nat) (o : Oper) (d : Nat) (ho : ops[i]? = some o) (hd : o.dst = some d) : d < n := by
 have h1 := Array.all_eq_true_iff_forall_mem.1 h o (Array.mem_of_getElem? ho)
 rw [hd] at h1
 simpa using h1
end Go.Proofs.YtcednfmkiaelnaaGreatDoor
namespace Go.Proofs.YtcednfmkiaelnaaGreatDoor
open Go.RowKit
open PathLaw (pc under)
theorem str_mk (x : ByteArray) : Value.string x = S x.data.toList := by cases x; simp
theorem strs_of (l : List ByteArray) : l.map Value.string = strs (l.map (·.data.toList)) := by
 simp only [strs, List.map_map]
 exact List.map_congr_left (fun x _ => str_mk x)
set_option maxHeartbeats 400000 in
theorem split_any (b : List UInt8) (w : World) (hb : b.length < 4294967281) (hM : MaxL w) :
  Calls Tryz.prog 32 #[S b, S [47]] w fun e w' => e = .returned (.slice (some ⟨w.heap.size, 0, none⟩) (pc b).length (pc b).length) ∧ w' = w.alloc (.cells (strs (pc b)).toArray 9) := by
 obtain ⟨m, hm⟩ := hM
 have hsz : (⟨b.toArray⟩ : ByteArray).size = b.length := size_mk b
 have hle := Lib.countB_le ⟨#[47]⟩ (by decide) (⟨b.toArray⟩ : ByteArray).size ⟨b.toArray⟩ (Nat.le_refl _)
 have hlen := Lib.splitB_all ⟨#[47]⟩ (by decide) 0 _ ⟨b.toArray⟩ rfl
 have c := Tryz.strings_genSplit ⟨b.toArray⟩ ⟨#[47]⟩ 0 (-1) (Lib.countB ⟨b.toArray⟩ ⟨#[47]⟩ + 1) m w (by omega) hm (by decide) (by decide) (by decide) (by decide) (by rw [if_pos (by decide)]; omega)
 have hd := Lib.splitB_data ⟨#[47]⟩ 0 (Lib.countB ⟨b.toArray⟩ ⟨#[47]⟩) ⟨b.toArray⟩
 have hsa : Lib.splitK [47] 0 (Lib.countB ⟨b.toArray⟩ ⟨#[47]⟩) b = pc b := PathLaw.split_pc _ _ rfl
 dsimp only at hd
 rw [hsa] at hd
 have hl2 : (pc b).length = Lib.countB ⟨b.toArray⟩ ⟨#[47]⟩ + 1 := by rw [← hd, List.length_map, hlen]
 rw [Nat.add_sub_cancel, hlen] at c
 have e2 : Lib.cellsOf (Lib.splitB ⟨#[47]⟩ 0 (Lib.countB ⟨b.toArray⟩ ⟨#[47]⟩) ⟨b.toArray⟩) (Lib.countB ⟨b.toArray⟩ ⟨#[47]⟩ + 1) = (strs (pc b)).toArray := by rw [← hd, ← strs_of, ← hlen]; exact Lib.cellsOf_full _
 rw [e2, ← hl2] at c
 have C := Lib.hid c
 clear c hlen hle hd hsa e2 hl2 hm
 go_enter Tryz.func32, Tryz.ntmps32
 go_wp2_with fail
 refine C.out.mono ?_
 rintro e w' ⟨rfl, hw⟩
 rw [hw]
 go_wp2
 go_ret
 exact ⟨rfl, rfl⟩
theorem indexByte_at (s : List UInt8) (c : UInt8) (n : Int) (hn : n = (c.toNat : Int)) (w : World) :
  Calls Tryz.prog 75 #[S s, .int .u8 n] w fun e w' => e = .returned (I (Lib.indexByte s c)) ∧ w = w' := by
 subst hn
 exact indexByte_any s c w
set_option maxHeartbeats 1000000 in
set_option maxRecDepth 100000 in
theorem part_any (s : List UInt8) (w : World) :
  Calls Tryz.prog 33 #[S s] w fun e w' => e = .returned (.bool (PathLaw.part s)) ∧ w = w' := by
 have C1 := Lib.hid (fun W => indexByte_at s 47 47 rfl W)
 have C2 := Lib.hid (fun W => indexByte_at s 0 0 rfl W)
 go_enter Tryz.func33, Tryz.ntmps33
 go_wp2_with (go_at_call 75; first | ((with_reducible refine (C1.out _).mono ?_); rintro e w' ⟨rfl, rfl⟩) | ((with_reducible refine (C2.out _).mono ?_); rintro e w' ⟨rfl, rfl⟩))
 all_goals
  go_ret
  refine ⟨ret_bool ?_, rfl⟩
  unfold PathLaw.part
  clear C1 C2
  grind
theorem all_take_succ {α : Type} {f : α → Bool} {l : List α} {k : Nat} {x : α} (h : (l.take k).all f = true) (hx : l[k]? = some x) (hk : f x = true) : (l.take (k + 1)).all f = true := by
 rw [List.take_add_one, List.all_append, h, hx]
 simp [hk]
theorem all_not {α : Type} {f : α → Bool} {l : List α} {k : Nat} {x : α} (hx : l[k]? = some x) (hk : f x = false) : l.all f = false := by
 rw [List.all_eq_false]
 exact ⟨x, List.mem_of_getElem? hx, by simp [hk]⟩
set_option maxHeartbeats 1000000 in
theorem named_any (s : List UInt8) (w : World) (hs : s.length ≤ 2147483648) (hM : MaxL w) :
  Calls Tryz.prog 11 #[S s] w fun e w' => e = .returned (.bool (PathLaw.named s)) ∧ Below w.heap.size w w' := by
 have C1 := Lib.hid (fun W (h : MaxL W) => split_any s W (by omega) h)
 have hl := PathLaw.pc_len s
 have hS := Lib.hid ((Blk.new w 9 (strs (pc s)).toArray).sl)
 have hlen : Hid ((strs (pc s)).length = (pc s).length) := Lib.hid (by simp [strs])
 rw [hlen.out] at hS
 generalize hn : (pc s).length = n at *
 have Hn := Lib.hid hn
 clear hn
 go_enter Tryz.func11, Tryz.ntmps11
 go_wp2_with (go_at_call 32; refine (C1.out _ hM).mono ?_; rintro e w' ⟨rfl, rfl⟩)
 go_loop [10] (fun i => ∃ k : Nat, i = .int .i64 k ∧ k ≤ n ∧ Hid (((pc s).take k).all PathLaw.part = true)) (fun i => n - (intOf i).toNat)
 case atStart => exact ⟨0, rfl, Nat.zero_le _, Lib.hid rfl⟩
 case round =>
  obtain ⟨k, rfl, hk, ha⟩ := hrel
  by_cases hlt : k < n
  ·obtain ⟨b, off, x, e1, hx, hc⟩ := hS.out.str hlt
   cases e1
   have Hx := Lib.hid hx
   rw [Nat.zero_add] at hc
   clear hx
   cases hp : PathLaw.part x with
   | true =>
    have C2 := part_any x
    rw [hp] at C2
    have C3 := Lib.hid C2
    have Hp := Lib.hid hp
    clear C2 hp
    go_wp2_with (go_at_call 33; refine (C3.out _).mono ?_; rintro e w' ⟨rfl, rfl⟩)
    go_round
    case rel => exact ⟨k + 1, by go_num, hlt, Lib.hid (all_take_succ ha.out Hx.out Hp.out)⟩
    case measure => simp [intOf]; omega
   | false =>
    have C2 := part_any x
    rw [hp] at C2
    have C3 := Lib.hid C2
    have Hp := Lib.hid hp
    clear C2 hp
    go_wp2_with (go_at_call 33; refine (C3.out _).mono ?_; rintro e w' ⟨rfl, rfl⟩)
    go_ret
    refine ⟨ret_bool ?_, balloc (Below.refl _ w) _⟩
    unfold PathLaw.named
    rw [all_not Hx.out Hp.out]
    rfl
  ·obtain rfl : k = n := by omega
   have ha2 : Hid ((pc s).all PathLaw.part = true) := by
    have := ha.out
    rwa [List.take_of_length_le (by rw [Hn.out]; exact Nat.le_refl _)] at this
   clear hlt
   go_wp2
   all_goals
    go_ret
    refine ⟨ret_bool ?_, balloc (Below.refl _ w) _⟩
    unfold PathLaw.named
    rw [ha2.out, Hn.out]
    clear C1 hS hlen Hn ha2 ha
    grind
set_option maxRecDepth 100000 in
set_option maxHeartbeats 400000 in
theorem under_any (p d : List UInt8) (w : World) (hd : d.length ≤ 2147483648) :
  Calls Tryz.prog 13 #[S p, S d] w fun e w' => e = .returned (.bool (under p d)) ∧ w = w' := by
 have h1 : d.length + 1 ≤ maxLen := by unfold maxLen; omega
 go_enter Tryz.func13, Tryz.ntmps13
 go_wp2_with fail
 have e : (⟨d.toArray⟩ ++ ⟨#[47]⟩ : ByteArray) = ⟨(d ++ [47]).toArray⟩ := by
  apply ByteArray.ext
  simp
 rw [e]
 have C := Tryz.strings_HasPrefix ⟨p.toArray⟩ ⟨(d ++ [47]).toArray⟩ w
 have C2 : Calls Tryz.prog 36 #[S p, S (d ++ [47])] w fun e w' => e = .returned (.bool (under p d)) ∧ w = w' := C.mono fun e w' ⟨h1, h2⟩ => ⟨by rw [h1]; simp [under, Lib.hasPrefix], h2.symm⟩
 clear C
 refine C2.mono ?_
 rintro e w' ⟨rfl, rfl⟩
 go_wp2
 go_ret
 exact ⟨rfl, rfl⟩
end Go.Proofs.YtcednfmkiaelnaaGreatDoor
namespace Go.Proofs.YtcednfmkiaelnaaGreatDoor
section
variable {α : Type} [Inhabited α] [DecidableEq α]
end
theorem lt_of_le_ne {a b : List UInt8} (h : a ≤ b) (hne : a ≠ b) : a < b := Classical.byContradiction fun h2 => hne (List.le_antisymm h (List.not_lt.1 h2))
theorem lt_irr_bs (a : List UInt8) : ¬ a < a := List.lt_irrefl a
theorem rising_ext {l k : List (List UInt8)} (hl : l.Pairwise (· < ·)) (hk : k.Pairwise (· < ·)) (h : ∀ x, x ∈ l ↔ x ∈ k) : l = k := by
 induction l generalizing k with
 | nil =>
  cases k with
  | nil => rfl
  | cons y r => exact absurd ((h y).2 (by simp)) (by simp)
 | cons x r ih =>
  cases k with
  | nil => exact absurd ((h x).1 (by simp)) (by simp)
  | cons y s =>
   rw [List.pairwise_cons] at hl hk
   have hxy : x = y := by
    rcases List.mem_cons.1 ((h x).1 (by simp)) with e | e
    ·exact e
    ·rcases List.mem_cons.1 ((h y).2 (by simp)) with f | f
     ·exact f.symm
     ·exact absurd (List.lt_trans (hl.1 y f) (hk.1 x e)) (lt_irr_bs x)
   subst hxy
   congr 1
   refine ih hl.2 hk.2 fun z => ⟨fun hz => ?_, fun hz => ?_⟩
   ·rcases List.mem_cons.1 ((h z).1 (List.mem_cons_of_mem _ hz)) with e | e
    ·exact absurd (hl.1 z hz) (e ▸ lt_irr_bs z)
    ·exact e
   ·rcases List.mem_cons.1 ((h z).2 (List.mem_cons_of_mem _ hz)) with e | e
    ·exact absurd (hk.1 z hz) (e ▸ lt_irr_bs z)
    ·exact e
end Go.Proofs.YtcednfmkiaelnaaGreatDoor
namespace Go.Proofs.YtcednfmkiaelnaaGreatDoor
open Go.RowKit
theorem fls_tru (b : Bool) : b = false ∨ b = true := by cases b <;> simp
theorem extract_mk (s : List UInt8) (f k : Nat) : (⟨s.toArray⟩ : ByteArray).extract f k = ⟨((s.drop f).take (k - f)).toArray⟩ := by
 apply ByteArray.ext
 simp [List.extract]
def reachIn (ops : Array Oper) : Nat → Nat → Nat → Bool
 | 0, _, _ => false
 | f + 1, j, i => match ops[j]? with
  | some o => o.after.any (fun e => Region.binds .any e && (e.on == i || reachIn ops f e.on i))
  | none => false
theorem reachIn_listed {ops : Array Oper} {listed : Array Bool} (hcl : ∀ (i : Nat) (o : Oper), ops[i]? = some o → listed[i]? = some true → ∀ e ∈ o.after, Region.binds .any e = true → listed[e.on]? = some true) :
  ∀ (f j i : Nat) (o : Oper), ops[j]? = some o → (∀ e ∈ o.after, Region.binds .any e = true → listed[e.on]? = some true) → reachIn ops f j i = true → listed[i]? = some true
 | 0, _, _, _, _, _, h => by simp [reachIn] at h
 | f + 1, j, i, o, ho, ha, h => by
  rw [reachIn, ho] at h
  simp only at h
  rw [← Array.any_toList, List.any_eq_true] at h
  obtain ⟨e, he, h⟩ := h
  replace he := Array.mem_toList_iff.1 he
  simp only [Bool.and_eq_true, Bool.or_eq_true, beq_iff_eq] at h
  obtain ⟨h1, h2⟩ := h
  have h3 := ha e he h1
  rcases h2 with h2 | h2
  ·rw [← h2]; exact h3
  ·cases hp : ops[e.on]? with
   | none => cases f with
    | zero => simp [reachIn] at h2
    | succ f => rw [reachIn, hp] at h2; cases h2
   | some p => exact reachIn_listed hcl f e.on i p hp (hcl _ _ hp h3) h2
def chainOk (ops : Array Oper) (n : Nat) (C : List Nat) : Bool :=
 C.all (fun i => decide (i < n) && (match ops[i]? with | some o => o.guard.isNone | none => false)) && decide C.Nodup &&
 (List.range C.length).all (fun s => match C[s]?, C[s + 1]? with | some i, some j => reachIn ops (n + 1) j i | _, _ => true)
def ChainSt (J : Nat → Value → World → Prop) (C : List Nat) (ops : Array Oper) (listed : Array Bool) (a : Act) (w : World) : Prop :=
 ∃ s u, s ≤ C.length ∧ J s u w ∧ (∀ (t i : Nat), C[t]? = some i → listed[i]? = some (decide (t < s))) ∧ ∀ (t i d : Nat) (o : Oper), s = t + 1 → C[t]? = some i → ops[i]? = some o → o.dst = some d → a.eval (.tmp d) = u
theorem wp_region_chain {P : Program} {ops : Array Oper} {Q : Exit → Act → World → Prop} {id : Nat} {a0 : Act} {w0 : World} (hm : P.follows .mixedOrders = true) (n : Nat) (hok : regionOk2 ops n = true)
  (hsz : ∀ (i : Nat) (o : Oper) (d : Nat), ops[i]? = some o → o.dst = some d → d < a0.tmps.size)
  (C : List Nat) (hC : chainOk ops n C = true) (Rel : World → World → Prop) (hRel : ∀ w w', Below w.heap.size w w' → Rel w w')
  (φ : Nat → Value → World → Prop) (hmono : ∀ j v w w', φ j v w → Rel w w' → φ j v w')
  (J : Nat → Value → World → Prop) (hJ : ∀ k u w w', J k u w → Below w.heap.size w w' → J k u w') (h0 : ∃ u, J 0 u w0.drew)
  (hstep : ∀ (i : Nat) (o : Oper), i < n → i ∉ C → ops[i]? = some o → ∀ a w k u, J k u w → SameAct ops a0 a → Met ops φ o a w →
   if Region.wanted o (yielded ops a.tmps) = true then Oper.wp P o a w (fun a' w' => ∃ v, a' = a.put o.dst v ∧ φ i v w' ∧ Below w.heap.size w w') Q else φ i undef w)
  (hchain : ∀ (s i : Nat) (o : Oper), C[s]? = some i → ops[i]? = some o → ∀ a w u, J s u w → SameAct ops a0 a → Met ops φ o a w → Oper.wp P o a w (fun a' w' => ∃ v, a' = a.put o.dst v ∧ φ i v w' ∧ J (s + 1) v w' ∧ Rel w w') Q)
  (hlast : ∀ (o : Oper), ops[n]? = some o → ∀ a w u, J C.length u w → (∀ (t i d : Nat) (o : Oper), C.length = t + 1 → C[t]? = some i → ops[i]? = some o → o.dst = some d → a.eval (.tmp d) = u) → SameAct ops a0 a → Met ops φ o a w → Oper.wp P o a w (fun a' w' => Q .normal a' w') Q) :
  (Code.region id ops true).wp P Q a0 w0 := by
 have hok' := hok
 simp only [regionOk2, Bool.and_eq_true, beq_iff_eq, List.all_eq_true, List.mem_range] at hok'
 obtain ⟨⟨hn, hop⟩, hcov⟩ := hok'
 have hback : ∀ (i : Nat) (o : Oper), ops[i]? = some o → (i = n → o.guard = none) ∧ (∀ e ∈ o.after, e.on < i) ∧ ∀ (j : Nat) (p : Oper) (x : Nat), j < i → ops[j]? = some p → p.dst = some x → o.dst ≠ some x := by
  intro i o ho
  have hlt := (Array.getElem?_eq_some_iff.1 ho).1
  have h1 := hop i (by omega)
  rw [ho] at h1
  simp only [Bool.and_eq_true, List.all_eq_true, List.mem_range] at h1
  obtain ⟨⟨h2, h3⟩, h4⟩ := h1
  refine ⟨fun hi => by
   cases hg : o.guard with
   | none => rfl
   | some q => rw [hg] at h2; simp at h2; omega, fun e he => by simpa using Array.all_eq_true_iff_forall_mem.1 h3 e he, fun j p x hj hp hx hd => ?_⟩
  have h5 := h4 j hj
  rw [hp] at h5
  simp only [hx, hd] at h5
  simp at h5
 have hdst : ∀ (i j : Nat) (o p : Oper) (x : Nat), i ≠ j → ops[i]? = some o → ops[j]? = some p → o.dst = some x → p.dst ≠ some x := by
  intro i j o p x hne ho hp hx hpx
  rcases Nat.lt_or_gt_of_ne hne with h | h
  ·exact (hback j p hp).2.2 i o x h ho hx hpx
  ·exact (hback i o ho).2.2 j p x h hp hpx hx
 simp only [chainOk, Bool.and_eq_true, List.all_eq_true, decide_eq_true_eq, List.mem_range] at hC
 obtain ⟨⟨hC1, hnd⟩, hC2⟩ := hC
 have hCn : ∀ (t i : Nat), C[t]? = some i → i < n := fun t i h => (hC1 i (List.mem_of_getElem? h)).1
 have hCg : ∀ (i : Nat) (o : Oper), i ∈ C → ops[i]? = some o → o.guard = none := fun i o h ho => by
  have := (hC1 i h).2
  rw [ho] at this
  simpa using this
 have hinj : ∀ (s t i : Nat), C[s]? = some i → C[t]? = some i → s = t := fun s t i h1 h2 => by
  obtain ⟨a1, b1⟩ := List.getElem?_eq_some_iff.1 h1
  obtain ⟨a2, b2⟩ := List.getElem?_eq_some_iff.1 h2
  have h3 := List.pairwise_iff_getElem.1 hnd
  rcases Nat.lt_trichotomy s t with h | h | h
  ·exact absurd (b1.trans b2.symm) (h3 s t a1 a2 h)
  ·exact h
  ·exact absurd (b2.trans b1.symm) (h3 t s a2 a1 h)
 refine wp_region_any hm ?_
 refine wpAny_inv (fun listed a w => (∀ (i : Nat) (o : Oper), ops[i]? = some o → listed[i]? = some true → ∀ e ∈ o.after, Region.binds .any e = true → listed[e.on]? = some true) ∧
   (listed[n]? = some false → SameAct ops a0 a ∧ ChainSt J C ops listed a w ∧ ∀ (j : Nat) (p : Oper) (d : Nat), j < n → ops[j]? = some p → p.dst = some d → listed[j]? = some true → φ j (a.eval (.tmp d)) w) ∧
   (listed[n]? = some true → (∀ j, j < n → listed[j]? = some true) ∧ Q .normal a w)) ?_ ?_ ops.size (Array.replicate ops.size false) a0 _ (by simp) ?_ ?_
 ·rintro listed a w i hs ⟨hcl, hun, hfin⟩ hi
  obtain ⟨o, ho, hl, haft⟩ := ready_parts hs hi
  have hlt := (Array.getElem?_eq_some_iff.1 ho).1
  have hnl : listed[n]? = some false := by
   cases hb : listed[n]? with
   | none => rw [Array.getElem?_eq_none_iff] at hb; omega
   | some b => cases b with
    | false => rfl
    | true =>
     obtain ⟨h1, _⟩ := hfin hb
     rcases Nat.lt_or_ge i n with h | h
     ·rw [h1 i h] at hl; cases hl
     ·obtain rfl : i = n := by omega
      rw [hb] at hl; cases hl
  obtain ⟨hsame, ⟨s, u, hsl, hJs, hst, hu⟩, hphi⟩ := hun hnl
  have hmet : Met ops φ o a w := by
   intro e he hb p d hp hd
   have hon := (hback i o ho).2.1 e he
   exact hphi e.on p d (by omega) hp hd (haft e he hb)
  have hset : ∀ k, (listed.setIfInBounds i true)[k]? = if i = k then some true else listed[k]? := by
   intro k
   rw [Array.getElem?_setIfInBounds]
   split
   ·rename_i h; subst h; rw [if_pos (by omega)]
   ·rfl
  refine wpOp_step ho (fun K' hK' => ?_)
  have hcl' : ∀ (k : Nat) (p : Oper), ops[k]? = some p → (listed.setIfInBounds i true)[k]? = some true → ∀ e ∈ p.after, Region.binds .any e = true → (listed.setIfInBounds i true)[e.on]? = some true := by
   intro k p hp hk e he hb
   rw [hset] at hk ⊢
   split
   ·rfl
   ·by_cases hik : i = k
    ·subst hik
     obtain rfl : p = o := Option.some.inj (hp.symm.trans ho)
     exact haft e he hb
    ·rw [if_neg hik] at hk
     exact hcl k p hp hk e he hb
  rcases Nat.lt_or_ge i n with hin | hin
  ·have hput : ∀ (v : Value) (d : Nat), o.dst = some d → (a.put o.dst v).eval (.tmp d) = v := by
    intro v d hd
    have hdlt := hsz i o d ho hd
    rw [hd]
    simp [Act.put, Act.eval, Array.getD_eq_getD_getElem?, hsame.size, hdlt]
   have hoth : ∀ (v : Value) (j d : Nat) (p : Oper), i ≠ j → ops[j]? = some p → p.dst = some d → (a.put o.dst v).eval (.tmp d) = a.eval (.tmp d) := by
    intro v j d p hij hp hd
    have hne : o.dst ≠ some d := hdst j i p o d (fun e => hij e.symm) hp ho hd
    cases hod : o.dst with
    | none => rfl
    | some x =>
     have hxd : x ≠ d := fun e => hne (by rw [hod, e])
     simp [Act.put, Act.eval, Array.getD_eq_getD_getElem?, hxd]
   have key : ∀ (v : Value) (w' : World), φ i v w' → ChainSt J C ops (listed.setIfInBounds i true) (a.put o.dst v) w' → Rel w w' → K' (a.put o.dst v) w' := by
    intro v w' hv hst' hr'
    refine hK' _ _ ?_
    refine ⟨hcl', fun _ => ⟨hsame.put ho v, hst', fun j p d hj hp hd hlj => ?_⟩, fun hf => ?_⟩
    ·rw [hset] at hlj
     by_cases hij : i = j
     ·subst hij
      obtain rfl : p = o := Option.some.inj (hp.symm.trans ho)
      rw [hput v d hd]
      exact hv
     ·rw [if_neg hij] at hlj
      rw [hoth v j d p hij hp hd]
      exact hmono _ _ _ _ (hphi j p d hj hp hd hlj) hr'
    ·rw [hset, if_neg (by omega), hnl] at hf
     cases hf
   by_cases hiC : i ∈ C
   ·obtain ⟨t, ht⟩ := List.mem_iff_getElem?.1 hiC
    have hts : t = s := by
     have h1 := hst t i ht
     rw [hl] at h1
     have h2 : ¬ t < s := by simpa using h1
     rcases Nat.lt_or_ge s t with h3 | h3
     ·obtain ⟨r, hr⟩ : ∃ r, t = r + 1 := ⟨t - 1, by omega⟩
      have h4 : r < C.length := by have := (List.getElem?_eq_some_iff.1 ht).1; omega
      have h5 := hC2 r h4
      have h6 : C[r]? = some C[r] := List.getElem?_eq_getElem h4
      rw [← hr, h6, ht] at h5
      simp only at h5
      have h7 := reachIn_listed hcl _ _ _ o ho haft h5
      rw [hst r _ h6] at h7
      have h8 : r < s := by simpa using h7
      omega
     ·omega
    subst hts
    rw [if_pos (by simp [Region.wanted, hCg i o hiC ho])]
    refine Oper.wp_mono (fun a' w' h' => ?_) (hchain t i o ht ho a w u hJs hsame hmet)
    obtain ⟨v, rfl, hv, hj, hr'⟩ := h'
    refine key v w' hv ⟨t + 1, v, (List.getElem?_eq_some_iff.1 ht).1, hj, fun x k hx => ?_, fun x k d p hx hk hp hd => ?_⟩ hr'
    ·rw [hset]
     by_cases hik : i = k
     ·subst hik
      rw [if_pos rfl, hinj x t i hx ht]
      simp
     ·rw [if_neg hik, hst x k hx]
      have hne : x ≠ t := fun e => hik (by subst e; exact Option.some.inj (ht.symm.trans hx))
      congr 1
      rw [decide_eq_decide]
      omega
    ·obtain rfl : t = x := by omega
     obtain rfl : i = k := Option.some.inj (ht.symm.trans hk)
     obtain rfl : o = p := Option.some.inj (ho.symm.trans hp)
     exact hput v d hd
   ·have hkeep : ∀ v w', Below w.heap.size w w' → ChainSt J C ops (listed.setIfInBounds i true) (a.put o.dst v) w' := by
     intro v w' hb
     refine ⟨s, u, hsl, hJ _ _ _ _ hJs hb, fun x k hx => ?_, fun x k d p hx hk hp hd => ?_⟩
     ·rw [hset, if_neg (fun e => hiC (by subst e; exact List.mem_of_getElem? hx))]
      exact hst x k hx
     ·rw [hoth v k d p (fun e => hiC (by subst e; exact List.mem_of_getElem? hk)) hp hd]
      exact hu x k d p hx hk hp hd
    have hst2 := hstep i o hin hiC ho a w s u hJs hsame hmet
    split
    ·rename_i hw
     rw [if_pos hw] at hst2
     refine Oper.wp_mono (fun a' w' h' => ?_) hst2
     obtain ⟨v, rfl, hv, hb'⟩ := h'
     exact key v w' hv (hkeep v w' hb') (hRel _ _ hb')
    ·rename_i hw
     rw [if_neg hw] at hst2
     exact key undef w hst2 (hkeep undef w (Below.refl _ _)) (hRel _ _ (Below.refl _ _))
  ·obtain rfl : i = n := by omega
   rw [if_pos (by simp [Region.wanted, (hback i o ho).1 rfl])]
   have hall : ∀ (d j : Nat), j < i → i - j ≤ d → listed[j]? = some true := by
    intro d
    induction d with
    | zero => intro j hj hd; omega
    | succ d ih =>
     intro j hj hd
     have h1 := hcov j hj
     rw [List.any_eq_true] at h1
     obtain ⟨k, hk, h1⟩ := h1
     rw [List.mem_range] at hk
     simp only [Bool.and_eq_true, decide_eq_true_eq] at h1
     obtain ⟨hjk, h1⟩ := h1
     split at h1
     ·rename_i q hq
      rw [← Array.any_toList, List.any_eq_true] at h1
      obtain ⟨e, he, h1⟩ := h1
      simp only [Bool.and_eq_true, beq_iff_eq] at h1
      obtain ⟨hb, rfl⟩ := h1
      replace he := Array.mem_toList_iff.1 he
      by_cases hki : k = i
      ·subst hki
       obtain rfl : q = o := Option.some.inj (hq.symm.trans ho)
       exact haft e he hb
      ·exact hcl k q hq (ih k (by omega) (by omega)) e he hb
     ·cases h1
   have hsn : s = C.length := by
    rcases Nat.lt_or_ge s C.length with h1 | h1
    ·have h2 : C[s]? = some C[s] := List.getElem?_eq_getElem h1
     have h3 := hst s _ h2
     rw [hall i _ (hCn s _ h2) (by omega)] at h3
     simp at h3
    ·omega
   refine Oper.wp_mono (fun a' w' h' => hK' a' w' ?_) (hlast o ho a w u (hsn ▸ hJs) (fun t k d p ht hk hp hd => hu t k d p (hsn.trans ht) hk hp hd) hsame hmet)
   refine ⟨hcl', fun hf => ?_, fun _ => ⟨fun j hj => ?_, h'⟩⟩
   ·rw [hset, if_pos rfl] at hf
    cases hf
   ·rw [hset, if_neg (by omega)]
    exact hall i j hj (by omega)
 ·rintro listed a w hs ⟨hcl, hun, hfin⟩ hr
  have hall : ∀ i, i ≤ n → listed[i]? = some true := by
   intro i
   induction i using Nat.strongRecOn with
   | _ i ih =>
    intro hi
    have hlt : i < listed.size := by omega
    have hlo : i < ops.size := by omega
    cases hb : listed[i] with
    | true => rw [Array.getElem?_eq_getElem hlt, hb]
    | false =>
     have hmem := ready_mem (md := .any) (Array.getElem?_eq_getElem hlo) (by rw [Array.getElem?_eq_getElem hlt, hb] : listed[i]? = some false) (fun e he _ => ih e.on ((hback i _ (Array.getElem?_eq_getElem hlo)).2.1 e he) (by have := (hback i _ (Array.getElem?_eq_getElem hlo)).2.1 e he; omega))
     rw [hr] at hmem
     cases hmem
  exact (hfin (hall n (Nat.le_refl _))).2
 ·have hu : ∀ m, undone (List.replicate m false) = m := by
   intro m
   induction m with
   | zero => rfl
   | succ m ih => rw [List.replicate_succ, undone, ih]; simp; omega
  simp [hu]
 ·refine ⟨fun i o ho hl => ?_, fun _ => ⟨⟨rfl, rfl, fun _ _ => rfl⟩, ⟨0, h0.choose, Nat.zero_le _, h0.choose_spec, fun t i ht => ?_, fun t i d o ht => absurd ht (by omega)⟩, fun j p d hj hp hd hl => ?_⟩, fun hl => ?_⟩
  ·rw [Array.getElem?_replicate] at hl; split at hl <;> cases hl
  ·rw [Array.getElem?_replicate, if_pos (by have := hCn t i ht; omega)]; simp
  ·rw [Array.getElem?_replicate] at hl; split at hl <;> cases hl
  ·rw [Array.getElem?_replicate] at hl; split at hl <;> cases hl
end Go.Proofs.YtcednfmkiaelnaaGreatDoor
namespace Go.Proofs.YtcednfmkiaelnaaGreatDoor
abbrev two32 : Nat := 4294967296
def rot32 (x k : Nat) : Nat := (x <<< k) % two32 ||| x >>> (32 - k)
def num4 (b : List UInt8) (i : Nat) : Nat := (b.getD i 0).toNat + 256 * (b.getD (i + 1) 0).toNat + 65536 * (b.getD (i + 2) 0).toNat + 16777216 * (b.getD (i + 3) 0).toNat
def wordsOf (b : List UInt8) : List Nat := (List.range 8).map fun i => num4 b (4 * i)
def stepW (W : List Nat) (r i : Nat) (s : List Nat) : List Nat :=
 s.set i ((rot32 (s.getD i 0 ^^^ W.getD ((i + r) % 8) 0) (5 + 3 * i) + s.getD ((i + 1) % 8) 0 * 2246822507 + (i + r)) % two32)
def stepsW (W : List Nat) (s : List Nat) : Nat → List Nat
 | 0 => s
 | k + 1 => stepW W (k / 8) (k % 8) (stepsW W s k)
def takeB (s : List Nat) (b : List UInt8) : List Nat := stepsW (wordsOf b) s 64
def firstS : List Nat := (List.range 8).map fun i => (i + 1) * 2654435769 % two32
def absorb (s : List Nat) (b : List UInt8) : List Nat × List UInt8 :=
 if _h : 32 ≤ b.length then absorb (takeB s (b.take 32)) (b.drop 32) else (s, b)
termination_by b.length
decreasing_by simp; omega
def leBytes (x : Nat) : Nat → List UInt8
 | 0 => []
 | n + 1 => UInt8.ofNat (x % 256) :: leBytes (x / 256) n
def padLen (n : Nat) : Nat := (55 - n % 32) % 32
def padOf (n : Nat) (total : Nat) : List UInt8 := [1] ++ List.replicate (padLen n) 0 ++ leBytes total 8 ++ List.replicate 32 0
def sumL (b : List UInt8) : List UInt8 :=
 let a := absorb firstS b
 ((absorb a.1 (a.2 ++ padOf a.2.length (b.length % 18446744073709551616))).1.map (fun x => leBytes x 4)).flatten
theorem stepW_len (W : List Nat) (r i : Nat) (s : List Nat) : (stepW W r i s).length = s.length := by simp [stepW]
theorem stepsW_len (W s : List Nat) : ∀ k, (stepsW W s k).length = s.length
 | 0 => rfl
 | k + 1 => by rw [stepsW, stepW_len, stepsW_len W s k]
theorem takeB_len (s : List Nat) (b : List UInt8) : (takeB s b).length = s.length := stepsW_len _ _ _
theorem absorb_len : ∀ (b : List UInt8) (s : List Nat), (absorb s b).1.length = s.length := by
 intro b
 induction h : b.length using Nat.strongRecOn generalizing b with
 | ind n ih =>
  intro s
  rw [absorb]
  by_cases h2 : 32 ≤ b.length
  ·rw [dif_pos h2, ih (b.drop 32).length (by simp; omega) (b.drop 32) rfl, takeB_len]
  ·rw [dif_neg h2]
theorem absorb_small {b : List UInt8} (h : b.length < 32) (s : List Nat) : absorb s b = (s, b) := by rw [absorb, dif_neg (by omega)]
theorem absorb_rest : ∀ (b : List UInt8) (s : List Nat), (absorb s b).2.length < 32 := by
 intro b
 induction h : b.length using Nat.strongRecOn generalizing b with
 | ind n ih =>
  intro s
  rw [absorb]
  by_cases h2 : 32 ≤ b.length
  ·rw [dif_pos h2]
   exact ih (b.drop 32).length (by simp; omega) (b.drop 32) rfl _
  ·rw [dif_neg h2]
   show b.length < 32
   omega
theorem leBytes_len : ∀ (n x : Nat), (leBytes x n).length = n
 | 0, _ => rfl
 | n + 1, x => by rw [leBytes, List.length_cons, leBytes_len n]
theorem flat4 : ∀ (l : List Nat), ((l.map (fun x => leBytes x 4)).flatten).length = 4 * l.length
 | [] => rfl
 | x :: l => by rw [List.map_cons, List.flatten_cons, List.length_append, leBytes_len, flat4 l, List.length_cons]; omega
theorem firstS_len : firstS.length = 8 := by decide
theorem sumL_len (b : List UInt8) : (sumL b).length = 32 := by
 unfold sumL
 rw [flat4, absorb_len, absorb_len, firstS_len]
end Go.Proofs.YtcednfmkiaelnaaGreatDoor
namespace Go.Proofs.YtcednfmkiaelnaaGreatDoor
open Go.RowKit
theorem flat_cut {α : Type} {f : α → List Value} {sz : Nat} (hf : ∀ x, (f x).length = sz) : ∀ (l : List α) (k : Nat), (l.flatMap f).drop (k * sz) = (l.drop k).flatMap f ∧ (l.flatMap f).take (k * sz) = (l.take k).flatMap f
 | l, 0 => by simp
 | [], k + 1 => by simp
 | x :: r, k + 1 => by
  obtain ⟨h1, h2⟩ := flat_cut hf r k
  have e : (k + 1) * sz = (f x).length + k * sz := by rw [hf, Nat.succ_mul]; omega
  simp only [List.flatMap_cons, List.drop_succ_cons, List.take_succ_cons]
  rw [e, List.drop_length_add_append, h1, List.take_length_add_append, h2]
  exact ⟨rfl, rfl⟩
theorem strs_count {w : World} {A : Option Addr} {m : Nat} {l : List (List UInt8)} (h : Sl w 1 A m (strs l)) : l.length = m := by simpa [strs] using h.len
theorem u8s_app (a b : List UInt8) : u8s (a ++ b) = u8s a ++ u8s b := by simp [u8s]
set_option maxHeartbeats 2000000 in
set_option maxRecDepth 100000 in
theorem growB_any (n : Nat) (w : World) (hn : n ≤ 1000000000) :
  Calls Tryz.prog 296 #[.slice none 0 0, I n] w fun e w' => ∃ A c, e = .returned (.slice A 0 c) ∧ Ow w w' 5 1 A 0 c [] := by
 obtain ⟨i0, hi0, hz0, hz1, hz2⟩ := info_parts Tryz.infoU8
 rcases Nat.eq_zero_or_pos n with h0 | h0
 ·subst h0
  go_enter Tryz.func296, Tryz.ntmps296
  go_wp2
  go_ret
  exact ⟨none, 0, rfl, Ow.nil_ (Below.refl _ _)⟩
 ·have hold : (Builtin.firstCells i0.size 0 (.slice none 0 0)).run Tryz.prog w.drew = .ok ([] : List Value).toArray w.drew := run_firstCells_none w.drew i0.size 0 0 0
  have hrz := fun ty => Lib.run_append_grow_zeros (P := Tryz.prog) w 38 3 ty 5 i0 _ .i64 .i64 Tryz.underlying38 Tryz.underlying3 hi0 hz0 none 0 0 [] hold n h0 (by omega) (by omega) (by omega) (by rw [hz2]; omega) (growslice_fits (by omega) (by rw [hz2]; omega))
  have hge := grownCap_ge w (0 + n) 0 5
  have hle := grownCap_le_maxLen w (0 + n) 0 5 (by simp only [maxLen]; omega)
  generalize hG : grownCap w (0 + n) 0 5 = G at *
  rw [Nat.zero_add] at hrz hge
  have hown := World.ownsRow_made (base := w.heap.size) (e := 5) (size := 1) w.drew (([] : List Value).toArray ++ Builtin.zeroCells (Value.int .u8 0).cells n ++ Builtin.zeroCells (Value.int .u8 0).cells (G - n)) G (Nat.le_refl _) hle (by simp [Builtin.zeroCells, Value.cells]; omega)
  have HO := Lib.hid (show Ow w (w.drew.alloc (.cells (([] : List Value).toArray ++ Builtin.zeroCells (Value.int .u8 0).cells n ++ Builtin.zeroCells (Value.int .u8 0).cells (G - n)) 5)) 5 1 (some ⟨w.heap.size, 0, none⟩) 0 G [] from ⟨hown, (Below.refl _ _).drew.alloc (Nat.le_refl _) _⟩)
  clear hown hold hG
  generalize w.drew.alloc (.cells (([] : List Value).toArray ++ Builtin.zeroCells (Value.int .u8 0).cells n ++ Builtin.zeroCells (Value.int .u8 0).cells (G - n)) 5) = w1 at *
  have hG63 : G ≤ 9223372036854775807 := by simp only [maxLen] at hle; omega
  have Hrz := Lib.hid hrz
  clear hrz hle
  go_enter Tryz.func296, Tryz.ntmps296
  go_wp2_with (at_builtin; refine Lib.wpList_append_run _ rfl (.tmp 20) (.tmp 21) _ _ rfl _ _ rfl rfl _ _ (Hrz.out _) ?_)
  go_ret
  exact ⟨some ⟨w.heap.size, 0, none⟩, G, rfl, HO.out⟩
structure RwB where
 A : Option Addr
 n : Nat
 c : Nat
 l : List UInt8
abbrev RwB.v (r : RwB) : Value := .slice r.A r.n r.c
def rowsLenB : List RwB → Nat
 | [] => 0
 | r :: t => r.n + rowsLenB t
def rowsAllB (rs : List RwB) : List UInt8 := rs.flatMap (·.l)
theorem rowsLenB_snoc (rs : List RwB) (r : RwB) : rowsLenB (rs ++ [r]) = rowsLenB rs + r.n := by
 induction rs with
 | nil => simp [rowsLenB]
 | cons a t ih => simp [rowsLenB, ih]; omega
theorem rowsAllB_snoc (rs : List RwB) (r : RwB) : rowsAllB (rs ++ [r]) = rowsAllB rs ++ r.l := by simp [rowsAllB]
theorem rowsLenB_take (rs : List RwB) (k : Nat) : rowsLenB (rs.take k) ≤ rowsLenB rs := by
 induction rs generalizing k with
 | nil => simp
 | cons a t ih => cases k with
  | zero => simp [rowsLenB]
  | succ k => have := ih k; simp [rowsLenB]; omega
theorem take_snocB {α : Type} {l : List α} {k : Nat} {x : α} (h : l[k]? = some x) : l.take (k + 1) = l.take k ++ [x] := by rw [List.take_add_one, h]; rfl
set_option maxHeartbeats 4000000 in
set_option maxRecDepth 100000 in
theorem concatB_any (A : Option Addr) (n c : Nat) (rs : List RwB) (w : World) (hA : Sl w 1 A n (rs.map RwB.v)) (hr : ∀ r ∈ rs, Sl w 1 r.A r.n (u8s r.l)) (hn : n ≤ 1000000000) (hl : rowsLenB rs ≤ 1000000000) :
  Calls Tryz.prog 275 #[.slice A n c] w fun e w' => ∃ A' c', e = .returned (.slice A' (rowsLenB rs) c') ∧ Ow w w' 5 1 A' (rowsLenB rs) c' (u8s (rowsAllB rs)) := by
 obtain ⟨i0, hi0, hz0, hz1, hz2⟩ := info_parts Tryz.infoU8
 have hlen : rs.length = n := by simpa using hA.len
 have Hlen := Lib.hid hlen
 have HA := Lib.hid hA
 have HR := Lib.hid hr
 clear hlen hA hr
 have hat : ∀ (W : World) (k : Nat), Sl W 1 A n (rs.map RwB.v) → k < n → ∃ b off r, A = some ⟨b, off, none⟩ ∧ rs[k]? = some r ∧ W.cell? ⟨b, off + k, none⟩ = some r.v := by
  intro W k h hk
  obtain ⟨b, off, u, e, hx, hc⟩ := h.at_ hk
  simp only [List.getElem?_map, Option.map_eq_some_iff] at hx
  obtain ⟨r, hr, rfl⟩ := hx
  exact ⟨b, off, r, e, hr, hc⟩
 have Hat := Lib.hid hat
 clear hat
 go_enter Tryz.func275, Tryz.ntmps275
 go_wp2
 go_loop [3, 11] (fun s i => ∃ k m : Nat, k ≤ n ∧ i = .int .i64 k ∧ s = .int .i64 m ∧ Hid (m = rowsLenB (rs.take k)) ∧ m ≤ 1000000000) (fun _ i => n - (intOf i).toNat)
 case atStart => exact ⟨0, 0, Nat.zero_le _, rfl, rfl, Lib.hid (by simp [rowsLenB]), by omega⟩
 case round =>
  obtain ⟨k, m, hk, rfl, rfl, Hm, hm⟩ := hrel
  by_cases hlt : k < n
  ·obtain ⟨b, off, r, rfl, hr, hc⟩ := Hat.out _ _ HA.out hlt
   have hs : m + r.n = rowsLenB (rs.take (k + 1)) := by rw [take_snocB hr, rowsLenB_snoc, Hm.out]
   have hs2 : m + r.n ≤ 1000000000 := by rw [hs]; exact Nat.le_trans (rowsLenB_take _ _) hl
   have Hs := Lib.hid hs
   clear hs hr
   go_wp2
   go_round
   case rel => exact ⟨k + 1, m + r.n, by omega, by go_num, by go_num, Hs, hs2⟩
   case measure => simp [intOf]; omega
  ·obtain rfl : k = n := by omega
   rw [List.take_of_length_le (by rw [Hlen.out]; exact Nat.le_refl _)] at Hm
   go_wp2_with fail
   refine (growB_any m _ hm).mono ?_
   rintro e w1 ⟨A1, c1, rfl, hO1⟩
   go_wp2
   go_loopw [6, 27] (fun v i wr => ∃ (q m : Nat) (c : Nat) (A : Option Addr), q ≤ k ∧ i = .int .i64 q ∧ v = .slice A m c ∧ Hid (m = rowsLenB (rs.take q)) ∧ Hid (Ow w wr 5 1 A m c (u8s (rowsAllB (rs.take q))))) (fun _ i _ => k - (intOf i).toNat)
   case atStart => exact ⟨0, 0, c1, A1, Nat.zero_le _, rfl, rfl, Lib.hid (by simp [rowsLenB]), Lib.hid (by have e : rowsAllB (List.take 0 rs) = [] := (by simp [rowsAllB]); rw [e]; exact hO1)⟩
   case round =>
    clear hO1
    obtain ⟨q, m2, c2, A2, hq, rfl, rfl, Hm2, HO⟩ := hrel
    by_cases hlt2 : q < k
    ·obtain ⟨b, off, r, rfl, hr, hc⟩ := Hat.out _ _ (HA.out.below HO.out.2) hlt2
     have hs : m2 + r.n = rowsLenB (rs.take (q + 1)) := by rw [take_snocB hr, rowsLenB_snoc, Hm2.out]
     have hs2 : m2 + r.n ≤ 1000000000 := by rw [hs]; exact Nat.le_trans (rowsLenB_take _ _) hl
     have hrow := Lib.hid ((HR.out r (List.mem_of_getElem? hr)).below HO.out.2)
     have hall : rowsAllB (rs.take (q + 1)) = rowsAllB (rs.take q) ++ r.l := by rw [take_snocB hr, rowsAllB_snoc]
     have Hs := Lib.hid hs
     have Hall := Lib.hid hall
     clear hs hr hall
     have hx1 := Lib.hid (show m2 + r.n ≤ maxLen by simp only [maxLen]; omega)
     have hx2 := Lib.hid (show (m2 + r.n) * 1 ≤ 140737488355328 by omega)
     go_wp2_with (at_builtin; refine wpList_append_sl _ rfl (.tmp 31) (.tmp 32) _ rfl w 5 i0 _ 1 1 Tryz.underlying38 hi0 hz0 hz1 hz2 rfl (by decide) A2 m2 c2 _ rfl HO.out r.A r.n r.c (u8s r.l) rfl hrow.out (one_u8s _) hx1.out hx2.out ?_; intro A3 c3 w3 hO3 hg3 ha3)
     go_roundw
     case rel => exact ⟨q + 1, m2 + r.n, c3, A3, by omega, by go_num, rfl, Hs, Lib.hid (by rw [Hall.out, u8s_app]; exact hO3)⟩
     case measure => simp [intOf]; omega
    ·obtain rfl : q = k := by omega
     rw [List.take_of_length_le (by rw [Hlen.out]; exact Nat.le_refl _)] at Hm2 HO
     have hm2 := Hm2.out
     subst hm2
     clear Hm
     go_wp2
     go_ret
     exact ⟨A2, c2, rfl, HO.out⟩
end Go.Proofs.YtcednfmkiaelnaaGreatDoor
namespace Go.Proofs.YtcednfmkiaelnaaGreatDoor
open Go Go.RowKit
def SeqStopsS {α : Type} (F : Fence) (n : Nat) (P : Program) (g : Nat) (lb : Array Value) (encs : α → Array Value) (Bn : Nat) (T S Sp : List α → Prop) (w : World) : Prop :=
 ∀ (l : Nat) (J Jx : List α → World → Prop) (W : World), Below w.heap.size w W → AbidesFrom W.heap.size J → AbidesFrom W.heap.size Jx → (∀ s W1 v, J s W1 → J s (W1.setCell ⟨Bn, 0, none⟩ v)) →
  (∀ pre x W1, J pre W1 → T (pre ++ [x]) → YieldAt F (n - 1) P l (encs x) W1 fun e W' =>
   (e = .returned (.bool true) ∧ J (pre ++ [x]) W' ∧ W'.heap[Bn]? = W1.heap[Bn]?) ∨ (e = .returned (.bool false) ∧ Jx (pre ++ [x]) W')) →
  J [] W →
  CallsIn F n P g (#[.func (.yield l) #[] #[]] ++ lb) W fun e W' => (∃ v, e = .returned v) ∧ ((∃ xs, S xs ∧ J xs W') ∨ (∃ pre, Sp pre ∧ Jx pre W'))
def roundS {α : Type} (B Bn : Nat) (I : List α → World → Prop) (Ix : Code → List α → World → Prop) (xs : List α) (W : World) : Exit → Act → World → Prop
 | .normal, _, W' => KeepsFrom B W W' ∧ W'.heap[Bn]? = W.heap[Bn]? ∧ I xs W'
 | .ret, _, W' => KeepsFrom B W W' ∧ Ix .ret xs W'
 | .exit id, _, W' => KeepsFrom B W W' ∧ Ix (.exit id) xs W'
 | .goto t, _, W' => KeepsFrom B W W' ∧ Ix (.goto t) xs W'
 | .panic _, _, _ => False
 | .outgrown, _, _ => False
def Bk (D : Nat) (r : Loop) (W : World) : Prop := W.heap[D]? = some (.deferred (some [])) ∧ W.heap[D + 1]? = some (.loop r)
section
variable {D : Nat} {r : Loop} {W W' : World}
theorem Bk.lt (h : Bk D r W) : D + 1 < W.heap.size := (Array.getElem?_eq_some_iff.1 h.2).1
theorem Bk.keeps {B : Nat} (h : Bk D r W) (hB : B ≤ D) (hk : KeepsFrom B W W') : Bk D r W' := ⟨hk.same _ _ hB h.1 rfl, hk.same _ _ (by omega) h.2 rfl⟩
theorem Bk.put (h : Bk D r W) (r' : Loop) : Bk D r' (W.putObj (D + 1) (.loop r')) := ⟨(World.putObj_heap_other (by omega)).trans h.1, World.putObj_heap_same h.lt⟩
theorem Bk.cell (h : Bk D r W) {Bn : Nat} (hB : Bn < D) (v : Value) : Bk D r (W.setCell ⟨Bn, 0, none⟩ v) := ⟨(Below.heap_setCell W _ v _ (by show D ≠ Bn; omega)).trans h.1, (Below.heap_setCell W _ v _ (by show D + 1 ≠ Bn; omega)).trans h.2⟩
theorem Bk.grown {row : Option Nat} (h : Bk D r W) (hg : W.grownBy W' row) (hr : ∀ k, row = some k → ∃ o : Obj, W.heap[k]? = some o ∧ o.isWalk = true) : Bk D r W' :=
 ⟨(grownBy_keeps hg hr h.1 rfl).trans h.1, (grownBy_keeps hg hr h.2 rfl).trans h.2⟩
theorem Bk.new (w : World) (r : Loop) : Bk w.heap.size r ((w.alloc (.deferred (some []))).alloc (.loop r)) :=
 ⟨(Below.heap_alloc _ _ _ (by simp)).trans (World.alloc_heap_new w _), by have := World.alloc_heap_new (w.alloc (.deferred (some []))) (.loop r); rwa [World.size_alloc] at this⟩
end
variable {F : Fence} {n : Nat} {P : Program}
theorem wpIn_rangeFunc_state {α : Type} {g : Operand} {ps : Array Tmp} {assign body : Code} {Q : Exit → Act → World → Prop} {a : Act} {w : World}
  (hro : F.round = none) (h1 : 1 ≤ n) {gf : Nat} {lb : Array Value} (hg : a.eval g = .func (.func gf) #[] lb) (hFg : F.fn gf) (eg : ∀ args w, (callFunc gf args).run P w = .ok (.enter gf args) w)
  {encs : α → Array Value} {Bn : Nat} {T S Sp : List α → Prop} (hseq : SeqStopsS F (n - 1) P gf lb encs Bn T S Sp w) (hBn : Bn < w.heap.size) (hps : ∀ x, (encs x).size = ps.size)
  (I : List α → World → Prop) (Ix : Code → List α → World → Prop) (hI : OwnFrom w.heap.size I) (hIx : ∀ c, OwnFrom w.heap.size (Ix c)) (hIS : ∀ s W v, I s W → I s (W.setCell ⟨Bn, 0, none⟩ v)) (h0 : I [] w)
  (hround : ∀ (l : Nat) (pre : List α) (x : α) (W : World), I pre W → T (pre ++ [x]) →
   assign.wpIn (F.inRound l) (n - 1 - 1) P (Exit.then (fun a₁ W₁ => W₁ = W ∧ ∀ U, I pre U → body.wpIn (F.inRound l) (n - 1 - 1) P (roundS w.heap.size Bn I Ix (pre ++ [x]) U) a₁ U) (fun _ _ _ => False)) { tmps := (ps.zip (encs x)).foldl (fun t (p, v) => t.setIfInBounds p v) a.tmps, defers := [] } W)
  (hdone : ∀ (xs : List α) (W : World), S xs → I xs W → W.heap[w.heap.size]? = some (.deferred (some [])) → Q .normal { a with defers := { target := .collected w.heap.size, args := #[] } :: a.defers } W)
  (hstop : ∀ (c : Code) (pre : List α) (W : World), Sp pre → Ix c pre W → W.heap[w.heap.size]? = some (.deferred (some [])) → c.wpIn F n P Q { a with defers := { target := .collected w.heap.size, args := #[] } :: a.defers } W) :
  (Code.rangeFunc g ps assign body).wpIn F n P Q a w := by
 refine wpIn_rangeFunc fun fn hfn => ?_
 rw [hro]
 let R : LoopState → Option Code → Loop := fun st pe => { state := st, pending := pe, fn, tmps := a.tmps, params := ps, assign, body, defers := w.heap.size }
 obtain ⟨V, hV⟩ : ∃ V, V = (w.alloc (.deferred (some []))).alloc (.loop (R .ready none)) := ⟨_, rfl⟩
 have kV : Bk w.heap.size (R .ready none) V := by rw [hV]; exact Bk.new w _
 have iV : I [] V := by rw [hV]; exact hI.alloc _ (hI.alloc _ h0)
 have bV : Below w.heap.size w V := by rw [hV]; exact (((Below.refl _ w).alloc (Nat.le_refl _) _).alloc (by simp) _)
 have sV : w.heap.size ≤ V.heap.size := bV.size
 have turn : ∀ {A B : World} {row : Option Nat}, (∀ r, row = some r → V.heap.size ≤ r ∧ ∃ o : Obj, A.heap[r]? = some o ∧ o.isWalk = true) → (∀ r, row = some r → w.heap.size ≤ r ∧ ∃ o : Obj, A.heap[r]? = some o ∧ o.isCells = false) :=
  fun hr r e => ⟨Nat.le_trans sV (hr r e).1, (hr r e).2.imp fun o ho => ⟨ho.1, Obj.not_cells_of_walk ho.2⟩⟩
 have lay : ∀ {β : Type} {G : β → World → Prop} (_ : OwnFrom w.heap.size G) {s : β} {W : World} {r : Loop} (r' : Loop), G s W → Bk w.heap.size r W → G s (W.putObj (w.heap.size + 1) (.loop r')) :=
  by intro β G hG s W r r' hs hk; exact hG.putObj _ hs (by omega) hk.2 rfl
 refine ⟨w.heap.size + 1, [{ target := .collected w.heap.size, args := #[] }], V, { target := .fn (.func gf) lb, args := #[.func (.yield (w.heap.size + 1)) #[] #[]] }, V, gf, #[.func (.yield (w.heap.size + 1)) #[] #[]] ++ lb, V,
  by rw [hV]; exact run_enterLoop_outer _ _ _ _ _, by simp only [resolve, hg]; simp [go_sem], fun f' hf' => by simp [Target.leads] at hf'; subst hf'; exact hFg, by simp [invoke, go_sem, eg], fun _ => h1, ?_⟩
 refine (hseq (w.heap.size + 1) (fun pre W => I pre W ∧ Bk w.heap.size (R .ready none) W) (fun pre W => ∃ c, Ix c pre W ∧ Bk w.heap.size (R .done (some c)) W) V bV
  (fun s A B row hs hg' hr => ⟨hI s A B row hs.1 hg' (turn (B := B) hr), hs.2.grown hg' (fun k e => (hr k e).2)⟩)
  (fun s A B row hs hg' hr => hs.imp fun c hc => ⟨hIx c s A B row hc.1 hg' (turn (B := B) hr), hc.2.grown hg' (fun k e => (hr k e).2)⟩)
  (fun s W v hs => ⟨hIS s W v hs.1, hs.2.cell hBn v⟩) ?_ ⟨iV, kV⟩).mono ?_
 ·rintro pre x W ⟨hi, hk⟩ hT
  refine ⟨fn, _, assign, body, run_yield (P := P) (args := encs x) hk.2 (hps x), roundIn_of_wpIn hfn (wpIn_mono (hround _ pre x W hi hT) ?_)⟩
  intro e2 a₁ W2 h2
  cases e2 with
  | normal => ?_
  | _ => exact h2.elim
  obtain ⟨rfl, hbody⟩ := h2
  refine ⟨_, run_beginRound hk.2 rfl, ?_⟩
  obtain ⟨U, hU⟩ : ∃ U, U = W2.putObj (w.heap.size + 1) (.loop (R .busy none)) := ⟨_, rfl⟩
  have kU : Bk w.heap.size (R .busy none) U := by rw [hU]; exact hk.put _
  have eU : U.heap[Bn]? = W2.heap[Bn]? := by rw [hU]; exact World.putObj_heap_other (by omega)
  have iU : I pre U := by rw [hU]; exact lay hI _ hi hk
  show body.wpIn (F.inRound (w.heap.size + 1)) (n - 1 - 1) P _ a₁ (W2.putObj (w.heap.size + 1) (.loop (R .busy none)))
  rw [← hU]
  refine wpIn_mono (hbody U iU) ?_
  have stop : ∀ (c : Code) (W3 : World), KeepsFrom w.heap.size U W3 → Ix c (pre ++ [x]) W3 → ∃ v W4, (Instr.endRound (w.heap.size + 1) (some c)).run P W3 = .ok v W4 ∧ ((Ending.returned v = .returned (.bool true) ∧ (I (pre ++ [x]) W4 ∧ Bk w.heap.size (R .ready none) W4) ∧ W4.heap[Bn]? = W2.heap[Bn]?) ∨ (Ending.returned v = .returned (.bool false) ∧ ∃ c, Ix c (pre ++ [x]) W4 ∧ Bk w.heap.size (R .done (some c)) W4)) :=
   fun c W3 hk3 hx3 => ⟨_, _, run_endRound (P := P) (some c) (kU.keeps (Nat.le_refl _) hk3).2, .inr ⟨rfl, c, lay (hIx c) _ hx3 (kU.keeps (Nat.le_refl _) hk3), (kU.keeps (Nat.le_refl _) hk3).put _⟩⟩
  intro e a3 W3 hp
  cases e with
  | normal =>
   obtain ⟨hk3, he3, hi3⟩ := hp
   have k3 := kU.keeps (Nat.le_refl _) hk3
   exact ⟨_, _, run_endRound (P := P) none k3.2, .inl ⟨rfl, ⟨lay hI _ hi3 k3, k3.put _⟩, (World.putObj_heap_other (by omega)).trans (he3.trans eU)⟩⟩
  | ret => exact stop .ret W3 hp.1 hp.2
  | exit id => exact stop (.exit id) W3 hp.1 hp.2
  | goto t => exact stop (.goto t) W3 hp.1 hp.2
  | panic ch => exact hp.elim
  | outgrown => exact hp.elim
 ·rintro e W2 ⟨⟨v, rfl⟩, (⟨xs, hS, hi, hk⟩ | ⟨pre, hSp, c, hi, hk⟩)⟩
  ·exact ⟨none, _, run_endLoop (P := P) hk.2 (by simp [R]), hdone xs _ hS (lay hI _ hi hk) (hk.put _).1⟩
  ·exact ⟨some c, _, run_endLoop (P := P) hk.2 (by simp [R]), hstop c pre _ hSp (lay (hIx c) _ hi hk) (hk.put _).1⟩
end Go.Proofs.YtcednfmkiaelnaaGreatDoor
namespace Go.Proofs.YtcednfmkiaelnaaGreatDoor
open Go.RowKit
theorem keepsFrom_below {B : Nat} {W W' : World} (h : Below W.heap.size W W') : KeepsFrom B W W' := ⟨h.size, fun k _o _ hk _ => (h.block k (heap_lt hk)).trans hk⟩
theorem keepT_own {e : TypeId} {W W' : World} {row : Option Nat} (hg : W.grownBy W' row) (hr : ∀ r, row = some r → ∃ o : Obj, W.heap[r]? = some o ∧ o.isCells = false) : KeepT e W W' :=
 (KeepT.refl e W).grown hg (fun k hk cs fr hh => by
  obtain ⟨o, ho, hc⟩ := hr k hk
  rw [hh] at ho
  cases ho
  cases hc)
theorem own_abides {e : TypeId} {base sz n : Nat} {v : Value} {xs : List Value} {W W' : World} {row : Option Nat} (h : W.ownsRow base e sz v n xs) (hg : W.grownBy W' row) (hr : ∀ r, row = some r → ∃ o : Obj, W.heap[r]? = some o ∧ o.isCells = false) : W'.ownsRow base e sz v n xs := by
 refine h.kept hg ?_
 rcases h.2 with ⟨hv, _⟩ | ⟨g, cap, cur, hv, _, hgb, _⟩
 ·rw [hv]; exact .inl rfl
 ·rw [hv]
  refine .inr fun e' => ?_
  obtain ⟨o, ho, hc⟩ := hr g e'.symm
  rw [hgb] at ho
  cases ho
  cases hc
theorem box_abides {B : Nat} {t : TypeId} {v : Value} {W W' : World} {row : Option Nat} (h : Boxed W B t v) (hg : W.grownBy W' row) (hr : ∀ r, row = some r → ∃ o : Obj, W.heap[r]? = some o ∧ o.isCells = false) : Boxed W' B t v := by
 refine h.kept hg (fun e' => ?_)
 obtain ⟨o, ho, hc⟩ := hr B e'.symm
 rw [show W.heap[B]? = _ from h] at ho
 cases ho
 cases hc
theorem own_far {w : World} {base sz n : Nat} {e : TypeId} {v : Value} {xs : List Value} (h : w.ownsRow base e sz v n xs) {p : Addr} (hp : some p.block ≠ v.ownBlock) (u : Value) : (w.setCell p u).ownsRow base e sz v n xs := by
 refine ⟨h.1, ?_⟩
 rcases h.2 with h2 | ⟨g, cap, cur, hv, hg, hh, r⟩
 ·exact .inl h2
 ·have hne : g ≠ p.block := fun e => hp (by rw [hv]; simp [Value.ownBlock, e])
  exact .inr ⟨g, cap, cur, hv, hg, (Below.heap_setCell w p u g hne).trans hh, r⟩
theorem own_noWalk {e : TypeId} {base sz n : Nat} {v : Value} {xs : List Value} {W : World} (h : W.ownsRow base e sz v n xs) : ∀ (j : Nat) (o : Obj), v.ownBlock = some j → W.heap[j]? = some o → o.isWalk = false := by
 intro j o hj ho
 rcases h.2 with ⟨hv, _⟩ | ⟨g, cap, cur, hv, _, hgb, _⟩
 ·rw [hv] at hj; simp [Value.ownBlock] at hj
 ·rw [hv] at hj
  have : g = j := by simpa [Value.ownBlock] using hj
  subst this; rw [hgb] at ho; cases ho; rfl
section
variable {P : Program} (w : World)
theorem wpListIn_append_at {l n0 : Nat} {ops : Array Oper} {rest : List Oper} {o : Oper} {a : Act} {Q : Exit → Act → World → Prop} (hgd : o.guard = none) (s x : Operand) (t : TypeId)
  (ho : o.op = .call { callee := .builtin .append, args := #[s, x], argTypes := #[t, t] })
  (base : Nat) (e : TypeId) (i : TypeInfo) (z : Value) (size bytes : Nat) (ht : P.underlying t = some (.slice e)) (hi : P.info? e = some i) (hz : i.zero = some z)
  (hsize : i.size = size) (hby : i.bytes = bytes) (hzs : z.cells.size = size) (hsz : 0 < size)
  (Ad : Option Addr) (n cd : Nat) (xs : List Value) (hs : a.eval s = .slice Ad n cd) (hown : w.ownsRow base e size (.slice Ad n cd) n xs) (hbase : base ≤ w.heap.size)
  (A : Option Addr) (m c : Nat) (news : List Value) (hx : a.eval x = .slice A m c) (hr : Sl w size A m news) (h1 : ∀ u ∈ news, u.oneCell' = true)
  (h63 : n + m ≤ maxLen) (hbytes : (n + m) * bytes ≤ 140737488355328)
  (h : ∀ A' c' w', w'.ownsRow base e size (.slice A' (n + m) c') (n + m) (xs ++ news) → w.grownBy w' (Value.slice Ad n cd).ownBlock → wpListIn (Fence.wide.inRound l) n0 P ops Q rest (a.put o.dst (.slice A' (n + m) c')) w') :
  wpListIn (Fence.wide.inRound l) n0 P ops Q (o :: rest) a w := by
 refine wpListIn_plain hgd fun K hK => ⟨fun _ _ => trivial, ?_⟩
 obtain ⟨A', c', w', hrun, h2, h3, _⟩ := run_append_sl (P := P) w base t o.type e i z size bytes ht hi hz hsize hby hzs hsz _ n xs hown A m c news hr h1 h63 hbytes hbase
 rw [show (Fence.wide.inRound l).round = some l from rfl, Oper.semAt_some l _ _ (by rw [ho]; intro c h; cases h)]
 unfold execOp
 simp only [ho, resolve, invoke, builtin, Sem.run_bind, Sem.run_pure, Result.andThen_ok, List.map_toArray, List.map_cons, List.map_nil, hs, hx, hrun]
 exact hK _ _ (h A' c' w' h2 h3)
end
end Go.Proofs.YtcednfmkiaelnaaGreatDoor
namespace Go.Proofs.YtcednfmkiaelnaaGreatDoor
open Go.RowKit Go.Sort Go.Shelf
theorem flatK_eq {α : Type} [Inhabited α] {enc : α → List Value} {k : Nat} (hk : ∀ x, (enc x).length = k) (d : Array α) : flatK enc k d = (d.toList.flatMap enc).toArray := by
 have hlen : (d.toList.flatMap enc).length = d.size * k := by rw [flat_len (sz := k) (fun x _ => hk x)]; simp
 refine ext_get! (by simp [hlen]) fun t ht => ?_
 have ht' : t < d.size * k := by simpa using ht
 have hk0 : 0 < k := by
  rcases Nat.eq_zero_or_pos k with h | h
  ·subst h; simp at ht'
  ·exact h
 have hd : t / k < d.size := Nat.div_lt_of_lt_mul (by rw [Nat.mul_comm]; exact ht')
 rw [get_flatK _ _ _ t ht']
 have h1 := flat_at (f := enc) (sz := k) (xs := d.toList) (i := t / k) (j := t % k) (x := d[t / k]) (fun x _ => hk x) (by rw [Array.getElem?_toList]; exact Array.getElem?_eq_getElem hd) (Nat.mod_lt _ hk0)
 rw [Nat.mul_comm, Nat.div_add_mod] at h1
 have hj : t % k < (enc d[t / k]).length := by rw [hk]; exact Nat.mod_lt _ hk0
 rw [getElem!_pos d (t / k) hd, getElem!_pos _ (t % k) hj, getElem!_pos _ t (by rw [List.size_toArray, hlen]; exact ht')]
 rw [List.getElem?_eq_getElem (by rw [hlen]; exact ht'), List.getElem?_eq_getElem hj] at h1
 simpa using (Option.some.inj h1).symm
theorem holds_own {w : World} {g : Nat} {cur : Array Value} {e : TypeId} {vs : List Value} (hb : w.heap[g]? = some (.cells cur e (0, 0))) (ht : cur.toList.take vs.length = vs) : Holds id w g 0 vs.toArray := by
 intro j hj
 have hj' : j < vs.length := by simpa using hj
 refine ⟨?_, by simp [World.frozen?, hb]⟩
 have h1 : (cur.toList.take vs.length)[j]? = vs[j]? := by rw [ht]
 rw [List.getElem?_take_of_lt hj'] at h1
 simp only [World.cell?, hb, Nat.zero_add]
 simp only [Option.isSome_none, Bool.false_eq_true, if_false]
 rw [← Array.getElem?_toList, h1]
 simp [hj']
theorem heap_put {w : World} {g n : Nat} {os : Array Obj} {cur : Array Value} {e : TypeId} {fr : Nat × Nat} (d : Array Value) (hb : w.heap[g]? = some (.cells cur e fr)) :
  (grow (putRow id (Sort.ahead w n) g 0 d) os).heap[g]? = some (.cells (putCells id 0 d cur) e fr) := by
 have hg : g < w.heap.size := (Array.getElem?_eq_some_iff.1 hb).1
 rw [heap_grow_old _ _ (by simpa using hg)]
 simp [putRow, mapBlock, Sort.ahead, Array.getElem?_modify, hb, onCells]
theorem grown_put {w : World} {g n : Nat} {os : Array Obj} (d : Array Value) : w.grownBy (grow (putRow id (Sort.ahead w n) g 0 d) os) (some g) := by
 refine ⟨rfl, rfl, rfl, by simp, fun k hk hne => ?_⟩
 rw [heap_grow_old _ _ (by simpa using hk)]
 have : g ≠ k := fun e => hne (by rw [e])
 simp [putRow, mapBlock, Sort.ahead, Array.getElem?_modify, this]
theorem take_put (cur : Array Value) (ts : List Value) (h : ts.length ≤ cur.size) : (putCells id 0 ts.toArray cur).toList.take ts.length = ts := by
 apply List.ext_getElem?
 intro j
 by_cases hj : j < ts.length
 ·rw [List.getElem?_take_of_lt hj, Array.getElem?_toList]
  simp [putCells, hj, show j < cur.size by omega]
 ·rw [List.getElem?_take_eq_none (by omega), List.getElem?_eq_none (by omega)]
theorem own_put {w : World} {base g cap n sz m : Nat} {e : TypeId} {os : Array Obj} {vs ts : List Value} (h : w.ownsRow base e sz (.slice (some ⟨g, 0, none⟩) n cap) n vs) (hl : ts.length = vs.length) :
  (grow (putRow id (Sort.ahead w m) g 0 ts.toArray) os).ownsRow base e sz (.slice (some ⟨g, 0, none⟩) n cap) n ts := by
 rcases h.2 with ⟨hv, _⟩ | ⟨g', cap', cur, hv, hbase, hb, h1, h2, h3, h4⟩
 ·cases hv
 ·cases hv
  refine ⟨hl.trans h.1, .inr ⟨g, cap, _, rfl, hbase, heap_put _ hb, h1, h2, by simp [putCells, h3], ?_⟩⟩
  have hts : ts.length = n * sz := hl.trans h.1
  rw [← hts]
  refine take_put cur ts ?_
  rw [h3, hts]
  exact Nat.mul_le_mul_right _ h1
def sortS (ss : List (List UInt8)) : List (List UInt8) := ss.mergeSort fun x y => decide (x ≤ y)
theorem sortS_perm (ss : List (List UInt8)) : (sortS ss).Perm ss := List.mergeSort_perm _ _
theorem sortS_le (ss : List (List UInt8)) : (sortS ss).Pairwise (fun x y => x ≤ y) := by
 have := List.pairwise_mergeSort (le := fun (x y : List UInt8) => decide (x ≤ y)) (fun a b c h1 h2 => by simp only [decide_eq_true_eq] at *; exact List.le_trans h1 h2) (fun a b => by simp only [Bool.or_eq_true, decide_eq_true_eq]; exact List.le_total a b) ss
 exact this.imp (fun h => by simpa using h)
theorem strs_len1 (ss : List (List UInt8)) : (strs ss).length = ss.length := by simp [strs]
theorem put_strs (w : World) (g : Nat) (ss : List (List UInt8)) : putRow encStr w g 0 ss.toArray = putRow id w g 0 (strs ss).toArray := by
 unfold putRow
 congr 1
 funext c
 unfold putCells
 congr 1
 funext k x
 by_cases hk : k < ss.length <;> simp [hk, strs, encStr]
set_option maxRecDepth 100000 in
theorem sortS_any (w0 w : World) (A : Option Addr) (n c : Nat) (ss : List (List UInt8)) (hO : Ow w0 w 9 1 A n c (strs ss)) (hb : n ≤ 1000000000) :
  Calls Tryz.prog 111 #[.slice A n c] w fun e w' => e = .returned (.tuple #[]) ∧ Ow w0 w' 9 1 A n c (strs (sortS ss)) := by
 have hn : ss.length = n := by simpa using hO.sl.len
 rcases Nat.eq_zero_or_pos n with h0 | h0
 ·subst h0
  obtain rfl : ss = [] := List.eq_nil_of_length_eq_zero hn
  refine (Tryz.slices_Sort_string_none A c w).mono ?_
  rintro e w' ⟨rfl, rfl⟩
  have e : sortS [] = [] := List.perm_nil.1 (sortS_perm [])
  exact ⟨rfl, by rw [e]; exact hO⟩
 ·obtain ⟨g, rfl, hg0, hg⟩ := hO.form h0
  subst hn
  have hH : Holds encStr w g 0 ss.toArray := by
   rcases hO.1.2 with ⟨hv, _⟩ | ⟨g', cap', cur, hv, hbase, hb, h1, h2, h3, h4⟩
   ·cases hv
   ·cases hv
    have h5 := holds_own (vs := strs ss) hb (by rw [strs_len1]; simpa using h4)
    intro j hj
    have hj' : j < ss.length := by simpa using hj
    have h6 := h5 j (by simpa using hj')
    refine ⟨h6.1.trans ?_, h6.2⟩
    simp [strs, hj', encStr]
  refine (Tryz.slices_Sort_string g 0 c ss w hH hg (by omega)).mono ?_
  rintro e w' ⟨rfl, m, os, rfl⟩
  rw [put_strs]
  have hl2 : (strs (sortS ss)).length = (strs ss).length := by rw [strs_len1, strs_len1, (sortS_perm ss).length_eq]
  refine ⟨rfl, ?_, hO.2.grown (grown_put _) hO.2.size (fun k e => by cases e; exact hg0)⟩
  exact own_put hO.1 hl2
end Go.Proofs.YtcednfmkiaelnaaGreatDoor
namespace Go.Proofs.YtcednfmkiaelnaaGreatDoor
namespace DiffLaw
abbrev Bs := List UInt8
abbrev Fl := Bs × Bs
def fid : List Fl → Bs → Bs
 | [], _ => []
 | f :: l, p => if f.1 = p then f.2 else fid l p
abbrev Ch := Bs × Bs × Bs
def ofPaths (ps : List Bs) (a b : List Fl) : List Ch := ps.filterMap fun p => if fid a p = fid b p then none else some (p, fid a p, fid b p)
def Paths (ps : List Bs) (a b : List Fl) : Prop := ps.Pairwise (· < ·) ∧ ∀ p, p ∈ ps ↔ (p ∈ a.map (·.1) ∨ p ∈ b.map (·.1))
theorem fid_none {l : List Fl} {p : Bs} (h : p ∉ l.map (·.1)) : fid l p = [] := by
 induction l with
 | nil => rfl
 | cons f r ih =>
  rw [List.map_cons, List.mem_cons, not_or] at h
  rw [fid, if_neg (fun e => h.1 e.symm)]
  exact ih h.2
theorem fid_mem {l : List Fl} (hn : (l.map (·.1)).Nodup) {f : Fl} (h : f ∈ l) : fid l f.1 = f.2 := by
 induction l with
 | nil => simp at h
 | cons g r ih =>
  rw [List.map_cons, List.nodup_cons] at hn
  rw [fid]
  rcases List.mem_cons.1 h with rfl | h
  ·rw [if_pos rfl]
  ·rw [if_neg (fun (e : g.1 = f.1) => hn.1 (by rw [e]; exact List.mem_map_of_mem h))]
   exact ih hn.2 h
theorem of_mem {ps : List Bs} {a b : List Fl} {c : Ch} (h : c ∈ ofPaths ps a b) : c.1 ∈ ps ∧ c.2.1 = fid a c.1 ∧ c.2.2 = fid b c.1 ∧ fid a c.1 ≠ fid b c.1 := by
 unfold ofPaths at h
 obtain ⟨p, hp, h2⟩ := List.mem_filterMap.1 h
 by_cases e : fid a p = fid b p
 ·rw [if_pos e] at h2; cases h2
 ·rw [if_neg e] at h2
  cases h2
  exact ⟨hp, rfl, rfl, e⟩
theorem mem_of {ps : List Bs} {a b : List Fl} {p : Bs} (hp : p ∈ ps) (h : fid a p ≠ fid b p) : (p, fid a p, fid b p) ∈ ofPaths ps a b :=
 List.mem_filterMap.2 ⟨p, hp, by rw [if_neg h]⟩
structure Good (l : List Fl) : Prop where
 rise : (l.map (·.1)).Pairwise (· < ·)
 full : ∀ f ∈ l, f.2 ≠ []
theorem rise_nodup {l : List Bs} (h : l.Pairwise (· < ·)) : l.Nodup := h.imp fun {a b} hab (e : a = b) => lt_irr_bs a (by rw [← e] at hab; exact hab)
theorem Good.nodup {l : List Fl} (h : Good l) : (l.map (·.1)).Nodup := rise_nodup h.rise
theorem Good.some {l : List Fl} (h : Good l) {p : Bs} : fid l p ≠ [] ↔ p ∈ l.map (·.1) := by
 constructor
 ·intro h2
  exact Classical.byContradiction fun h3 => h2 (fid_none h3)
 ·intro h2
  obtain ⟨f, hf, rfl⟩ := List.mem_map.1 h2
  rw [fid_mem h.nodup hf]
  exact h.full f hf
def put (l : List Fl) (p i : Bs) : List Fl := l.filter (fun f => !decide (f.1 = p)) ++ (if i = [] then [] else [(p, i)])
structure Once (l : List Fl) : Prop where
 nodup : (l.map (·.1)).Nodup
 full : ∀ f ∈ l, f.2 ≠ []
theorem Good.once {l : List Fl} (h : Good l) : Once l := ⟨h.nodup, h.full⟩
theorem Once.some {l : List Fl} (h : Once l) {p : Bs} : fid l p ≠ [] ↔ p ∈ l.map (·.1) := by
 constructor
 ·intro h2
  exact Classical.byContradiction fun h3 => h2 (fid_none h3)
 ·intro h2
  obtain ⟨f, hf, rfl⟩ := List.mem_map.1 h2
  rw [fid_mem h.nodup hf]
  exact h.full f hf
theorem fid_filter (l : List Fl) (p q : Bs) : fid (l.filter (fun f => !decide (f.1 = p))) q = if q = p then [] else fid l q := by
 induction l with
 | nil => simp [fid]
 | cons f r ih =>
  rw [List.filter_cons]
  by_cases h : f.1 = p
  ·simp only [h, decide_true, Bool.not_true, Bool.false_eq_true, if_false]
   rw [ih, fid]
   by_cases hq : q = p
   ·rw [if_pos hq, if_pos hq]
   ·rw [if_neg hq, if_neg hq, if_neg (fun e => hq (e.symm.trans h))]
  ·simp only [h, decide_false, Bool.not_false, if_true]
   rw [fid, fid, ih]
   by_cases hq : q = p
   ·rw [if_pos hq, if_pos hq, if_neg (fun e => h (e.trans hq))]
   ·simp only [if_neg hq]
theorem fid_append (l k : List Fl) (q : Bs) (h : q ∉ l.map (·.1)) : fid (l ++ k) q = fid k q := by
 induction l with
 | nil => rfl
 | cons f r ih =>
  rw [List.map_cons, List.mem_cons, not_or] at h
  rw [List.cons_append, fid, if_neg (fun e => h.1 e.symm)]
  exact ih h.2
theorem fid_append_in (l k : List Fl) (q : Bs) (h : q ∈ l.map (·.1)) : fid (l ++ k) q = fid l q := by
 induction l with
 | nil => simp at h
 | cons f r ih =>
  rw [List.cons_append, fid, fid]
  by_cases e : f.1 = q
  ·rw [if_pos e, if_pos e]
  ·rw [if_neg e, if_neg e]
   rw [List.map_cons, List.mem_cons] at h
   exact ih (h.resolve_left (fun h => e h.symm))
theorem filter_keys (l : List Fl) (p : Bs) : (l.filter (fun f => !decide (f.1 = p))).map (·.1) = (l.map (·.1)).filter (fun q => !decide (q = p)) := by
 rw [List.filter_map]; rfl
theorem fid_put (l : List Fl) (p i q : Bs) : fid (put l p i) q = if q = p then i else fid l q := by
 unfold put
 by_cases hq : q = p
 ·rw [if_pos hq]
  rw [fid_append _ _ _ (by rw [filter_keys]; simp [hq])]
  by_cases hi : i = []
  ·rw [if_pos hi, hi]; rfl
  ·rw [if_neg hi, fid, if_pos hq.symm]
 ·rw [if_neg hq]
  by_cases hm : q ∈ (l.filter (fun f => !decide (f.1 = p))).map (·.1)
  ·rw [fid_append_in _ _ _ hm, fid_filter, if_neg hq]
  ·rw [fid_append _ _ _ hm]
   have h0 : fid l q = [] := by
    have := fid_filter l p q
    rw [if_neg hq] at this
    rw [← this, fid_none hm]
   rw [h0]
   by_cases hi : i = []
   ·rw [if_pos hi]; rfl
   ·rw [if_neg hi, fid, if_neg (fun e => hq e.symm)]; rfl
theorem Once.put {l : List Fl} (h : Once l) (p i : Bs) : Once (put l p i) := by
 unfold DiffLaw.put
 constructor
 ·rw [List.map_append, List.nodup_append]
  refine ⟨by rw [filter_keys]; exact h.nodup.filter _, ?_, ?_⟩
  ·by_cases hi : i = []
   ·simp [hi]
   ·simp [hi]
  ·intro x hx y hy e
   rw [filter_keys] at hx
   by_cases hi : i = []
   ·simp [hi] at hy
   ·simp [hi] at hy
    rw [hy] at e
    simp [e] at hx
 ·intro f hf
  rcases List.mem_append.1 hf with hf | hf
  ·exact h.full f (List.mem_filter.1 hf).1
  ·by_cases hi : i = []
   ·simp [hi] at hf
   ·simp [hi] at hf
    rw [hf]
    exact hi
theorem sorted_is {l k s : List Fl} (hl : Once l) (hk : Good k) (h : ∀ p, fid l p = fid k p) (hp : s.Perm l) (hs : (s.map (·.1)).Pairwise (· ≤ ·)) : s = k := by
 have hsn : (s.map (·.1)).Nodup := ((hp.map (·.1)).nodup_iff).2 hl.nodup
 have hkeys : s.map (·.1) = k.map (·.1) := by
  refine rising_ext ?_ hk.rise fun x => ?_
  ·have : (s.map (·.1)).Pairwise (fun a b => a ≤ b ∧ a ≠ b) := List.Pairwise.and hs hsn
   exact this.imp fun h => lt_of_le_ne h.1 h.2
  ·rw [(hp.map (·.1)).mem_iff, ← hl.some, ← hk.some, h]
 refine List.ext_getElem ?_ fun j h1 h2 => ?_
 ·have := congrArg List.length hkeys
  simpa using this
 ·have e1 : s[j].1 = k[j].1 := by
   have h3 := congrArg (fun (t : List Bs) => t[j]?) hkeys
   simp [h1, h2] at h3
   exact h3
  have e2 : s[j].2 = k[j].2 := by
   rw [← fid_mem hl.nodup (hp.mem_iff.1 (List.getElem_mem h1)), ← fid_mem hk.nodup (List.getElem_mem h2), h, e1]
  exact Prod.ext e1 e2
def lay (l : List Fl) (cs : List (Bs × Bs)) : List Fl := cs.foldl (fun l c => put l c.1 c.2) l
theorem lay_once {l : List Fl} (h : Once l) (cs : List (Bs × Bs)) : Once (lay l cs) := by
 unfold lay
 induction cs generalizing l with
 | nil => exact h
 | cons c r ih => exact ih (h.put _ _)
theorem lay_fid {want : Bs → Bs} (cs : List (Bs × Bs)) (hw : ∀ c ∈ cs, c.2 = want c.1) (l : List Fl) (p : Bs) : fid (lay l cs) p = if p ∈ cs.map (·.1) then want p else fid l p := by
 unfold lay
 induction cs generalizing l with
 | nil => simp
 | cons c r ih =>
  rw [List.foldl_cons, ih (fun c hc => hw c (List.mem_cons_of_mem _ hc)), fid_put]
  by_cases h1 : p ∈ r.map (·.1)
  ·rw [if_pos h1, if_pos (by rw [List.map_cons]; exact List.mem_cons_of_mem _ h1)]
  ·rw [if_neg h1]
   by_cases h2 : p = c.1
   ·rw [if_pos h2, if_pos (by rw [List.map_cons, h2]; exact List.mem_cons_self), h2, hw c (by simp)]
   ·rw [if_neg h2, if_neg]
    rw [List.map_cons, List.mem_cons, not_or]
    exact ⟨h2, h1⟩
theorem makes {ps : List Bs} {a b s : List Fl} (ha : Good a) (hb : Good b) (hP : Paths ps a b) (hp : s.Perm (lay a ((ofPaths ps a b).map fun c => (c.1, c.2.2)))) (hs : (s.map (·.1)).Pairwise (· ≤ ·)) : s = b := by
 refine sorted_is (lay_once ha.once _) hb (fun p => ?_) hp hs
 rw [lay_fid (want := fid b) _ (fun c hc => by
  obtain ⟨d, hd, rfl⟩ := List.mem_map.1 hc
  exact (of_mem hd).2.2.1)]
 by_cases h : p ∈ ((ofPaths ps a b).map fun c => (c.1, c.2.2)).map (·.1)
 ·rw [if_pos h]
 ·rw [if_neg h]
  refine Classical.byContradiction fun hne => h ?_
  have hmem : p ∈ ps := by
   rw [hP.2]
   refine Classical.byContradiction fun h3 => hne ?_
   rw [not_or] at h3
   rw [fid_none h3.1, fid_none h3.2]
  rw [List.map_map]
  exact List.mem_map.2 ⟨_, mem_of hmem hne, rfl⟩
end DiffLaw
end Go.Proofs.YtcednfmkiaelnaaGreatDoor
namespace Go.Proofs.YtcednfmkiaelnaaGreatDoor
open Go.RowKit
def rdS : Value → Option (DataW Unit × List MemPlace)
 | .string s => some (.lit (.string s.data.toList), [])
 | _ => none
def mssC : Coding Tryz.prog 9 9 (List UInt8) (List UInt8) where
 kv := S
 kl := Lit.string
 vv := S
 vd s := .lit (.string s)
 R := rdS
 good s := s.length ≤ maxLen
 keyed := Maps.string_keyed Tryz.underlying9
 key s h := by
  have := WideMaps.keyOf_string_mk (P := Tryz.prog) Tryz.underlying9 (s := ⟨s.toArray⟩) (by rw [size_mk]; exact h)
  simpa using this
 inj _ _ _ _ h := by injection h
 enc s := by simp [rdS]
 dec v a ps h := by
  unfold rdS at h
  split at h
  ·rename_i s
   simp only [Option.some.injEq, Prod.mk.injEq, DataW.lit.injEq, Lit.string.injEq] at h
   rw [← h.1]
  ·cases h
theorem Tryz.zeroS (w : World) : (zeroValue 9).run Tryz.prog w = .ok (mssC.vv []) w := by kernel_rfl
end Go.Proofs.YtcednfmkiaelnaaGreatDoor
