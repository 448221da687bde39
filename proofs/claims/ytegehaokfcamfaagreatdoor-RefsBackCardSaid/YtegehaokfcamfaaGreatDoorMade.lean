/-
  dolmenlaw11.step, .made: a script of at most forty operations on both books: it ends, the program's book is a book; nothing that lay before has turned. Conditions: the script reads as a list of operations.
-/
import Derived.Test.YtegehaokfcamfaaGreatDoorStepPut
import Derived.Test.YtegehaokfcamfaaGreatDoorStepAsk7
import Derived.Test.YtegehaokfcamfaaGreatDoorStepLog
namespace Go.Proofs.YtegehaokfcamfaaGreatDoor
open Go.RowKit
open RefsLaw (Val Chg Txn rightT Book)

theorem step_any (B N p q z y : Nat) (w : World) (what : Int) (t : TxG) (right : Bool) (ref : List UInt8) (keep : Int) (hB : BothAt B N w p q z y) (hz : z ≤ 1000) (hy : y ≤ 1000) (hO : OpOk B w t ref keep) (hM : MaxL w) (hl : 0 < B) :
    Calls Tryz.prog 21 #[.pointer (some ⟨p, 0, none⟩), .pointer (some ⟨q, 0, none⟩), opV what t right ref keep] w (Stepped B w p q z y) := by
  rcases h4 : (bits BinOp.and IntKind.i64 what 7 == 4) with _ | _
  · rcases h7 : (bits BinOp.and IntKind.i64 what 7 == 7) with _ | _
    · rcases h5 : (bits BinOp.and IntKind.i64 what 7 == 5) with _ | _
      · rcases h6 : (bits BinOp.and IntKind.i64 what 7 == 6) with _ | _
        · cases right
          · exact step_put0 B N p q z y w what t ref keep hB hz hy hO hM hl h4 h7 h5 h6
          · exact step_put1 B N p q z y w what t ref keep hB hz hy hO hM hl h4 h7 h5 h6
        · exact step_trim B N p q z y w what t right ref keep hB hz hy hO h4 h7 h5 h6
      · exact step_log B N p q z y w what t right ref keep hB hz hy h4 h7 h5
    · exact step_ask7 B N p q z y w what t right ref keep hB hy hO hM h4 h7
  · exact step_ask4 B N p q z y w what t right ref keep hB hy hO hM h4

/-- an operation, with where its changes lie -/
structure OpG where
  what : Int
  t : TxG
  right : Bool
  ref : List UInt8
  keep : Int
def OpG.cells (o : OpG) : List Value := [I o.what, S o.t.who, S o.t.text, I o.t.stamp, .slice o.t.A o.t.n o.t.c, .bool o.right, S o.ref, I o.keep]
def opsC (l : List OpG) : List Value := l.flatMap OpG.cells
theorem op_len (l : List OpG) : ∀ x ∈ l, x.cells.length = 8 := fun _ _ => rfl
theorem opsC_len (l : List OpG) : (opsC l).length = l.length * 8 := flat_len (op_len l)
theorem ops_count {w : World} {A : Option Addr} {m : Nat} {l : List OpG} (h : Sl w 8 A m (opsC l)) : l.length = m := by have := h.1; rw [opsC_len] at this; omega
theorem ops_at {l : List OpG} {k j : Nat} {x : OpG} (h : l[k]? = some x) (hj : j < 8) : (opsC l)[k * 8 + j]? = x.cells[j]? := flat_at (op_len l) h hj
theorem Sl.opg {w : World} {A : Option Addr} {m k : Nat} {l : List OpG} (h : Sl w 8 A m (opsC l)) (hk : k < m) : ∃ b off x, A = some ⟨b, off, none⟩ ∧ b < w.heap.size ∧ l[k]? = some x ∧
    w.cell? ⟨b, off + k * 8, none⟩ = some (I x.what) ∧ w.cell? ⟨b, off + k * 8 + 1, none⟩ = some (S x.t.who) ∧ w.cell? ⟨b, off + k * 8 + 2, none⟩ = some (S x.t.text) ∧ w.cell? ⟨b, off + k * 8 + 3, none⟩ = some (I x.t.stamp) ∧ w.cell? ⟨b, off + k * 8 + 4, none⟩ = some (.slice x.t.A x.t.n x.t.c) ∧
    w.cell? ⟨b, off + k * 8 + 5, none⟩ = some (.bool x.right) ∧ w.cell? ⟨b, off + k * 8 + 6, none⟩ = some (S x.ref) ∧ w.cell? ⟨b, off + k * 8 + 7, none⟩ = some (I x.keep) := by
  obtain ⟨b, off, rfl, hb, hc⟩ := h.2 (by omega)
  have hl := ops_count h
  obtain ⟨x, hx⟩ : ∃ x, l[k]? = some x := ⟨l[k]'(by omega), List.getElem?_eq_getElem _⟩
  refine ⟨b, off, x, rfl, hb, hx, ?_, ?_, ?_, ?_, ?_, ?_, ?_, ?_⟩
  · have := (hc (k * 8 + 0) (by omega)).trans (ops_at hx (by omega : 0 < 8)); simpa [OpG.cells] using this
  · have := (hc (k * 8 + 1) (by omega)).trans (ops_at hx (by omega : 1 < 8)); simpa [OpG.cells, Nat.add_assoc] using this
  · have := (hc (k * 8 + 2) (by omega)).trans (ops_at hx (by omega : 2 < 8)); simpa [OpG.cells, Nat.add_assoc] using this
  · have := (hc (k * 8 + 3) (by omega)).trans (ops_at hx (by omega : 3 < 8)); simpa [OpG.cells, Nat.add_assoc] using this
  · have := (hc (k * 8 + 4) (by omega)).trans (ops_at hx (by omega : 4 < 8)); simpa [OpG.cells, Nat.add_assoc] using this
  · have := (hc (k * 8 + 5) (by omega)).trans (ops_at hx (by omega : 5 < 8)); simpa [OpG.cells, Nat.add_assoc] using this
  · have := (hc (k * 8 + 6) (by omega)).trans (ops_at hx (by omega : 6 < 8)); simpa [OpG.cells, Nat.add_assoc] using this
  · have := (hc (k * 8 + 7) (by omega)).trans (ops_at hx (by omega : 7 < 8)); simpa [OpG.cells, Nat.add_assoc] using this
/-- what an operation's own parts are -/
def OpG.ok (w : World) (o : OpG) : Prop := Sl w 5 o.t.A o.t.n (chs o.t.chs) ∧ o.t.n ≤ 1759218604390 ∧ (∀ c ∈ o.t.chs, c.ref.length ≤ maxLen) ∧ o.ref.length ≤ maxLen ∧ -9223372036854775808 ≤ o.keep ∧ o.keep ≤ 9223372036854775807
theorem OpG.ok_step {w w' : World} {o : OpG} (h : o.ok w) (hb : Below w.heap.size w w') : o.ok w' := ⟨h.1.below hb, h.2⟩
theorem OpG.ok_at {w w' : World} {o : OpG} (h : o.ok w) (hb : Below w.heap.size w w') : OpOk w.heap.size w' o.t o.ref o.keep :=
  ⟨⟨h.1.below hb, fun b off hn e hw => by have := h.1.lt_ b off hn e; omega⟩, h.2.1, h.2.2.1, h.2.2.2.1, h.2.2.2.2⟩

set_option maxHeartbeats 4000000 in
set_option maxRecDepth 100000 in
theorem made2_any (w : World) (A : Option Addr) (n c : Nat) (l : List OpG) (hA : Sl w 8 A n (opsC l)) (hO : ∀ o ∈ l, o.ok w) (hM : MaxL w) :
    Calls Tryz.prog 6 #[.slice A n c] w fun e w' => ∃ (p q : Nat), e = .returned (.tuple #[.pointer (some ⟨p, 0, none⟩), .pointer (some ⟨q, 0, none⟩)]) ∧ BothAt w.heap.size w'.heap.size w' p q 40 40 ∧ Below w.heap.size w w' := by
  have HA := Lib.hid hA
  have HO := Lib.hid hO
  have HM := Lib.hid hM
  have hl := hM.lt
  clear hA hO hM
  go_enter Tryz.func6, Tryz.ntmps6
  go_wp2_with (go_at_call 18; refine (new_any w).mono ?_; rintro e w1 ⟨p, rfl, hB1, b1⟩)
  have z1 := b1.size
  have hb2 := balloc (Below.refl w1.heap.size w1) (.cells #[.slice none 0 0, .slice none 0 0] 66)
  have B0 : BothAt w.heap.size (w1.heap.size + 1) (w1.alloc (.cells #[.slice none 0 0, .slice none 0 0] 66)) p w1.heap.size 0 0 := by
    refine ⟨_, _, fun k => k = w1.heap.size, hB1.step hb2, ⟨none, 0, 0, [], none, 0, 0, [], Blk.new w1 _ _, SlT.nil_, SlT.nil_, by simp, rfl, by omega⟩, fun k hk => by omega, fun k hk => by omega, fun k hk e => by omega, by simp⟩
  have HB1 := Lib.hid (Below.trans b1 (hb2.mono z1))
  have HB0 := Lib.hid B0
  clear b1 hb2 hB1 B0
  go_loopw [6] (fun i wr => ∃ k : Nat, i = .int .i64 k ∧ Hid (k ≤ 40) ∧ Hid (k ≤ n) ∧ Hid (BothAt w.heap.size wr.heap.size wr p w1.heap.size k k) ∧ Hid (Below w.heap.size w wr)) (fun i _ => 40 - (intOf i).toNat)
  case atStart => exact ⟨0, rfl, Lib.hid (by omega), Lib.hid (by omega), Lib.hid (HB0.out.up (by simp) (Nat.le_refl _)), HB1⟩
  case round =>
    obtain ⟨k, rfl, hk, hkn, hBk, hb⟩ := hrel
    by_cases hlt : k < n ∧ k < 40
    · obtain ⟨h1, h2⟩ := hlt
      obtain ⟨b, off, o, rfl, hbz, hx, y0, y1, y2, y3, y4, y5, y6, y7⟩ := HA.out.opg h1
      have x0 := (hb.out.cell (p := ⟨b, off + k * 8, none⟩) hbz).trans y0
      have x1 := (hb.out.cell (p := ⟨b, off + k * 8 + 1, none⟩) hbz).trans y1
      have x2 := (hb.out.cell (p := ⟨b, off + k * 8 + 2, none⟩) hbz).trans y2
      have x3 := (hb.out.cell (p := ⟨b, off + k * 8 + 3, none⟩) hbz).trans y3
      have x4 := (hb.out.cell (p := ⟨b, off + k * 8 + 4, none⟩) hbz).trans y4
      have x5 := (hb.out.cell (p := ⟨b, off + k * 8 + 5, none⟩) hbz).trans y5
      have x6 := (hb.out.cell (p := ⟨b, off + k * 8 + 6, none⟩) hbz).trans y6
      have x7 := (hb.out.cell (p := ⟨b, off + k * 8 + 7, none⟩) hbz).trans y7
      have C1 := Lib.hid (step_any w.heap.size wr.heap.size p w1.heap.size k k wr o.what o.t o.right o.ref o.keep hBk.out (by omega) (by omega) (OpG.ok_at (HO.out o (List.mem_of_getElem? hx)) hb.out) (HM.out.fr (Fr.of_below (E := fun _ => False) hb.out) (fun h => h)) hl)
      clear y0 y1 y2 y3 y4 y5 y6 y7 hx
      go_wp2_with (go_at_call 21; refine C1.out.mono ?_; rintro e w2 ⟨⟨b2, rfl⟩, hB2, hF2⟩)
      go_roundw
      case rel => exact ⟨k + 1, by go_num, Lib.hid (by omega), Lib.hid (by omega), Lib.hid hB2, Lib.hid (hb.out.trans (hF2.below hb.out.size (fun _ h => h)))⟩
      case measure => simp [intOf]; omega
    · have HBf := Lib.hid (hBk.out.mono hk.out hk.out)
      by_cases h1 : k < n
      · have h2 : ¬ k < 40 := fun h => hlt ⟨h1, h⟩
        clear hlt
        go_wp2
        refine bodyPost_ret (v := .tuple #[.pointer (some ⟨p, 0, none⟩), .pointer (some ⟨w1.heap.size, 0, none⟩)]) (by simp [results, Tryz.results6, go_sem]) rfl ⟨p, _, rfl, HBf.out, hb.out⟩
      · clear hlt
        go_wp2
        refine bodyPost_ret (v := .tuple #[.pointer (some ⟨p, 0, none⟩), .pointer (some ⟨w1.heap.size, 0, none⟩)]) (by simp [results, Tryz.results6, go_sem]) rfl ⟨p, _, rfl, HBf.out, hb.out⟩
theorem made_any (w : World) (A : Option Addr) (n c : Nat) (l : List OpG) (hA : Sl w 8 A n (opsC l)) (hO : ∀ o ∈ l, o.ok w) (hM : MaxL w) :
    Calls Tryz.prog 6 #[.slice A n c] w fun e w' => ∃ (p q : Nat) (bk : Book) (H : Nat → Prop), e = .returned (.tuple #[.pointer (some ⟨p, 0, none⟩), .pointer (some ⟨q, 0, none⟩)]) ∧ BookAt w' p H bk 40 ∧ Below w.heap.size w w' := by
  refine (made2_any w A n c l hA hO hM).mono ?_
  rintro e w' ⟨p, q, rfl, ⟨bk, H, G, h⟩, hb⟩
  exact ⟨p, q, bk, H, rfl, h.b, hb⟩
end Go.Proofs.YtegehaokfcamfaaGreatDoor
