/-
  dolmenref11.Book: Trim, Log. They answer; Log makes memory alone. Condition: the book lies in its home.
-/
import Derived.Test.YtegehaokfcamfaaGreatDoorRrGet
import Derived.Test.YtegehaokfcamfaaGreatDoorRefsTrim
namespace Go.Proofs.YtegehaokfcamfaaGreatDoor
open Go.RowKit
open RefsLaw (Val Chg)

/-- transactions of the reference's in a row of one's own, their changes from w0's end on -/
def TxL (w0 w : World) (A : Option Addr) (n c : Nat) (xs : List TxG) : Prop :=
  Ow w0 w 25 4 A n c (txs xs) ∧ ∀ x ∈ xs, SlT (fun k => w0.heap.size ≤ k) 48 w 5 x.A x.n (chs x.chs) ∧ x.n ≤ 4096
section
variable {w0 w w' W5 : World} {A A3 : Option Addr} {n c c3 : Nat} {xs : List TxG} {x : TxG}
theorem TxL.nil_ (hb : Below w0.heap.size w0 w) : TxL w0 w none 0 0 [] := ⟨Ow.nil_ hb, fun _ h => by cases h⟩
theorem TxL.step (h : TxL w0 w A n c xs) (hb : Below w.heap.size w w') : TxL w0 w' A n c xs := ⟨h.1.keep hb, fun x hx => ⟨(h.2 x hx).1.step hb, (h.2 x hx).2⟩⟩
theorem TxL.snoc (h : TxL w0 w A n c xs) (hO : Ow w0 w' 25 4 A3 (n + 1) c3 (txs xs ++ txs [x])) (hg : w.grownBy w' (Value.slice A n c).ownBlock) (hx : SlT (fun k => w0.heap.size ≤ k) 48 w 5 x.A x.n (chs x.chs)) (hn : x.n ≤ 4096) : TxL w0 w' A3 (n + 1) c3 (xs ++ [x]) := by
  have k : KeepT 48 w w' := (KeepT.refl _ w).grown hg (own_type h.1.1 (by decide))
  refine ⟨by rw [txs_append]; exact hO, fun y hy => ?_⟩
  rcases List.mem_append.1 hy with hy | hy
  · exact ⟨(h.2 y hy).1.keep k, (h.2 y hy).2⟩
  · rw [List.mem_singleton] at hy
    subst hy
    exact ⟨hx.keep k, hn⟩
end
/-- a slice of them is answered -/
def AnyL (w w' : World) (e : Ending) : Prop := ∃ A n c xs, e = .returned (.slice A n c) ∧ TxL w w' A n c xs
theorem AnyL.mk {w w' : World} {A : Option Addr} {n c : Nat} {xs : List TxG} (h : TxL w w' A n c xs) : AnyL w w' (.returned (.slice A n c)) := ⟨A, n, c, xs, rfl, h⟩
theorem Tryz.rsizeTxn (w : World) : (sizeOf 25).run Tryz.prog w = .ok 4 w := by kernel_rfl

set_option maxHeartbeats 4000000 in
set_option maxRecDepth 100000 in
theorem rlog_any (w : World) (q : Nat) (G : Nat → Prop) (z y : Nat) (ref : List UInt8) (hB : RBookAt w q G z y) (hy : y ≤ 1000000) :
    Calls Tryz.prog 49 #[.pointer (some ⟨q, 0, none⟩), S ref] w fun e w' => AnyL w w' e := by
  obtain ⟨A, n, c, rs, B, m, d, xs, hI⟩ := hB
  have HI := Lib.hid hI
  have hm : m ≤ 1000000 := Nat.le_trans hI.cap.2.1 hy
  obtain ⟨i0, hi0, hz0, hz1, hz2⟩ := info_parts Tryz.infoRTxn
  have rb := hI.blk.cell
  clear hI
  go_enter Tryz.func49, Tryz.ntmps49
  go_wp2
  clear rb
  go_loopw [5, 6] (fun o i wr => ∃ (t no co : Nat) (Ao : Option Addr) (gs : List TxG), i = .int .i64 ((t : Int) - 1) ∧ o = .slice Ao no co ∧ Hid (t ≤ m) ∧ Hid (TxL w wr Ao no co gs) ∧ Hid (no + t * 4096 ≤ m * 4096)) (fun _ i _ => (intOf i + 1).toNat)
  case atStart => exact ⟨m, 0, 0, none, [], rfl, rfl, Lib.hid (Nat.le_refl _), Lib.hid (TxL.nil_ (Below.refl _ _)), Lib.hid (by omega)⟩
  case round =>
    obtain ⟨t, no, co, Ao, gs, rfl, rfl, ht, hL, hno⟩ := hrel
    by_cases h0 : t = 0
    · subst h0
      go_wp2
      go_ret
      exact AnyL.mk hL.out
    · obtain ⟨i, rfl⟩ : ∃ i, t = i + 1 := ⟨t - 1, by omega⟩
      have hi : ((i + 1 : Nat) : Int) - 1 = (i : Int) := by omega
      rw [hi]
      have him : i < m := ht.out
      obtain ⟨b, off, x, rfl, hb, hx, y0, y1, y2, y3⟩ := HI.out.txns.sl.txn him
      have hxc := Lib.hid (HI.out.chg x (List.mem_of_getElem? hx))
      have Y0 := Lib.hid y0
      have Y1 := Lib.hid y1
      have Y2 := Lib.hid y2
      have Y3 := Lib.hid y3
      have hxn : x.n ≤ 4096 := hxc.out.2
      clear y0 y1 y2 y3 hx hi
      go_wp2
      go_loopw [5, 7] (fun o j wj => ∃ (k no' co' : Nat) (Ao' : Option Addr) (gs' : List TxG), j = .int .i64 k ∧ o = .slice Ao' no' co' ∧ Hid (k ≤ x.n) ∧ Hid (TxL w wj Ao' no' co' gs') ∧ Hid (no' ≤ no + k)) (fun _ j _ => x.n - (intOf j).toNat)
      case atStart => exact ⟨0, no, co, Ao, gs, rfl, rfl, Lib.hid (Nat.zero_le _), hL, Lib.hid (Nat.le_refl _)⟩
      case round =>
        obtain ⟨k, no', co', Ao', gs', rfl, rfl, hk, hL', hno'⟩ := hrel
        have BB := Lib.hid hL'.out.1.2
        have rb := (HI.out.step BB.out).blk.cell
        have x0 := (BB.out.cell (p := ⟨b, off + i * 4, none⟩) hb).trans Y0.out
        have x1 := (BB.out.cell (p := ⟨b, off + i * 4 + 1, none⟩) hb).trans Y1.out
        have x2 := (BB.out.cell (p := ⟨b, off + i * 4 + 2, none⟩) hb).trans Y2.out
        have x3 := (BB.out.cell (p := ⟨b, off + i * 4 + 3, none⟩) hb).trans Y3.out
        by_cases hkn : k < x.n
        · obtain ⟨b', off', ch, hA', hb', hch, z0, z1, z2, z3, z4⟩ := (hxc.out.1.step BB.out).sl.chg hkn
          have q0 : no' + 1 ≤ 1000000 * 4096 + 4096 + 4096 := by have := hno'.out; have := hno.out; have := hk.out; omega
          have q1 : no' + 1 ≤ maxLen := Nat.le_trans q0 (by decide)
          have q2 : (no' + 1) * 64 ≤ 140737488355328 := Nat.le_trans (Nat.mul_le_mul_right _ q0) (by decide)
          have C := Lib.hid (rcopied_any x wr (hxc.out.1.step BB.out).sl hxn)
          rw [hA'] at x3
          clear hch q0
          go_wp2_with (first
            | (go_at_call 67; rw [← hA']; refine C.out.mono ?_; rintro e w5 ⟨A5, c5, rfl, hS5, b5⟩; have hx5 : x.n ≤ 4096 := hxn; have L6 : Hid (TxL w (w5.alloc (.cells #[S x.who, S x.text, I x.stamp, .slice A5 x.n c5] 25)) Ao' no' co' gs') := Lib.hid ((hL'.out.step b5).step (balloc (Below.refl _ w5) _)); have HS6 : Hid (Sl (w5.alloc (.cells #[S x.who, S x.text, I x.stamp, .slice A5 x.n c5] 25)) 4 (some ⟨w5.heap.size, 0, none⟩) 1 (txs [⟨x.who, x.text, x.stamp, A5, x.n, c5, x.chs⟩])) := Lib.hid (sl_tx w5 25 ⟨x.who, x.text, x.stamp, A5, x.n, c5, x.chs⟩); have X6 : Hid (SlT (fun k => w.heap.size ≤ k) 48 (w5.alloc (.cells #[S x.who, S x.text, I x.stamp, .slice A5 x.n c5] 25)) 5 A5 x.n (chs x.chs)) := Lib.hid ((hS5.weak (fun g _ h => Nat.le_trans BB.out.size h.1)).step (balloc (Below.refl _ w5) _)); clear hS5 b5)
            | (at_builtin; refine wpList_append_sl _ rfl (.tmp 45) (.tmp 54) _ rfl w 25 i0 _ 4 64 Tryz.uRTxn hi0 hz0 hz1 hz2 rfl (by decide) Ao' no' co' (txs gs') rfl L6.out.1 _ 1 1 (txs [⟨x.who, x.text, x.stamp, A5, x.n, c5, x.chs⟩]) rfl HS6.out (one_txs _) q1 q2 ?_; intro A7 c7 w7 hO7 hg7 hat7; have L7 := Lib.hid (L6.out.snoc hO7 hg7 X6.out hx5); clear hO7 hg7 hat7))
          · go_roundw
            case rel => exact ⟨k + 1, no' + 1, c7, A7, gs' ++ [⟨x.who, x.text, x.stamp, A5, x.n, c5, x.chs⟩], by go_num, rfl, Lib.hid hkn, L7, Lib.hid (by have := hno'.out; omega)⟩
            case measure => simp [intOf]; omega
          · go_roundw
            case rel => exact ⟨k + 1, no', co', Ao', gs', by go_num, rfl, Lib.hid hkn, hL', Lib.hid (by have := hno'.out; omega)⟩
            case measure => simp [intOf]; omega
        · obtain rfl : k = x.n := by have := hk.out; omega
          clear x0 x1 x2 rb
          have rb := (HI.out.step BB.out).blk.cell
          go_wp2
          go_roundw
          case rel => exact ⟨i, no', co', Ao', gs', by go_num, rfl, Lib.hid (Nat.le_of_lt him), hL', Lib.hid (by have := hno'.out; have := hno.out; omega)⟩
          case measure => simp [intOf]

set_option maxHeartbeats 2000000 in
set_option maxRecDepth 100000 in
theorem rtrim_any (w : World) (q : Nat) (G : Nat → Prop) (z y : Nat) (keep : Int) (hB : RBookAt w q G z y) (hy : y ≤ 1000000) (hk : -9223372036854775808 ≤ keep ∧ keep ≤ 9223372036854775807) :
    Calls Tryz.prog 50 #[.pointer (some ⟨q, 0, none⟩), I keep] w fun e w' => e = .returned (.tuple #[]) ∧ RBookAt w' q (ext G w w') z y ∧ Fr (fun k => k = q) w w' := by
  obtain ⟨A, n, c, rs, B, m, d, xs, hI⟩ := hB
  have HI := Lib.hid hI
  have hm : m ≤ 1000000 := Nat.le_trans hI.cap.2.1 hy
  have rb := hI.blk.cell
  obtain ⟨k1, k2⟩ := hk
  obtain ⟨k, hkk⟩ : ∃ k, keep.toNat = k := ⟨_, rfl⟩
  have hmx : max keep 0 = (k : Int) := by omega
  have hkb : k ≤ 9223372036854775807 := by omega
  by_cases hle : m ≤ k
  · have hd : decide (0 < (m : Int) - (k : Int)) = false := by simp; omega
    clear hI hkk
    go_enter Tryz.func50, Tryz.ntmps50
    go_wp2
    all_goals try omega
    go_end0
    exact ⟨rfl, RBookAt.weak ⟨A, n, c, rs, B, m, d, xs, HI.out⟩ (fun _ _ h => .inl h) (Nat.le_refl _) (Nat.le_refl _), Fr.refl _ _⟩
  · obtain ⟨j, hj⟩ : ∃ j, m - k = j := ⟨_, rfl⟩
    have hji : (m : Int) - (k : Int) = (j : Int) := by omega
    have kX := fun W : World => run_cut_l (P := Tryz.prog) W Tryz.uRTxn Tryz.rsizeTxn B m d .i64 j (by omega)
    have hSl := hI.txns.sl
    have hmd : m ≤ d := hI.cap.2.2
    have b0 := balloc (Below.refl _ w) (.cells #[] 25)
    have hcut : Sl (w.alloc (.cells #[] 25)) 4 (cutA B d j 4) (m - j) (txs (xs.drop j)) := by
      have := hSl.cut (l := j) (r := m) (c := d) (by omega) (Nat.le_refl _) hmd
      rw [txs_drop]
      rw [List.take_of_length_le (by rw [List.length_drop, hSl.1, Nat.sub_mul]; exact Nat.le_refl _)] at this
      exact this.below b0
    have ho : Ow w (w.alloc (.cells #[] 25)) 25 4 (some ⟨w.heap.size, 0, none⟩) 0 0 [] := ⟨World.ownsRow_made _ #[] 0 (Nat.le_refl _) (Nat.zero_le _) rfl, b0⟩
    obtain ⟨i0, hi0, hz0, hz1, hz2⟩ := info_parts Tryz.infoRTxn
    have q0 : 0 + (m - j) ≤ 1000000 := by omega
    have q1 : 0 + (m - j) ≤ maxLen := Nat.le_trans q0 (by decide)
    have q2 : (0 + (m - j)) * 64 ≤ 140737488355328 := Nat.le_trans (Nat.mul_le_mul_right _ q0) (by decide)
    have hd0 : 0 < j := by omega
    have hdn : j ≤ m := by omega
    have rb2 := (HI.out.step b0).blk.cell
    have HC := Lib.hid hcut
    have HO := Lib.hid ho
    clear hI hkk hj hSl hcut ho b0 q0
    go_enter Tryz.func50, Tryz.ntmps50
    go_wp2_with (at_builtin; refine wpList_append_sl _ rfl (.tmp 16) (.tmp 22) _ rfl w 25 i0 _ 4 64 Tryz.uRTxn hi0 hz0 hz1 hz2 rfl (by decide) _ _ _ _ rfl HO.out (cutA B d j 4) (m - j) (d - j) (txs (xs.drop j)) rfl HC.out (one_txs _) q1 q2 ?_; intro A1 c1 w1 hO hg1 hat1; have hB1 := (HI.out.step hO.2).blk; have rb1 := hB1.cell; have fb1 := hB1.frozen)
    go_end0
    rw [Nat.zero_add, List.nil_append] at hO
    have hI := HI.out.step hO.2
    have hs : (w1.setCell ⟨q, 1, none⟩ (.slice A1 (m - j) c1)).heap.size = w1.heap.size := setCell_size _ _ _
    have kk : ∀ e, 66 ≠ e → KeepT e w1 (w1.setCell ⟨q, 1, none⟩ (.slice A1 (m - j) c1)) := fun e he => (KeepT.refl e w1).setCell hI.blk he rfl _
    have hw : ∀ k, G k → ext G w (w1.setCell ⟨q, 1, none⟩ (.slice A1 (m - j) c1)) k := fun k h => .inl h
    simp only  at hs ⊢
    refine ⟨trivial, ⟨A, n, c, rs, A1, m - j, c1, xs.drop j, hI.blk.set_ 1 _, (hI.refs.weak (fun g _ h => hw g h)).keep (kk _ (by decide)), ((hO.slT).weak (fun g _ h => .inr ⟨h.1, by omega⟩)).keep (kk _ (by decide)), fun x hx => ⟨((hI.chg x (List.mem_of_mem_drop hx)).1.weak (fun g _ h => hw g h)).keep (kk _ (by decide)), (hI.chg x (List.mem_of_mem_drop hx)).2⟩, .inl hI.hq, ?_⟩, Fr.setCell (E := fun k => k = q) (Fr.of_below hO.2) (p := ⟨q, 1, none⟩) rfl _⟩
    have := HI.out.cap
    exact ⟨this.1, by omega, (hO.cap).1⟩
end Go.Proofs.YtegehaokfcamfaaGreatDoor
