/-
  dolmenlaw11.step where both logs are asked (5): it answers; both stay books. Conditions: as in Step.
-/
import Derived.Test.YtegehaokfcamfaaGreatDoorStepAsk
import Derived.Test.YtegehaokfcamfaaGreatDoorRrSame
namespace Go.Proofs.YtegehaokfcamfaaGreatDoor
open Go.RowKit
open RefsLaw (Val Chg Txn rightT Book)

/-- a row of transactions, with all that they lead to -/
def LogR (w : World) (A : Option Addr) (n : Nat) (xs : List TxG) : Prop := Sl w 4 A n (txs xs) ∧ n ≤ 1759218604390 ∧ ∀ x ∈ xs, Sl w 5 x.A x.n (chs x.chs) ∧ x.n ≤ 4096
def LogR0 (w : World) (A : Option Addr) (n : Nat) (xs : List TxG) : Prop := Sl w 4 A n (txs xs) ∧ ∀ x ∈ xs, Sl w 5 x.A x.n (chs x.chs) ∧ x.n ≤ 4096
theorem LogR0.step {w w' : World} {A : Option Addr} {n : Nat} {xs : List TxG} (h : LogR0 w A n xs) (hb : Below w.heap.size w w') : LogR0 w' A n xs := ⟨h.1.below hb, fun x hx => ⟨(h.2 x hx).1.below hb, (h.2 x hx).2⟩⟩
theorem LogR.step {w w' : World} {A : Option Addr} {n : Nat} {xs : List TxG} (h : LogR w A n xs) (hb : Below w.heap.size w w') : LogR w' A n xs := ⟨h.1.below hb, h.2.1, fun x hx => ⟨(h.2.2 x hx).1.below hb, (h.2.2 x hx).2⟩⟩
theorem log_small {bk : Book} (h : RefsLaw.Inv bk) (ref : List UInt8) : (RefsLaw.log bk ref).length ≤ bk.txns.length ∧ ∀ t ∈ RefsLaw.log bk ref, t.chs.length ≤ 4096 := by
  refine ⟨?_, fun t ht => ?_⟩
  · unfold RefsLaw.log
    exact Nat.le_trans (List.length_filter_le _ _) (by simp)
  · unfold RefsLaw.log at ht
    exact rightT_len (h.txn t (List.mem_reverse.1 (List.mem_filter.1 ht).1))
theorem log_row (w : World) (p : Nat) (H : Nat → Prop) (bk : Book) (z : Nat) (ref : List UInt8) (hB : BookAt w p H bk z) (hz : z ≤ 1000000) :
    Calls Tryz.prog 20 #[.pointer (some ⟨p, 0, none⟩), S ref] w fun e w' => ∃ (A : Option Addr) (n c : Nat) (gs : List TxG), e = .returned (.slice A n c) ∧ LogR w' A n gs ∧ Below w.heap.size w w' := by
  obtain ⟨m, A, n, c, xs, cnt, hI⟩ := hB
  have hl := log_small hI.inv ref
  have hn := hI.len
  have hc := hI.cap
  refine (log_any w p H bk z ref ⟨m, A, n, c, xs, cnt, hI⟩ hz).mono ?_
  rintro e w' ⟨A', n', c', gs, rfl, hS, hg, hx, hb⟩
  have h1 := txs_count hS
  have h2 := congrArg List.length hg
  rw [List.length_map] at h2
  refine ⟨A', n', c', gs, rfl, ⟨hS, by omega, fun x hx' => ⟨hx x hx', ?_⟩⟩, hb⟩
  have h3 := chs_count (hx x hx')
  have h4 := hl.2 x.txn (hg ▸ List.mem_map.2 ⟨x, hx', rfl⟩)
  have h5 : x.txn.chs.length = x.n := h3
  omega
theorem logR0_of {w w' : World} {A : Option Addr} {n c : Nat} {xs : List TxG} (h : TxL w w' A n c xs) : LogR0 w' A n xs := ⟨h.1.sl, fun x hx => ⟨(h.2 x hx).1.sl, (h.2 x hx).2⟩⟩

def logPhi (g5 p q : Nat) (ref : List UInt8) : Nat → Value → World → Prop
  | 0, v, _ => v = .pointer (some ⟨p, 0, none⟩)
  | 1, v, _ => v = .pointer (some ⟨g5, 6, none⟩)
  | 2, v, _ => v = S ref
  | 3, v, w => ∃ (A : Option Addr) (n c : Nat) (xs : List TxG), v = .slice A n c ∧ LogR w A n xs
  | 4, v, w => ∃ (A : Option Addr) (n c : Nat) (xs : List TxG), v = .slice A n c ∧ LogR w A n xs
  | 5, v, _ => v = .pointer (some ⟨q, 0, none⟩)
  | 6, v, _ => v = .pointer (some ⟨g5, 6, none⟩)
  | 7, v, _ => v = S ref
  | 8, v, w => ∃ (A : Option Addr) (n c : Nat) (xs : List TxG), v = .slice A n c ∧ LogR0 w A n xs
  | 9, v, _ => ∃ b, v = .bool b
  | _, _, _ => True
theorem logPhi_mono {g5 p q : Nat} {ref : List UInt8} : ∀ (j : Nat) (v : Value) (w w' : World), logPhi g5 p q ref j v w → Below w.heap.size w w' → logPhi g5 p q ref j v w' := by
  intro j v w w' h hb
  match j, h with
  | 0, h => exact h
  | 1, h => exact h
  | 2, h => exact h
  | 3, ⟨A, n, c, xs, e, h⟩ => exact ⟨A, n, c, xs, e, h.step hb⟩
  | 4, ⟨A, n, c, xs, e, h⟩ => exact ⟨A, n, c, xs, e, h.step hb⟩
  | 5, h => exact h
  | 6, h => exact h
  | 7, h => exact h
  | 8, ⟨A, n, c, xs, e, h⟩ => exact ⟨A, n, c, xs, e, h.step hb⟩
  | 9, h => exact h
  | (n + 10), _ => trivial

set_option maxHeartbeats 4000000 in
set_option maxRecDepth 100000 in
theorem step_log (B N p q z y : Nat) (w : World) (what : Int) (t : TxG) (right : Bool) (ref : List UInt8) (keep : Int) (hB : BothAt B N w p q z y) (hz : z ≤ 1000) (hy : y ≤ 1000)
    (h4 : (bits BinOp.and IntKind.i64 what 7 == 4) = false) (h7 : (bits BinOp.and IntKind.i64 what 7 == 7) = false) (h5 : (bits BinOp.and IntKind.i64 what 7 == 5) = true) :
    Calls Tryz.prog 21 #[.pointer (some ⟨p, 0, none⟩), .pointer (some ⟨q, 0, none⟩), opV what t right ref keep] w (Stepped B w p q z y) := by
  obtain ⟨bk, H, G, hI⟩ := hB
  have fin := Lib.hid (show ∀ (w' : World) (b : Bool), Below w.heap.size w w' → Stepped B w p q z y (.returned (.bool b)) w' from fun w' b h =>
    ⟨AnyB.mk _, ((BothAt.step ⟨bk, H, G, hI⟩ h).mono (Nat.le_succ _) (Nat.le_succ _)).up (Nat.le_trans hI.top h.size) (Nat.le_refl _), Fr.of_below h⟩)
  have C1 := Lib.hid (fun W (h : Below w.heap.size w W) => log_row W p H bk z ref (hI.b.step h) (by omega))
  have C2 := Lib.hid (fun W (h : Below w.heap.size w W) => rlog_any W q G (y * 4096) y ref (hI.r.step h) (by omega))
  have q0 := Lib.hid (balloc (Below.refl _ w) (.cells (opCs what t right ref keep) 69))
  have HR := Lib.hid (Blk.new w 69 (opCs what t right ref keep))
  have r0 := HR.out.cell
  clear hI
  go_enter Tryz.func21, Tryz.ntmps21
  go_wp2
  refine wp_region_guards (by kernel_rfl) 10 (by kernel_rfl) ?_ (logPhi w.heap.size p q ref) logPhi_mono (fun i o hi ho a w1 hb hs hm => ?_) (fun o ho a w1 hb hs hm => ?_)
  · exact ask_lt (n := 132) (by kernel_rfl)
  · clear fin
    exact match i, hi, ho with
    | 0, _, ho => by
        cases ho
        rw [if_pos (wanted_none _ rfl)]
        refine wp_value (st_move rfl ((hs.keeps (by kernel_rfl)).trans rfl)) ⟨_, rfl, rfl, Below.refl _ _⟩
    | 1, _, ho => by
        cases ho
        rw [if_pos (wanted_none _ rfl)]
        refine wp_value (st_field rfl ((hs.keeps (by kernel_rfl)).trans rfl) (by kernel_rfl)) ⟨_, rfl, rfl, Below.refl _ _⟩
    | 2, _, ho => by
        cases ho
        rw [if_pos (wanted_none _ rfl)]
        have hx : w1.cell? ⟨w.heap.size, 6, none⟩ = some (S ref) := (HR.out.step hb).cell 6
        refine wp_value (st_load rfl (hm.get 1 98 (by kernel_rfl)) (by go_simp)) ⟨_, rfl, rfl, Below.refl _ _⟩
    | 3, _, ho => by
        cases ho
        rw [if_pos (wanted_none _ rfl)]
        have h1 := eval_getD (hm.get 0 97 (by kernel_rfl)); have h2 := eval_getD (hm.get 2 99 (by kernel_rfl)); unfold Oper.wp; simp only [execOp]; go_simp
        refine (C1.out w1 (bstep q0.out hb)).mono ?_; rintro e w' ⟨A, n, c, gs, rfl, hL, hb'⟩; exact ⟨_, rfl, ⟨A, n, c, gs, rfl, hL⟩, hb'⟩
    | 4, _, ho => by
        cases ho
        rw [if_pos (wanted_none _ rfl)]
        obtain ⟨A, n, c, xs, e1, hL⟩ := hm.get 3 100 (by kernel_rfl)
        have h1 := eval_getD e1; unfold Oper.wp; simp only [execOp]; go_simp
        refine (theirs_any w1 A n c xs hL.1 hL.2.2 hL.2.1).mono ?_; rintro e w' ⟨A', c', xs', rfl, hT⟩; exact ⟨_, rfl, ⟨A', n, c', xs', rfl, (logR0_of hT).1, hL.2.1, (logR0_of hT).2⟩, hT.1.2⟩
    | 5, _, ho => by
        cases ho
        rw [if_pos (wanted_none _ rfl)]
        refine wp_value (st_move rfl ((hs.keeps (by kernel_rfl)).trans rfl)) ⟨_, rfl, rfl, Below.refl _ _⟩
    | 6, _, ho => by
        cases ho
        rw [if_pos (wanted_none _ rfl)]
        refine wp_value (st_field rfl ((hs.keeps (by kernel_rfl)).trans rfl) (by kernel_rfl)) ⟨_, rfl, rfl, Below.refl _ _⟩
    | 7, _, ho => by
        cases ho
        rw [if_pos (wanted_none _ rfl)]
        have hx : w1.cell? ⟨w.heap.size, 6, none⟩ = some (S ref) := (HR.out.step hb).cell 6
        refine wp_value (st_load rfl (hm.get 6 103 (by kernel_rfl)) (by go_simp)) ⟨_, rfl, rfl, Below.refl _ _⟩
    | 8, _, ho => by
        cases ho
        rw [if_pos (wanted_none _ rfl)]
        have h1 := eval_getD (hm.get 5 102 (by kernel_rfl)); have h2 := eval_getD (hm.get 7 104 (by kernel_rfl)); unfold Oper.wp; simp only [execOp]; go_simp
        refine (C2.out w1 (bstep q0.out hb)).mono ?_; rintro e w' ⟨A, n, c, xs, rfl, hT⟩; exact ⟨_, rfl, ⟨A, n, c, xs, rfl, logR0_of hT⟩, hT.1.2⟩
    | 9, _, ho => by
        cases ho
        rw [if_pos (wanted_none _ rfl)]
        obtain ⟨A, n, c, xs, e1, hL⟩ := hm.get 4 101 (by kernel_rfl)
        obtain ⟨A', n', c', xs', e2, hL'⟩ := hm.get 8 105 (by kernel_rfl)
        have h1 := eval_getD e1; have h2 := eval_getD e2; unfold Oper.wp; simp only [execOp]; go_simp
        refine (rsame_any A A' n c n' c' xs xs' w1 hL.1 hL'.1 hL.2.2 hL'.2 hL.2.1).mono ?_; rintro e w' ⟨⟨b, rfl⟩, k, rfl⟩; exact ⟨_, rfl, ⟨b, rfl⟩, ⟨rfl, rfl, rfl, Nat.le_refl _, fun _ _ => rfl⟩⟩
    | (n + 10), hi, _ => absurd hi (by omega)
  · cases ho
    obtain ⟨bb, eb⟩ := hm.get 9 106 (by kernel_rfl)
    have h1 := eval_getD eb
    unfold Oper.wp
    simp only [execOp]
    go_simp
    have hz : a.tmps.size = 132 := hs.size.trans rfl
    have hdf : a.defers = [] := hs.defers.trans rfl
    go_wp2
    refine bodyPost_ret (v := .bool bb) (by simp [results, Tryz.results21, go_sem, hz]) hdf (fin.out w1 bb (bstep q0.out hb))
end Go.Proofs.YtegehaokfcamfaaGreatDoor
