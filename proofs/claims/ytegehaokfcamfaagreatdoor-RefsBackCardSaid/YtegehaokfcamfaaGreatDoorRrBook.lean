/-
  dolmenref11.Book in memory: Value, set, value. They answer; what they answer is left open. Condition: the book lies in its home.
-/
import Derived.Test.YtegehaokfcamfaaGreatDoorRefsApply
namespace Go.Proofs.YtegehaokfcamfaaGreatDoor
open Go.RowKit
open RefsLaw (Val Chg)

/-- a ref's cells -/
def rfC (x : List UInt8 × Val) : List Value := [S x.1, S x.2.id, S x.2.name]
def rfs (l : List (List UInt8 × Val)) : List Value := l.flatMap rfC
theorem rf_len (l : List (List UInt8 × Val)) : ∀ x ∈ l, (rfC x).length = 3 := fun _ _ => rfl
theorem rfs_len (l : List (List UInt8 × Val)) : (rfs l).length = l.length * 3 := flat_len (rf_len l)
theorem rfs_append (l k : List (List UInt8 × Val)) : rfs (l ++ k) = rfs l ++ rfs k := by simp [rfs]
theorem one_rfs (l : List (List UInt8 × Val)) : ∀ u ∈ rfs l, u.oneCell' = true := by
  intro u hu
  obtain ⟨c, _, hu⟩ := List.mem_flatMap.1 hu
  simp [rfC] at hu
  rcases hu with rfl | rfl | rfl <;> rfl
theorem rfs_at {l : List (List UInt8 × Val)} {k j : Nat} {x : List UInt8 × Val} (h : l[k]? = some x) (hj : j < 3) : (rfs l)[k * 3 + j]? = (rfC x)[j]? := flat_at (rf_len l) h hj
theorem rfs_count {w : World} {A : Option Addr} {m : Nat} {l : List (List UInt8 × Val)} (h : Sl w 3 A m (rfs l)) : l.length = m := by have := h.1; rw [rfs_len] at this; omega
theorem Sl.rf {w : World} {A : Option Addr} {m k : Nat} {l : List (List UInt8 × Val)} (h : Sl w 3 A m (rfs l)) (hk : k < m) : ∃ b off x, A = some ⟨b, off, none⟩ ∧ b < w.heap.size ∧ l[k]? = some x ∧
    w.cell? ⟨b, off + k * 3, none⟩ = some (S x.1) ∧ w.cell? ⟨b, off + k * 3 + 1, none⟩ = some (S x.2.id) ∧ w.cell? ⟨b, off + k * 3 + 2, none⟩ = some (S x.2.name) := by
  obtain ⟨b, off, rfl, hb, hc⟩ := h.2 (by omega)
  have hl := rfs_count h
  obtain ⟨x, hx⟩ : ∃ x, l[k]? = some x := ⟨l[k]'(by omega), List.getElem?_eq_getElem _⟩
  refine ⟨b, off, x, rfl, hb, hx, ?_, ?_, ?_⟩
  · have := (hc (k * 3 + 0) (by omega)).trans (rfs_at hx (by omega : 0 < 3)); simpa [rfC] using this
  · have := (hc (k * 3 + 1) (by omega)).trans (rfs_at hx (by omega : 1 < 3)); simpa [rfC, Nat.add_assoc] using this
  · have := (hc (k * 3 + 2) (by omega)).trans (rfs_at hx (by omega : 2 < 3)); simpa [rfC, Nat.add_assoc] using this
theorem sl_rf (w : World) (t : TypeId) (x : List UInt8 × Val) : Sl (w.alloc (.cells #[S x.1, S x.2.id, S x.2.name] t)) 3 (some ⟨w.heap.size, 0, none⟩) 1 (rfs [x]) := by
  refine ⟨by simp [rfs, rfC], fun _ => ⟨_, _, rfl, by simp, fun k hk => ?_⟩⟩
  rw [Nat.zero_add]
  simp [rfs, rfC]

/-- the reference's book lies at block q, its lists in G -/
structure RBookIn (w : World) (q : Nat) (G : Nat → Prop) (z y : Nat) (A : Option Addr) (n c : Nat) (rs : List (List UInt8 × Val)) (B : Option Addr) (m d : Nat) (xs : List TxG) : Prop where
  blk : Blk w q 66 #[.slice A n c, .slice B m d]
  refs : SlT G 103 w 3 A n (rfs rs)
  txns : SlT G 25 w 4 B m (txs xs)
  chg : ∀ x ∈ xs, SlT G 48 w 5 x.A x.n (chs x.chs) ∧ x.n ≤ 4096
  hq : G q
  cap : n ≤ z ∧ m ≤ y ∧ m ≤ d
def RBookAt (w : World) (q : Nat) (G : Nat → Prop) (z y : Nat) : Prop := ∃ A n c rs B m d xs, RBookIn w q G z y A n c rs B m d xs
section
variable {w w' : World} {q : Nat} {G E : Nat → Prop} {z y n c m d : Nat} {A B : Option Addr} {rs : List (List UInt8 × Val)} {xs : List TxG}
theorem RBookIn.fr (h : RBookIn w q G z y A n c rs B m d xs) (hf : Fr E w w') (hE : ∀ k, G k → ¬ E k) : RBookIn w' q G z y A n c rs B m d xs :=
  ⟨hf.blk h.blk (hE q h.hq), h.refs.fr hf hE, h.txns.fr hf hE, fun x hx => ⟨(h.chg x hx).1.fr hf hE, (h.chg x hx).2⟩, h.hq, h.cap⟩
theorem RBookAt.fr (h : RBookAt w q G z y) (hf : Fr E w w') (hE : ∀ k, G k → ¬ E k) : RBookAt w' q G z y := by
  obtain ⟨A, n, c, rs, B, m, d, xs, h⟩ := h
  exact ⟨A, n, c, rs, B, m, d, xs, h.fr hf hE⟩
theorem RBookIn.step (h : RBookIn w q G z y A n c rs B m d xs) (hb : Below w.heap.size w w') : RBookIn w' q G z y A n c rs B m d xs := h.fr (E := fun _ => False) (.of_below hb) (fun _ _ h => h)
theorem RBookAt.step (h : RBookAt w q G z y) (hb : Below w.heap.size w w') : RBookAt w' q G z y := h.fr (E := fun _ => False) (.of_below hb) (fun _ _ h => h)
theorem RBookAt.weak {F : Nat → Prop} {z' y' : Nat} (h : RBookAt w q G z y) (hG : ∀ k, k < w.heap.size → G k → F k) (hz : z ≤ z') (hy : y ≤ y') : RBookAt w q F z' y' := by
  obtain ⟨A, n, c, rs, B, m, d, xs, h⟩ := h
  exact ⟨A, n, c, rs, B, m, d, xs, h.blk, h.refs.weak hG, h.txns.weak hG, fun x hx => ⟨(h.chg x hx).1.weak hG, (h.chg x hx).2⟩, hG q h.blk.lt h.hq, Nat.le_trans h.cap.1 hz, Nat.le_trans h.cap.2.1 hy, h.cap.2.2⟩
end

theorem eql_rval (w : World) (a b c d : List UInt8) : (binOp .eql 46 (.agg #[S a, S b]) (.agg #[S c, S d])).run Tryz.prog w = .ok (.bool (eqV a b c d)) w := by
  rw [run_eql_struct, run_equalIn_struct w 9999 46 _ _ (by kernel_rfl) (by kernel_rfl)]
  simp only [Program.fieldsOf, Tryz.underlying46]
  by_cases h1 : a = c <;> by_cases h2 : b = d <;> simp [go_sem, Op.eqFields, eqV, h1, h2]
theorem neq_rval (w : World) (a b c d : List UInt8) : (binOp .neq 46 (.agg #[S a, S b]) (.agg #[S c, S d])).run Tryz.prog w = .ok (.bool (!eqV a b c d)) w := by
  rw [run_neq_struct, run_equalIn_struct w 9999 46 _ _ (by kernel_rfl) (by kernel_rfl)]
  simp only [Program.fieldsOf, Tryz.underlying46]
  by_cases h1 : a = c <;> by_cases h2 : b = d <;> simp [go_sem, Op.eqFields, eqV, h1, h2]
theorem guard_rval (w : World) (op : BinOp) (x y : Operand) (a b c d : List UInt8) : (eqGuard op 46 x y (.agg #[S a, S b]) (.agg #[S c, S d])).run Tryz.prog w = .ok () w := run_eqGuard_agg w op 46 x y _ _ (by kernel_rfl)
theorem Tryz.uRef : Tryz.prog.underlying 63 = some (.slice 103) := by kernel_rfl
theorem Tryz.uRTxn : Tryz.prog.underlying 64 = some (.slice 25) := by kernel_rfl
theorem Tryz.uRChg : Tryz.prog.underlying 23 = some (.slice 48) := by kernel_rfl
theorem Tryz.infoRTxn : (Tryz.prog.info? 25).map (fun i => (i.zero, i.size, i.bytes)) = some (some (.agg #[S [], S [], I 0, .slice none 0 0]), 4, 64) := by kernel_rfl
theorem Tryz.infoRChg : (Tryz.prog.info? 48).map (fun i => (i.zero, i.size, i.bytes)) = some (some (.agg #[S [], S [], S [], S [], S []]), 5, 80) := by kernel_rfl
theorem Tryz.infoRef : (Tryz.prog.info? 103).map (fun i => (i.zero, i.size, i.bytes)) = some (some (.agg #[S [], S [], S []]), 3, 48) := by kernel_rfl

/-- is the next operation the append of these two? -/
theorem at_app {P : Program} {ops : Array Oper} {Q : Exit → Act → World → Prop} {rest : List Oper} {a : Act} {w : World} {d : Option Nat} {ts : Array TypeId} {ty : TypeId} {pos : String} {aft : Array Edge} {g : Option (Nat × Bool)} (x y : Nat)
    (h : wpList P ops Q ({ dst := d, op := .call { callee := .builtin .append, args := #[.tmp x, .tmp y], argTypes := ts }, type := ty, pos := pos, after := aft, guard := g } :: rest) a w) :
    wpList P ops Q ({ dst := d, op := .call { callee := .builtin .append, args := #[.tmp x, .tmp y], argTypes := ts }, type := ty, pos := pos, after := aft, guard := g } :: rest) a w := h

set_option maxHeartbeats 1000000 in
set_option maxRecDepth 100000 in
theorem rvalue_any (w : World) (q : Nat) (G : Nat → Prop) (z y : Nat) (ref : List UInt8) (hB : RBookAt w q G z y) (hz : z ≤ 10000000) :
    Calls Tryz.prog 22 #[.pointer (some ⟨q, 0, none⟩), S ref] w fun e w' => ∃ v : Val, e = .returned (.agg #[S v.id, S v.name]) ∧ Below w.heap.size w w' := by
  obtain ⟨A, n, c, rs, B, m, d, xs, hI⟩ := hB
  have b0 := balloc (Below.refl _ w) (.cells #[S [], S []] 46)
  have rb := (hI.blk.step b0).cell
  have HS := Lib.hid (hI.refs.sl.below b0)
  have hn : n ≤ 10000000 := Nat.le_trans hI.cap.1 hz
  clear hI
  go_enter Tryz.func22, Tryz.ntmps22
  go_wp2
  go_loop [5] (fun i => ∃ k : Nat, k ≤ n ∧ i = .int .i64 k) (fun i => n - (intOf i).toNat)
  case atStart => exact ⟨0, Nat.zero_le _, rfl⟩
  case round =>
    obtain ⟨k, hk, rfl⟩ := hrel
    by_cases hlt : k < n
    · obtain ⟨b, off, x, rfl, _, _, x0, x1, x2⟩ := HS.out.rf hlt
      go_wp2
      all_goals first
        | (go_round
           case rel => exact ⟨k + 1, by omega, by go_num⟩
           case measure => simp [intOf]; omega)
        | (refine bodyPost_ret (v := vV x.2) (by simp [results, Tryz.results22, go_sem]) rfl ⟨⟨x.2, rfl⟩, ?_⟩
           exact balloc (Below.refl _ w) _)
    · obtain rfl : k = n := by omega
      go_wp2
      refine bodyPost_ret (v := vV ⟨[], []⟩) (by simp [results, Tryz.results22, go_sem]) rfl ⟨⟨⟨[], []⟩, rfl⟩, ?_⟩
      exact balloc (Below.refl _ w) _

set_option maxHeartbeats 6000000 in
set_option maxRecDepth 100000 in
theorem rset_any (w : World) (q : Nat) (G : Nat → Prop) (z y : Nat) (ref : List UInt8) (v : Val) (hB : RBookAt w q G z y) (hz : z ≤ 10000000) :
    Calls Tryz.prog 69 #[.pointer (some ⟨q, 0, none⟩), S ref, .agg #[S v.id, S v.name]] w fun e w' => e = .returned (.tuple #[]) ∧ RBookAt w' q (ext G w w') (z + 1) y ∧ Fr (fun k => k = q) w w' := by
  obtain ⟨A, n, c, rs, B, m, d, xs, hI⟩ := hB
  obtain ⟨vid, vname⟩ := v
  have b0 := balloc (Below.refl _ w) (.cells #[S vid, S vname] 46)
  have hn : n ≤ 10000000 := Nat.le_trans hI.cap.1 hz
  have HI := Lib.hid hI
  obtain ⟨i0, hi0, hz0, hz1, hz2⟩ := info_parts Tryz.infoRef
  have kE := eql_rval
  have kG := guard_rval
  have rb := (hI.blk.step b0).cell
  clear hI b0
  go_enter Tryz.func69, Tryz.ntmps69
  go_wp2
  clear rb
  go_loopw [6, 7, 8] (fun o dn i wr => ∃ (k no co : Nat) (Ao : Option Addr) (gs : List (List UInt8 × Val)) (b : Bool), k ≤ n ∧ i = .int .i64 k ∧ dn = .bool b ∧ o = .slice Ao no co ∧ Ow w wr 103 3 Ao no co (rfs gs) ∧ Blk wr w.heap.size 46 #[S vid, S vname] ∧ no ≤ k + 1 ∧ (b = false → no ≤ k)) (fun _ _ i _ => n - (intOf i).toNat)
  case atStart => exact ⟨0, 0, 0, none, [], _, Nat.zero_le _, rfl, rfl, rfl, Ow.nil_ (balloc (Below.refl _ w) _), Blk.new w _ _, Nat.zero_le _, fun _ => Nat.le_refl _⟩
  case round =>
    obtain ⟨k, no, co, Ao, gs, b, hk, rfl, rfl, rfl, hO, hV, hno, hnb⟩ := hrel
    have HO := Lib.hid hO
    have HV := Lib.hid hV
    have rb := (HI.out.step hO.2).blk.cell
    have rv := hV.cell
    clear hO hV
    have q0 : no + 1 ≤ 20000000 := by omega
    have q1 : no + 1 ≤ maxLen := Nat.le_trans q0 (by decide)
    have q2 : (no + 1) * 48 ≤ 140737488355328 := Nat.le_trans (Nat.mul_le_mul_right _ q0) (by decide)
    by_cases hlt : k < n
    · obtain ⟨bb, off, x, rfl, hbz, _, y0, y1, y2⟩ := HI.out.refs.sl.rf hlt
      have Y0 := Lib.hid y0
      have Y1 := Lib.hid y1
      have Y2 := Lib.hid y2
      have x0 := (HO.out.2.cell (p := ⟨bb, off + k * 3, none⟩) hbz).trans y0
      have x1 := (HO.out.2.cell (p := ⟨bb, off + k * 3 + 1, none⟩) hbz).trans y1
      have x2 := (HO.out.2.cell (p := ⟨bb, off + k * 3 + 2, none⟩) hbz).trans y2
      clear y0 y1 y2
      have HOx : Hid (Ow w (wr.alloc (.cells #[S x.1, S x.2.id, S x.2.name] 103)) 103 3 Ao no co (rfs gs)) := Lib.hid (HO.out.alloc _)
      have HSx : Hid (Sl (wr.alloc (.cells #[S x.1, S x.2.id, S x.2.name] 103)) 3 (some ⟨wr.heap.size, 0, none⟩) 1 (rfs [x])) := Lib.hid (sl_rf wr 103 x)
      have HVx := Lib.hid (HV.out.alloc (.cells #[S x.1, S x.2.id, S x.2.name] 103))
      cases b with
      | true =>
        go_wp2_with (at_builtin; refine wpList_append_sl _ rfl (.tmp 51) (.tmp 59) _ rfl w 103 i0 _ 3 48 Tryz.uRef hi0 hz0 hz1 hz2 rfl (by decide) Ao no co (rfs gs) rfl HOx.out _ 1 1 (rfs [x]) rfl HSx.out (one_rfs _) q1 q2 ?_; intro A1 c1 w1 hO1 hg1 hat1; have hV1 := Lib.hid (HVx.out.grown hg1 (row_ne HOx.out HVx.out (by decide))))
        · go_roundw
          case rel => exact ⟨k + 1, no + 1, c1, A1, gs ++ [x], true, by omega, by go_num, rfl, rfl, by rw [rfs_append]; exact hO1, hV1.out, by omega, fun h => by cases h⟩
          case measure => simp [intOf]; omega
        · go_roundw
          case rel => exact ⟨k + 1, no, co, Ao, gs, true, by omega, by go_num, rfl, rfl, HO.out, HV.out, by omega, fun h => by cases h⟩
          case measure => simp [intOf]; omega
      | false =>
        have hno' := hnb rfl
        clear hnb
        have q5 : no + 1 + 1 ≤ 20000000 := by omega
        have q4 : (no + 1 + 1) * 48 ≤ 140737488355328 := Nat.le_trans (Nat.mul_le_mul_right _ q5) (by decide)
        have q3 : no + 1 + 1 ≤ maxLen := Nat.le_trans q5 (by decide)
        have HOv : Hid (Ow w (wr.alloc (.cells #[S ref, S vid, S vname] 103)) 103 3 Ao no co (rfs gs)) := Lib.hid (HO.out.alloc _)
        have HSv : Hid (Sl (wr.alloc (.cells #[S ref, S vid, S vname] 103)) 3 (some ⟨wr.heap.size, 0, none⟩) 1 (rfs [(ref, ⟨vid, vname⟩)])) := Lib.hid (sl_rf wr 103 (ref, ⟨vid, vname⟩))
        have HVv := Lib.hid (HV.out.alloc (.cells #[S ref, S vid, S vname] 103))
        go_wp2_with (first
          | ((with_reducible refine at_app 51 59 ?_); have HO1y := HO1x; refine wpList_append_sl _ rfl (.tmp 51) (.tmp 59) _ rfl w 103 i0 _ 3 48 Tryz.uRef hi0 hz0 hz1 hz2 rfl (by decide) A1 (no + 1) c1 (rfs gs ++ rfs [(ref, ⟨vid, vname⟩)]) rfl HO1x.out _ 1 1 (rfs [x]) rfl HS1x.out (one_rfs _) q3 q4 ?_; intro A2 c2 w2 hO2 hg2 hat2; have hV2 := Lib.hid (HV1x.out.grown hg2 (row_ne HO1x.out HV1x.out (by decide))); have HO2 := Lib.hid hO2; clear hO2)
          | ((with_reducible refine at_app 35 39 ?_); refine wpList_append_sl _ rfl (.tmp 35) (.tmp 39) _ rfl w 103 i0 _ 3 48 Tryz.uRef hi0 hz0 hz1 hz2 rfl (by decide) Ao no co (rfs gs) rfl HOv.out _ 1 1 (rfs [(ref, ⟨vid, vname⟩)]) rfl HSv.out (one_rfs _) q1 q2 ?_; intro A1 c1 w1 hO1 hg1 hat1; have hV1 := Lib.hid (HVv.out.grown hg1 (row_ne HOv.out HVv.out (by decide))); have rb1 := (HI.out.step hO1.2).blk.cell; have z0 := (hO1.2.cell (p := ⟨bb, off + k * 3, none⟩) hbz).trans Y0.out; have z1 := (hO1.2.cell (p := ⟨bb, off + k * 3 + 1, none⟩) hbz).trans Y1.out; have z2 := (hO1.2.cell (p := ⟨bb, off + k * 3 + 2, none⟩) hbz).trans Y2.out; have HO1 := Lib.hid hO1; have HO1x : Hid (Ow w (w1.alloc (.cells #[S x.1, S x.2.id, S x.2.name] 103)) 103 3 A1 (no + 1) c1 (rfs gs ++ rfs [(ref, ⟨vid, vname⟩)])) := Lib.hid (hO1.alloc _); have HS1x : Hid (Sl (w1.alloc (.cells #[S x.1, S x.2.id, S x.2.name] 103)) 3 (some ⟨w1.heap.size, 0, none⟩) 1 (rfs [x])) := Lib.hid (sl_rf w1 103 x); have HV1x := Lib.hid (hV1.out.alloc (.cells #[S x.1, S x.2.id, S x.2.name] 103)); clear hO1)
          | ((with_reducible refine at_app 51 59 ?_); refine wpList_append_sl _ rfl (.tmp 51) (.tmp 59) _ rfl w 103 i0 _ 3 48 Tryz.uRef hi0 hz0 hz1 hz2 rfl (by decide) Ao no co (rfs gs) rfl HOx.out _ 1 1 (rfs [x]) rfl HSx.out (one_rfs _) q1 q2 ?_; intro A3 c3 w3 hO3 hg3 hat3; have hV3 := Lib.hid (HVx.out.grown hg3 (row_ne HOx.out HVx.out (by decide)))))
        all_goals
          go_roundw
          case rel => first
            | exact ⟨k + 1, no + 2, c2, A2, (gs ++ [(ref, ⟨vid, vname⟩)]) ++ [x], true, by omega, by go_num, rfl, rfl, by rw [rfs_append, rfs_append]; exact HO2.out, hV2.out, by omega, fun h => by cases h⟩
            | exact ⟨k + 1, no + 1, c1, A1, gs ++ [(ref, ⟨vid, vname⟩)], true, by omega, by go_num, rfl, rfl, by rw [rfs_append]; exact HO1.out, hV1.out, by omega, fun h => by cases h⟩
            | exact ⟨k + 1, no + 1, c3, A3, gs ++ [x], false, by omega, by go_num, rfl, rfl, by rw [rfs_append]; exact hO3, hV3.out, by omega, fun _ => by omega⟩
            | exact ⟨k + 1, no, co, Ao, gs, false, by omega, by go_num, rfl, rfl, HO.out, HV.out, by omega, fun _ => by omega⟩
          case measure => simp [intOf]; omega
    · obtain rfl : k = n := by omega
      have fin : ∀ (W : World) (A' : Option Addr) (n' c' : Nat) (gs' : List (List UInt8 × Val)), Ow w W 103 3 A' n' c' (rfs gs') → n' ≤ k + 1 → RBookAt (W.setCell ⟨q, 0, none⟩ (.slice A' n' c')) q (ext G w (W.setCell ⟨q, 0, none⟩ (.slice A' n' c'))) (z + 1) y ∧ Fr (fun k => k = q) w (W.setCell ⟨q, 0, none⟩ (.slice A' n' c')) := by
        intro W A' n' c' gs' hW hn'
        have hs : (W.setCell ⟨q, 0, none⟩ (.slice A' n' c')).heap.size = W.heap.size := setCell_size _ _ _
        have hI := HI.out.step hW.2
        have kk : ∀ e, 66 ≠ e → KeepT e W (W.setCell ⟨q, 0, none⟩ (.slice A' n' c')) := fun e he => (KeepT.refl e W).setCell hI.blk he rfl _
        have hw : ∀ k, G k → ext G w (W.setCell ⟨q, 0, none⟩ (.slice A' n' c')) k := fun k h => .inl h
        refine ⟨⟨A', n', c', gs', B, m, d, xs, hI.blk.set_ 0 _, ((hW.slT).weak (fun g _ h => .inr ⟨h.1, by omega⟩)).keep (kk _ (by decide)), (hI.txns.weak (fun g _ h => hw g h)).keep (kk _ (by decide)), fun x hx => ⟨((hI.chg x hx).1.weak (fun g _ h => hw g h)).keep (kk _ (by decide)), (hI.chg x hx).2⟩, .inl hI.hq, by have := HI.out.cap; exact ⟨by omega, this.2⟩⟩, Fr.setCell (E := fun k => k = q) (Fr.of_below hW.2) (p := ⟨q, 0, none⟩) rfl _⟩
      cases b with
      | true =>
        have fb := ((HI.out.step HO.out.2).blk).frozen
        go_wp2
        go_end0
        exact ⟨rfl, fin wr Ao no co gs HO.out hno⟩
      | false =>
        have hno' := hnb rfl
        have HOv : Hid (Ow w (wr.alloc (.cells #[S ref, S vid, S vname] 103)) 103 3 Ao no co (rfs gs)) := Lib.hid (HO.out.alloc _)
        have HSv : Hid (Sl (wr.alloc (.cells #[S ref, S vid, S vname] 103)) 3 (some ⟨wr.heap.size, 0, none⟩) 1 (rfs [(ref, ⟨vid, vname⟩)])) := Lib.hid (sl_rf wr 103 (ref, ⟨vid, vname⟩))
        go_wp2_with (at_builtin; refine wpList_append_sl _ rfl (.tmp 63) (.tmp 67) _ rfl w 103 i0 _ 3 48 Tryz.uRef hi0 hz0 hz1 hz2 rfl (by decide) Ao no co (rfs gs) rfl HOv.out _ 1 1 (rfs [(ref, ⟨vid, vname⟩)]) rfl HSv.out (one_rfs _) q1 q2 ?_; intro A1 c1 w1 hO1 hg1 hat1; have fb1 := (HI.out.step hO1.2).blk.frozen; have cb1 := (HI.out.step hO1.2).blk.cell)
        go_end0
        exact ⟨rfl, fin w1 A1 (no + 1) c1 (gs ++ [(ref, ⟨vid, vname⟩)]) (by rw [rfs_append]; exact hO1) (by omega)⟩
end Go.Proofs.YtegehaokfcamfaaGreatDoor
