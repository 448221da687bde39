/-
  refs.Book.Copy: a book of its own. Condition: the book lies in its home.
-/
import Derived.Test.YtegehaokfcamfaaGreatDoorRefsNames2
import Derived.Test.YtegehaokfcamfaaGreatDoorRefsApply
import Derived.Test.YtegehaokfcamfaaGreatDoorKitZ
namespace Go.Proofs.YtegehaokfcamfaaGreatDoor
open Go.RowKit
open RefsLaw (named okc Val Chg Txn there rightV zv rightT okChs goodC Refs Book Inv)

set_option maxHeartbeats 1000000 in
theorem new0_any (w : World) : Calls Tryz.prog 18 #[] w fun e w' => ∃ p m, e = .returned (.pointer (some ⟨p, 0, none⟩)) ∧ Blk w' p 73 #[.map (some m), .slice none 0 0] ∧ MapIs refsC w' m 0 (fun _ => none) ∧ w.heap.size ≤ p ∧ w.heap.size ≤ m ∧ Below w.heap.size w w' := by
  have hmm := @run_makeMap Tryz.prog
  go_enter Tryz.func18, Tryz.ntmps18
  go_wp2
  go_ret
  have hb := Blk.new (w.alloc (.map #[] 0)) 73 #[.map (some w.heap.size), .slice none 0 0]
  simp at hb
  refine ⟨_, w.heap.size, rfl, by simpa using hb, (MapIs.made refsC w).alloc _, by omega, Nat.le_refl _, balloc (balloc (Below.refl _ w) _) _⟩
/-- the first k names and what they are -/
def namesF (f : Refs) (ns : List (List UInt8)) (k : Nat) (s : List UInt8) : Option Val := if s ∈ ns.take k then some (f s) else none
theorem namesF_zero (f : Refs) (ns : List (List UInt8)) : namesF f ns 0 = fun _ => none := by funext s; simp [namesF]
theorem namesF_succ {f : Refs} {ns : List (List UInt8)} {k : Nat} {x : List UInt8} (h : ns[k]? = some x) : upd (namesF f ns k) x (some (f x)) = namesF f ns (k + 1) := by
  funext s
  unfold upd namesF
  rw [List.take_add_one, h]
  by_cases hs : s = x <;> simp [hs]
theorem namesF_all {bk : Book} {ns : List (List UInt8)} (hI : Inv bk) (hN : IsNames bk.f ns) : namesF bk.f ns ns.length = optF bk.f := by
  funext s
  unfold namesF optF
  rw [List.take_length]
  by_cases h0 : bk.f s = zv
  · rw [if_pos h0, if_neg (fun h => ((hN.2 s).1 h).2 h0)]
  · have hl : s.length ≤ maxLen := by
      rcases hI.val s with h | h
      · exact absurd h h0
      · exact Nat.le_trans (named_len h.1) (by decide)
    rw [if_neg h0, if_pos ((hN.2 s).2 ⟨hl, h0⟩)]
theorem store_refs2 {W W2 : World} {m' : Nat} {s : List UInt8} (v : Val) (h : (Instr.mapUpdate 71 (.map (some m')) (refsC.kv s) (refsC.vv v)).run Tryz.prog W = .ok () W2) : (Instr.mapUpdate 71 (.map (some m')) (S s) (vV v)).run Tryz.prog W = .ok () W2 := by
  have e1 : refsC.kv s = S s := rfl
  have e2 : refsC.vv v = vV v := rfl
  rw [e1, e2] at h
  exact h
theorem store_refs {W : World} {m' k : Nat} {f : List UInt8 → Option Val} {s : List UInt8} (v : Val) (h : MapIs refsC W m' k f) (hk : k < maxLen) (hg : refsC.good s) : ∃ W2, (Instr.mapUpdate 71 (.map (some m')) (S s) (vV v)).run Tryz.prog W = .ok () W2 ∧ MapIs refsC W2 m' (k + 1) (upd f s (some v)) ∧ W.grownBy W2 (some m') := by
  have h1 := MapIs.run_store (t := 71) h Tryz.underlying71 hk hg v
  obtain ⟨W2, h2, h3, h4⟩ := h1
  exact ⟨W2, store_refs2 v h2, h3, h4⟩
theorem copy_step {w W W6 w6 : World} {p' m' j co c3 kk : Nat} {Ao A3 : Option Addr} {ys : List TxG} {x : TxG} {f : List UInt8 → Option Val} {N : Nat → Prop} (hb : Below w.heap.size w W) (hp1 : w.heap.size ≤ p')
    (hMp : MapIs refsC W m' kk f) (b6 : Below W.heap.size W W6) (hrow : W6.ownsRow w.heap.size 37 4 (.slice Ao j co) j (txs ys))
    (hch : ∀ y ∈ ys, SlT (fun g => w.heap.size ≤ g ∧ g < W.heap.size) 58 W 5 y.A y.n (chs y.chs)) (hnew : SlT N 58 W6 5 x.A x.n (chs x.chs)) (hN : ∀ k, N k → W.heap.size ≤ k)
    (hB7 : Blk w6 p' 73 #[.map (some m'), .slice Ao j co]) (hO : w6.ownsRow w.heap.size 37 4 (.slice A3 (j + 1) c3) (j + 1) (txs ys ++ txs [x])) (hg : W6.grownBy w6 (Value.slice Ao j co).ownBlock) :
    Blk (w6.setCell ⟨p', 1, none⟩ (.slice A3 (j + 1) c3)) p' 73 #[.map (some m'), .slice A3 (j + 1) c3] ∧ (w6.setCell ⟨p', 1, none⟩ (.slice A3 (j + 1) c3)).ownsRow w.heap.size 37 4 (.slice A3 (j + 1) c3) (j + 1) (txs (ys ++ [x])) ∧
    (∀ y ∈ ys ++ [x], SlT (fun g => w.heap.size ≤ g ∧ g < (w6.setCell ⟨p', 1, none⟩ (.slice A3 (j + 1) c3)).heap.size) 58 (w6.setCell ⟨p', 1, none⟩ (.slice A3 (j + 1) c3)) 5 y.A y.n (chs y.chs)) ∧ MapIs refsC (w6.setCell ⟨p', 1, none⟩ (.slice A3 (j + 1) c3)) m' kk f ∧ Below w.heap.size w (w6.setCell ⟨p', 1, none⟩ (.slice A3 (j + 1) c3)) := by
  have k1 : KeepT 58 W6 (w6.setCell ⟨p', 1, none⟩ (.slice A3 (j + 1) c3)) := ((KeepT.refl _ W6).grown hg (fun k hk => own_type hrow (by decide) k hk)).setCell hB7 (by decide) rfl _
  have k2 : KeepT 58 W (w6.setCell ⟨p', 1, none⟩ (.slice A3 (j + 1) c3)) := (KeepT.of_below b6).trans k1
  have hm6 := hMp.step b6
  have hm7 := hm6.grown hg (hm6.ne_own hrow)
  have z1 := hb.size
  have z2 := b6.size
  have z3 := hg.size
  have hsz : (w6.setCell ⟨p', 1, none⟩ (.slice A3 (j + 1) c3)).heap.size = w6.heap.size := setCell_size _ _ _
  refine ⟨hB7.set_ 1 _, by rw [txs_append]; exact own_far hO (row_ne0 hO hB7 (by decide)) _, fun y hy => ?_, hm7.far (hm7.ne_blk hB7) _, ((bstep hb b6).grown hg (by omega) (fun k e => (hrow.lt k e).1)).setCell hp1 _⟩
  rcases List.mem_append.1 hy with hy | hy
  · exact ((hch y hy).keep k2).weak (fun k _ h => ⟨h.1, by omega⟩)
  · rw [List.mem_singleton] at hy
    subst hy
    exact (hnew.weak (G := fun g => w.heap.size ≤ g ∧ g < (w6.setCell ⟨p', 1, none⟩ (.slice A3 (j + 1) c3)).heap.size) (fun k hk hN' => ⟨by have := hN k hN'; omega, by omega⟩)).keep k1
def dstAllC (ops : Array Oper) (n : Nat) : Bool := ops.all (fun o => match o.dst with | some d => decide (d < n) | none => true)
theorem dst_ltC {ops : Array Oper} {n : Nat} (h : dstAllC ops n = true) (i : Nat) (o : Oper) (d : Nat) (ho : ops[i]? = some o) (hd : o.dst = some d) : d < n := by
  have h1 := Array.all_eq_true_iff_forall_mem.1 h o (Array.mem_of_getElem? ho)
  rw [hd] at h1
  simpa using h1
def cpbPhi (p p' m m' : Nat) (s : List UInt8) (v0 : Val) : Nat → Value → World → Prop
  | 0, v, _ => v = .pointer (some ⟨p', 0, none⟩)
  | 1, v, _ => v = .pointer (some ⟨p', 0, none⟩)
  | 2, v, _ => v = .pointer (some ⟨p', 0, none⟩)
  | 3, v, _ => v = .map (some m')
  | 4, v, _ => v = S s
  | 5, v, _ => v = .pointer (some ⟨p, 0, none⟩)
  | 6, v, _ => v = .pointer (some ⟨p, 0, none⟩)
  | 7, v, _ => v = .pointer (some ⟨p, 0, none⟩)
  | 8, v, _ => v = .map (some m)
  | 9, v, _ => v = S s
  | 10, v, _ => v = vV v0
  | _, _, _ => True
theorem cpbPhi_mono {p p' m m' : Nat} {s : List UInt8} {v0 : Val} : ∀ (j : Nat) (v : Value) (w w' : World), cpbPhi p p' m m' s v0 j v w → Below w.heap.size w w' → cpbPhi p p' m m' s v0 j v w' := by
  intro j v w w' h _
  match j, h with
  | 0, h => exact h
  | 1, h => exact h
  | 2, h => exact h
  | 3, h => exact h
  | 4, h => exact h
  | 5, h => exact h
  | 6, h => exact h
  | 7, h => exact h
  | 8, h => exact h
  | 9, h => exact h
  | 10, h => exact h
  | (n + 11), _ => trivial
set_option maxHeartbeats 8000000 in
set_option maxRecDepth 100000 in
theorem bookCopy_any (w : World) (p : Nat) (H : Nat → Prop) (bk : Book) (z : Nat) (hB : BookAt w p H bk z) (hz : z * 4096 ≤ 1000000) :
    Calls Tryz.prog 8 #[.pointer (some ⟨p, 0, none⟩)] w fun e w' => ∃ p', e = .returned (.pointer (some ⟨p', 0, none⟩)) ∧ BookAt w' p' (fun k => w.heap.size ≤ k ∧ k < w'.heap.size) bk z ∧ Below w.heap.size w w' := by
  have HBA := Lib.hid hB
  obtain ⟨m, A, n, c, xs, cnt, hI⟩ := hB
  have HI := Lib.hid hI
  have hpw := hI.blk.lt
  have hmw := hI.map.lt
  have kV := Tryz.zeroV
  clear hI
  go_enter Tryz.func8, Tryz.ntmps8
  go_wp2_with fail
  refine (new0_any w).mono ?_
  rintro e w1 ⟨p', m', rfl, hB1, hM1, hp1, hm1, b1⟩
  have B1 := Lib.hid b1
  have HB1 := Lib.hid hB1
  have HM1 := Lib.hid hM1
  clear b1 hB1 hM1
  go_wp2_with fail
  refine (names_any w1 p H bk z (HBA.out.step B1.out) hz).mono ?_
  rintro e w2 ⟨A2, n2, c2, ns, rfl, hn2, hN, hO2⟩
  have B2 := Lib.hid (bstep B1.out hO2.2)
  have HB2 := Lib.hid (HB1.out.step hO2.2)
  have HM2 := Lib.hid (HM1.out.step hO2.2)
  have HN := Lib.hid hN
  have hSF : SlF (fun j => j = m') w2 1 A2 n2 (strs ns) := ⟨hO2.sl, fun b off h0 e hE => HM2.out.ne_own hO2.1 (by rw [e]; show some m' = some b; rw [hE])⟩
  have HSF := Lib.hid hSF
  have hns : ns.length = n2 := by simpa using hO2.sl.len
  have hm2 := HM2.out.lt
  have hp2 := HB2.out.lt
  clear hN hO2 hSF
  go_wp2
  go_loopw [5, 12] (fun s5 i wr => ∃ k : Nat, i = .int .i64 k ∧ Hid (k ≤ n2) ∧ Hid (MapIs refsC wr m' k (namesF bk.f ns k)) ∧ Hid (Fr (fun j => j = m') w2 wr)) (fun _ i _ => n2 - (intOf i).toNat)
  case atStart => exact ⟨0, rfl, Lib.hid (Nat.zero_le _), Lib.hid (by rw [namesF_zero]; exact HM2.out), Lib.hid (Fr.refl _ _)⟩
  case round =>
    obtain ⟨k, rfl, hk, hM, hF⟩ := hrel
    have ho := hF.out.blk (HI.out.blk.step B2.out) (by omega)
    have hn := hF.out.blk HB2.out (fun e => HM2.out.ne_blk HB2.out e.symm)
    have ro := ho.cell
    have rn := hn.cell
    by_cases hlt : k < n2
    · obtain ⟨b, off, s, rfl, hs, x0⟩ := (HSF.out.fr hF.out).1.str hlt
      have Hs := Lib.hid hs
      have hgs : s.length ≤ maxLen := ((HN.out.2 s).1 (List.mem_of_getElem? hs)).1
      have hmo := (HI.out.map.step B2.out).fr hF.out (by omega)
      have HL : Hid (∀ W', Below wr.heap.size wr W' → (Instr.lookup 71 (.map (some m)) (S s) false).run Tryz.prog W' = .ok (vV (bk.f s)) W') := Lib.hid (fun W' h => by
        have h1 := (hmo.step h).run_look (a0 := zv) Tryz.underlying71 (Tryz.zeroV _) (x := s) hgs
        rw [optF_get] at h1
        exact h1)
      have hk1 : k < maxLen := by simp only [maxLen]; omega
      have Ho := Lib.hid ho
      have Hn := Lib.hid hn
      obtain ⟨v0, hv0⟩ : ∃ v, v = bk.f s := ⟨_, rfl⟩
      have Hv0 := Lib.hid hv0
      rw [← hv0] at HL
      clear hs hmo ho hn hv0
      go_wp2
      clear ro rn
      have hch : ∀ W' : World, ∃ W2, Below wr.heap.size wr W' → (Instr.mapUpdate 71 (.map (some m')) (S s) (vV v0)).run Tryz.prog W' = .ok () W2 ∧ MapIs refsC W2 m' (k + 1) (upd (namesF bk.f ns k) s (some v0)) ∧ W'.grownBy W2 (some m') := fun W' => by
        rcases Classical.em (Below wr.heap.size wr W') with h | h
        · obtain ⟨W2, h2⟩ := store_refs v0 (hM.out.step h) hk1 (show refsC.good s from hgs)
          exact ⟨W2, fun _ => h2⟩
        · exact ⟨W', fun h' => absurd h' h⟩
      obtain ⟨G, hG⟩ := Classical.axiomOfChoice hch
      have HST := Lib.hid hG
      clear hch hG
      refine wp_region_guards (by kernel_rfl) 11 (by kernel_rfl) ?_ (cpbPhi p p' m m' s v0) cpbPhi_mono (fun i o hi ho a w hb hs hm => ?_) (fun o ho a w hb hs hm => ?_)
      · exact dst_ltC (n := 48) (by kernel_rfl)
      · exact match i, hi, ho with
        | 0, _, ho => by
            cases ho
            rw [if_pos (wanted_none _ rfl)]
            refine wp_value (st_move rfl ((hs.keeps (by kernel_rfl)).trans rfl)) ⟨_, rfl, rfl, Below.refl _ _⟩
        | 1, _, ho => by
            cases ho
            rw [if_pos (wanted_none _ rfl)]
            refine wp_value (st_nil rfl (hm.get 0 16 (by kernel_rfl))) ⟨_, rfl, rfl, Below.refl _ _⟩
        | 2, _, ho => by
            cases ho
            rw [if_pos (wanted_none _ rfl)]
            refine wp_value (st_field rfl (hm.get 1 17 (by kernel_rfl)) (by kernel_rfl)) ⟨_, rfl, rfl, Below.refl _ _⟩
        | 3, _, ho => by
            cases ho
            rw [if_pos (wanted_none _ rfl)]
            have hx : w.cell? ⟨p', 0, none⟩ = some (.map (some m')) := (Hn.out.step hb).cell 0; refine wp_value (st_load rfl (hm.get 2 18 (by kernel_rfl)) (by go_simp)) ⟨_, rfl, rfl, Below.refl _ _⟩
        | 4, _, ho => by
            cases ho
            rw [if_pos (wanted_none _ rfl)]
            refine wp_value (st_move rfl ((hs.keeps (by kernel_rfl)).trans rfl)) ⟨_, rfl, rfl, Below.refl _ _⟩
        | 5, _, ho => by
            cases ho
            rw [if_pos (wanted_none _ rfl)]
            refine wp_value (st_move rfl ((hs.keeps (by kernel_rfl)).trans rfl)) ⟨_, rfl, rfl, Below.refl _ _⟩
        | 6, _, ho => by
            cases ho
            rw [if_pos (wanted_none _ rfl)]
            refine wp_value (st_nil rfl (hm.get 5 21 (by kernel_rfl))) ⟨_, rfl, rfl, Below.refl _ _⟩
        | 7, _, ho => by
            cases ho
            rw [if_pos (wanted_none _ rfl)]
            refine wp_value (st_field rfl (hm.get 6 22 (by kernel_rfl)) (by kernel_rfl)) ⟨_, rfl, rfl, Below.refl _ _⟩
        | 8, _, ho => by
            cases ho
            rw [if_pos (wanted_none _ rfl)]
            have hx : w.cell? ⟨p, 0, none⟩ = some (.map (some m)) := (Ho.out.step hb).cell 0; refine wp_value (st_load rfl (hm.get 7 23 (by kernel_rfl)) (by go_simp)) ⟨_, rfl, rfl, Below.refl _ _⟩
        | 9, _, ho => by
            cases ho
            rw [if_pos (wanted_none _ rfl)]
            refine wp_value (st_move rfl ((hs.keeps (by kernel_rfl)).trans rfl)) ⟨_, rfl, rfl, Below.refl _ _⟩
        | 10, _, ho => by
            cases ho
            rw [if_pos (wanted_none _ rfl)]
            have h1 := eval_getD (hm.get 8 24 (by kernel_rfl)); have h2 := eval_getD (hm.get 9 25 (by kernel_rfl)); have h3 := HL.out w hb; unfold Oper.wp; simp only [execOp]; go_simp; exact ⟨_, rfl, rfl, Below.refl _ _⟩
        | (n + 11), hi, _ => absurd hi (by omega)
      · have e1 : a.eval (.tmp 19) = .map (some m') := by cases ho; exact hm.get 3 19 (by kernel_rfl)
        have e2 : a.eval (.tmp 20) = S s := by cases ho; exact hm.get 4 20 (by kernel_rfl)
        have e3 : a.eval (.tmp 26) = vV v0 := by cases ho; exact hm.get 10 26 (by kernel_rfl)
        have hfr := hs.frame [16, 17, 18, 19, 20, 21, 22, 23, 24, 25, 26] (by kernel_rfl)
        cases ho
        rw [hfr]
        simp only [List.foldl_cons, List.foldl_nil, e1, e2, e3]
        clear hfr hs hm e1 e2 e3
        generalize a.eval (.tmp 16) = u16
        generalize a.eval (.tmp 17) = u17
        generalize a.eval (.tmp 18) = u18
        generalize a.eval (.tmp 21) = u21
        generalize a.eval (.tmp 22) = u22
        generalize a.eval (.tmp 23) = u23
        generalize a.eval (.tmp 24) = u24
        generalize a.eval (.tmp 25) = u25
        have hrun2 := (HST.out w hb).1
        have HM3 := Lib.hid (HST.out w hb).2.1
        have HF3 := Lib.hid ((hF.out.step hb).trans (Fr.of_grown (E := fun j => j = m') (HST.out w hb).2.2 (fun g e => (Option.some.inj e).symm)))
        unfold Oper.wp
        simp only [execOp]
        go_simp
        clear a hrun2
        go_wp2
        go_roundw
        case rel => exact ⟨k + 1, by go_num, Lib.hid hlt, Lib.hid (by rw [← namesF_succ Hs.out, ← Hv0.out]; exact HM3.out), HF3⟩
        case measure => simp [intOf]; omega
    · obtain rfl : k = n2 := by have := hk.out; omega
      have hall : namesF bk.f ns k = optF bk.f := by rw [← hns]; exact namesF_all HI.out.inv HN.out
      rw [hall] at hM
      have hb3 : Below w.heap.size w wr := B2.out.trans (hF.out.below B2.out.size (fun j e => by rw [e]; exact hm1))
      have B3 := Lib.hid hb3
      have hI3 := HI.out.step hb3
      have C9 := Lib.hid (all_any wr p H bk z m A n c xs cnt hI3)
      have Hn := Lib.hid hn
      have hxl := txs_count hI3.sl
      clear ho ro rn hI3 hb3 hlt hall hk hF
      go_wp2_with (go_at_call 23; refine C9.out.mono ?_; rintro e w' ⟨rfl, rfl⟩)
      go_loopw [7, 31] (fun s7 i wr2 => ∃ (j co : Nat) (Ao : Option Addr) (ys : List TxG), i = .int .i64 j ∧ Hid (j ≤ n) ∧ Hid (Blk wr2 p' 73 #[.map (some m'), .slice Ao j co]) ∧ Hid (wr2.ownsRow w.heap.size 37 4 (.slice Ao j co) j (txs ys)) ∧ Hid (ys.map TxG.txn = (xs.map TxG.txn).take j) ∧ Hid (∀ y ∈ ys, SlT (fun g => w.heap.size ≤ g ∧ g < wr2.heap.size) 58 wr2 5 y.A y.n (chs y.chs)) ∧ Hid (MapIs refsC wr2 m' k (optF bk.f)) ∧ Hid (Below w.heap.size w wr2)) (fun _ i _ => n - (intOf i).toNat)
      case atStart => exact ⟨0, 0, none, [], rfl, Lib.hid (Nat.zero_le _), Hn, Lib.hid (World.ownsRow_nil _ _ _ _), Lib.hid (by simp), Lib.hid (by simp), hM, B3⟩
      case round =>
        obtain ⟨j, co, Ao, ys, rfl, hj, hBk, hrow, hys, hch, hMp, hb⟩ := hrel
        by_cases hlt : j < n
        · obtain ⟨b, off, x, rfl, _, hx, x0, x1, x2, x3⟩ := (HI.out.step hb.out).sl.txn hlt
          have Hx := Lib.hid hx
          have hxm := List.mem_of_getElem? hx
          have hTr := (HI.out.step hb.out).chg x hxm
          have hx96 : x.n ≤ 4096 := by
            have h1 := rightT_len (HI.out.inv.txn x.txn (by rw [← HI.out.txns]; exact List.mem_map_of_mem hxm))
            have h2 := chs_count hTr.sl
            have h3 : x.chs.length ≤ 4096 := h1
            omega
          obtain ⟨who, text, stamp, xA, xn, xc, xl⟩ := x
          simp only at hx96
          obtain ⟨i0, hi0, hi1, hi2, hi3⟩ := info_parts Tryz.infoTxn
          have hjz : j ≤ 1000000 := by have := HI.out.cap.2; omega
          have q1 : j + 1 ≤ maxLen := by simp only [maxLen]; omega
          have q2 : (j + 1) * 64 ≤ 140737488355328 := by omega
          have bW := balloc (Below.refl _ wr) (.cells #[S who, S text, I stamp, .slice xA xn xc] 37)
          obtain ⟨W, hW⟩ : ∃ W, W = wr.alloc (.cells #[S who, S text, I stamp, .slice xA xn xc] 37) := ⟨_, rfl⟩
          obtain ⟨g, hg⟩ : ∃ g, g = wr.heap.size := ⟨_, rfl⟩
          have hR : Blk W g 37 #[S who, S text, I stamp, .slice xA xn xc] := by rw [hW, hg]; exact Blk.new wr _ _
          rw [← hW] at bW
          have HBk := Lib.hid (hBk.out.step bW)
          have Hrow := Lib.hid (own_step hrow.out bW)
          have Hch := Lib.hid (fun y hy => ((hch.out y hy).step bW).weak (G := fun g => w.heap.size ≤ g ∧ g < W.heap.size) (fun g _ h => ⟨h.1, Nat.lt_of_lt_of_le h.2 bW.size⟩))
          have HMp := Lib.hid (hMp.out.step bW)
          have HbW := Lib.hid (bstep hb.out bW)
          have hTrW := hTr.step bW
          have C5 := Lib.hid (copied_any ⟨who, text, stamp, xA, xn, xc, xl⟩ W.drew (hTrW.sl.drew) (by show xn * 80 ≤ _; omega))
          have r3 := hR.cell
          have rb := HBk.out.cell
          clear hx hxm hTr bW hTrW hR
          go_wp2
          rw [← hW]
          simp only [← hg]
          clear hW hg x0 x1 x2 x3
          go_region_law (first
            | (go_simp; go_at_call 24; refine C5.out.mono ?_; rintro e w5 ⟨A5, c5, rfl, hS5, b5⟩; have hB5 := HBk.out.drew.step b5; have rb5 := hB5.cell; have b6 := bstep b5 (balloc (Below.refl _ w5) (.cells #[S who, S text, I stamp, .slice A5 xn c5] 37)); have hrow6 := own_step (w := W.drew) Hrow.out b6; have hSx := sl_tx w5 37 ⟨who, text, stamp, A5, xn, c5, xl⟩; have hB6 := HBk.out.drew.step b6; have rb6 := hB6.cell; have hnew := Lib.hid (hS5.step (balloc (Below.refl _ w5) (.cells #[S who, S text, I stamp, .slice A5 xn c5] 37))))
            | (refine step_append_at _ (by rfl) (.tmp 39) (.tmp 42) _ (by rfl) w.heap.size 37 i0 _ 4 64 Tryz.underlying61 hi0 hi1 hi2 hi3 rfl (by decide) Ao j co _ (by rfl) hrow6 (by have h1 := HbW.out.size; have h2 := b6.size; simp only [World.size_drew] at h2; omega) _ 1 1 (txs [⟨who, text, stamp, A5, xn, c5, xl⟩]) (by rfl) hSx (one_txs _) q1 q2 ?_; intro A3 c3 w6 hO3 hg3 hr3; have hB7 := Lib.hid (hB6.grown hg3 (row_ne0 hrow6 hB6 (by decide))); have k6 := hB7.out.cell; have f6 := hB7.out.frozen))
          all_goals
            go_wp2
            have hend := copy_step (N := _) (x := ⟨who, text, stamp, A5, xn, c5, xl⟩) HbW.out hp1 HMp.out (below_undrew b6) hrow6 Hch.out hnew.out (fun g h => h.1) hB7.out hO3 hg3
            have Hend := Lib.hid hend
            clear hend
            go_roundw
            case rel =>
              refine ⟨j + 1, c3, A3, ys ++ [⟨who, text, stamp, A5, xn, c5, xl⟩], by go_num, Lib.hid hlt, Lib.hid Hend.out.1, Lib.hid Hend.out.2.1, Lib.hid ?_, Lib.hid Hend.out.2.2.1, Lib.hid Hend.out.2.2.2.1, Lib.hid Hend.out.2.2.2.2⟩
              rw [List.map_append, hys.out, List.take_add_one, List.getElem?_map, Hx.out]
              rfl
            case measure => simp [intOf]; omega
        · obtain rfl : j = n := by have := hj.out; omega
          go_wp2
          go_ret
          have hq : ys.map TxG.txn = bk.txns := by rw [hys.out, ← HI.out.txns, List.take_of_length_le (by rw [List.length_map, hxl]; exact Nat.le_refl _)]
          refine ⟨p', rfl, ⟨m', Ao, j, co, ys, k, ?_⟩, hb.out⟩
          refine ⟨hBk.out, hMp.out, own_mono hrow.out (Nat.zero_le _), ⟨hp1, hBk.out.lt⟩, ⟨hm1, hMp.out.lt⟩, fun g hgo => ⟨(hrow.out.lt g hgo).1, (hrow.out.lt g hgo).2⟩, hq, hch.out, HI.out.inv, by have := HI.out.cap.2; omega⟩
end Go.Proofs.YtegehaokfcamfaaGreatDoor
