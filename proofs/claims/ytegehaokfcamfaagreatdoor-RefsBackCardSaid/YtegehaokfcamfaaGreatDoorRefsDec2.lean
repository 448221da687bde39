/-
  refs.Decode's second closure: a transaction is read. Conditions: the closure's variables hold the reader and the book; there are no more than 900000000 bytes; MaxLen holds an int.
-/
import Derived.Test.YtegehaokfcamfaaGreatDoorRefsTxn
namespace Go.Proofs.YtegehaokfcamfaaGreatDoor
open Go.RowKit
open RefsLaw (named okc Val Chg Txn there rightV zv rightT okChs goodC Refs Book Inv)

theorem goC_short : ∀ (n : Nat) (l : List Chg) (r : Rd), (∀ c ∈ l, c.ref.length ≤ maxLen) → ∀ c ∈ (goC n l r).1, c.ref.length ≤ maxLen
  | 0, _, _, h => h
  | n + 1, l, r, h => by
    rw [goC]
    split
    · exact h
    · refine goC_short n _ _ (fun c hc => ?_)
      rcases List.mem_append.1 hc with hc | hc
      · exact h c hc
      · rw [List.mem_singleton] at hc
        rw [hc]
        exact Nat.le_trans (text_short r) (by decide)
theorem sl_txB {w : World} {k : Nat} {t : TypeId} {x : TxG} (h : Blk w k t #[S x.who, S x.text, I x.stamp, .slice x.A x.n x.c]) : Sl w 4 (some ⟨k, 0, none⟩) 1 (txs [x]) := by
  refine ⟨by simp [txs, TxG.cells], fun _ => ⟨_, _, rfl, h.lt, fun j hj => ?_⟩⟩
  rw [Nat.zero_add, h.cell]
  simp [txs, TxG.cells]
def d2Phi (W : World) (p : Nat) (V : Value) (x : TxG) : Nat → Value → World → Prop
  | 0, v, _ => v = .pointer (some ⟨p, 0, none⟩)
  | 1, v, _ => v = .pointer (some ⟨p, 0, none⟩)
  | 2, v, _ => v = .pointer (some ⟨p, 0, none⟩)
  | 3, v, _ => v = .pointer (some ⟨p, 1, none⟩)
  | 4, v, _ => v = V
  | 5, v, _ => v = txV x.who x.text x.stamp x.A x.n x.c
  | 6, v, w => ∃ k, v = .slice (some ⟨k, 0, none⟩) 1 1 ∧ W.heap.size ≤ k ∧ Blk w k 37 #[S x.who, S x.text, I x.stamp, .slice x.A x.n x.c]
  | 8, v, _ => v = .pointer (some ⟨p, 0, none⟩)
  | 9, v, _ => v = .pointer (some ⟨p, 1, none⟩)
  | _, _, _ => True
theorem d2Phi_mono {W : World} {p : Nat} {V : Value} {x : TxG} (hV : ∀ k, V.ownBlock = some k → k < W.heap.size) : ∀ (j : Nat) (v : Value) (w w' : World), d2Phi W p V x j v w → Fr (fun k => V.ownBlock = some k) w w' → d2Phi W p V x j v w' := by
  intro j v w w' h hf
  match j, h with
  | 0, h => exact h
  | 1, h => exact h
  | 2, h => exact h
  | 3, h => exact h
  | 4, h => exact h
  | 5, h => exact h
  | 6, h =>
    obtain ⟨k, h1, h2, h3⟩ := h
    exact ⟨k, h1, h2, hf.blk h3 (fun e => by have := hV k e; omega)⟩
  | 7, _ => trivial
  | 8, h => exact h
  | 9, h => exact h
  | (n + 10), _ => trivial
def d2J (W : World) (W0 n : Nat) (V : Value) (xs : List TxG) (x : TxG) : Nat → Value → World → Prop
  | 0, _, w => Fr (fun k => V.ownBlock = some k) W w ∧ w.ownsRow W0 37 4 V n (txs xs)
  | _, u, w => Fr (fun k => V.ownBlock = some k) W w ∧ ∃ A c, u = .slice A (n + 1) c ∧ w.ownsRow W0 37 4 u (n + 1) (txs xs ++ txs [x])
theorem d2J.step {W : World} {W0 n : Nat} {V : Value} {xs : List TxG} {x : TxG} : ∀ (k : Nat) (u : Value) (w w' : World), d2J W W0 n V xs x k u w → Below w.heap.size w w' → d2J W W0 n V xs x k u w'
  | 0, _, _, _, h, hb => ⟨h.1.step hb, own_step h.2 hb⟩
  | (_ + 1), _, _, _, h, hb => ⟨h.1.step hb, by obtain ⟨A, c, h1, h2⟩ := h.2; exact ⟨A, c, h1, own_step h2 hb⟩⟩
theorem d2J.fr {W : World} {W0 n : Nat} {V : Value} {xs : List TxG} {x : TxG} : ∀ (k : Nat) (u : Value) (w : World), d2J W W0 n V xs x k u w → Fr (fun k => V.ownBlock = some k) W w
  | 0, _, _, h => h.1
  | (_ + 1), _, _, h => h.1

set_option maxHeartbeats 4000000 in
set_option maxRecDepth 100000 in
theorem dec2_any (R W0 p B1 B2 n c : Nat) (A : Option Addr) (v1 : Value) (xs : List TxG) (r : Rd) (w : World) (h : RdAt w R W0 r) (hr : r.b.length ≤ 900000000)
    (hB1 : Blk w B1 84 #[.pointer (some ⟨R, 0, none⟩)]) (hB2 : Blk w B2 27 #[.pointer (some ⟨p, 0, none⟩)]) (hp : Blk w p 73 #[v1, .slice A n c])
    (ho : w.ownsRow W0 37 4 (.slice A n c) n (txs xs)) (hch : ∀ y ∈ xs, SlT (fun k => W0 ≤ k ∧ k < w.heap.size) 58 w 5 y.A y.n (chs y.chs)) (hn : n ≤ 900000001) (hM : MaxL w) (hg : 0 < W0) (hWp : W0 ≤ p) :
    Calls Tryz.prog 37 #[.pointer (some ⟨B1, 0, none⟩), .pointer (some ⟨B2, 0, none⟩)] w fun e w' => e = .returned (.bool (rightT r.txn.1)) ∧ RdAt w' R W0 r.txn.2 ∧
      (∃ (x : TxG) (A' : Option Addr) (c' : Nat), x.txn = r.txn.1 ∧ Blk w' p 73 #[v1, .slice A' (n + 1) c'] ∧ w'.ownsRow W0 37 4 (.slice A' (n + 1) c') (n + 1) (txs (xs ++ [x])) ∧
        ∀ y ∈ xs ++ [x], SlT (fun k => W0 ≤ k ∧ k < w'.heap.size) 58 w' 5 y.A y.n (chs y.chs)) ∧ Fr (fun k => k = R ∨ k = p ∨ (Value.slice A n c).ownBlock = some k) w w' := by
  have HR := Lib.hid h
  have HB1 := Lib.hid hB1
  have HB2 := Lib.hid hB2
  have HP := Lib.hid hp
  have HC := Lib.hid hch
  have HM := Lib.hid hM
  have hRl := h.lt
  have hW0 : W0 ≤ R := by obtain ⟨_, _, _, _, _, _, _, _, h⟩ := h; exact h
  have hBR : ∃ cs, Blk w R 86 cs := by obtain ⟨_, _, _, hBR, _⟩ := h; exact ⟨_, hBR⟩
  obtain ⟨_, hBR⟩ := hBR
  have n1 : B1 ≠ R := hB1.ne_ hBR (by decide)
  have n2 : B2 ≠ R := hB2.ne_ hBR (by decide)
  have n3 : p ≠ R := hp.ne_ hBR (by decide)
  have l2 := hB2.lt
  have l3 := hp.lt
  obtain ⟨V, hV⟩ : ∃ V, V = Value.slice A n c := ⟨_, rfl⟩
  have HV := Lib.hid hV
  have oR : Hid (∀ k, V.ownBlock = some k → k ≠ R) := Lib.hid (by rw [hV]; exact own_off ho hBR (by decide))
  have oP : Hid (∀ k, V.ownBlock = some k → k ≠ p) := Lib.hid (by rw [hV]; exact own_off ho hp (by decide))
  have o2 : Hid (∀ k, V.ownBlock = some k → k ≠ B2) := Lib.hid (by rw [hV]; exact own_off ho hB2 (by decide))
  have oL : Hid (∀ k, V.ownBlock = some k → k < w.heap.size) := Lib.hid (by rw [hV]; exact fun k hk => (ho.lt k hk).2)
  have oW : Hid (∀ k, V.ownBlock = some k → W0 ≤ k) := Lib.hid (by rw [hV]; exact fun k hk => (ho.lt k hk).1)
  rw [← hV] at ho
  have HO := Lib.hid ho
  have C0 := Lib.hid (fun W h => txn_any R W0 r W h hr)
  have hsh : ∀ c ∈ r.txn.1.chs, c.ref.length ≤ maxLen := goC_short _ _ _ (by simp)
  obtain ⟨T, hT⟩ : ∃ T, T = r.txn.1 := ⟨_, rfl⟩
  rw [← hT] at hsh C0 ⊢
  have HSH := Lib.hid hsh
  have q1 : n + 1 ≤ maxLen := Nat.le_trans (show n + 1 ≤ 900000002 by omega) (by decide)
  have q2 : (n + 1) * 64 ≤ 140737488355328 := by omega
  obtain ⟨i0, hi0, hz0, hz1, hz2⟩ := info_parts Tryz.infoTxn
  obtain ⟨who, text, stamp, tch⟩ := T
  have c1 := hB1.cell
  rw [← hV]
  clear h hB1 hB2 hp hch hM hBR ho hsh hT hV hr
  go_enter Tryz.func37, Tryz.ntmps37
  go_wp2_with fail
  refine (C0.out w HR.out).mono ?_
  rintro e w2 ⟨A1, m1, c3, rfl, hrd2, hs2, hm1, hf2⟩
  have HRD2 := Lib.hid hrd2
  have HS2 := Lib.hid hs2
  have HF2 := Lib.hid hf2
  clear hrd2 hs2 hf2 c1 C0
  simp only at HS2 ⊢
  go_wp2
  obtain ⟨w3, hw3⟩ : ∃ w3, w3 = w2.alloc (.cells #[S who, S text, I stamp, .slice A1 m1 c3] 37) := ⟨_, rfl⟩
  have hz2' := HF2.out.size
  have hb3 : Below w2.heap.size w2 w3 := by rw [hw3]; exact balloc (Below.refl _ w2) _
  have hg3 : Blk w3 w2.heap.size 37 #[S who, S text, I stamp, .slice A1 m1 c3] := by rw [hw3]; exact Blk.new w2 _ _
  have hz3 : w3.heap.size = w2.heap.size + 1 := by rw [hw3, World.size_alloc]
  rw [← hw3]
  have HB3 := Lib.hid hb3
  have HG3 := Lib.hid hg3
  have HZ3 := Lib.hid hz3
  have HF3 := Lib.hid (HF2.out.step hb3)
  have HO3 : Hid (w3.ownsRow W0 37 4 V n (txs xs)) := Lib.hid (own_step (own_fr HO.out HF2.out oR.out) hb3)
  have HP3 := Lib.hid (HF3.out.blk HP.out n3)
  have HB23 := Lib.hid (HF3.out.blk HB2.out n2)
  have hz5 : w.heap.size ≤ w3.heap.size := HF3.out.size
  obtain ⟨x, hx⟩ : ∃ x : TxG, x = ⟨who, text, stamp, A1, m1, c3, tch⟩ := ⟨_, rfl⟩
  have HX := Lib.hid hx
  obtain ⟨g, hgg⟩ : ∃ g, g = w2.heap.size := ⟨_, rfl⟩
  have hgw : w.heap.size ≤ g := by omega
  have HGG := Lib.hid hgg.symm
  rw [← hgg] at hg3
  rw [HGG.out]
  have HG := Lib.hid hg3
  clear hw3 hb3 hg3 hz3 hx hgg HG3
  refine wp_region_chain (by kernel_rfl) 10 (by kernel_rfl) ?_ [7] (by kernel_rfl) (fun w w' => Fr (fun k => V.ownBlock = some k) w w') (fun _ _ hb => Fr.of_below hb) (d2Phi w3 p V x) (d2Phi_mono (fun k hk => Nat.lt_of_lt_of_le (oL.out k hk) hz5)) (d2J w3 W0 n V xs x) d2J.step ⟨undef, (Fr.refl _ _).drew, own_step HO3.out (below_drewN (Below.refl _ _) 1)⟩ (fun i o hi hiC ho a w' k u hj hs hm => ?_) (fun t i o ht ho a w' u hj hs hm => ?_) (fun o ho a w' u hj hu hs hm => ?_)
  · exact dst_ltN (n := 18) (by kernel_rfl)
  · have hfr := d2J.fr _ _ _ hj
    exact match i, hi, hiC, ho with
    | 0, _, _, ho => by
        cases ho
        rw [if_pos (wanted_none _ rfl)]
        have hx : w'.cell? ⟨B2, 0, none⟩ = some (.pointer (some ⟨p, 0, none⟩)) := (hfr.blk HB23.out (fun e => o2.out B2 e rfl)).cell 0
        refine wp_value (st_load rfl ((hs.keeps (by kernel_rfl)).trans rfl) (by go_simp)) ⟨_, rfl, rfl, Below.refl _ _⟩
    | 1, _, _, ho => by
        cases ho
        rw [if_pos (wanted_none _ rfl)]
        have hx : w'.cell? ⟨B2, 0, none⟩ = some (.pointer (some ⟨p, 0, none⟩)) := (hfr.blk HB23.out (fun e => o2.out B2 e rfl)).cell 0
        refine wp_value (st_load rfl ((hs.keeps (by kernel_rfl)).trans rfl) (by go_simp)) ⟨_, rfl, rfl, Below.refl _ _⟩
    | 2, _, _, ho => by
        cases ho
        rw [if_pos (wanted_none _ rfl)]
        refine wp_value (st_nil rfl (hm.get 1 7 (by kernel_rfl))) ⟨_, rfl, rfl, Below.refl _ _⟩
    | 3, _, _, ho => by
        cases ho
        rw [if_pos (wanted_none _ rfl)]
        refine wp_value (st_field rfl (hm.get 2 8 (by kernel_rfl)) (by kernel_rfl)) ⟨_, rfl, rfl, Below.refl _ _⟩
    | 4, _, _, ho => by
        cases ho
        rw [if_pos (wanted_none _ rfl)]
        have hx : w'.cell? ⟨p, 1, none⟩ = some V := by rw [HV.out]; have := (hfr.blk HP3.out (fun e => oP.out p e rfl)).cell 1; rw [this]; rfl
        refine wp_value (st_load rfl (hm.get 3 9 (by kernel_rfl)) (by go_simp)) ⟨_, rfl, rfl, Below.refl _ _⟩
    | 5, _, _, ho => by
        cases ho
        rw [if_pos (wanted_none _ rfl)]
        have hx := (hfr.blk HG.out (fun e => by have := oL.out g e; omega)).cell
        have hX := HX.out
        subst hX
        refine wp_value (st_load rfl ((hs.keeps (by kernel_rfl)).trans rfl) (by go_simp)) ⟨_, rfl, rfl, Below.refl _ _⟩
    | 6, _, _, ho => by
        cases ho
        rw [if_pos (wanted_none _ rfl)]
        have hz := hfr.size
        have h1 := eval_getD (hm.get 5 11 (by kernel_rfl))
        unfold Oper.wp; simp only [execOp]; go_simp
        exact ⟨_, rfl, ⟨_, rfl, hz, Blk.new w' _ _⟩, balloc (Below.refl _ w') _⟩
    | 7, _, hiC, _ => absurd (by decide) hiC
    | 8, _, _, ho => by
        cases ho
        rw [if_pos (wanted_none _ rfl)]
        refine wp_value (st_nil rfl (hm.get 0 6 (by kernel_rfl))) ⟨_, rfl, rfl, Below.refl _ _⟩
    | 9, _, _, ho => by
        cases ho
        rw [if_pos (wanted_none _ rfl)]
        refine wp_value (st_field rfl (hm.get 8 14 (by kernel_rfl)) (by kernel_rfl)) ⟨_, rfl, rfl, Below.refl _ _⟩
    | (n + 10), hi, _, _ => absurd hi (by omega)
  · exact match t, ht, hj with
    | 0, ht, hj => by
        cases ht
        cases ho
        obtain ⟨k0, e12, hk0, hB0⟩ := hm.get 6 12 (by kernel_rfl)
        have e10 : a.eval (.tmp 10) = V := hm.get 4 10 (by kernel_rfl)
        have hV := HV.out
        obtain ⟨hj1, hj2⟩ := hj
        rw [hV] at e10 hj2
        refine wp_append_row w' (.tmp 10) (.tmp 12) _ rfl W0 37 i0 _ 4 64 Tryz.underlying61 hi0 hz0 hz1 hz2 rfl (by decide) A n c (txs xs) e10 hj2 (by have := hj1.size; omega) _ 1 1 (txs [x]) e12 (sl_txB hB0) (one_txs _) q1 q2 ?_
        intro A' c' w2 h2 h3
        have f3 : Fr (fun k => V.ownBlock = some k) w' w2 := Fr.of_grown h3 (fun k e => by rw [hV]; exact e)
        exact ⟨_, rfl, trivial, ⟨hj1.trans f3, A', c', rfl, h2⟩, f3⟩
    | (n + 1), ht, _ => by cases ht
  · have e13 : a.eval (.tmp 13) = u := hu 0 7 13 _ rfl rfl rfl rfl
    have e15 : a.eval (.tmp 15) = .pointer (some ⟨p, 1, none⟩) := by cases ho; exact hm.get 9 15 (by kernel_rfl)
    obtain ⟨hj2, A', c', hu2, hj3⟩ := hj
    subst hu2
    have hP2 := hj2.blk HP3.out (fun e => oP.out p e rfl)
    have hG2 := hj2.blk HG.out (fun e => by have := oL.out g e; omega)
    have HP2 := Lib.hid hP2
    have HG2 := Lib.hid hG2
    have HJ2 := Lib.hid hj2
    have HJ3 := Lib.hid hj3
    have hfr := hs.frame [6, 7, 8, 9, 10, 11, 12, 13, 14, 15] (by kernel_rfl)
    have g0 := hP2.cell
    have g1 := hP2.frozen
    have g2 := hP2.lt
    clear hP2 hG2 hj2 hj3 hu
    cases ho
    rw [hfr]
    simp only [List.foldl_cons, List.foldl_nil]
    clear hfr hs hm
    generalize a.eval (.tmp 6) = u6
    generalize a.eval (.tmp 7) = u7
    generalize a.eval (.tmp 8) = u8
    generalize a.eval (.tmp 9) = u9
    generalize a.eval (.tmp 10) = u10
    generalize a.eval (.tmp 11) = u11
    generalize a.eval (.tmp 12) = u12
    generalize a.eval (.tmp 14) = u14
    generalize a.eval (.tmp 13) = u13 at e13
    generalize a.eval (.tmp 15) = u15 at e15
    subst e13 e15
    unfold Oper.wp
    simp only [execOp]
    go_simp
    clear a g0 g1 g2
    obtain ⟨w9, hw9⟩ : ∃ w9, w9 = w'.setCell ⟨p, 1, none⟩ (.slice A' (n + 1) c') := ⟨_, rfl⟩
    have hpg : p ≠ g := by omega
    have hF9 : Fr (fun k => k = R ∨ k = p ∨ V.ownBlock = some k) w w9 := hw9 ▸ ((HF3.out.weak (F := fun k => k = R ∨ k = p ∨ V.ownBlock = some k) (fun k e => .inl e)).trans (HJ2.out.weak (F := fun k => k = R ∨ k = p ∨ V.ownBlock = some k) (fun k e => .inr (.inr e)))).setCell (p := ⟨p, 1, none⟩) (.inr (.inl rfl)) _
    have hP9 : Blk w9 p 73 #[v1, .slice A' (n + 1) c'] := hw9 ▸ HP2.out.set_ 1 (.slice A' (n + 1) c')
    have hG9 : Blk w9 g 37 #[S who, S text, I stamp, .slice A1 m1 c3] := hw9 ▸ HG2.out.far (p := ⟨p, 1, none⟩) (fun e => hpg e.symm) _
    have hO9 : w9.ownsRow W0 37 4 (.slice A' (n + 1) c') (n + 1) (txs xs ++ txs [x]) := hw9 ▸ own_far HJ3.out (fun e => own_off HJ3.out HP2.out (by decide) p e.symm rfl) _
    have hR9 : RdAt w9 R W0 r.txn.2 := hw9 ▸ ((HRD2.out.step HB3.out).fr (E := fun k => V.ownBlock = some k) HJ2.out (fun k e => ⟨oW.out k e, oR.out k e, fun ⟨cs, fr, hh⟩ => own_type HO3.out (by decide) k e cs fr hh⟩)).far (p := ⟨p, 1, none⟩) HP2.out (by decide) (by decide) hWp rfl _
    have hk9 : KeepT 58 w2 w9 := hw9 ▸ ((KeepT.of_below HB3.out).trans (KeepT.of_fr HJ2.out (fun k cs fr e => own_type HO3.out (by decide) k e cs fr))).setCell (p := ⟨p, 1, none⟩) HP2.out (by decide) rfl _
    have hk0 : KeepT 58 w w9 := KeepT.of_fr hF9 (fun k cs fr e => by
      rcases e with e | e | e
      · obtain ⟨_, _, _, hBR, _⟩ := HR.out
        subst e
        exact hBR.type (by decide) cs fr
      · subst e
        exact HP.out.type (by decide) cs fr
      · exact own_type HO.out (by decide) k e cs fr)
    have hz9 : w9.heap.size = w'.heap.size := hw9 ▸ setCell_size _ _ _
    have hz7 := HJ2.out.size
    have hz3 := HZ3.out
    have hs9 : SlT (fun k => W0 ≤ k ∧ k < w9.heap.size) 58 w9 5 A1 m1 (chs tch) := (HS2.out.weak (fun k hk h => ⟨by have h1 : w.heap.size ≤ k := h.1; omega, by omega⟩)).keep hk9
    have hch9 : ∀ y ∈ xs ++ [x], SlT (fun k => W0 ≤ k ∧ k < w9.heap.size) 58 w9 5 y.A y.n (chs y.chs) := by
      intro y hy
      rcases List.mem_append.1 hy with hy | hy
      · exact ((HC.out y hy).weak (fun k hk h => ⟨h.1, by omega⟩)).keep hk0
      · rw [List.mem_singleton] at hy
        rw [hy, HX.out]
        exact hs9
    have hM9 : MaxL w9 := HM.out.fr hF9 (fun e => by
      rcases e with e | e | e
      · omega
      · omega
      · have := oW.out _ e; omega)
    rw [← hw9]
    have HF9 := Lib.hid hF9
    have HP9 := Lib.hid hP9
    have HO9 := Lib.hid hO9
    have HR9 := Lib.hid hR9
    have HCH9 := Lib.hid hch9
    have HS9 := Lib.hid hs9
    have HM9 := Lib.hid hM9
    have c9 := hG9.cell
    clear hw9 hF9 hP9 hO9 hR9 hch9 hs9 hM9 hk9 hk0 hz9 hz7 hz3 hG9
    go_wp2_with fail
    refine (rightT_any who text stamp A1 m1 c3 tch w9 HS9.out.1 (by omega) HSH.out HM9.out).mono ?_
    rintro e w10 ⟨rfl, hb10⟩
    go_wp2
    go_ret
    refine ⟨rfl, HR9.out.step hb10, ⟨x, A', c', by rw [HX.out]; rfl, HP9.out.step hb10, ?_, fun y hy => ((HCH9.out y hy).step hb10).weak (fun k hk h => ⟨h.1, by have h1 : k < w9.heap.size := h.2; have := hb10.size; omega⟩)⟩, HF9.out.step hb10⟩
    rw [txs_append]
    exact own_step HO9.out hb10
end Go.Proofs.YtegehaokfcamfaaGreatDoor
