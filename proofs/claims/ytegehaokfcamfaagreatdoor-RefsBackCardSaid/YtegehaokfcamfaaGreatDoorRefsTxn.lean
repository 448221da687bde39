/-
  refs' reader: txn. Conditions: the reader lies in its block; there are no more than 900000000 bytes.
-/
import Derived.Test.YtegehaokfcamfaaGreatDoorRefsRd
import Derived.Test.YtegehaokfcamfaaGreatDoorRefsCopyB
import Derived.Test.YtegehaokfcamfaaGreatDoorChainRegion
namespace Go.Proofs.YtegehaokfcamfaaGreatDoor
open Go.RowKit
open RefsLaw (named okc Val Chg Txn there rightV zv rightT okChs goodC Refs Book Inv)

theorem own_fr {E : Nat → Prop} {w w' : World} {base sz n : Nat} {e : TypeId} {v : Value} {xs : List Value} (h : w.ownsRow base e sz v n xs) (hf : Fr E w w') (hE : ∀ k, v.ownBlock = some k → ¬ E k) : w'.ownsRow base e sz v n xs := by
  refine ⟨h.1, ?_⟩
  rcases h.2 with h2 | ⟨g, cap, cur, hv, hg, hh, r⟩
  · exact .inl h2
  · exact .inr ⟨g, cap, cur, hv, hg, (hf.block g (heap_lt hh) (hE g (by rw [hv]; rfl))).trans hh, r⟩
/-- a row of one's own is in no block of another type -/
theorem own_off {w : World} {base sz n g : Nat} {e t : TypeId} {v : Value} {xs : List Value} {cs : Array Value} (h : w.ownsRow base e sz v n xs) (hB : Blk w g t cs) (hne : e ≠ t) : ∀ k, v.ownBlock = some k → k ≠ g := by
  rintro k hk rfl
  exact own_type h hne k hk _ _ hB
theorem RdAt.grown {w w' : World} {R W0 base sz n : Nat} {e : TypeId} {v : Value} {xs : List Value} {r : Rd} (h : RdAt w R W0 r) (ho : w.ownsRow base e sz v n xs) (h1 : e ≠ 5) (h2 : e ≠ 86) (hb : W0 ≤ base) (hg : w.grownBy w' v.ownBlock) : RdAt w' R W0 r := by
  refine h.fr (E := fun k => v.ownBlock = some k) (Fr.of_grown hg (fun k e => e)) (fun k hk => ?_)
  obtain ⟨_, _, _, hBR, _⟩ := h
  refine ⟨Nat.le_trans hb (ho.lt k hk).1, own_off ho hBR h2 k hk, ?_⟩
  rintro ⟨cs, fr, hh⟩
  exact own_type ho h1 k hk cs fr hh

def t1Phi (W : World) (R g : Nat) (V : Value) (x : Chg) : Nat → Value → World → Prop
  | 0, v, _ => v = .pointer (some ⟨g, 3, none⟩)
  | 1, v, _ => v = V
  | 2, v, _ => v = .pointer (some ⟨R, 0, none⟩)
  | 3, v, _ => v = S x.ref
  | 4, v, _ => v = .pointer (some ⟨R, 0, none⟩)
  | 5, v, _ => v = vV x.old
  | 6, v, _ => v = .pointer (some ⟨R, 0, none⟩)
  | 7, v, _ => v = vV x.new
  | 8, v, _ => v = chV x
  | 9, v, w => ∃ k, v = .slice (some ⟨k, 0, none⟩) 1 1 ∧ W.heap.size ≤ k ∧ Blk w k 58 #[S x.ref, S x.old.id, S x.old.name, S x.new.id, S x.new.name]
  | 11, v, _ => v = .pointer (some ⟨g, 3, none⟩)
  | _, _, _ => True
theorem t1Phi_mono {W : World} {R g : Nat} {V : Value} {x : Chg} (hR : R < W.heap.size) (hV : ∀ k, V.ownBlock = some k → k < W.heap.size) : ∀ (j : Nat) (v : Value) (w w' : World), t1Phi W R g V x j v w → Fr (fun k => k = R ∨ V.ownBlock = some k) w w' → t1Phi W R g V x j v w' := by
  intro j v w w' h hf
  match j, h with
  | 0, h => exact h
  | 1, h => exact h
  | 2, h => exact h
  | 3, h => exact h
  | 4, h => exact h
  | 5, h => exact h
  | 6, h => exact h
  | 7, h => exact h
  | 8, h => exact h
  | 9, h =>
    obtain ⟨k, h1, h2, h3⟩ := h
    exact ⟨k, h1, h2, hf.blk h3 (fun e => Or.elim e (fun e => by omega) (fun e => by have := hV k e; omega))⟩
  | 10, _ => trivial
  | 11, h => exact h
  | (n + 12), _ => trivial
def t1J (W : World) (R W0 W1 n : Nat) (V : Value) (l : List Chg) (x : Chg) (r : Rd) : Nat → Value → World → Prop
  | 0, _, w => RdAt w R W0 r ∧ Fr (fun k => k = R ∨ V.ownBlock = some k) W w ∧ w.ownsRow W1 58 5 V n (chs l)
  | 1, _, w => RdAt w R W0 r.text.2 ∧ Fr (fun k => k = R ∨ V.ownBlock = some k) W w ∧ w.ownsRow W1 58 5 V n (chs l)
  | 2, _, w => RdAt w R W0 r.text.2.value.2 ∧ Fr (fun k => k = R ∨ V.ownBlock = some k) W w ∧ w.ownsRow W1 58 5 V n (chs l)
  | 3, _, w => RdAt w R W0 r.chg.2 ∧ Fr (fun k => k = R ∨ V.ownBlock = some k) W w ∧ w.ownsRow W1 58 5 V n (chs l)
  | _, u, w => RdAt w R W0 r.chg.2 ∧ Fr (fun k => k = R ∨ V.ownBlock = some k) W w ∧ ∃ A c, u = .slice A (n + 1) c ∧ w.ownsRow W1 58 5 u (n + 1) (chs l ++ chs [x])
theorem t1J.step {W : World} {R W0 W1 n : Nat} {V : Value} {l : List Chg} {x : Chg} {r : Rd} : ∀ (k : Nat) (u : Value) (w w' : World), t1J W R W0 W1 n V l x r k u w → Below w.heap.size w w' → t1J W R W0 W1 n V l x r k u w'
  | 0, _, _, _, h, hb => ⟨h.1.step hb, h.2.1.step hb, own_step h.2.2 hb⟩
  | 1, _, _, _, h, hb => ⟨h.1.step hb, h.2.1.step hb, own_step h.2.2 hb⟩
  | 2, _, _, _, h, hb => ⟨h.1.step hb, h.2.1.step hb, own_step h.2.2 hb⟩
  | 3, _, _, _, h, hb => ⟨h.1.step hb, h.2.1.step hb, own_step h.2.2 hb⟩
  | (_ + 4), _, _, _, h, hb => ⟨h.1.step hb, h.2.1.step hb, by obtain ⟨A, c, h1, h2⟩ := h.2.2; exact ⟨A, c, h1, own_step h2 hb⟩⟩
theorem t1J.fr {W : World} {R W0 W1 n : Nat} {V : Value} {l : List Chg} {x : Chg} {r : Rd} : ∀ (k : Nat) (u : Value) (w : World), t1J W R W0 W1 n V l x r k u w → Fr (fun k => k = R ∨ V.ownBlock = some k) W w
  | 0, _, _, h => h.2.1
  | 1, _, _, h => h.2.1
  | 2, _, _, h => h.2.1
  | 3, _, _, h => h.2.1
  | (_ + 4), _, _, h => h.2.1
theorem sl_chB {w : World} {k : Nat} {t : TypeId} {x : Chg} (h : Blk w k t #[S x.ref, S x.old.id, S x.old.name, S x.new.id, S x.new.name]) : Sl w 5 (some ⟨k, 0, none⟩) 1 (chs [x]) := by
  refine ⟨by simp [chs, chC], fun _ => ⟨_, _, rfl, h.lt, fun j hj => ?_⟩⟩
  rw [Nat.zero_add, h.cell]
  simp [chs, chC]
theorem wp_append_row {P : Program} (w : World) {o : Oper} {a : Act} {K : Act → World → Prop} {Q : Exit → Act → World → Prop} (s x : Operand) (t : TypeId)
    (ho : o.op = .call { callee := .builtin .append, args := #[s, x], argTypes := #[t, t] })
    (base : Nat) (e : TypeId) (i : TypeInfo) (z : Value) (size bytes : Nat) (ht : P.underlying t = some (.slice e)) (hi : P.info? e = some i) (hz : i.zero = some z)
    (hsize : i.size = size) (hby : i.bytes = bytes) (hzs : z.cells.size = size) (hsz : 0 < size)
    (Ad : Option Addr) (n cd : Nat) (xs : List Value) (hs : a.eval s = .slice Ad n cd) (hown : w.ownsRow base e size (.slice Ad n cd) n xs) (hbase : base ≤ w.heap.size)
    (A : Option Addr) (m c : Nat) (news : List Value) (hx : a.eval x = .slice A m c) (hr : Sl w size A m news) (h1 : ∀ u ∈ news, u.oneCell' = true)
    (h63 : n + m ≤ maxLen) (hbytes : (n + m) * bytes ≤ 140737488355328)
    (h : ∀ A' c' w', w'.ownsRow base e size (.slice A' (n + m) c') (n + m) (xs ++ news) → w.grownBy w' (Value.slice Ad n cd).ownBlock → K (a.put o.dst (.slice A' (n + m) c')) w') : Oper.wp P o a w K Q := by
  obtain ⟨A', c', w', hrun, h2, h3, h4⟩ := run_append_sl (P := P) w base t o.type e i z size bytes ht hi hz hsize hby hzs hsz _ n xs hown A m c news hr h1 h63 hbytes hbase
  unfold Oper.wp execOp
  simp only [ho, resolve, invoke, builtin, Sem.run_bind, Sem.run_pure, Result.andThen_ok, List.map_toArray, List.map_cons, List.map_nil, hs, hx, hrun]
  exact h A' c' w' h2 h3

set_option maxHeartbeats 4000000 in
set_option maxRecDepth 100000 in
theorem tx1_any (R W0 W1 g B n c : Nat) (A : Option Addr) (who text : List UInt8) (stamp : Int) (l : List Chg) (r : Rd) (w : World) (h : RdAt w R W0 r) (hB : Blk w B 84 #[.pointer (some ⟨R, 0, none⟩)])
    (hg : Blk w g 37 #[S who, S text, I stamp, .slice A n c]) (ho : w.ownsRow W1 58 5 (.slice A n c) n (chs l)) (hW : W0 ≤ W1) (hgW : W1 ≤ g) (_hW1 : W1 ≤ w.heap.size) (hn : n ≤ 1000000000) :
    Calls Tryz.prog 64 #[.pointer (some ⟨g, 0, none⟩), .pointer (some ⟨B, 0, none⟩)] w fun e w' => e = .returned (.bool true) ∧ RdAt w' R W0 r.chg.2 ∧
      (∃ A' c', Blk w' g 37 #[S who, S text, I stamp, .slice A' (n + 1) c'] ∧ w'.ownsRow W1 58 5 (.slice A' (n + 1) c') (n + 1) (chs (l ++ [r.chg.1]))) ∧ Fr (fun k => k = R ∨ W1 ≤ k) w w' := by
  have H := Lib.hid h
  have HB := Lib.hid hB
  have HG := Lib.hid hg
  have HO := Lib.hid ho
  have hRl := h.lt
  obtain ⟨_, _, _, hBR, _⟩ := h
  have n1 : B ≠ R := hB.ne_ hBR (by decide)
  have n2 : g ≠ R := hg.ne_ hBR (by decide)
  have n3 : g ≠ B := hg.ne_ hB (by decide)
  have l1 := hB.lt
  have l2 := hg.lt
  obtain ⟨V, hV⟩ : ∃ V, V = Value.slice A n c := ⟨_, rfl⟩
  have HV := Lib.hid hV
  have oB : Hid (∀ k, V.ownBlock = some k → k ≠ B) := Lib.hid (by rw [hV]; exact own_off ho hB (by decide))
  have oG : Hid (∀ k, V.ownBlock = some k → k ≠ g) := Lib.hid (by rw [hV]; exact own_off ho hg (by decide))
  have oR : Hid (∀ k, V.ownBlock = some k → k ≠ R) := Lib.hid (by rw [hV]; exact own_off ho hBR (by decide))
  have oL : Hid (∀ k, V.ownBlock = some k → k < w.heap.size) := Lib.hid (by rw [hV]; exact fun k hk => (ho.lt k hk).2)
  have oW : Hid (∀ k, V.ownBlock = some k → W1 ≤ k) := Lib.hid (by rw [hV]; exact fun k hk => (ho.lt k hk).1)
  obtain ⟨i0, hi0, hz0, hz1, hz2⟩ := info_parts Tryz.infoChg
  have q1 : n + 1 ≤ maxLen := Nat.le_trans (show n + 1 ≤ 1000000001 by omega) (by decide)
  have q2 : (n + 1) * 80 ≤ 140737488355328 := by omega
  obtain ⟨x, hx⟩ : ∃ x, x = r.chg.1 := ⟨_, rfl⟩
  have CT : Hid (∀ W, RdAt W R W0 r → Calls Tryz.prog 35 #[.pointer (some ⟨R, 0, none⟩)] W (RetRd W R W0 (S x.ref) r.text.2)) := Lib.hid (fun W h => by rw [hx]; exact rdText_any R W0 r W h)
  have C1 : Hid (∀ W, RdAt W R W0 r.text.2 → Calls Tryz.prog 36 #[.pointer (some ⟨R, 0, none⟩)] W (RetRd W R W0 (vV x.old) r.text.2.value.2)) := Lib.hid (fun W h => by rw [hx]; exact rdValue_any R W0 _ W h)
  have C2 : Hid (∀ W, RdAt W R W0 r.text.2.value.2 → Calls Tryz.prog 36 #[.pointer (some ⟨R, 0, none⟩)] W (RetRd W R W0 (vV x.new) r.chg.2)) := Lib.hid (fun W h => by rw [hx]; exact rdValue_any R W0 _ W h)
  rw [← hx]
  rw [← hV] at HO HG
  clear hB hg hBR hx
  clear ho hV
  go_enter Tryz.func64, Tryz.ntmps64
  go_wp2
  refine wp_region_chain (by kernel_rfl) 12 (by kernel_rfl) ?_ [3, 5, 7, 10] (by kernel_rfl) (fun w w' => Fr (fun k => k = R ∨ V.ownBlock = some k) w w') (fun _ _ hb => Fr.of_below hb) (t1Phi w R g V x) (t1Phi_mono hRl oL.out) (t1J w R W0 W1 n V l x r) t1J.step ⟨undef, H.out.step (below_drewN (Below.refl _ _) 1), (Fr.refl _ _).drew, own_step HO.out (below_drewN (Below.refl _ _) 1)⟩ (fun i o hi hiC ho a w' k u hj hs hm => ?_) (fun t i o ht ho a w' u hj hs hm => ?_) (fun o ho a w' u hj hu hs hm => ?_)
  · exact dst_ltN (n := 15) (by kernel_rfl)
  · have hfr := t1J.fr _ _ _ hj
    exact match i, hi, hiC, ho with
    | 0, _, _, ho => by
        cases ho
        rw [if_pos (wanted_none _ rfl)]
        refine wp_value (st_field rfl ((hs.keeps (by kernel_rfl)).trans rfl) (by kernel_rfl)) ⟨_, rfl, rfl, Below.refl _ _⟩
    | 1, _, _, ho => by
        cases ho
        rw [if_pos (wanted_none _ rfl)]
        have hx : w'.cell? ⟨g, 3, none⟩ = some V := (hfr.blk HG.out (fun e => Or.elim e n2 (fun e => oG.out g e rfl))).cell 3
        refine wp_value (st_load rfl (hm.get 0 3 (by kernel_rfl)) (by go_simp)) ⟨_, rfl, rfl, Below.refl _ _⟩
    | 2, _, _, ho => by
        cases ho
        rw [if_pos (wanted_none _ rfl)]
        have hx : w'.cell? ⟨B, 0, none⟩ = some (.pointer (some ⟨R, 0, none⟩)) := (hfr.blk HB.out (fun e => Or.elim e n1 (fun e => oB.out B e rfl))).cell 0
        refine wp_value (st_load rfl ((hs.keeps (by kernel_rfl)).trans rfl) (by go_simp)) ⟨_, rfl, rfl, Below.refl _ _⟩
    | 3, _, hiC, _ => absurd (by decide) hiC
    | 4, _, _, ho => by
        cases ho
        rw [if_pos (wanted_none _ rfl)]
        have hx : w'.cell? ⟨B, 0, none⟩ = some (.pointer (some ⟨R, 0, none⟩)) := (hfr.blk HB.out (fun e => Or.elim e n1 (fun e => oB.out B e rfl))).cell 0
        refine wp_value (st_load rfl ((hs.keeps (by kernel_rfl)).trans rfl) (by go_simp)) ⟨_, rfl, rfl, Below.refl _ _⟩
    | 5, _, hiC, _ => absurd (by decide) hiC
    | 6, _, _, ho => by
        cases ho
        rw [if_pos (wanted_none _ rfl)]
        have hx : w'.cell? ⟨B, 0, none⟩ = some (.pointer (some ⟨R, 0, none⟩)) := (hfr.blk HB.out (fun e => Or.elim e n1 (fun e => oB.out B e rfl))).cell 0
        refine wp_value (st_load rfl ((hs.keeps (by kernel_rfl)).trans rfl) (by go_simp)) ⟨_, rfl, rfl, Below.refl _ _⟩
    | 7, _, hiC, _ => absurd (by decide) hiC
    | 8, _, _, ho => by
        cases ho
        rw [if_pos (wanted_none _ rfl)]
        have h1 := eval_getD (hm.get 3 6 (by kernel_rfl))
        have h2 := eval_getD (hm.get 5 8 (by kernel_rfl))
        have h3 := eval_getD (hm.get 7 10 (by kernel_rfl))
        unfold Oper.wp; simp only [execOp]; go_simp
        exact ⟨_, rfl, rfl, Below.refl _ _⟩
    | 9, _, _, ho => by
        cases ho
        rw [if_pos (wanted_none _ rfl)]
        have hz := hfr.size
        have h1 := eval_getD (hm.get 8 11 (by kernel_rfl))
        unfold Oper.wp; simp only [execOp]; go_simp
        exact ⟨_, rfl, ⟨_, rfl, hz, Blk.new w' _ _⟩, balloc (Below.refl _ w') _⟩
    | 10, _, hiC, _ => absurd (by decide) hiC
    | 11, _, _, ho => by
        cases ho
        rw [if_pos (wanted_none _ rfl)]
        refine wp_value (st_field rfl ((hs.keeps (by kernel_rfl)).trans rfl) (by kernel_rfl)) ⟨_, rfl, rfl, Below.refl _ _⟩
    | (n + 12), hi, _, _ => absurd hi (by omega)
  · exact match t, ht, hj with
    | 0, ht, hj => by
        cases ht
        cases ho
        have h1 := eval_getD (hm.get 2 5 (by kernel_rfl))
        unfold Oper.wp; simp only [execOp]; go_simp
        refine (CT.out w' hj.1).mono ?_
        rintro e w2 ⟨rfl, h2, f2⟩
        have f3 : Fr (fun k => k = R ∨ V.ownBlock = some k) w' w2 := f2.weak (fun k e => .inl e)
        exact ⟨_, rfl, rfl, ⟨h2, hj.2.1.trans f3, own_fr hj.2.2 f2 oR.out⟩, f3⟩
    | 1, ht, hj => by
        cases ht
        cases ho
        have h1 := eval_getD (hm.get 4 7 (by kernel_rfl))
        unfold Oper.wp; simp only [execOp]; go_simp
        refine (C1.out w' hj.1).mono ?_
        rintro e w2 ⟨rfl, h2, f2⟩
        have f3 : Fr (fun k => k = R ∨ V.ownBlock = some k) w' w2 := f2.weak (fun k e => .inl e)
        exact ⟨_, rfl, rfl, ⟨h2, hj.2.1.trans f3, own_fr hj.2.2 f2 oR.out⟩, f3⟩
    | 2, ht, hj => by
        cases ht
        cases ho
        have h1 := eval_getD (hm.get 6 9 (by kernel_rfl))
        unfold Oper.wp; simp only [execOp]; go_simp
        refine (C2.out w' hj.1).mono ?_
        rintro e w2 ⟨rfl, h2, f2⟩
        have f3 : Fr (fun k => k = R ∨ V.ownBlock = some k) w' w2 := f2.weak (fun k e => .inl e)
        exact ⟨_, rfl, rfl, ⟨h2, hj.2.1.trans f3, own_fr hj.2.2 f2 oR.out⟩, f3⟩
    | 3, ht, hj => by
        cases ht
        cases ho
        obtain ⟨k0, e12, hk0, hB0⟩ := hm.get 9 12 (by kernel_rfl)
        have e4 : a.eval (.tmp 4) = V := hm.get 1 4 (by kernel_rfl)
        have hV := HV.out
        obtain ⟨hj1, hj2, hj3⟩ := hj
        rw [hV] at e4 hj3
        refine wp_append_row w' (.tmp 4) (.tmp 12) _ rfl W1 58 i0 _ 5 80 Tryz.underlying35 hi0 hz0 hz1 hz2 rfl (by decide) A n c (chs l) e4 hj3 (by have := hj2.size; omega) _ 1 1 (chs [x]) e12 (sl_chB hB0) (one_chs _) q1 q2 ?_
        intro A' c' w2 h2 h3
        have f3 : Fr (fun k => k = R ∨ V.ownBlock = some k) w' w2 := Fr.of_grown h3 (fun k e => .inr (by rw [hV]; exact e))
        exact ⟨_, rfl, trivial, ⟨hj1.grown hj3 (by decide) (by decide) hW h3, hj2.trans f3, A', c', rfl, h2⟩, f3⟩
    | (n + 4), ht, _ => by cases ht
  · have e13 : a.eval (.tmp 13) = u := hu 3 10 13 _ rfl rfl rfl rfl
    have e14 : a.eval (.tmp 14) = .pointer (some ⟨g, 3, none⟩) := by cases ho; exact hm.get 11 14 (by kernel_rfl)
    obtain ⟨hj1, hj2, A', c', hu2, hj3⟩ := hj
    subst hu2
    have hG2 := hj2.blk HG.out (fun e => Or.elim e n2 (fun e => oG.out g e rfl))
    have HG2 := Lib.hid hG2
    have HJ1 := Lib.hid hj1
    have HJ2 := Lib.hid hj2
    have HJ3 := Lib.hid hj3
    have hfr := hs.frame [3, 4, 5, 6, 7, 8, 9, 10, 11, 12, 13, 14] (by kernel_rfl)
    have g0 := hG2.cell
    have g1 := hG2.frozen
    have g2 := hG2.lt
    clear hG2 hj1 hj2 hj3 hu
    cases ho
    rw [hfr]
    simp only [List.foldl_cons, List.foldl_nil]
    clear hfr hs hm
    generalize a.eval (.tmp 3) = u3
    generalize a.eval (.tmp 4) = u4
    generalize a.eval (.tmp 5) = u5
    generalize a.eval (.tmp 6) = u6
    generalize a.eval (.tmp 7) = u7
    generalize a.eval (.tmp 8) = u8
    generalize a.eval (.tmp 9) = u9
    generalize a.eval (.tmp 10) = u10
    generalize a.eval (.tmp 11) = u11
    generalize a.eval (.tmp 12) = u12
    generalize a.eval (.tmp 13) = u13 at e13
    generalize a.eval (.tmp 14) = u14 at e14
    subst e13 e14
    unfold Oper.wp
    simp only [execOp]
    go_simp
    clear a
    go_wp2
    go_ret
    refine ⟨rfl, HJ1.out.far HG2.out (by decide) (by decide) (by omega) rfl _, ⟨A', c', HG2.out.set_ 3 _, ?_⟩, ?_⟩
    · rw [chs_append]
      exact own_far HJ3.out (fun e => own_off HJ3.out HG2.out (by decide) g e.symm rfl) _
    · exact (HJ2.out.weak (F := fun k => k = R ∨ W1 ≤ k) (fun k e => e.imp (fun h => h) (fun h => oW.out k h))).setCell (p := ⟨g, 3, none⟩) (.inr hgW) _

theorem own_slT {w : World} {base sz n c : Nat} {e : TypeId} {A : Option Addr} {xs : List Value} (h : w.ownsRow base e sz (.slice A n c) n xs) : SlT (fun k => base ≤ k ∧ k < w.heap.size) e w sz A n xs := by
  refine ⟨Sl.of_own h, fun hn => ?_⟩
  rcases h.2 with ⟨_, h0⟩ | ⟨g, cap, cur, hv, hg, hh, _⟩
  · omega
  · injection hv with h1
    exact ⟨g, 0, _, _, h1, ⟨hg, heap_lt hh⟩, hh⟩
def t2Phi (W : World) (R : Nat) (who text : List UInt8) (stamp : Int) : Nat → Value → World → Prop
  | 0, v, _ => v = .pointer (some ⟨R, 0, none⟩)
  | 1, v, _ => v = S who
  | 2, v, _ => v = .pointer (some ⟨R, 0, none⟩)
  | 3, v, _ => v = S text
  | 4, v, _ => v = .pointer (some ⟨R, 0, none⟩)
  | 5, v, _ => v = I stamp
  | 6, v, _ => v = txV who text stamp none 0 0
  | 7, v, w => ∃ g, v = .pointer (some ⟨g, 0, none⟩) ∧ W.heap.size ≤ g ∧ Blk w g 37 #[S [], S [], I 0, .slice none 0 0]
  | _, _, _ => True
theorem t2Phi_mono {W : World} {R : Nat} {who text : List UInt8} {stamp : Int} (hR : R < W.heap.size) : ∀ (j : Nat) (v : Value) (w w' : World), t2Phi W R who text stamp j v w → Fr (fun k => k = R) w w' → t2Phi W R who text stamp j v w' := by
  intro j v w w' h hf
  match j, h with
  | 0, h => exact h
  | 1, h => exact h
  | 2, h => exact h
  | 3, h => exact h
  | 4, h => exact h
  | 5, h => exact h
  | 6, h => exact h
  | 7, h =>
    obtain ⟨g, h1, h2, h3⟩ := h
    exact ⟨g, h1, h2, hf.blk h3 (by omega)⟩
  | (n + 8), _ => trivial
def t2J (W : World) (R W0 : Nat) (r : Rd) : Nat → Value → World → Prop
  | 0, _, w => RdAt w R W0 r ∧ Fr (fun k => k = R) W w
  | 1, _, w => RdAt w R W0 r.text.2 ∧ Fr (fun k => k = R) W w
  | 2, _, w => RdAt w R W0 r.text.2.text.2 ∧ Fr (fun k => k = R) W w
  | _, _, w => RdAt w R W0 r.text.2.text.2.num.2 ∧ Fr (fun k => k = R) W w
theorem t2J.step {W : World} {R W0 : Nat} {r : Rd} : ∀ (k : Nat) (u : Value) (w w' : World), t2J W R W0 r k u w → Below w.heap.size w w' → t2J W R W0 r k u w'
  | 0, _, _, _, h, hb => ⟨h.1.step hb, h.2.step hb⟩
  | 1, _, _, _, h, hb => ⟨h.1.step hb, h.2.step hb⟩
  | 2, _, _, _, h, hb => ⟨h.1.step hb, h.2.step hb⟩
  | (_ + 3), _, _, _, h, hb => ⟨h.1.step hb, h.2.step hb⟩
theorem t2J.fr {W : World} {R W0 : Nat} {r : Rd} : ∀ (k : Nat) (u : Value) (w : World), t2J W R W0 r k u w → Fr (fun k => k = R) W w
  | 0, _, _, h => h.2
  | 1, _, _, h => h.2
  | 2, _, _, h => h.2
  | (_ + 3), _, _, h => h.2
/-- while a transaction's changes are read: where it lies, what is there -/
structure TxSt (w0 : World) (R W0 W1 g B : Nat) (who text : List UInt8) (stamp : Int) (N : Nat) (r0 : Rd) (L : Nat) (k : Nat) (r : Rd) (w : World) : Prop where
  rd : RdAt w R W0 r
  fr : Fr (fun k => k = R ∨ W1 ≤ k) w0 w
  row : ∃ A n c l, Blk w g 37 #[S who, S text, I stamp, .slice A n c] ∧ w.ownsRow W1 58 5 (.slice A n c) n (chs l) ∧ goC k l r = goC N [] r0 ∧ (r.bad = false → n + r.b.length ≤ L) ∧ n ≤ L + 1

set_option maxHeartbeats 4000000 in
set_option maxRecDepth 100000 in
theorem txn_any (R W0 : Nat) (r : Rd) (w : World) (h : RdAt w R W0 r) (hn : r.b.length ≤ 900000000) :
    Calls Tryz.prog 38 #[.pointer (some ⟨R, 0, none⟩)] w fun e w' => ∃ A n c, e = .returned (txV r.txn.1.who r.txn.1.text r.txn.1.stamp A n c) ∧ RdAt w' R W0 r.txn.2 ∧ SlT (fun k => w.heap.size ≤ k ∧ k < w'.heap.size) 58 w' 5 A n (chs r.txn.1.chs) ∧ n ≤ 900000001 ∧ Fr (fun k => k = R) w w' := by
  have H := Lib.hid h
  have hRl := h.lt
  have hW0 : W0 ≤ R := by obtain ⟨_, _, _, _, _, _, _, _, h⟩ := h; exact h
  obtain ⟨who, hwho⟩ : ∃ s, s = r.text.1 := ⟨_, rfl⟩
  obtain ⟨text, htext⟩ : ∃ s, s = r.text.2.text.1 := ⟨_, rfl⟩
  obtain ⟨stamp, hstamp⟩ : ∃ s : Int, s = (r.text.2.text.2.num.1 : Int) := ⟨_, rfl⟩
  have CA : Hid (∀ W, RdAt W R W0 r → Calls Tryz.prog 35 #[.pointer (some ⟨R, 0, none⟩)] W (RetRd W R W0 (S who) r.text.2)) := Lib.hid (fun W h => by rw [hwho]; exact rdText_any R W0 r W h)
  have CB : Hid (∀ W, RdAt W R W0 r.text.2 → Calls Tryz.prog 35 #[.pointer (some ⟨R, 0, none⟩)] W (RetRd W R W0 (S text) r.text.2.text.2)) := Lib.hid (fun W h => by rw [htext]; exact rdText_any R W0 _ W h)
  have CC : Hid (∀ W, RdAt W R W0 r.text.2.text.2 → Calls Tryz.prog 62 #[.pointer (some ⟨R, 0, none⟩)] W (RetRd W R W0 (I stamp) r.text.2.text.2.num.2)) := Lib.hid (fun W h => by rw [hstamp]; exact rdNum_any R W0 _ W h)
  have HT : Hid (r.txn = (⟨who, text, stamp, (goC r.head.1 [] r.head.2).1⟩, (goC r.head.1 [] r.head.2).2)) := Lib.hid (by rw [hwho, htext, hstamp]; rfl)
  have hhl := head_len r
  rw [HT.out]
  clear h hwho htext hstamp
  obtain ⟨B, hB⟩ : ∃ B, B = w.heap.size := ⟨_, rfl⟩
  obtain ⟨wa, hwa⟩ : ∃ wa, wa = (w.alloc (.cells #[.pointer (some ⟨R, 0, none⟩)] 84)).alloc (.cells #[S [], S [], I 0, .slice none 0 0] 37) := ⟨_, rfl⟩
  have hba : Below w.heap.size w wa := by rw [hwa]; exact balloc (balloc (Below.refl _ w) _) _
  have hza : wa.heap.size = B + 2 := by rw [hwa, hB, World.size_alloc, World.size_alloc]
  have HZA := Lib.hid hza
  have hBB : Blk wa B 84 #[.pointer (some ⟨R, 0, none⟩)] := by rw [hwa, hB]; exact (Blk.new w _ _).alloc _
  have hBR : Blk wa (B + 1) 37 #[S [], S [], I 0, .slice none 0 0] := by
    rw [hwa, hB]
    have := Blk.new (w.alloc (.cells #[.pointer (some ⟨R, 0, none⟩)] 84)) 37 #[S [], S [], I 0, .slice none 0 0]
    rwa [World.size_alloc] at this
  have HBa := Lib.hid hba
  have HBB := Lib.hid hBB
  have HBR := Lib.hid hBR
  have HRa := Lib.hid (H.out.step hba)
  have nB : B ≠ R := by omega
  have HWA := Lib.hid hwa
  have HB0 := Lib.hid hB
  clear hba hBB hBR hwa
  have hBl : w.heap.size = B := hB.symm
  have HBl := Lib.hid hBl
  have hRB : R < B := by omega
  clear hB hBl hza
  go_enter Tryz.func38, Tryz.ntmps38
  go_wp2
  rw [← HWA.out, HBl.out]
  refine wp_region_chain (by kernel_rfl) 8 (by kernel_rfl) ?_ [1, 3, 5] (by kernel_rfl) (fun w w' => Fr (fun k => k = R) w w') (fun _ _ hb => Fr.of_below hb) (t2Phi wa R who text stamp) (t2Phi_mono (by have := HZA.out; omega)) (t2J wa R W0 r) t2J.step ⟨undef, HRa.out.step (below_drewN (Below.refl _ _) 1), (Fr.refl _ _).drew⟩ (fun i o hi hiC ho a w' k u hj hs hm => ?_) (fun t i o ht ho a w' u hj hs hm => ?_) (fun o ho a w' u hj hu hs hm => ?_)
  · exact dst_ltN (n := 15) (by kernel_rfl)
  · have hfr := t2J.fr _ _ _ hj
    exact match i, hi, hiC, ho with
    | 0, _, _, ho => by
        cases ho
        rw [if_pos (wanted_none _ rfl)]
        have hx : w'.cell? ⟨B, 0, none⟩ = some (.pointer (some ⟨R, 0, none⟩)) := (hfr.blk HBB.out nB).cell 0
        refine wp_value (st_load rfl ((hs.keeps (by kernel_rfl)).trans rfl) (by go_simp)) ⟨_, rfl, rfl, Below.refl _ _⟩
    | 1, _, hiC, _ => absurd (by decide) hiC
    | 2, _, _, ho => by
        cases ho
        rw [if_pos (wanted_none _ rfl)]
        have hx : w'.cell? ⟨B, 0, none⟩ = some (.pointer (some ⟨R, 0, none⟩)) := (hfr.blk HBB.out nB).cell 0
        refine wp_value (st_load rfl ((hs.keeps (by kernel_rfl)).trans rfl) (by go_simp)) ⟨_, rfl, rfl, Below.refl _ _⟩
    | 3, _, hiC, _ => absurd (by decide) hiC
    | 4, _, _, ho => by
        cases ho
        rw [if_pos (wanted_none _ rfl)]
        have hx : w'.cell? ⟨B, 0, none⟩ = some (.pointer (some ⟨R, 0, none⟩)) := (hfr.blk HBB.out nB).cell 0
        refine wp_value (st_load rfl ((hs.keeps (by kernel_rfl)).trans rfl) (by go_simp)) ⟨_, rfl, rfl, Below.refl _ _⟩
    | 5, _, hiC, _ => absurd (by decide) hiC
    | 6, _, _, ho => by
        cases ho
        rw [if_pos (wanted_none _ rfl)]
        have h1 := eval_getD (hm.get 1 5 (by kernel_rfl))
        have h2 := eval_getD (hm.get 3 7 (by kernel_rfl))
        have h3 := eval_getD (hm.get 5 9 (by kernel_rfl))
        unfold Oper.wp; simp only [execOp]; go_simp
        exact ⟨_, rfl, rfl, Below.refl _ _⟩
    | 7, _, _, ho => by
        cases ho
        rw [if_pos (wanted_none _ rfl)]
        have hz := hfr.size
        unfold Oper.wp; simp only [execOp]; go_simp
        exact ⟨_, rfl, ⟨_, rfl, hz, Blk.new w' _ _⟩, balloc (Below.refl _ w') _⟩
    | (n + 8), hi, _, _ => absurd hi (by omega)
  · exact match t, ht, hj with
    | 0, ht, hj => by
        cases ht
        cases ho
        have h1 := eval_getD (hm.get 0 4 (by kernel_rfl))
        unfold Oper.wp; simp only [execOp]; go_simp
        refine (CA.out w' hj.1).mono ?_
        rintro e w2 ⟨rfl, h2, f2⟩
        exact ⟨_, rfl, rfl, ⟨h2, hj.2.trans f2⟩, f2⟩
    | 1, ht, hj => by
        cases ht
        cases ho
        have h1 := eval_getD (hm.get 2 6 (by kernel_rfl))
        unfold Oper.wp; simp only [execOp]; go_simp
        refine (CB.out w' hj.1).mono ?_
        rintro e w2 ⟨rfl, h2, f2⟩
        exact ⟨_, rfl, rfl, ⟨h2, hj.2.trans f2⟩, f2⟩
    | 2, ht, hj => by
        cases ht
        cases ho
        have h1 := eval_getD (hm.get 4 8 (by kernel_rfl))
        unfold Oper.wp; simp only [execOp]; go_simp
        refine (CC.out w' hj.1).mono ?_
        rintro e w2 ⟨rfl, h2, f2⟩
        exact ⟨_, rfl, rfl, ⟨h2, hj.2.trans f2⟩, f2⟩
    | (n + 3), ht, _ => by cases ht
  · have e10 : a.eval (.tmp 10) = txV who text stamp none 0 0 := by cases ho; exact hm.get 6 10 (by kernel_rfl)
    obtain ⟨g, e3, hg0, hgB⟩ : ∃ g, a.eval (.tmp 3) = .pointer (some ⟨g, 0, none⟩) ∧ wa.heap.size ≤ g ∧ Blk w' g 37 #[S [], S [], I 0, .slice none 0 0] := by cases ho; exact hm.get 7 3 (by kernel_rfl)
    have hfr := hs.frame [3, 4, 5, 6, 7, 8, 9, 10] (by kernel_rfl)
    have HJ := Lib.hid hj
    have HG := Lib.hid hgB
    cases ho
    rw [hfr]
    simp only [List.foldl_cons, List.foldl_nil]
    clear hfr hs hm hu
    generalize a.eval (.tmp 4) = u4
    generalize a.eval (.tmp 5) = u5
    generalize a.eval (.tmp 6) = u6
    generalize a.eval (.tmp 7) = u7
    generalize a.eval (.tmp 8) = u8
    generalize a.eval (.tmp 9) = u9
    generalize a.eval (.tmp 3) = u3 at e3
    generalize a.eval (.tmp 10) = u10 at e10
    subst e3 e10
    have g0 := hgB.cell
    have g1 := hgB.frozen
    have g2 := hgB.lt
    clear hgB hj
    unfold Oper.wp
    simp only [execOp]
    go_simp
    clear a g0 g1
    have hza := HZA.out
    obtain ⟨w2, hw2⟩ : ∃ w2, w2 = (((w'.setCell ⟨g, 0, none⟩ (S who)).setCell ⟨g, 1, none⟩ (S text)).setCell ⟨g, 2, none⟩ (I stamp)).setCell ⟨g, 3, none⟩ (.slice none 0 0) := ⟨_, rfl⟩
    have hF2 : Fr (fun k => k = R) wa w2 := hw2 ▸ (((HJ.out.2.new (p := ⟨g, 0, none⟩) hg0 _).new (p := ⟨g, 1, none⟩) hg0 _).new (p := ⟨g, 2, none⟩) hg0 _).new (p := ⟨g, 3, none⟩) hg0 _
    have k1 := HG.out.set_ 0 (S who)
    have k2 := k1.set_ 1 (S text)
    have k3 := k2.set_ 2 (I stamp)
    have hG2 : Blk w2 g 37 #[S who, S text, I stamp, .slice none 0 0] := hw2 ▸ k3.set_ 3 (.slice none 0 0)
    have hR2 : RdAt w2 R W0 r.text.2.text.2.num.2 := hw2 ▸ (((HJ.out.1.far (p := ⟨g, 0, none⟩) HG.out (by decide) (by decide) (by omega) rfl (S who)).far (p := ⟨g, 1, none⟩) k1 (by decide) (by decide) (by omega) rfl _).far (p := ⟨g, 2, none⟩) k2 (by decide) (by decide) (by omega) rfl _).far (p := ⟨g, 3, none⟩) k3 (by decide) (by decide) (by omega) rfl _
    rw [← hw2]
    clear hw2 k1 k2 k3
    have HF2 := Lib.hid hF2
    have HR2 := Lib.hid hR2
    have HG2 := Lib.hid hG2
    have c1 := (hF2.blk HBB.out nB).cell
    clear hF2 hR2 hG2 HJ HG
    have C := Lib.hid (many_any R W0 64 #[.pointer (some ⟨g, 0, none⟩), .pointer (some ⟨B, 0, none⟩)] r.text.2.text.2.num.2 w2 HR2.out (enters_of Tryz.func64 (by kernel_rfl) rfl) (TxSt wa R W0 wa.heap.size g B who text stamp r.head.1 r.head.2 900000000)
      (fun w3 h3 f3 => ⟨h3, (HF2.out.trans f3).weak (fun k e => .inl e), none, 0, 0, [], f3.blk HG2.out (by omega), World.ownsRow_nil _ _ _ _, rfl, fun _ => by show 0 + r.head.2.b.length ≤ _; omega, Nat.zero_le _⟩)
      (fun k r w h => h.rd)
      (fun k r W hp hb => by
        obtain ⟨hrd, hfr, A, n, c, l, hB1, ho, hgo, hnl, hn1⟩ := hp
        have hnl' := hnl hb
        refine (tx1_any R W0 wa.heap.size g B n c A who text stamp l r W hrd (hfr.blk HBB.out (by omega)) hB1 ho (by omega) hg0 hfr.size (by omega)).mono ?_
        rintro e W' ⟨rfl, h1, ⟨A', c', h2, h3⟩, h4⟩
        refine ⟨true, _, rfl, h1, fun _ => ⟨h1, hfr.trans h4, A', n + 1, c', _, h2, h3, ?_, fun hb2 => ?_, by omega⟩, fun h => by cases h⟩
        · rw [← hgo, goC, if_neg (by rw [hb]; simp)]
        · have := (chg_len r).2.1 hb2
          omega))
    clear hza
    go_wp2_with fail
    refine C.out.mono ?_
    rintro e w3 ⟨rfl, k, r', hst, hk⟩
    obtain ⟨hrd, hfr3, A, n, c, l, hB3, ho3, hgo3, _, hn3⟩ := hst
    have hgo4 : goC r.head.1 [] r.head.2 = (l, r') := by
      rw [← hgo3]
      rcases hk with rfl | hb
      · rfl
      · cases k with
        | zero => rfl
        | succ k => rw [goC, if_pos hb]
    have HGO := Lib.hid hgo4
    have HRD := Lib.hid hrd
    have HFR := Lib.hid hfr3
    have HB3 := Lib.hid hB3
    have HO3 := Lib.hid ho3
    have HBR3 := Lib.hid (hfr3.blk HBR.out (by have := HZA.out; omega))
    have d0 := hB3.cell
    have d1 := HBR3.out.cell
    have d2 := HBR3.out.frozen
    have d3 := HBR3.out.lt
    clear hrd hfr3 hB3 ho3 hgo3 hgo4 hk C c1
    go_wp2
    have k1 := HBR3.out.set_ 0 (S who)
    have k2 := k1.set_ 1 (S text)
    have k3 := k2.set_ 2 (I stamp)
    have k4 := k3.set_ 3 (.slice A n c)
    have cc := k4.cell
    have hza := HZA.out
    have hsz := HFR.out.size
    refine bodyPost_ret (v := txV who text stamp A n c) ?_ rfl ?_
    · simp [results, Tryz.results38, go_sem, cc]
    rw [HGO.out]
    refine ⟨A, n, c, rfl, ?_, ?_, hn3, ?_⟩
    · exact (((HRD.out.far (p := ⟨B + 1, 0, none⟩) HBR3.out (by decide) (by decide) (by omega) rfl _).far (p := ⟨B + 1, 1, none⟩) k1 (by decide) (by decide) (by omega) rfl _).far (p := ⟨B + 1, 2, none⟩) k2 (by decide) (by decide) (by omega) rfl _).far (p := ⟨B + 1, 3, none⟩) k3 (by decide) (by decide) (by omega) rfl _
    · have hf : Fr (fun k => k = B + 1) w3 _ := ((((Fr.refl (fun k => k = B + 1) w3).setCell (p := ⟨B + 1, 0, none⟩) rfl (S who)).setCell (p := ⟨B + 1, 1, none⟩) rfl (S text)).setCell (p := ⟨B + 1, 2, none⟩) rfl (I stamp)).setCell (p := ⟨B + 1, 3, none⟩) rfl (.slice A n c)
      refine ((own_slT HO3.out).weak (fun k hk h => ?_)).keep (KeepT.of_fr hf (fun k cs fr e => by subst e; exact HBR3.out.type (by decide) cs fr))
      have h1 : wa.heap.size ≤ k := h.1
      have h2 : k < w3.heap.size := h.2
      have h3 := HBl.out
      refine ⟨by omega, by simp only [setCell_size]; exact h2⟩
    · have hf : Fr (fun k => k = R) w w3 := ⟨HFR.out.os.trans HBa.out.os, HFR.out.tape.trans HBa.out.tape, HFR.out.output.trans HBa.out.output, Nat.le_trans HBa.out.size hsz, fun k hk he => (HFR.out.block k (by have := HBl.out; omega) (fun e => Or.elim e he (fun e => by have := HBl.out; omega))).trans (HBa.out.block k hk)⟩
      have h3 := HBl.out
      exact (((hf.new (p := ⟨B + 1, 0, none⟩) (by show w.heap.size ≤ B + 1; omega) _).new (p := ⟨B + 1, 1, none⟩) (by show w.heap.size ≤ B + 1; omega) _).new (p := ⟨B + 1, 2, none⟩) (by show w.heap.size ≤ B + 1; omega) _).new (p := ⟨B + 1, 3, none⟩) (by show w.heap.size ≤ B + 1; omega) _
end Go.Proofs.YtegehaokfcamfaaGreatDoor
