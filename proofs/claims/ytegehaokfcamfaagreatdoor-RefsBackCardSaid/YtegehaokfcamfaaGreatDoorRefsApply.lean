/-
  refs.Book.Apply. Conditions: the book lies in its home, the changes read as a list outside of it; MaxLen holds an int and lies outside of the home.
-/
import Derived.Test.YtegehaokfcamfaaGreatDoorKitZ
import Derived.Test.YtegehaokfcamfaaGreatDoorRefsCopy
import Derived.Deep.RegionLaw
import Derived.StillTailTactics
import Derived.WalkSpells
import Derived.Deep.RegionHeld3
namespace Go.Proofs.YtegehaokfcamfaaGreatDoor
open Go.RowKit
open RefsLaw (named okc Val Chg Txn there rightV zv rightT okChs goodC Refs Book Inv fits putAll put)

theorem BookAt.weak {w : World} {p : Nat} {H G : Nat → Prop} {bk : Book} {z y : Nat} (h : BookAt w p H bk z) (hH : ∀ k, k < w.heap.size → H k → G k) (hz : z ≤ y) : BookAt w p G bk y := by
  obtain ⟨m, A, n, c, xs, cnt, h⟩ := h
  exact ⟨m, A, n, c, xs, cnt, h.blk, h.map, h.row, hH p h.blk.lt h.hp, hH m h.map.lt h.hm, fun g hg => hH g (h.row.lt g hg).2 (h.hrow g hg), h.txns, fun x hx => (h.chg x hx).weak hH, h.inv, ⟨Nat.le_trans h.cap.1 (Nat.mul_le_mul_right _ hz), Nat.le_trans h.cap.2 hz⟩⟩
theorem fits_snoc {f : Refs} {l : List Chg} {k : Nat} {x : Chg} (h : fits f (l.take k) = true) (hx : l[k]? = some x) (he : f x.ref = x.old) : fits f (l.take (k + 1)) = true := by
  rw [List.take_add_one, hx, fits, List.all_append, ← fits, h]
  simp [he]
theorem fits_bad {f : Refs} {l : List Chg} {k : Nat} {x : Chg} (hx : l[k]? = some x) (he : ¬ f x.ref = x.old) : fits f l = false := by
  rw [fits, List.all_eq_false]
  exact ⟨x, List.mem_of_getElem? hx, by simpa using he⟩
theorem optF_put {f : Refs} {s : List UInt8} {v : Val} (hv : v ≠ zv) : upd (optF f) s (some v) = optF (put f s v) := by
  funext y
  unfold upd optF put
  by_cases h : y = s <;> simp [h, hv]
theorem optF_del {f : Refs} {s : List UInt8} {v : Val} (hv : v = zv) (o : Option Val) : upd (upd (optF f) s o) s none = optF (put f s v) := by
  funext y
  unfold upd optF put
  by_cases h : y = s <;> simp [h, hv]
theorem putAll_snoc {f : Refs} {l : List Chg} {k : Nat} {x : Chg} (hx : l[k]? = some x) : putAll f (l.take (k + 1)) = put (putAll f (l.take k)) x.ref x.new := by
  rw [List.take_add_one, hx, putAll, List.foldl_append]
  rfl
theorem there_ne {v : Val} (h : there v = true) : v ≠ zv := by
  rintro rfl
  rw [there_iff] at h
  rcases h with ⟨h, _⟩ | ⟨_, h⟩
  · simp [zv] at h
  · have : named ([] : List UInt8) = false := by decide +kernel
    rw [show zv.name = [] from rfl, this] at h
    cases h
theorem MaxL.fr {E : Nat → Prop} {w w' : World} (h : MaxL w) (hf : Fr E w w') (hE : ¬ E 0) : MaxL w' := by
  have hl := h.lt
  obtain ⟨m, hm⟩ := h
  exact ⟨m, (hf.cell (p := ⟨0, 0, none⟩) hl hE).trans hm⟩
theorem apply_fit {bk : Book} {t : Txn} (h : rightT t = true) (hf : fits bk.f t.chs = true) : RefsLaw.apply bk t = (0, ⟨putAll bk.f t.chs, bk.txns ++ [t]⟩) := by rw [RefsLaw.apply, if_pos h, if_pos hf]
theorem apply_old {bk : Book} {t : Txn} (h : rightT t = true) (hf : fits bk.f t.chs = false) : RefsLaw.apply bk t = (8, bk) := by rw [RefsLaw.apply, if_pos h, if_neg (by simp [hf])]
theorem sl_tx (w : World) (t : TypeId) (x : TxG) : Sl (w.alloc (.cells #[S x.who, S x.text, I x.stamp, .slice x.A x.n x.c] t)) 4 (some ⟨w.heap.size, 0, none⟩) 1 (txs [x]) := by
  refine ⟨by simp [txs, TxG.cells], fun _ => ⟨_, _, rfl, by simp, fun k hk => ?_⟩⟩
  rw [Nat.zero_add]
  simp [txs, TxG.cells]
theorem rightT_len {t : Txn} (h : rightT t = true) : t.chs.length ≤ 4096 := by
  simp only [rightT, Bool.and_eq_true, decide_eq_true_eq] at h
  exact h.2
theorem own_step {w w' : World} {base sz n : Nat} {e : TypeId} {v : Value} {xs : List Value} (h : w.ownsRow base e sz v n xs) (hb : Below w.heap.size w w') : w'.ownsRow base e sz v n xs := by
  refine h.kept (row := none) ⟨hb.os, hb.tape, hb.output, hb.size, fun k hk _ => hb.block k hk⟩ ?_
  rcases hv : v.ownBlock with _ | g
  · exact .inl rfl
  · exact .inr (by simp)
theorem row_ne0 {w : World} {base sz n g : Nat} {e t : TypeId} {v : Value} {xs : List Value} {cs : Array Value} (h : w.ownsRow base e sz v n xs) (hg : Blk w g t cs) (hne : e ≠ t) : some g ≠ v.ownBlock := by
  intro he
  exact own_type h hne g he.symm cs (0, 0) hg
section
variable {P : Program} (w : World)
/-- append onto a row of one's own, inside a statement that draws its order; where the row lies then -/
theorem step_append_at {ops : Array Oper} {o : Oper} {a : Act} {K : Act → World → Prop} {Q : Exit → Act → World → Prop} {X : Prop} (hgd : o.guard = none) (s x : Operand) (t : TypeId)
    (ho : o.op = .call { callee := .builtin .append, args := #[s, x], argTypes := #[t, t] })
    (base : Nat) (e : TypeId) (i : TypeInfo) (z : Value) (size bytes : Nat) (ht : P.underlying t = some (.slice e)) (hi : P.info? e = some i) (hz : i.zero = some z)
    (hsize : i.size = size) (hby : i.bytes = bytes) (hzs : z.cells.size = size) (hsz : 0 < size)
    (Ad : Option Addr) (n cd : Nat) (xs : List Value) (hs : a.eval s = .slice Ad n cd) (hown : w.ownsRow base e size (.slice Ad n cd) n xs) (hbase : base ≤ w.heap.size)
    (A : Option Addr) (m c : Nat) (news : List Value) (hx : a.eval x = .slice A m c) (hr : Sl w size A m news) (h1 : ∀ u ∈ news, u.oneCell' = true)
    (h63 : n + m ≤ maxLen) (hbytes : (n + m) * bytes ≤ 140737488355328)
    (h : ∀ A' c' w', w'.ownsRow base e size (.slice A' (n + m) c') (n + m) (xs ++ news) → w.grownBy w' (Value.slice Ad n cd).ownBlock → ((Value.slice A' (n + m) c').ownBlock = (Value.slice Ad n cd).ownBlock ∨ (Value.slice A' (n + m) c').ownBlock = some w.heap.size) → K (a.put o.dst (.slice A' (n + m) c')) w') :
    if Region.wanted o (yielded ops a.tmps) = true then Oper.wp P o a w K Q else X := by
  have hw : Region.wanted o (yielded ops a.tmps) = true := by simp [Region.wanted, hgd]
  rw [if_pos hw]
  obtain ⟨A', c', w', hrun, h2, h3, h4⟩ := run_append_sl (P := P) w base t o.type e i z size bytes ht hi hz hsize hby hzs hsz _ n xs hown A m c news hr h1 h63 hbytes hbase
  unfold Oper.wp execOp
  simp only [ho, resolve, invoke, builtin, Sem.run_bind, Sem.run_pure, Result.andThen_ok, List.map_toArray, List.map_cons, List.map_nil, hs, hx, hrun]
  exact h A' c' w' h2 h3 h4
end
theorem below_undrew {w w' : World} (h : Below w.drew.heap.size w.drew w') : Below w.heap.size w w' := ⟨h.os, h.tape, h.output, h.size, h.block⟩
/-- what is appended, and laid into the book -/
theorem apply_end {w wo wr W6 w6 : World} {p m nb cb cnt cn j z c3 : Nat} {H N : Nat → Prop} {bk : Book} {Ab A3 : Option Addr} {xs : List TxG} {x : TxG} {l : List Chg} (hI : BookIn wo p H bk z m Ab nb cb xs cnt) (q : Below w.heap.size w wo) (hf : Fr (fun g => g = m) wo wr)
    (hm : MapIs refsC wr m cn (optF (putAll bk.f l))) (hcn : cn ≤ cnt + j) (hj : j ≤ 4096) (b6 : Below wr.heap.size wr W6) (hnew : SlT N 58 W6 5 x.A x.n (chs x.chs)) (hN : ∀ k, k < W6.heap.size → N k → wr.heap.size ≤ k)
    (hrow : W6.ownsRow 0 37 4 (.slice Ab nb cb) nb (txs xs)) (hB7 : Blk w6 p 73 #[.map (some m), .slice Ab nb cb])
    (hO : w6.ownsRow 0 37 4 (.slice A3 (nb + 1) c3) (nb + 1) (txs xs ++ txs [x])) (hg : W6.grownBy w6 (Value.slice Ab nb cb).ownBlock) (hat : (Value.slice A3 (nb + 1) c3).ownBlock = (Value.slice Ab nb cb).ownBlock ∨ (Value.slice A3 (nb + 1) c3).ownBlock = some W6.heap.size)
    (hinv : Inv ⟨putAll bk.f l, bk.txns ++ [x.txn]⟩) :
    BookAt (w6.setCell ⟨p, 1, none⟩ (.slice A3 (nb + 1) c3)) p (ext H w (w6.setCell ⟨p, 1, none⟩ (.slice A3 (nb + 1) c3))) ⟨putAll bk.f l, bk.txns ++ [x.txn]⟩ (z + 1) ∧ Fr H w (w6.setCell ⟨p, 1, none⟩ (.slice A3 (nb + 1) c3)) := by
  have k0 : KeepT 58 wo wr := KeepT.of_fr hf (fun g cs fr e => by subst e; exact hI.map.no_cells cs fr)
  have k1 : KeepT 58 W6 (w6.setCell ⟨p, 1, none⟩ (.slice A3 (nb + 1) c3)) := ((KeepT.refl _ W6).grown hg (fun k hk => own_type hrow (by decide) k hk)).setCell hB7 (by decide) rfl _
  have k2 : KeepT 58 wo (w6.setCell ⟨p, 1, none⟩ (.slice A3 (nb + 1) c3)) := (k0.step b6).trans k1
  have hmp : m ≠ p := hI.map.ne_blk hI.blk
  have hm6 := hm.step b6
  have z0 := q.size
  have z1 := hf.size
  have z2 := b6.size
  have z3 := hg.size
  have hsz : (w6.setCell ⟨p, 1, none⟩ (.slice A3 (nb + 1) c3)).heap.size = w6.heap.size := setCell_size _ _ _
  refine ⟨⟨m, A3, nb + 1, c3, xs ++ [x], cn, ?_⟩, ?_⟩
  · refine ⟨hB7.set_ 1 _, (hm6.grown hg (hm6.ne_own hrow)).far hmp _, by rw [txs_append]; exact own_far hO (row_ne0 hO hB7 (by decide)) _, .inl hI.hp, .inl hI.hm, fun g hgo => ?_, by rw [List.map_append, hI.txns]; rfl, fun y hy => ?_, hinv, ?_⟩
    · rcases hat with e | e
      · exact .inl (hI.hrow g (e ▸ hgo))
      · rw [e] at hgo
        cases hgo
        have := (hO.lt _ e).2
        exact .inr ⟨by omega, by omega⟩
    · rcases List.mem_append.1 hy with hy | hy
      · exact ((hI.chg y hy).keep k2).weak (fun k _ h => .inl h)
      · rw [List.mem_singleton] at hy
        subst hy
        exact (hnew.weak (G := ext H w (w6.setCell ⟨p, 1, none⟩ (.slice A3 (nb + 1) c3))) (fun k hk hN' => .inr ⟨by have := hN k hk hN'; omega, by omega⟩)).keep k1
    · have := hI.cap
      exact ⟨by omega, by omega⟩
  · exact ((((Fr.of_below q).trans (hf.weak (fun g e => e ▸ hI.hm))).trans (Fr.of_below b6)).trans (Fr.of_grown hg hI.hrow)).setCell hI.hp _

theorem right_not {v : Val} (h : rightV v = true) (h2 : there v = false) : v = zv := by
  simp only [rightV, h2, Bool.or_false, decide_eq_true_eq] at h
  exact h

set_option maxHeartbeats 4000000 in
set_option maxRecDepth 100000 in
theorem apply_bad (w : World) (p : Nat) (t : TxG) (G : Nat → Prop) (ht : SlT G 58 w 5 t.A t.n (chs t.chs)) (hn : t.n ≤ 1759218604390) (hs : ∀ c ∈ t.chs, c.ref.length ≤ maxLen) (hM : MaxL w) (hr : rightT t.txn = false) :
    Calls Tryz.prog 9 #[.pointer (some ⟨p, 0, none⟩), txV t.who t.text t.stamp t.A t.n t.c] w fun e w' => e = .returned (I 1) ∧ Below w.heap.size w w' := by
  obtain ⟨who, text, stamp, A, n, c, l⟩ := t
  have b0 := balloc (Below.refl _ w) (.cells #[S who, S text, I stamp, .slice A n c] 37)
  have C := Lib.hid (rightT_any who text stamp A n c l _ (ht.sl.below b0) hn hs (hM.step b0))
  rw [show rightT ⟨who, text, stamp, l⟩ = false from hr] at C
  clear ht hr b0
  go_enter Tryz.func9, Tryz.ntmps9
  go_wp2_with (go_at_call 25; refine C.out.mono ?_; rintro e w1 ⟨rfl, b1⟩)
  go_ret
  exact ⟨rfl, bstep (balloc (Below.refl _ w) _) b1⟩

set_option maxHeartbeats 4000000 in
set_option maxRecDepth 100000 in
theorem apply_ok (w : World) (p : Nat) (H : Nat → Prop) (bk : Book) (z : Nat) (t : TxG) (G : Nat → Prop) (hB : BookAt w p H bk z) (hz : z ≤ 1000000) (ht : SlT G 58 w 5 t.A t.n (chs t.chs)) (hn : t.n ≤ 1759218604390) (hs : ∀ c ∈ t.chs, c.ref.length ≤ maxLen) (hM : MaxL w) (hH : ¬ H 0) (hr : rightT t.txn = true) :
    Calls Tryz.prog 9 #[.pointer (some ⟨p, 0, none⟩), txV t.who t.text t.stamp t.A t.n t.c] w fun e w' => e = .returned (I ((RefsLaw.apply bk t.txn).1 : Nat)) ∧ BookAt w' p (ext H w w') (RefsLaw.apply bk t.txn).2 (z + 1) ∧ Fr H w w' := by
  obtain ⟨who, text, stamp, A, n, c, l⟩ := t
  have hlen := Lib.hid (chs_count ht.sl)
  have hok := Lib.hid (RefsLaw.rightT_chs hr)
  have b0 := balloc (Below.refl _ w) (.cells #[S who, S text, I stamp, .slice A n c] 37)
  have C := Lib.hid (rightT_any who text stamp A n c l _ (ht.sl.below b0) hn hs (hM.step b0))
  rw [show rightT ⟨who, text, stamp, l⟩ = true from hr] at C
  have HR := Lib.hid hr
  have HT := Lib.hid ht
  have HB := Lib.hid hB
  have HS := Lib.hid hs
  have HM := Lib.hid hM
  have HH := Lib.hid hH
  have kN := neq_val
  have kG := guard_val
  clear ht hr b0 hB hs hM hH
  go_enter Tryz.func9, Tryz.ntmps9
  go_wp2_with (go_at_call 25; refine C.out.mono ?_; rintro e w1 ⟨rfl, b1⟩; have q1 := Lib.hid (bstep (balloc (Below.refl _ w) _) b1); have R1 := Lib.hid ((Blk.new w 37 #[S who, S text, I stamp, .slice A n c]).step b1); have r1 := R1.out.cell; clear b1)
  go_loopw [19] (fun i wr => ∃ k : Nat, k ≤ n ∧ i = .int .i64 k ∧ Below w1.heap.size w1 wr ∧ Hid (fits bk.f (l.take k) = true)) (fun i _ => n - (intOf i).toNat)
  case atStart => exact ⟨0, Nat.zero_le _, rfl, Below.refl _ _, Lib.hid rfl⟩
  case round =>
    obtain ⟨k, hk, rfl, hb, hf⟩ := hrel
    have qr := Lib.hid (bstep q1.out hb)
    by_cases hlt : k < n
    · obtain ⟨b, off, x, rfl, _, hx, x0, x1, x2, x3, x4⟩ := (HT.out.step qr.out).sl.chg hlt
      have hg := HS.out x (List.mem_of_getElem? hx)
      have Hx := Lib.hid hx
      have rc := (Blk.new wr 58 #[S x.ref, S x.old.id, S x.old.name, S x.new.id, S x.new.name]).cell
      have C2 := Lib.hid (value_any (wr.alloc (.cells #[S x.ref, S x.old.id, S x.old.name, S x.new.id, S x.new.name] 58)).drew p H bk z x.ref (HB.out.step ((balloc qr.out _).drew)) hg)
      have Hb := Lib.hid hb
      clear hx r1 hb
      rcases he : eqV (bk.f x.ref).id (bk.f x.ref).name x.old.id x.old.name with _ | _
      all_goals
        go_wp2
        go_region_law (go_simp; go_at_call_of 26 (Value.pointer (some ⟨p, 0, none⟩)); refine C2.out.mono ?_; rintro e w2 ⟨rfl, b2⟩; have rc2 := ((Blk.new wr 58 #[S x.ref, S x.old.id, S x.old.name, S x.new.id, S x.new.name]).drew.step b2).cell)
        all_goals go_wp2
        all_goals first
          | (go_roundw
             case rel => exact ⟨k + 1, by omega, by go_num, bstep ((balloc Hb.out _).drew) b2, Lib.hid (fits_snoc hf.out Hx.out (eqV_iff.1 he))⟩
             case measure => simp [intOf]; omega)
          | (go_ret
             have hq : Below w.heap.size w w2 := bstep ((balloc qr.out _).drew) b2
             exact ⟨by rw [apply_old HR.out (fits_bad Hx.out (eqV_not.1 he))]; rfl, by rw [apply_old HR.out (fits_bad Hx.out (eqV_not.1 he))]; exact (HB.out.step hq).weak (fun _ _ h => .inl h) (Nat.le_succ z), Fr.of_below hq⟩)
    · obtain rfl : k = n := by omega
      rw [List.take_of_length_le (by rw [hlen.out]; exact Nat.le_refl _)] at hf
      obtain ⟨m, Ab, nb, cb, xs, cnt, hI⟩ := HB.out.step qr.out
      obtain ⟨wo, hwo⟩ : ∃ wo, wo = wr := ⟨_, rfl⟩
      subst hwo
      have kM := fun W => run_eql_map_nil (P := Tryz.prog) W 71 9 43 (some m) Tryz.underlying71
      have rb := hI.blk.cell
      have R2 := Lib.hid (R1.out.step hb)
      have r2 := R2.out.cell
      have HI := Lib.hid hI
      have hmg : ¬ m = 0 := fun e => HH.out (e ▸ hI.hm)
      have HMo := Lib.hid (HM.out.step qr.out)
      clear hI r1 hb
      go_wp2
      go_loopw [43] (fun i wr => ∃ j cn : Nat, j ≤ k ∧ i = .int .i64 j ∧ cn ≤ cnt + j ∧ MapIs refsC wr m cn (optF (putAll bk.f (l.take j))) ∧ Fr (fun g => g = m) wo wr) (fun i _ => k - (intOf i).toNat)
      case atStart => exact ⟨0, cnt, Nat.zero_le _, rfl, Nat.le_refl _, HI.out.map, Fr.refl _ _⟩
      case round =>
        obtain ⟨j, cn, hj, rfl, hcn, hmap, hfr⟩ := hrel
        have hBk : Blk wr p 73 #[.map (some m), .slice Ab nb cb] := hfr.blk HI.out.blk (fun e => HI.out.map.ne_blk HI.out.blk e.symm)
        have hTr : SlT G 58 wr 5 A k (chs l) := (HT.out.step qr.out).keep (KeepT.of_fr hfr (fun g cs fr e => by subst e; exact HI.out.map.no_cells cs fr))
        have Hfr := Lib.hid hfr
        have Hcn := Lib.hid hcn
        clear hfr rb
        by_cases hlt : j < k
        · obtain ⟨b, off, x, rfl, _, hx, x0, x1, x2, x3, x4⟩ := hTr.sl.chg hlt
          have hg := HS.out x (List.mem_of_getElem? hx)
          have hgood := (RefsLaw.okChs_good hok.out x (List.mem_of_getElem? hx)).1
          have hrv := Lib.hid ((goodC_iff x).1 hgood).2.2.1
          have Hx := Lib.hid hx
          have HC := Lib.hid (Blk.new wr 58 #[S x.ref, S x.old.id, S x.old.name, S x.new.id, S x.new.name])
          have HBk := Lib.hid (hBk.alloc (.cells #[S x.ref, S x.old.id, S x.old.name, S x.new.id, S x.new.name] 58))
          have HF1 := Lib.hid (Hfr.out.alloc (.cells #[S x.ref, S x.old.id, S x.old.name, S x.new.id, S x.new.name] 58))
          have rc := HC.out.cell
          have rb := HBk.out.cell
          have hm1 := hmap.alloc (.cells #[S x.ref, S x.old.id, S x.old.name, S x.new.id, S x.new.name] 58)
          have hcm : cn < maxLen := by have := HI.out.cap; simp only [maxLen]; omega
          clear hx hTr hmap hBk hgood hcn
          rcases hth : there x.new with _ | _
          all_goals
            have Hth := Lib.hid hth
            go_wp2
            generalize hW1 : wr.alloc (.cells #[S x.ref, S x.old.id, S x.old.name, S x.new.id, S x.new.name] 58) = W1 at *
            clear hW1 x0 x1 x2 x3 x4
            go_still_tail 8, (by kernel_rfl)
            go_wp2_with (first
              | (at_mapUpdate; refine wpList_store _ rfl _ _ _ 71 rfl refsC Tryz.underlying71 m cn _ rfl hm1.drew hcm x.ref rfl hg x.new rfl ?_; intro W2 hm2 hg2; have HF2 := Lib.hid (HF1.out.drew.trans (Fr.of_grown hg2 (fun g e => by cases e; rfl))); have HC2 := Lib.hid (HC.out.drew.grown hg2 (fun e => by cases e; exact hm1.ne_blk HC.out rfl)); have HB2 := Lib.hid (HBk.out.drew.grown hg2 (fun e => by cases e; exact hm1.ne_blk HBk.out rfl)); have rc2 := HC2.out.cell; have hM2 := Lib.hid (HMo.out.fr HF2.out (fun e => hmg e.symm)))
              | (go_at_call 27; refine (there_any x.new _ hM2.out).mono ?_; rintro e W3 ⟨rfl, b3⟩; have rc3 := (HC2.out.step b3).cell; have rb3 := (HB2.out.step b3).cell; have hm3 := hm2.step b3; have HF3 := Lib.hid (HF2.out.step b3)))
          · go_still_tail 6, (by kernel_rfl)
            go_wp2_with (at_delete; refine wpList_drop _ rfl _ _ 71 rfl refsC Tryz.underlying71 m (cn + 1) _ rfl hm3.drew x.ref rfl hg ?_; intro W4 hm4 hg4)
            go_roundw
            case rel => exact ⟨j + 1, cn + 1, by omega, by go_num, by have := Hcn.out; omega, by rw [putAll_snoc Hx.out, ← optF_del (right_not hrv.out Hth.out) (some x.new)]; exact hm4, HF3.out.drew.trans (Fr.of_grown hg4 (fun g e => by cases e; rfl))⟩
            case measure => simp [intOf]; omega
          · go_roundw
            case rel => exact ⟨j + 1, cn + 1, by omega, by go_num, by have := Hcn.out; omega, by rw [putAll_snoc Hx.out, ← optF_put (there_ne Hth.out)]; exact hm3, HF3.out⟩
            case measure => simp [intOf]; omega
        · obtain rfl : j = k := by omega
          rw [List.take_of_length_le (by rw [hlen.out]; exact Nat.le_refl _)] at hmap
          have hn96 : j ≤ 4096 := by
            have h1 := rightT_len HR.out
            have h2 := hlen.out
            have h3 : l.length ≤ 4096 := h1
            omega
          have hHfr : Fr H wo wr := Hfr.out.weak (fun g e => e ▸ HI.out.hm)
          have hrow : wr.ownsRow 0 37 4 (.slice Ab nb cb) nb (txs xs) := HI.out.row.kept (row := some m) ⟨Hfr.out.os, Hfr.out.tape, Hfr.out.output, Hfr.out.size, fun g hg hne => Hfr.out.block g hg (fun e => hne (by rw [e]))⟩ (.inr (fun e => HI.out.map.ne_own HI.out.row e.symm))
          have hkeep : KeepT 58 wo wr := KeepT.of_fr Hfr.out (fun g cs fr e => by subst e; exact HI.out.map.no_cells cs fr)
          have hR : Blk wr w.heap.size 37 #[S who, S text, I stamp, .slice A j c] := Hfr.out.blk R2.out (fun e => HI.out.map.ne_blk R2.out e.symm)
          have r3 := hR.cell
          have rb := hBk.cell
          have C5 := Lib.hid (copied_any ⟨who, text, stamp, A, j, c, l⟩ wr.drew (hTr.sl.drew) (by show j * 80 ≤ _; omega))
          obtain ⟨i0, hi0, hi1, hi2, hi3⟩ := info_parts Tryz.infoTxn
          have hnb := HI.out.cap.2
          have q1 : nb + 1 ≤ maxLen := by simp only [maxLen]; omega
          have q2 : (nb + 1) * 64 ≤ 140737488355328 := by omega
          have Hrow := Lib.hid hrow
          have HBk := Lib.hid hBk
          have Hm := Lib.hid hmap
          have HTr := Lib.hid hTr
          have Hcn := Lib.hid hcn
          have Hk2 := Lib.hid hkeep
          have HF2 := Lib.hid hHfr
          clear hTr hBk hR hmap hrow hkeep hHfr hnb hcn kM
          go_wp2
          go_region_law (first
            | (go_simp; go_at_call 24; refine C5.out.mono ?_; rintro e w5 ⟨A5, c5, rfl, hS5, b5⟩; have hB5 := HBk.out.drew.step b5; have rb5 := hB5.cell; have b6 := bstep b5 (balloc (Below.refl _ w5) (.cells #[S who, S text, I stamp, .slice A5 j c5] 37)); have hrow6 := own_step (w := wr.drew) Hrow.out b6; have hSx := sl_tx w5 37 ⟨who, text, stamp, A5, j, c5, l⟩; have hB6 := HBk.out.drew.step b6; have rb6 := hB6.cell; have hnew := Lib.hid (hS5.step (balloc (Below.refl _ w5) (.cells #[S who, S text, I stamp, .slice A5 j c5] 37))))
            | (refine step_append_at _ (by rfl) (.tmp 70) (.tmp 73) _ (by rfl) 0 37 i0 _ 4 64 Tryz.underlying61 hi0 hi1 hi2 hi3 rfl (by decide) Ab nb cb _ (by rfl) hrow6 (Nat.zero_le _) _ 1 1 (txs [⟨who, text, stamp, A5, j, c5, l⟩]) (by rfl) hSx (one_txs _) q1 q2 ?_; intro A3 c3 w6 hO3 hg3 hr3; have hB7 := Lib.hid (hB6.grown hg3 (row_ne0 hrow6 hB6 (by decide))); have k6 := hB7.out.cell; have f6 := hB7.out.frozen))
          go_wp2
          all_goals
            go_ret
            have hinv : Inv ⟨putAll bk.f l, bk.txns ++ [TxG.txn ⟨who, text, stamp, A5, j, c5, l⟩]⟩ := by
              have := RefsLaw.inv_apply HI.out.inv (TxG.txn ⟨who, text, stamp, A, j, c, l⟩)
              rw [apply_fit HR.out hf.out] at this
              exact this
            have hend := apply_end (x := ⟨who, text, stamp, A5, j, c5, l⟩) HI.out qr.out Hfr.out Hm.out Hcn.out hn96 (below_undrew b6) hnew.out (fun g _ h => h.1) hrow6 hB7.out hO3 hg3 hr3 hinv
            exact ⟨by rw [apply_fit HR.out hf.out]; rfl, by rw [apply_fit HR.out hf.out]; exact hend.1, hend.2⟩
end Go.Proofs.YtegehaokfcamfaaGreatDoor
