/-
  tree.Check at files in order, rightly named, none under another. Conditions: no more than 4096; MaxLen holds an int.
-/
import Derived.Test.YtjcelelgebohkaaDoorIdxFind
import Derived.Test.YtjcelelgebohkaaDoorAnyGuards
import Derived.Test.YtjcelelgebohkaaDoorIdxMade
import Derived.Laws.RangeString
import Derived.Laws.RangeAny
namespace Go.Proofs.YtjcelelgebohkaaDoor
open Go.RowKit
open PathLaw (named under)

def rdI : Value → Option (DataW Unit × List MemPlace)
  | .int .i64 n => some (.lit (.int .i64 n), [])
  | _ => none
theorem lit_inj {a b : List UInt8} (h : Lit.string a = Lit.string b) : a = b := by injection h
/-- map[string]int -/
def seenC : Coding Tryd.prog 9 3 (List UInt8) Int where
  kv := S
  kl := Lit.string
  vv := I
  vd n := .lit (.int .i64 n)
  R := rdI
  good s := s.length ≤ maxLen
  keyed := Maps.string_keyed Tryd.underlying9
  key s h := by
    have := WideMaps.keyOf_string_mk (P := Tryd.prog) Tryd.underlying9 (s := ⟨s.toArray⟩) (by rw [size_mk]; exact h)
    simpa using this
  inj _ _ _ _ h := lit_inj h
  enc _ := rfl
  dec v a ps h := by
    unfold rdI at h
    split at h
    · simp only [Option.some.injEq, Prod.mk.injEq, DataW.lit.injEq, Lit.int.injEq, true_and] at h
      rw [h.1]
    · cases h
theorem Tryd.zeroI (w : World) : (zeroValue 3).run Tryd.prog w = .ok (seenC.vv 0) w := by kernel_rfl
section
variable {P : Program} (w : World) {ops : Array Oper} {rest : List Oper} {o : Oper} {a : Act} {Q : Exit → Act → World → Prop} {k e : TypeId} {κ α : Type}
/-- a look-up whose guard is met -/
theorem wpList_lookG (hw : Region.wanted o (yielded ops a.tmps) = true) (m x : Operand) (t : TypeId) (hop : o.op = Op.lookup t m x false) (C : Coding P k e κ α) (ht : P.underlying t = some (.map k e)) (a0 : α) (hz : (zeroValue e).run P w = .ok (C.vv a0) w) (b n : Nat) (f : κ → Option α)
    (hm : a.eval m = .map (some b)) (h : MapIs C w b n f) (key : κ) (hx : a.eval x = C.kv key) (hgd : C.good key) (hK : wpList P ops Q rest (a.put o.dst (C.vv ((f key).getD a0))) w) : wpList P ops Q (o :: rest) a w := by
  refine wpList_step fun K' hK' => ?_
  rw [if_pos hw]
  have hrun := h.run_look ht hz hgd
  unfold Oper.wp
  simp [execOp, hop, hm, hx, hrun, Result.andThen]
  exact hK' _ _ hK
end
theorem rune_slash {p : List UInt8} {pos : Nat} (h : pos < p.length) (hr : (Utf8.decode ⟨p.toArray⟩ pos).1 = 47) : p[pos]? = some 47 := by
  have hs : pos < (⟨p.toArray⟩ : ByteArray).size := by rw [size_mk]; exact h
  rcases Nat.lt_or_ge (((⟨p.toArray⟩ : ByteArray)[pos]'hs).toNat) 128 with ha | ha
  · rw [decode_ascii _ pos hs ha] at hr
    rw [List.getElem?_eq_getElem h]
    exact congrArg some (UInt8.toNat_inj.1 (show p[pos].toNat = (47 : UInt8).toNat from hr))
  · have := (decode_high ⟨p.toArray⟩ pos hs ha).1
    omega
theorem rune_width {p : List UInt8} {pos : Nat} (h : pos < p.length) : 1 ≤ (Utf8.decode ⟨p.toArray⟩ pos).2 := by
  have hs : pos < (⟨p.toArray⟩ : ByteArray).size := by rw [size_mk]; exact h
  rcases Nat.lt_or_ge (((⟨p.toArray⟩ : ByteArray)[pos]'hs).toNat) 128 with ha | ha
  · rw [decode_ascii _ pos hs ha]; exact Nat.le_refl _
  · exact (decode_high ⟨p.toArray⟩ pos hs ha).2
theorem slash_under {p : List UInt8} {pos : Nat} (h : p[pos]? = some 47) : under p (p.take pos) = true := by
  obtain ⟨hk, hx⟩ := List.getElem?_eq_some_iff.1 h
  refine PathLaw.under_iff.2 ⟨p.drop (pos + 1), ?_⟩
  conv => lhs; rw [← List.take_append_drop pos p, List.drop_eq_getElem_cons hk, hx]
def chkPhi (b off n c k g5 : Nat) (p id prev : List UInt8) (b0 : Bool) : Nat → Value → World → Prop
  | 0, v, _ => v = .pointer (some ⟨g5, 0, none⟩)
  | 1, v, _ => v = S p
  | 2, v, _ => v = .bool true
  | 3, v, _ => v = .bool false
  | 4, v, _ => v = .bool false
  | 5, v, _ => v = .pointer (some ⟨g5, 1, none⟩)
  | 6, v, _ => v = S id
  | 7, v, _ => v = I 32
  | 8, v, _ => v = .bool false
  | 9, v, _ => v = .bool false
  | 10, v, _ => v = .bool false
  | 11, v, _ => v = I ((k : Int))
  | 12, v, _ => v = .bool b0
  | 13, v, _ => v = .bool b0
  | 14, v, _ => (b0 = true → v = .slice (some ⟨b, off, none⟩) n c)
  | 15, v, _ => (b0 = true → v = I ((k : Int)))
  | 16, v, _ => (b0 = true → v = I (((k - 1 : Nat) : Int)))
  | 17, v, _ => (b0 = true → v = .pointer (some ⟨b, off + (k - 1) * 2, none⟩))
  | 18, v, _ => (b0 = true → v = .pointer (some ⟨b, off + (k - 1) * 2, none⟩))
  | 19, v, _ => (b0 = true → v = S prev)
  | 20, v, _ => (b0 = true → v = .pointer (some ⟨g5, 0, none⟩))
  | 21, v, _ => (b0 = true → v = S p)
  | 22, v, _ => (b0 = true → v = .bool false)
  | 23, v, _ => v = .bool (b0 && false)
  | _, _, _ => True
theorem chkPhi_mono {b off n c k g5 : Nat} {p id prev : List UInt8} {b0 : Bool} : ∀ (j : Nat) (v : Value) (w w' : World), chkPhi b off n c k g5 p id prev b0 j v w → Below w.heap.size w w' → chkPhi b off n c k g5 p id prev b0 j v w' := by
  intro j v w w' h _
  match j, h with
  | 0, h => exact h
  | 1, h => exact h
  | 2, h => exact h
  | 3, h => exact h
  | 4, h => exact h
  | 5, h => exact h
  | 6, h => exact h
  | 7, h => exact h
  | 8, h => exact h
  | 9, h => exact h
  | 10, h => exact h
  | 11, h => exact h
  | 12, h => exact h
  | 13, h => exact h
  | 14, h => exact h
  | 15, h => exact h
  | 16, h => exact h
  | 17, h => exact h
  | 18, h => exact h
  | 19, h => exact h
  | 20, h => exact h
  | 21, h => exact h
  | 22, h => exact h
  | 23, h => exact h
  | (n + 24), _ => trivial
/-- the paths of the first k files are known, no other -/
def known (l : List Fil) (k : Nat) (s : List UInt8) : Option Int := if s ∈ (l.take k).map (·.1) then some 1 else none

theorem known_succ {l : List Fil} {k : Nat} {p id : List UInt8} (h : l[k]? = some (p, id)) : upd (known l k) p (some 1) = known l (k + 1) := by
  funext s
  unfold upd known
  rw [List.take_add_one, h]
  by_cases hs : s = p <;> simp [hs]
theorem known_none {l : List Fil} {k pos : Nat} {p : List UInt8} (hU : ∀ g ∈ l, under p g.1 = false) (h : p[pos]? = some 47) : upd (known l k) p (some 1) (p.take pos) = none := by
  have hu := slash_under h
  have hlt := (List.getElem?_eq_some_iff.1 h).1
  have hne : p.take pos ≠ p := fun e => by have := congrArg List.length e; rw [List.length_take] at this; omega
  unfold upd known
  rw [if_neg hne, if_neg]
  intro hm
  obtain ⟨g, hg, e⟩ := List.mem_map.1 hm
  have h1 := hU g (List.mem_of_mem_take hg)
  rw [e, hu] at h1
  cases h1
set_option maxRecDepth 100000 in
set_option maxHeartbeats 8000000 in
theorem check_any (A : Option Addr) (n c : Nat) (l : List Fil) (w : World) (hA : Sl w 2 A n (fls l)) (hn : n ≤ 4096) (hN : ∀ f ∈ l, named f.1 = true ∧ f.2.length = 32) (hS : l.Pairwise (fun f g => f.1 < g.1)) (hU : ∀ f ∈ l, ∀ g ∈ l, under g.1 f.1 = false) (hM : MaxL w) :
    Calls Tryd.prog 6 #[.slice A n c] w fun e w' => e = .returned (I 0) ∧ Below w.heap.size w w' := by
  have HA := Lib.hid hA
  have HN := Lib.hid hN
  have HS := Lib.hid hS
  have HU := Lib.hid hU
  have HM := Lib.hid hM
  have hln := fls_count hA
  have hmm := @run_makeMap Tryd.prog
  have hm0 := MapIs.made seenC w
  have Hm0 := Lib.hid hm0
  clear hA hN hS hU hM hm0
  go_enter Tryd.func6, Tryd.ntmps6
  obtain ⟨m, hm⟩ : ∃ m, m = w.heap.size := ⟨_, rfl⟩
  go_wp2
  simp only [← hm]
  rw [← hm] at Hm0
  have HMW : Hid (m = w.heap.size) := Lib.hid hm
  clear hm
  have B0 : Hid (Below w.heap.size w (w.alloc (.map #[] 0))) := Lib.hid (balloc (Below.refl _ w) _)
  go_loopw [2, 4, 5, 6, 7, 11] (fun s2 s4 s5 s6 s7 i wr => ∃ k : Nat, s2 = I 0 ∧ i = .int .i64 k ∧ Hid (k ≤ n) ∧ Hid (MapIs seenC wr m k (known l k)) ∧ Hid (Below w.heap.size w wr)) (fun _ _ _ _ _ i _ => n - (intOf i).toNat)
  case atStart => exact ⟨0, rfl, rfl, Lib.hid (Nat.zero_le _), Lib.hid (by
    have h := Hm0.out
    have e : (fun _ => none : List UInt8 → Option Int) = known l 0 := by funext s; simp [known]
    rwa [e] at h), B0⟩
  case round =>
    obtain ⟨k, rfl, rfl, hk, hm1, hb⟩ := hrel
    by_cases hlt : k < n
    · obtain ⟨b, off, f, rfl, _, hf, x0, x1⟩ := (HA.out.below hb.out).fil hlt
      have Hf := Lib.hid hf
      clear hf
      obtain ⟨p, id⟩ := f
      have HB5 := Lib.hid (Blk.new wr 56 #[S p, S id])
      have b5 := balloc (Below.refl _ wr) (.cells #[S p, S id] 56)
      obtain ⟨W, hW⟩ : ∃ W, W = wr.alloc (.cells #[S p, S id] 56) := ⟨_, rfl⟩
      obtain ⟨g5, hg5⟩ : ∃ g5, g5 = wr.heap.size := ⟨_, rfl⟩
      rw [← hW, ← hg5] at HB5
      rw [← hW] at b5
      have BW := Lib.hid (bstep hb.out b5)
      have HMk := Lib.hid (hm1.out.step b5)
      have hgm : g5 ≠ m := fun e => by have := hm1.out.lt; omega
      have hfN := HN.out _ (List.mem_of_getElem? Hf.out)
      have Hid32 := Lib.hid hfN.2
      have hgp : p.length ≤ maxLen := by
        have h2 := hfN.1
        unfold PathLaw.named at h2
        simp only [Bool.and_eq_true, decide_eq_true_eq] at h2
        exact Nat.le_trans h2.2.2 (by decide)
      have C5 : Hid (∀ W', Below W.heap.size W W' → Calls Tryd.prog 19 #[S p] W' fun e w' => e = .returned (.bool true) ∧ Below W'.heap.size W' w') := Lib.hid (fun W' h => by
        have h1 := named_any p W' (by
          have h2 := hfN.1
          unfold PathLaw.named at h2
          simp only [Bool.and_eq_true, decide_eq_true_eq] at h2
          omega) (HM.out.step (bstep BW.out h))
        have h2 : PathLaw.named p = true := hfN.1
        rw [h2] at h1
        exact h1)
      obtain ⟨prev, hprev⟩ : ∃ prev, prev = ((l[k - 1]?).map (·.1)).getD [] := ⟨_, rfl⟩
      obtain ⟨b0, hb00⟩ : ∃ b0, b0 = decide (0 < k) := ⟨_, rfl⟩
      have hb0 := Lib.hid hb00
      have Hk1 : Hid (b0 = true → 1 ≤ k) := Lib.hid (fun h => by rw [hb00] at h; have := of_decide_eq_true h; omega)
      have Hpv : Hid (∀ W', Below W.heap.size W W' → b0 = true → W'.cell? ⟨b, off + (k - 1) * 2, none⟩ = some (S prev)) := Lib.hid (fun W' h h0 => by
        have h1 := Hk1.out h0
        obtain ⟨b', off', f', e1, _, hf', z0, _⟩ := (HA.out.below (bstep BW.out h)).fil (k := k - 1) (by omega)
        cases e1
        rw [hprev, hf']
        exact z0)
      have Hless : Hid (b0 = true → Op.bytesLess prev p = true) := Lib.hid (fun h0 => by
        have h1 := Hk1.out h0
        have h2 := List.pairwise_iff_getElem.1 HS.out (k - 1) k (by omega) (by omega) (by omega)
        rw [Go.Proofs.bytesLess_eq, hprev, List.getElem?_eq_getElem (by omega)]
        have h3 := (List.getElem?_eq_some_iff.1 Hf.out).2
        rw [h3] at h2
        exact decide_eq_true h2)
      clear hfN hb00 hprev
      go_wp2
      rw [← hW]
      simp only [← hg5]
      clear hW hg5 b5
      refine wp_region_guards (by kernel_rfl) 24 (by kernel_rfl) ?_ (chkPhi b off n c k g5 p id prev b0) chkPhi_mono (fun i o hi ho a w hb hs hm => ?_) (fun o ho a w hb hs hm => ?_)
      · exact dst_lt' (n := 66) (by kernel_rfl)
      · exact match i, hi, ho with
        | 0, _, ho => by
            cases ho
            rw [if_pos (wanted_none _ rfl)]
            refine wp_value (st_field rfl ((hs.keeps (by kernel_rfl)).trans rfl) (by kernel_rfl)) ⟨_, rfl, rfl, Below.refl _ _⟩
        | 1, _, ho => by
            cases ho
            rw [if_pos (wanted_none _ rfl)]
            have hx : w.cell? ⟨g5, 0, none⟩ = some (S p) := (HB5.out.step hb).cell 0; refine wp_value (st_load rfl (hm.get 0 16 (by kernel_rfl)) (by go_simp)) ⟨_, rfl, rfl, Below.refl _ _⟩
        | 2, _, ho => by
            cases ho
            rw [if_pos (wanted_none _ rfl)]
            have h1 := eval_getD (hm.get 1 17 (by kernel_rfl)); unfold Oper.wp; simp only [execOp]; go_simp; refine (C5.out w hb).mono ?_; rintro e w' ⟨rfl, hb'⟩; exact ⟨_, rfl, rfl, hb'⟩
        | 3, _, ho => by
            cases ho
            rw [if_pos (wanted_none _ rfl)]
            have h1 := eval_getD (hm.get 2 18 (by kernel_rfl)); unfold Oper.wp; simp only [execOp]; go_simp; exact ⟨_, rfl, rfl, Below.refl _ _⟩
        | 4, _, ho => by
            cases ho
            rw [if_pos (wanted_none _ rfl)]
            refine wp_value (st_move rfl (hm.get 3 19 (by kernel_rfl))) ⟨_, rfl, rfl, Below.refl _ _⟩
        | 5, _, ho => by
            cases ho
            generalize hW : Region.wanted _ _ = W
            obtain rfl : W = (false == false) := hW.symm.trans (wanted_of rfl rfl rfl (show a.eval (.tmp 20) = .bool false from (hm.get 4 20 (by kernel_rfl))))
            clear hW
            rw [if_pos (show (false == false) = true by decide)]
            refine wp_value (st_field rfl ((hs.keeps (by kernel_rfl)).trans rfl) (by kernel_rfl)) ⟨_, rfl, rfl, Below.refl _ _⟩
        | 6, _, ho => by
            cases ho
            generalize hW : Region.wanted _ _ = W
            obtain rfl : W = (false == false) := hW.symm.trans (wanted_of rfl rfl rfl (show a.eval (.tmp 20) = .bool false from (hm.get 4 20 (by kernel_rfl))))
            clear hW
            rw [if_pos (show (false == false) = true by decide)]
            have hx : w.cell? ⟨g5, 1, none⟩ = some (S id) := (HB5.out.step hb).cell 1; refine wp_value (st_load rfl (hm.get 5 21 (by kernel_rfl)) (by go_simp)) ⟨_, rfl, rfl, Below.refl _ _⟩
        | 7, _, ho => by
            cases ho
            generalize hW : Region.wanted _ _ = W
            obtain rfl : W = (false == false) := hW.symm.trans (wanted_of rfl rfl rfl (show a.eval (.tmp 20) = .bool false from (hm.get 4 20 (by kernel_rfl))))
            clear hW
            rw [if_pos (show (false == false) = true by decide)]
            have hid := Hid32.out; have h1 := eval_getD (hm.get 6 22 (by kernel_rfl)); unfold Oper.wp; simp only [execOp]; go_simp; exact ⟨_, rfl, (show Value.int _ _ = Value.int _ _ by first | rfl | rw [hid] | simp [hid]), Below.refl _ _⟩
        | 8, _, ho => by
            cases ho
            generalize hW : Region.wanted _ _ = W
            obtain rfl : W = (false == false) := hW.symm.trans (wanted_of rfl rfl rfl (show a.eval (.tmp 20) = .bool false from (hm.get 4 20 (by kernel_rfl))))
            clear hW
            rw [if_pos (show (false == false) = true by decide)]
            have h1 := eval_getD (hm.get 7 23 (by kernel_rfl)); unfold Oper.wp; simp only [execOp]; go_simp; exact ⟨_, rfl, (by first | rfl | simp), Below.refl _ _⟩
        | 9, _, ho => by
            cases ho
            rw [if_pos (wanted_none _ rfl)]
            have h1 := eval_getD (hm.get 4 20 (by kernel_rfl)); have h3 := eval_getD (hm.get 8 24 (by kernel_rfl)); unfold Oper.wp; simp only [execOp]; go_simp; exact ⟨_, rfl, rfl, Below.refl _ _⟩
        | 10, _, ho => by
            cases ho
            rw [if_pos (wanted_none _ rfl)]
            refine wp_value (st_move rfl (hm.get 9 25 (by kernel_rfl))) ⟨_, rfl, rfl, Below.refl _ _⟩
        | 11, _, ho => by
            cases ho
            generalize hW : Region.wanted _ _ = W
            obtain rfl : W = (false == false) := hW.symm.trans (wanted_of rfl rfl rfl (show a.eval (.tmp 26) = .bool false from (hm.get 10 26 (by kernel_rfl))))
            clear hW
            rw [if_pos (show (false == false) = true by decide)]
            refine wp_value (st_move rfl ((hs.keeps (by kernel_rfl)).trans rfl)) ⟨_, rfl, rfl, Below.refl _ _⟩
        | 12, _, ho => by
            cases ho
            generalize hW : Region.wanted _ _ = W
            obtain rfl : W = (false == false) := hW.symm.trans (wanted_of rfl rfl rfl (show a.eval (.tmp 26) = .bool false from (hm.get 10 26 (by kernel_rfl))))
            clear hW
            rw [if_pos (show (false == false) = true by decide)]
            have h1 := eval_getD (hm.get 11 27 (by kernel_rfl)); unfold Oper.wp; simp only [execOp]; go_simp; exact ⟨_, rfl, (show Value.bool _ = Value.bool _ by rw [hb0.out]), Below.refl _ _⟩
        | 13, _, ho => by
            cases ho
            generalize hW : Region.wanted _ _ = W
            obtain rfl : W = (false == false) := hW.symm.trans (wanted_of rfl rfl rfl (show a.eval (.tmp 26) = .bool false from (hm.get 10 26 (by kernel_rfl))))
            clear hW
            rw [if_pos (show (false == false) = true by decide)]
            refine wp_value (st_move rfl (hm.get 12 28 (by kernel_rfl))) ⟨_, rfl, rfl, Below.refl _ _⟩
        | 14, _, ho => by
            cases ho
            generalize hW : Region.wanted _ _ = W
            obtain rfl : W = (b0 == true) := hW.symm.trans (wanted_of rfl rfl rfl (show a.eval (.tmp 29) = .bool b0 from (hm.get 13 29 (by kernel_rfl))))
            clear hW
            rcases fls_tru (b0) with hf | hf
            · rw [if_neg (show ¬ (b0 == true) = true by rw [hf]; decide)]; exact fun h => Bool.noConfusion (h.symm.trans hf)
            · rw [if_pos (show (b0 == true) = true by rw [hf]; decide)]
              refine wp_value (st_move rfl ((hs.keeps (by kernel_rfl)).trans rfl)) ⟨_, rfl, fun _ => rfl, Below.refl _ _⟩
        | 15, _, ho => by
            cases ho
            generalize hW : Region.wanted _ _ = W
            obtain rfl : W = (b0 == true) := hW.symm.trans (wanted_of rfl rfl rfl (show a.eval (.tmp 29) = .bool b0 from (hm.get 13 29 (by kernel_rfl))))
            clear hW
            rcases fls_tru (b0) with hf | hf
            · rw [if_neg (show ¬ (b0 == true) = true by rw [hf]; decide)]; exact fun h => Bool.noConfusion (h.symm.trans hf)
            · rw [if_pos (show (b0 == true) = true by rw [hf]; decide)]
              refine wp_value (st_move rfl ((hs.keeps (by kernel_rfl)).trans rfl)) ⟨_, rfl, fun _ => rfl, Below.refl _ _⟩
        | 16, _, ho => by
            cases ho
            generalize hW : Region.wanted _ _ = W
            obtain rfl : W = (b0 == true) := hW.symm.trans (wanted_of rfl rfl rfl (show a.eval (.tmp 29) = .bool b0 from (hm.get 13 29 (by kernel_rfl))))
            clear hW
            rcases fls_tru (b0) with hf | hf
            · rw [if_neg (show ¬ (b0 == true) = true by rw [hf]; decide)]; exact fun h => Bool.noConfusion (h.symm.trans hf)
            · rw [if_pos (show (b0 == true) = true by rw [hf]; decide)]
              have hk1 := Hk1.out hf; have hv : IntKind.i64.wrap ((k : Int) - 1) = ((k - 1 : Nat) : Int) := (by rw [IntWalk.i64_in _ (by omega)]; try omega); have h1 := eval_getD ((hm.get 15 31 (by kernel_rfl)) hf); unfold Oper.wp; simp only [execOp]; go_simp; exact ⟨_, rfl, fun _ => (show Value.int _ _ = Value.int _ _ by first | rfl | rw [hv] | (congr 1; omega)), Below.refl _ _⟩
        | 17, _, ho => by
            cases ho
            generalize hW : Region.wanted _ _ = W
            obtain rfl : W = (b0 == true) := hW.symm.trans (wanted_of rfl rfl rfl (show a.eval (.tmp 29) = .bool b0 from (hm.get 13 29 (by kernel_rfl))))
            clear hW
            rcases fls_tru (b0) with hf | hf
            · rw [if_neg (show ¬ (b0 == true) = true by rw [hf]; decide)]; exact fun h => Bool.noConfusion (h.symm.trans hf)
            · rw [if_pos (show (b0 == true) = true by rw [hf]; decide)]
              have hk1 := Hk1.out hf; have hlt1 : k - 1 < n := (by omega); have h1 := eval_getD ((hm.get 14 30 (by kernel_rfl)) hf); have h2 := eval_getD ((hm.get 16 32 (by kernel_rfl)) hf); unfold Oper.wp; simp only [execOp]; go_simp; exact ⟨_, rfl, fun _ => rfl, Below.refl _ _⟩
        | 18, _, ho => by
            cases ho
            generalize hW : Region.wanted _ _ = W
            obtain rfl : W = (b0 == true) := hW.symm.trans (wanted_of rfl rfl rfl (show a.eval (.tmp 29) = .bool b0 from (hm.get 13 29 (by kernel_rfl))))
            clear hW
            rcases fls_tru (b0) with hf | hf
            · rw [if_neg (show ¬ (b0 == true) = true by rw [hf]; decide)]; exact fun h => Bool.noConfusion (h.symm.trans hf)
            · rw [if_pos (show (b0 == true) = true by rw [hf]; decide)]
              have h1 := eval_getD ((hm.get 17 33 (by kernel_rfl)) hf); unfold Oper.wp; simp only [execOp]; go_simp; exact ⟨_, rfl, fun _ => rfl, Below.refl _ _⟩
        | 19, _, ho => by
            cases ho
            generalize hW : Region.wanted _ _ = W
            obtain rfl : W = (b0 == true) := hW.symm.trans (wanted_of rfl rfl rfl (show a.eval (.tmp 29) = .bool b0 from (hm.get 13 29 (by kernel_rfl))))
            clear hW
            rcases fls_tru (b0) with hf | hf
            · rw [if_neg (show ¬ (b0 == true) = true by rw [hf]; decide)]; exact fun h => Bool.noConfusion (h.symm.trans hf)
            · rw [if_pos (show (b0 == true) = true by rw [hf]; decide)]
              have hx := Hpv.out w hb hf; have h1 := eval_getD ((hm.get 18 34 (by kernel_rfl)) hf); unfold Oper.wp; simp only [execOp]; go_simp; exact ⟨_, rfl, fun _ => rfl, Below.refl _ _⟩
        | 20, _, ho => by
            cases ho
            generalize hW : Region.wanted _ _ = W
            obtain rfl : W = (b0 == true) := hW.symm.trans (wanted_of rfl rfl rfl (show a.eval (.tmp 29) = .bool b0 from (hm.get 13 29 (by kernel_rfl))))
            clear hW
            rcases fls_tru (b0) with hf | hf
            · rw [if_neg (show ¬ (b0 == true) = true by rw [hf]; decide)]; exact fun h => Bool.noConfusion (h.symm.trans hf)
            · rw [if_pos (show (b0 == true) = true by rw [hf]; decide)]
              refine wp_value (st_field rfl ((hs.keeps (by kernel_rfl)).trans rfl) (by kernel_rfl)) ⟨_, rfl, fun _ => rfl, Below.refl _ _⟩
        | 21, _, ho => by
            cases ho
            generalize hW : Region.wanted _ _ = W
            obtain rfl : W = (b0 == true) := hW.symm.trans (wanted_of rfl rfl rfl (show a.eval (.tmp 29) = .bool b0 from (hm.get 13 29 (by kernel_rfl))))
            clear hW
            rcases fls_tru (b0) with hf | hf
            · rw [if_neg (show ¬ (b0 == true) = true by rw [hf]; decide)]; exact fun h => Bool.noConfusion (h.symm.trans hf)
            · rw [if_pos (show (b0 == true) = true by rw [hf]; decide)]
              have hx : w.cell? ⟨g5, 0, none⟩ = some (S p) := (HB5.out.step hb).cell 0; refine wp_value (st_load rfl ((hm.get 20 36 (by kernel_rfl)) hf) (by go_simp)) ⟨_, rfl, fun _ => rfl, Below.refl _ _⟩
        | 22, _, ho => by
            cases ho
            generalize hW : Region.wanted _ _ = W
            obtain rfl : W = (b0 == true) := hW.symm.trans (wanted_of rfl rfl rfl (show a.eval (.tmp 29) = .bool b0 from (hm.get 13 29 (by kernel_rfl))))
            clear hW
            rcases fls_tru (b0) with hf | hf
            · rw [if_neg (show ¬ (b0 == true) = true by rw [hf]; decide)]; exact fun h => Bool.noConfusion (h.symm.trans hf)
            · rw [if_pos (show (b0 == true) = true by rw [hf]; decide)]
              have hless := Hless.out hf; have h1 := eval_getD ((hm.get 19 35 (by kernel_rfl)) hf); have h2 := eval_getD ((hm.get 21 37 (by kernel_rfl)) hf); unfold Oper.wp; simp only [execOp]; go_simp; exact ⟨_, rfl, fun _ => (by first | rfl | simp), Below.refl _ _⟩
        | 23, _, ho => by
            cases ho
            generalize hW : Region.wanted _ _ = W
            obtain rfl : W = (false == false) := hW.symm.trans (wanted_of rfl rfl rfl (show a.eval (.tmp 26) = .bool false from (hm.get 10 26 (by kernel_rfl))))
            clear hW
            rw [if_pos (show (false == false) = true by decide)]
            have h1 := eval_getD (hm.get 13 29 (by kernel_rfl))
            have h2 := (hm.get 22 38 (by kernel_rfl))
            rcases fls_tru (b0) with hg | hg
            · rw [hg] at h1
              unfold Oper.wp; simp only [execOp]; go_simp
              exact ⟨_, rfl, (show Value.bool _ = Value.bool _ by first | (rw [hg]; simp) | simp), Below.refl _ _⟩
            · rw [hg] at h1
              have h3 := eval_getD (h2 hg)
              unfold Oper.wp; simp only [execOp]; go_simp
              exact ⟨_, rfl, (show Value.bool _ = Value.bool _ by first | (rw [hg]; simp) | simp), Below.refl _ _⟩
        | (n + 24), hi, _ => absurd hi (by omega)
      · have e1 : a.eval (.tmp 26) = .bool false := by cases ho; exact hm.get 10 26 (by kernel_rfl)
        have e2 : a.eval (.tmp 39) = .bool false := by cases ho; exact (hm.get 23 39 (by kernel_rfl) : a.eval (.tmp 39) = .bool (b0 && false)).trans (by rw [Bool.and_false])
        have hfr := hs.frame [16, 17, 18, 19, 20, 21, 22, 23, 24, 25, 26, 27, 28, 29, 30, 31, 32, 33, 34, 35, 36, 37, 38, 39, 40] (by kernel_rfl)
        cases ho
        rw [hfr]
        simp only [List.foldl_cons, List.foldl_nil, e1, e2]
        clear hfr hs hm e1 e2
        generalize a.eval (.tmp 16) = u16
        generalize a.eval (.tmp 17) = u17
        generalize a.eval (.tmp 18) = u18
        generalize a.eval (.tmp 19) = u19
        generalize a.eval (.tmp 20) = u20
        generalize a.eval (.tmp 21) = u21
        generalize a.eval (.tmp 22) = u22
        generalize a.eval (.tmp 23) = u23
        generalize a.eval (.tmp 24) = u24
        generalize a.eval (.tmp 25) = u25
        generalize a.eval (.tmp 27) = u27
        generalize a.eval (.tmp 28) = u28
        generalize a.eval (.tmp 29) = u29
        generalize a.eval (.tmp 30) = u30
        generalize a.eval (.tmp 31) = u31
        generalize a.eval (.tmp 32) = u32
        generalize a.eval (.tmp 33) = u33
        generalize a.eval (.tmp 34) = u34
        generalize a.eval (.tmp 35) = u35
        generalize a.eval (.tmp 36) = u36
        generalize a.eval (.tmp 37) = u37
        generalize a.eval (.tmp 38) = u38
        generalize a.eval (.tmp 40) = u40
        unfold Oper.wp
        simp only [execOp]
        go_simp
        clear a
        have BX := Lib.hid (bstep BW.out hb)
        have r5 := (HB5.out.step hb).cell
        have HB6 := Lib.hid (HB5.out.step hb)
        have hM6 := HMk.out.step hb
        have hkm : k < maxLen := Nat.lt_of_lt_of_le hlt (Nat.le_trans hn (by decide))
        clear Hpv Hless Hk1 C5 hb0
        go_wp2_with (at_mapUpdate; refine wpList_store _ rfl _ _ _ 54 rfl seenC Tryd.underlying54 m k _ rfl hM6 hkm p rfl hgp 1 rfl ?_; intro W2 hm2 hg2; have HX2 := Lib.hid (BX.out.grown hg2 BX.out.size (fun j e => by cases e; have := HMW.out; omega)); have HM2 := Lib.hid hm2; have HB7 := Lib.hid (HB6.out.grown hg2 (fun e => hgm (by cases e; rfl))); have r7 := HB7.out.cell; clear hm2 hg2 r5)
        have hps : (⟨p.toArray⟩ : ByteArray).size = p.length := size_mk p
        go_loopw [2, 6, 7] (fun s2 s6 s7 wr' => ∃ pos, s2 = I 0 ∧ wr' = W2.iter ⟨p.toArray⟩ pos) (fun _ _ _ wr' => p.length - wr'.iterPos W2.heap.size)
        case atStart => exact ⟨0, rfl, rfl⟩
        case round =>
          obtain ⟨pos, rfl, rfl⟩ := hrel
          by_cases hp : pos < p.length
          · have hnx : ∀ ty, (Instr.next (.pointer (some ⟨W2.heap.size, 0, none⟩)) true ty).run Tryd.prog (W2.iter ⟨p.toArray⟩ pos) = _ := fun ty => run_next_any W2 ⟨p.toArray⟩ pos ty (by rw [hps]; exact hp)
            have hwd := rune_width hp
            by_cases h47 : (Utf8.decode ⟨p.toArray⟩ pos).1 = 47
            · have hq : (((Utf8.decode ⟨p.toArray⟩ pos).1 : Int) == 47) = true := beq_iff_eq.2 (congrArg Int.ofNat h47)
              have he : (⟨p.toArray⟩ : ByteArray).extract 0 pos = ⟨(p.take pos).toArray⟩ := by simpa using extract_mk p 0 pos
              have hkn := known_none (k := k) (fun g hg => HU.out g hg _ (List.mem_of_getElem? Hf.out)) (rune_slash hp h47)
              have hkv : Hid (seenC.vv ((upd (known l k) p (some 1) (p.take pos)).getD 0) = I 0) := Lib.hid (by rw [hkn]; rfl)
              have hgq : (p.take pos).length ≤ maxLen := by rw [List.length_take]; omega
              have hM7 : MapIs seenC (W2.iter ⟨p.toArray⟩ (pos + (Utf8.decode ⟨p.toArray⟩ pos).2)) m (k + 1) (upd (known l k) p (some 1)) := HM2.out.alloc _
              have r8 := (show Blk (W2.iter ⟨p.toArray⟩ (pos + (Utf8.decode ⟨p.toArray⟩ pos).2)) g5 _ _ from HB7.out.alloc _).cell
              go_wp2_with (at_lookup; refine wpList_lookG _ (by rfl) _ _ 54 rfl seenC Tryd.underlying54 0 (Tryd.zeroI _) m (k + 1) _ rfl hM7 (p.take pos) rfl hgq ?_; rw [hkv.out])
              go_roundw
              case rel => exact ⟨pos + (Utf8.decode ⟨p.toArray⟩ pos).2, rfl, rfl⟩
              case measure => simp; omega
            · have hq : (((Utf8.decode ⟨p.toArray⟩ pos).1 : Int) == 47) = false := beq_eq_false_iff_ne.2 (fun e => h47 (Int.ofNat.inj e))
              go_wp2
              go_roundw
              case rel => exact ⟨pos + (Utf8.decode ⟨p.toArray⟩ pos).2, rfl, rfl⟩
              case measure => simp; omega
          · have hnx : ∀ ty, (Instr.next (.pointer (some ⟨W2.heap.size, 0, none⟩)) true ty).run Tryd.prog (W2.iter ⟨p.toArray⟩ pos) = _ := fun ty => run_next_end W2 ⟨p.toArray⟩ pos ty (by rw [hps]; exact hp)
            go_wp2
            go_roundw
            case rel => exact ⟨k + 1, rfl, by go_num, Lib.hid hlt, Lib.hid (by rw [← known_succ Hf.out]; exact HM2.out.alloc _), Lib.hid (balloc HX2.out _)⟩
            case measure => simp [intOf]; omega
    · obtain rfl : k = n := by have := hk.out; omega
      go_wp2
      go_ret
      exact ⟨rfl, hb.out⟩
end Go.Proofs.YtjcelelgebohkaaDoor
