/-
  tree.Check at whatever files: where it answers OK, their paths rise and are rightly named, their ids have 32 bytes. Conditions: the files can be read, no more than 1048576; no path is longer than 2147483648; MaxLen holds an int.
-/
import Derived.Test.YtkginbfpokbhcaaGreatDoorKitX
import Derived.Test.YtkginbfpokbhcaaGreatDoorKitW
import Derived.Laws.RangeString
import Derived.Laws.RangeAny
import Derived.Sort.Walk0
import Derived.BigQuiet
namespace Go.Proofs.YtkginbfpokbhcaaGreatDoor
open Go.RowKit
open PathLaw (named under)

def dstAll9 (ops : Array Oper) (n : Nat) : Bool := ops.all (fun o => match o.dst with | some d => decide (d < n) | none => true)
theorem dst_lt9 {ops : Array Oper} {n : Nat} (h : dstAll9 ops n = true) (i : Nat) (o : Oper) (d : Nat) (ho : ops[i]? = some o) (hd : o.dst = some d) : d < n := by
  have h1 := Array.all_eq_true_iff_forall_mem.1 h o (Array.mem_of_getElem? ho)
  rw [hd] at h1
  simpa using h1
theorem wanted_undef {ops : Array Oper} {o p : Oper} {a : Act} {j d : Nat} {b : Bool} (hg : o.guard = some (j, b)) (hp : ops[j]? = some p) (hd : p.dst = some d) (hv : a.eval (.tmp d) = undef) : Region.wanted o (yielded ops a.tmps) = false := by
  have h : ∀ c, a.tmps[d]? ≠ some (.bool c) := by
    intro c hc
    simp only [Act.eval, Array.getD_eq_getD_getElem?] at hv
    rw [hc] at hv
    simp [undef] at hv
  unfold Region.wanted yielded
  rw [hg]
  simp only [hp, hd, Option.bind_some]
  rcases hx : a.tmps[d]? with _ | u
  · simp
  · cases u <;> simp_all
def rdI : Value → Option (DataW Unit × List MemPlace)
  | .int .i64 n => some (.lit (.int .i64 n), [])
  | _ => none
theorem lit_inj {a b : List UInt8} (h : Lit.string a = Lit.string b) : a = b := by injection h
/-- map[string]int -/
def seenC : Coding Tryz.prog 9 3 (List UInt8) Int where
  kv := S
  kl := Lit.string
  vv := I
  vd n := .lit (.int .i64 n)
  R := rdI
  good s := s.length ≤ maxLen
  keyed := Maps.string_keyed Tryz.underlying9
  key s h := by
    have := WideMaps.keyOf_string_mk (P := Tryz.prog) Tryz.underlying9 (s := ⟨s.toArray⟩) (by rw [size_mk]; exact h)
    simpa using this
  inj _ _ _ _ h := lit_inj h
  enc _ := rfl
  dec v a ps h := by
    unfold rdI at h
    split at h
    · simp only [Option.some.injEq, Prod.mk.injEq, DataW.lit.injEq, Lit.int.injEq, true_and] at h
      rw [h.1]
    · cases h
theorem Tryz.zeroI (w : World) : (zeroValue 3).run Tryz.prog w = .ok (seenC.vv 0) w := by kernel_rfl
section
variable {P : Program} (w : World) {ops : Array Oper} {rest : List Oper} {o : Oper} {a : Act} {Q : Exit → Act → World → Prop} {k e : TypeId} {κ α : Type}
/-- a look-up whose guard is met -/
theorem wpList_lookG (hw : Region.wanted o (yielded ops a.tmps) = true) (m x : Operand) (t : TypeId) (hop : o.op = Op.lookup t m x false) (C : Coding P k e κ α) (ht : P.underlying t = some (.map k e)) (a0 : α) (hz : (zeroValue e).run P w = .ok (C.vv a0) w) (b n : Nat) (f : κ → Option α)
    (hm : a.eval m = .map (some b)) (h : MapIs C w b n f) (key : κ) (hx : a.eval x = C.kv key) (hgd : C.good key) (hK : wpList P ops Q rest (a.put o.dst (C.vv ((f key).getD a0))) w) : wpList P ops Q (o :: rest) a w := by
  refine wpList_step fun K' hK' => ?_
  rw [if_pos hw]
  have hrun := h.run_look ht hz hgd
  unfold Oper.wp
  simp [execOp, hop, hm, hx, hrun, Result.andThen]
  exact hK' _ _ hK
end
theorem rune_slash {p : List UInt8} {pos : Nat} (h : pos < p.length) (hr : (Utf8.decode ⟨p.toArray⟩ pos).1 = 47) : p[pos]? = some 47 := by
  have hs : pos < (⟨p.toArray⟩ : ByteArray).size := by rw [size_mk]; exact h
  rcases Nat.lt_or_ge (((⟨p.toArray⟩ : ByteArray)[pos]'hs).toNat) 128 with ha | ha
  · rw [decode_ascii _ pos hs ha] at hr
    rw [List.getElem?_eq_getElem h]
    exact congrArg some (UInt8.toNat_inj.1 (show p[pos].toNat = (47 : UInt8).toNat from hr))
  · have := (decode_high ⟨p.toArray⟩ pos hs ha).1
    omega
theorem rune_width {p : List UInt8} {pos : Nat} (h : pos < p.length) : 1 ≤ (Utf8.decode ⟨p.toArray⟩ pos).2 := by
  have hs : pos < (⟨p.toArray⟩ : ByteArray).size := by rw [size_mk]; exact h
  rcases Nat.lt_or_ge (((⟨p.toArray⟩ : ByteArray)[pos]'hs).toNat) 128 with ha | ha
  · rw [decode_ascii _ pos hs ha]; exact Nat.le_refl _
  · exact (decode_high ⟨p.toArray⟩ pos hs ha).2
theorem slash_under {p : List UInt8} {pos : Nat} (h : p[pos]? = some 47) : under p (p.take pos) = true := by
  obtain ⟨hk, hx⟩ := List.getElem?_eq_some_iff.1 h
  refine PathLaw.under_iff.2 ⟨p.drop (pos + 1), ?_⟩
  conv => lhs; rw [← List.take_append_drop pos p, List.drop_eq_getElem_cons hk, hx]
def ck1Phi (g5 : Nat) (p : List UInt8) : Nat → Value → World → Prop
  | 0, v, _ => v = .pointer (some ⟨g5, 0, none⟩)
  | 1, v, _ => v = S p
  | 2, v, _ => v = .bool false
  | 3, v, _ => v = .bool true
  | 4, v, _ => v = .bool true
  | 5, v, _ => v = undef
  | 6, v, _ => v = undef
  | 7, v, _ => v = undef
  | 8, v, _ => v = undef
  | 9, v, _ => v = .bool true
  | 10, v, _ => v = .bool true
  | 11, v, _ => v = undef
  | 12, v, _ => v = undef
  | 13, v, _ => v = undef
  | 14, v, _ => v = undef
  | 15, v, _ => v = undef
  | 16, v, _ => v = undef
  | 17, v, _ => v = undef
  | 18, v, _ => v = undef
  | 19, v, _ => v = undef
  | 20, v, _ => v = undef
  | 21, v, _ => v = undef
  | 22, v, _ => v = undef
  | 23, v, _ => v = undef
  | _, _, _ => True
theorem ck1Phi_mono {g5 : Nat} {p : List UInt8} : ∀ (j : Nat) (v : Value) (w w' : World), ck1Phi g5 p j v w → Below w.heap.size w w' → ck1Phi g5 p j v w' := by
  intro j v w w' h _
  match j, h with
  | 0, h => exact h
  | 1, h => exact h
  | 2, h => exact h
  | 3, h => exact h
  | 4, h => exact h
  | 5, h => exact h
  | 6, h => exact h
  | 7, h => exact h
  | 8, h => exact h
  | 9, h => exact h
  | 10, h => exact h
  | 11, h => exact h
  | 12, h => exact h
  | 13, h => exact h
  | 14, h => exact h
  | 15, h => exact h
  | 16, h => exact h
  | 17, h => exact h
  | 18, h => exact h
  | 19, h => exact h
  | 20, h => exact h
  | 21, h => exact h
  | 22, h => exact h
  | 23, h => exact h
  | (n + 24), _ => trivial
def ck2Phi (g5 : Nat) (p : List UInt8) (id : List UInt8) : Nat → Value → World → Prop
  | 0, v, _ => v = .pointer (some ⟨g5, 0, none⟩)
  | 1, v, _ => v = S p
  | 2, v, _ => v = .bool true
  | 3, v, _ => v = .bool false
  | 4, v, _ => v = .bool false
  | 5, v, _ => v = .pointer (some ⟨g5, 1, none⟩)
  | 6, v, _ => v = S id
  | 7, v, _ => v = I ((id.length : Int))
  | 8, v, _ => v = .bool true
  | 9, v, _ => v = .bool true
  | 10, v, _ => v = .bool true
  | 11, v, _ => v = undef
  | 12, v, _ => v = undef
  | 13, v, _ => v = undef
  | 14, v, _ => v = undef
  | 15, v, _ => v = undef
  | 16, v, _ => v = undef
  | 17, v, _ => v = undef
  | 18, v, _ => v = undef
  | 19, v, _ => v = undef
  | 20, v, _ => v = undef
  | 21, v, _ => v = undef
  | 22, v, _ => v = undef
  | 23, v, _ => v = undef
  | _, _, _ => True
theorem ck2Phi_mono {g5 : Nat} {p : List UInt8} {id : List UInt8} : ∀ (j : Nat) (v : Value) (w w' : World), ck2Phi g5 p id j v w → Below w.heap.size w w' → ck2Phi g5 p id j v w' := by
  intro j v w w' h _
  match j, h with
  | 0, h => exact h
  | 1, h => exact h
  | 2, h => exact h
  | 3, h => exact h
  | 4, h => exact h
  | 5, h => exact h
  | 6, h => exact h
  | 7, h => exact h
  | 8, h => exact h
  | 9, h => exact h
  | 10, h => exact h
  | 11, h => exact h
  | 12, h => exact h
  | 13, h => exact h
  | 14, h => exact h
  | 15, h => exact h
  | 16, h => exact h
  | 17, h => exact h
  | 18, h => exact h
  | 19, h => exact h
  | 20, h => exact h
  | 21, h => exact h
  | 22, h => exact h
  | 23, h => exact h
  | (n + 24), _ => trivial
def ck3Phi (b : Nat) (off : Nat) (n : Nat) (c : Nat) (k : Nat) (g5 : Nat) (p : List UInt8) (id : List UInt8) (prev : List UInt8) (b0 : Bool) (ge : Bool) : Nat → Value → World → Prop
  | 0, v, _ => v = .pointer (some ⟨g5, 0, none⟩)
  | 1, v, _ => v = S p
  | 2, v, _ => v = .bool true
  | 3, v, _ => v = .bool false
  | 4, v, _ => v = .bool false
  | 5, v, _ => v = .pointer (some ⟨g5, 1, none⟩)
  | 6, v, _ => v = S id
  | 7, v, _ => v = I ((id.length : Int))
  | 8, v, _ => v = .bool false
  | 9, v, _ => v = .bool false
  | 10, v, _ => v = .bool false
  | 11, v, _ => v = I ((k : Int))
  | 12, v, _ => v = .bool b0
  | 13, v, _ => v = .bool b0
  | 14, v, _ => (b0 = true → v = .slice (some ⟨b, off, none⟩) n c)
  | 15, v, _ => (b0 = true → v = I ((k : Int)))
  | 16, v, _ => (b0 = true → v = I (((k - 1 : Nat) : Int)))
  | 17, v, _ => (b0 = true → v = .pointer (some ⟨b, off + (k - 1) * 2, none⟩))
  | 18, v, _ => (b0 = true → v = .pointer (some ⟨b, off + (k - 1) * 2, none⟩))
  | 19, v, _ => (b0 = true → v = S prev)
  | 20, v, _ => (b0 = true → v = .pointer (some ⟨g5, 0, none⟩))
  | 21, v, _ => (b0 = true → v = S p)
  | 22, v, _ => (b0 = true → v = .bool ge)
  | 23, v, _ => v = .bool (b0 && ge)
  | _, _, _ => True
theorem ck3Phi_mono {b : Nat} {off : Nat} {n : Nat} {c : Nat} {k : Nat} {g5 : Nat} {p : List UInt8} {id : List UInt8} {prev : List UInt8} {b0 : Bool} {ge : Bool} : ∀ (j : Nat) (v : Value) (w w' : World), ck3Phi b off n c k g5 p id prev b0 ge j v w → Below w.heap.size w w' → ck3Phi b off n c k g5 p id prev b0 ge j v w' := by
  intro j v w w' h _
  match j, h with
  | 0, h => exact h
  | 1, h => exact h
  | 2, h => exact h
  | 3, h => exact h
  | 4, h => exact h
  | 5, h => exact h
  | 6, h => exact h
  | 7, h => exact h
  | 8, h => exact h
  | 9, h => exact h
  | 10, h => exact h
  | 11, h => exact h
  | 12, h => exact h
  | 13, h => exact h
  | 14, h => exact h
  | 15, h => exact h
  | 16, h => exact h
  | 17, h => exact h
  | 18, h => exact h
  | 19, h => exact h
  | 20, h => exact h
  | 21, h => exact h
  | 22, h => exact h
  | 23, h => exact h
  | (n + 24), _ => trivial
/-- the paths of the first k files are known, no other -/
def known (l : List Fil) (k : Nat) (s : List UInt8) : Option Int := if s ∈ (l.take k).map (·.1) then some 1 else none
theorem known_succ {l : List Fil} {k : Nat} {p id : List UInt8} (h : l[k]? = some (p, id)) : upd (known l k) p (some 1) = known l (k + 1) := by
  funext s
  unfold upd known
  rw [List.take_add_one, h]
  by_cases hs : s = p <;> simp [hs]
/-- files that rise, rightly named, of right ids -/
def FineL (l : List Fil) : Prop := (l.map (·.1)).Pairwise (· < ·) ∧ ∀ f ∈ l, named f.1 = true ∧ f.2.length = 32
theorem fine_nil : FineL [] := ⟨List.Pairwise.nil, by simp⟩
theorem fine_snoc {l : List Fil} {k : Nat} {p id : List UInt8} (h : FineL (l.take k)) (hk : l[k]? = some (p, id)) (hn : named p = true) (hi : id.length = 32) (hp : k = 0 ∨ ∃ q, l[k - 1]? = some q ∧ q.1 < p) : FineL (l.take (k + 1)) := by
  have e : l.take (k + 1) = l.take k ++ [(p, id)] := by rw [List.take_add_one, hk]; rfl
  rw [e]
  constructor
  · rw [List.map_append, List.pairwise_append]
    refine ⟨h.1, List.pairwise_singleton _ _, fun a ha b hb => ?_⟩
    have hb' : b = p := by simpa using hb
    rw [hb']
    rcases hp with h0 | ⟨q, hq, hlt⟩
    · rw [h0] at ha; simp at ha
    · have hk0 : k ≠ 0 := fun h0 => by rw [h0] at ha; simp at ha
      obtain ⟨j, hj⟩ : ∃ j, k = j + 1 := ⟨k - 1, by omega⟩
      subst hj
      rw [Nat.add_sub_cancel] at hq
      have e2 : l.take (j + 1) = l.take j ++ [q] := by rw [List.take_add_one, hq]; rfl
      have h1 := h.1
      rw [e2, List.map_append, List.pairwise_append] at h1
      rw [e2, List.map_append] at ha
      rcases List.mem_append.1 ha with ha | ha
      · exact List.lt_trans (h1.2.2 a ha q.1 (by simp)) hlt
      · have : a = q.1 := by simpa using ha
        rw [this]
        exact hlt
  · intro f hf
    rcases List.mem_append.1 hf with hf | hf
    · exact h.2 f hf
    · have : f = (p, id) := by simpa using hf
      rw [this]
      exact ⟨hn, hi⟩
set_option maxRecDepth 100000 in
set_option maxHeartbeats 8000000 in
theorem checkG_any (A : Option Addr) (n c : Nat) (l : List Fil) (w : World) (hA : Sl w 2 A n (fls l)) (hn : n ≤ 1048576) (hP : ∀ f ∈ l, f.1.length ≤ 2147483648) (hM : MaxL w) :
    Calls Tryz.prog 11 #[.slice A n c] w fun e w' => ∃ z : Int, e = .returned (I z) ∧ (z = 0 → FineL l) ∧ Below w.heap.size w w' := by
  have HA := Lib.hid hA
  have HP := Lib.hid hP
  have HM := Lib.hid hM
  have hln := fls_count hA
  have hmm := @run_makeMap Tryz.prog
  have hm0 := MapIs.made seenC w
  have Hm0 := Lib.hid hm0
  have Hln := Lib.hid hln
  clear hA hP hM hm0 hln
  go_enter Tryz.func11, Tryz.ntmps11
  obtain ⟨m, hm⟩ : ∃ m, m = w.heap.size := ⟨_, rfl⟩
  go_wp2
  simp only [← hm]
  rw [← hm] at Hm0
  have HMW : Hid (m = w.heap.size) := Lib.hid hm
  clear hm
  have B0 : Hid (Below w.heap.size w (w.alloc (.map #[] 0))) := Lib.hid (balloc (Below.refl _ w) _)
  go_loopw [2, 4, 5, 6, 7, 11] (fun s2 s4 s5 s6 s7 i wr => ∃ k : Nat, s2 = I 0 ∧ i = .int .i64 k ∧ Hid (k ≤ n) ∧ Hid (FineL (l.take k)) ∧ Hid (MapIs seenC wr m k (known l k)) ∧ Hid (Below w.heap.size w wr)) (fun _ _ _ _ _ i _ => n - (intOf i).toNat)
  case atStart => exact ⟨0, rfl, rfl, Lib.hid (Nat.zero_le _), Lib.hid fine_nil, Lib.hid (by
    have h := Hm0.out
    have e : (fun _ => none : List UInt8 → Option Int) = known l 0 := by funext s; simp [known]
    rwa [e] at h), B0⟩
  case round =>
    obtain ⟨k, rfl, rfl, hk, hfi, hm1, hb⟩ := hrel
    by_cases hlt : k < n
    · obtain ⟨b, off, f, rfl, _, hf, x0, x1⟩ := (HA.out.below hb.out).fil hlt
      have Hf := Lib.hid hf
      clear hf
      obtain ⟨p, id⟩ := f
      have HB5 := Lib.hid (Blk.new wr 80 #[S p, S id])
      have b5 := balloc (Below.refl _ wr) (.cells #[S p, S id] 80)
      obtain ⟨W, hW⟩ : ∃ W, W = wr.alloc (.cells #[S p, S id] 80) := ⟨_, rfl⟩
      obtain ⟨g5, hg5⟩ : ∃ g5, g5 = wr.heap.size := ⟨_, rfl⟩
      rw [← hW, ← hg5] at HB5
      rw [← hW] at b5
      have BW := Lib.hid (bstep hb.out b5)
      have HMk := Lib.hid (hm1.out.step b5)
      have hgm : g5 ≠ m := fun e => by have := hm1.out.lt; omega
      have hgp0 : p.length ≤ 2147483648 := HP.out _ (List.mem_of_getElem? Hf.out)
      have hgp : p.length ≤ maxLen := Nat.le_trans hgp0 (by decide)
      have Hgp0 := Lib.hid hgp0
      obtain ⟨prev, hprev⟩ : ∃ prev, prev = ((l[k - 1]?).map (·.1)).getD [] := ⟨_, rfl⟩
      obtain ⟨b0, hb00⟩ : ∃ b0, b0 = decide (0 < k) := ⟨_, rfl⟩
      have hb0 := Lib.hid hb00
      have Hk1 : Hid (b0 = true → 1 ≤ k) := Lib.hid (fun h => by rw [hb00] at h; have := of_decide_eq_true h; omega)
      have Hpq : Hid (b0 = true → ∃ q, l[k - 1]? = some q ∧ q.1 = prev) := Lib.hid (fun h0 => by
        have h1 := Hk1.out h0
        obtain ⟨b', off', f', e1, _, hf', z0, _⟩ := (HA.out.below hb.out).fil (k := k - 1) (by omega)
        exact ⟨f', hf', by rw [hprev, hf']; rfl⟩)
      have Hpv : Hid (∀ W', Below W.heap.size W W' → b0 = true → W'.cell? ⟨b, off + (k - 1) * 2, none⟩ = some (S prev)) := Lib.hid (fun W' h h0 => by
        have h1 := Hk1.out h0
        obtain ⟨b', off', f', e1, _, hf', z0, _⟩ := (HA.out.below (bstep BW.out h)).fil (k := k - 1) (by omega)
        cases e1
        rw [hprev, hf']
        exact z0)
      have Hb0f : Hid (b0 = false → k = 0) := Lib.hid (fun h => by rw [hb00] at h; have := of_decide_eq_false h; omega)
      obtain ⟨ge, hge⟩ : ∃ ge, ge = (!Op.bytesLess prev p) := ⟨_, rfl⟩
      have Hge := Lib.hid hge.symm
      have Hge2 : Hid (ge = false → prev < p) := Lib.hid (fun h => by
        rw [hge, Go.Proofs.bytesLess_eq] at h
        simpa using h)
      clear hb00 hprev hge hgp0
      rcases hnm : PathLaw.named p with _ | _
      · have C5 : Hid (∀ W', Below W.heap.size W W' → Calls Tryz.prog 38 #[S p] W' fun e w' => e = .returned (.bool false) ∧ Below W'.heap.size W' w') := Lib.hid (fun W' h => by
          have h1 := named_any p W' Hgp0.out (HM.out.step (bstep BW.out h))
          rw [hnm] at h1
          exact h1)
        clear hnm
        go_wp2
        rw [← hW]
        simp only [← hg5]
        clear hW hg5 b5
        have H32 : Hid (true = true) := Lib.hid rfl
        refine wp_region_guards (by kernel_rfl) 24 (by kernel_rfl) ?_ (ck1Phi g5 p) ck1Phi_mono (fun i o hi ho a w hb hs hm => ?_) (fun o ho a w hb hs hm => ?_)
        · exact dst_lt9 (n := 66) (by kernel_rfl)
        · exact match i, hi, ho with
          | 0, _, ho => by
              cases ho
              rw [if_pos (wanted_none _ rfl)]
              refine wp_value (st_field rfl ((hs.keeps (by kernel_rfl)).trans rfl) (by kernel_rfl)) ⟨_, rfl, rfl, Below.refl _ _⟩
          | 1, _, ho => by
              cases ho
              rw [if_pos (wanted_none _ rfl)]
              have hx : w.cell? ⟨g5, 0, none⟩ = some (S p) := (HB5.out.step hb).cell 0; refine wp_value (st_load rfl (hm.get 0 16 (by kernel_rfl)) (by go_simp)) ⟨_, rfl, rfl, Below.refl _ _⟩
          | 2, _, ho => by
              cases ho
              rw [if_pos (wanted_none _ rfl)]
              have h1 := eval_getD (hm.get 1 17 (by kernel_rfl)); unfold Oper.wp; simp only [execOp]; go_simp; refine (C5.out w hb).mono ?_; rintro e w' ⟨rfl, hb'⟩; exact ⟨_, rfl, rfl, hb'⟩
          | 3, _, ho => by
              cases ho
              rw [if_pos (wanted_none _ rfl)]
              have h1 := eval_getD (hm.get 2 18 (by kernel_rfl)); unfold Oper.wp; simp only [execOp]; go_simp; exact ⟨_, rfl, rfl, Below.refl _ _⟩
          | 4, _, ho => by
              cases ho
              rw [if_pos (wanted_none _ rfl)]
              refine wp_value (st_move rfl (hm.get 3 19 (by kernel_rfl))) ⟨_, rfl, rfl, Below.refl _ _⟩
          | 5, _, ho => by
              cases ho
              generalize hW : Region.wanted _ _ = W
              obtain rfl : W = (true == false) := hW.symm.trans (wanted_of rfl rfl rfl (show a.eval (.tmp 20) = .bool true from (hm.get 4 20 (by kernel_rfl))))
              clear hW
              rw [if_neg (show ¬ (true == false) = true by decide)]
              exact rfl
          | 6, _, ho => by
              cases ho
              generalize hW : Region.wanted _ _ = W
              obtain rfl : W = (true == false) := hW.symm.trans (wanted_of rfl rfl rfl (show a.eval (.tmp 20) = .bool true from (hm.get 4 20 (by kernel_rfl))))
              clear hW
              rw [if_neg (show ¬ (true == false) = true by decide)]
              exact rfl
          | 7, _, ho => by
              cases ho
              generalize hW : Region.wanted _ _ = W
              obtain rfl : W = (true == false) := hW.symm.trans (wanted_of rfl rfl rfl (show a.eval (.tmp 20) = .bool true from (hm.get 4 20 (by kernel_rfl))))
              clear hW
              rw [if_neg (show ¬ (true == false) = true by decide)]
              exact rfl
          | 8, _, ho => by
              cases ho
              generalize hW : Region.wanted _ _ = W
              obtain rfl : W = (true == false) := hW.symm.trans (wanted_of rfl rfl rfl (show a.eval (.tmp 20) = .bool true from (hm.get 4 20 (by kernel_rfl))))
              clear hW
              rw [if_neg (show ¬ (true == false) = true by decide)]
              exact rfl
          | 9, _, ho => by
              cases ho
              rw [if_pos (wanted_none _ rfl)]
              have h1 := eval_getD (hm.get 4 20 (by kernel_rfl)); unfold Oper.wp; simp only [execOp]; go_simp; exact ⟨_, rfl, rfl, Below.refl _ _⟩
          | 10, _, ho => by
              cases ho
              rw [if_pos (wanted_none _ rfl)]
              refine wp_value (st_move rfl (hm.get 9 25 (by kernel_rfl))) ⟨_, rfl, rfl, Below.refl _ _⟩
          | 11, _, ho => by
              cases ho
              generalize hW : Region.wanted _ _ = W
              obtain rfl : W = (true == false) := hW.symm.trans (wanted_of rfl rfl rfl (show a.eval (.tmp 26) = .bool true from (hm.get 10 26 (by kernel_rfl))))
              clear hW
              rw [if_neg (show ¬ (true == false) = true by decide)]
              exact rfl
          | 12, _, ho => by
              cases ho
              generalize hW : Region.wanted _ _ = W
              obtain rfl : W = (true == false) := hW.symm.trans (wanted_of rfl rfl rfl (show a.eval (.tmp 26) = .bool true from (hm.get 10 26 (by kernel_rfl))))
              clear hW
              rw [if_neg (show ¬ (true == false) = true by decide)]
              exact rfl
          | 13, _, ho => by
              cases ho
              generalize hW : Region.wanted _ _ = W
              obtain rfl : W = (true == false) := hW.symm.trans (wanted_of rfl rfl rfl (show a.eval (.tmp 26) = .bool true from (hm.get 10 26 (by kernel_rfl))))
              clear hW
              rw [if_neg (show ¬ (true == false) = true by decide)]
              exact rfl
          | 14, _, ho => by
              cases ho
              rw [if_neg (show ¬ Region.wanted _ _ = true by rw [wanted_undef rfl rfl rfl (show a.eval (.tmp 29) = undef from (hm.get 13 29 (by kernel_rfl)))]; decide)]
              exact rfl
          | 15, _, ho => by
              cases ho
              rw [if_neg (show ¬ Region.wanted _ _ = true by rw [wanted_undef rfl rfl rfl (show a.eval (.tmp 29) = undef from (hm.get 13 29 (by kernel_rfl)))]; decide)]
              exact rfl
          | 16, _, ho => by
              cases ho
              rw [if_neg (show ¬ Region.wanted _ _ = true by rw [wanted_undef rfl rfl rfl (show a.eval (.tmp 29) = undef from (hm.get 13 29 (by kernel_rfl)))]; decide)]
              exact rfl
          | 17, _, ho => by
              cases ho
              rw [if_neg (show ¬ Region.wanted _ _ = true by rw [wanted_undef rfl rfl rfl (show a.eval (.tmp 29) = undef from (hm.get 13 29 (by kernel_rfl)))]; decide)]
              exact rfl
          | 18, _, ho => by
              cases ho
              rw [if_neg (show ¬ Region.wanted _ _ = true by rw [wanted_undef rfl rfl rfl (show a.eval (.tmp 29) = undef from (hm.get 13 29 (by kernel_rfl)))]; decide)]
              exact rfl
          | 19, _, ho => by
              cases ho
              rw [if_neg (show ¬ Region.wanted _ _ = true by rw [wanted_undef rfl rfl rfl (show a.eval (.tmp 29) = undef from (hm.get 13 29 (by kernel_rfl)))]; decide)]
              exact rfl
          | 20, _, ho => by
              cases ho
              rw [if_neg (show ¬ Region.wanted _ _ = true by rw [wanted_undef rfl rfl rfl (show a.eval (.tmp 29) = undef from (hm.get 13 29 (by kernel_rfl)))]; decide)]
              exact rfl
          | 21, _, ho => by
              cases ho
              rw [if_neg (show ¬ Region.wanted _ _ = true by rw [wanted_undef rfl rfl rfl (show a.eval (.tmp 29) = undef from (hm.get 13 29 (by kernel_rfl)))]; decide)]
              exact rfl
          | 22, _, ho => by
              cases ho
              rw [if_neg (show ¬ Region.wanted _ _ = true by rw [wanted_undef rfl rfl rfl (show a.eval (.tmp 29) = undef from (hm.get 13 29 (by kernel_rfl)))]; decide)]
              exact rfl
          | 23, _, ho => by
              cases ho
              generalize hW : Region.wanted _ _ = W
              obtain rfl : W = (true == false) := hW.symm.trans (wanted_of rfl rfl rfl (show a.eval (.tmp 26) = .bool true from (hm.get 10 26 (by kernel_rfl))))
              clear hW
              rw [if_neg (show ¬ (true == false) = true by decide)]
              exact rfl
          | (n + 24), hi, _ => absurd hi (by omega)
        · have e1 : a.eval (.tmp 26) = .bool true := by cases ho; exact hm.get 10 26 (by kernel_rfl)
          have hfr := hs.frame [16, 17, 18, 19, 20, 21, 22, 23, 24, 25, 26, 27, 28, 29, 30, 31, 32, 33, 34, 35, 36, 37, 38, 39, 40] (by kernel_rfl)
          cases ho
          rw [hfr]
          simp only [List.foldl_cons, List.foldl_nil, e1]
          clear hfr hs hm e1 
          generalize a.eval (.tmp 16) = u16
          generalize a.eval (.tmp 17) = u17
          generalize a.eval (.tmp 18) = u18
          generalize a.eval (.tmp 19) = u19
          generalize a.eval (.tmp 20) = u20
          generalize a.eval (.tmp 21) = u21
          generalize a.eval (.tmp 22) = u22
          generalize a.eval (.tmp 23) = u23
          generalize a.eval (.tmp 24) = u24
          generalize a.eval (.tmp 25) = u25
          generalize a.eval (.tmp 27) = u27
          generalize a.eval (.tmp 28) = u28
          generalize a.eval (.tmp 29) = u29
          generalize a.eval (.tmp 30) = u30
          generalize a.eval (.tmp 31) = u31
          generalize a.eval (.tmp 32) = u32
          generalize a.eval (.tmp 33) = u33
          generalize a.eval (.tmp 34) = u34
          generalize a.eval (.tmp 35) = u35
          generalize a.eval (.tmp 36) = u36
          generalize a.eval (.tmp 37) = u37
          generalize a.eval (.tmp 38) = u38
          generalize a.eval (.tmp 39) = u39
          generalize a.eval (.tmp 40) = u40
          unfold Oper.wp
          simp only [execOp]
          go_simp
          clear a
          have BX := Lib.hid (bstep BW.out hb)
          clear Hpv Hk1 C5 hb0
          go_wp2
          go_ret
          exact ⟨1, rfl, (fun h => absurd h (by decide)), BX.out⟩
      · have C5 : Hid (∀ W', Below W.heap.size W W' → Calls Tryz.prog 38 #[S p] W' fun e w' => e = .returned (.bool true) ∧ Below W'.heap.size W' w') := Lib.hid (fun W' h => by
          have h1 := named_any p W' Hgp0.out (HM.out.step (bstep BW.out h))
          rw [hnm] at h1
          exact h1)
        have Hnm := Lib.hid hnm
        clear hnm
        by_cases h32 : id.length = 32
        · have H32 : Hid (((id.length : Int) != 32) = false) := Lib.hid (by simp; omega)
          have Hi := Lib.hid h32
          clear h32
          go_wp2
          rw [← hW]
          simp only [← hg5]
          clear hW hg5 b5
          refine wp_region_guards (by kernel_rfl) 24 (by kernel_rfl) ?_ (ck3Phi b off n c k g5 p id prev b0 ge) ck3Phi_mono (fun i o hi ho a w hb hs hm => ?_) (fun o ho a w hb hs hm => ?_)
          · exact dst_lt9 (n := 66) (by kernel_rfl)
          · exact match i, hi, ho with
            | 0, _, ho => by
                cases ho
                rw [if_pos (wanted_none _ rfl)]
                refine wp_value (st_field rfl ((hs.keeps (by kernel_rfl)).trans rfl) (by kernel_rfl)) ⟨_, rfl, rfl, Below.refl _ _⟩
            | 1, _, ho => by
                cases ho
                rw [if_pos (wanted_none _ rfl)]
                have hx : w.cell? ⟨g5, 0, none⟩ = some (S p) := (HB5.out.step hb).cell 0; refine wp_value (st_load rfl (hm.get 0 16 (by kernel_rfl)) (by go_simp)) ⟨_, rfl, rfl, Below.refl _ _⟩
            | 2, _, ho => by
                cases ho
                rw [if_pos (wanted_none _ rfl)]
                have h1 := eval_getD (hm.get 1 17 (by kernel_rfl)); unfold Oper.wp; simp only [execOp]; go_simp; refine (C5.out w hb).mono ?_; rintro e w' ⟨rfl, hb'⟩; exact ⟨_, rfl, rfl, hb'⟩
            | 3, _, ho => by
                cases ho
                rw [if_pos (wanted_none _ rfl)]
                have h1 := eval_getD (hm.get 2 18 (by kernel_rfl)); unfold Oper.wp; simp only [execOp]; go_simp; exact ⟨_, rfl, rfl, Below.refl _ _⟩
            | 4, _, ho => by
                cases ho
                rw [if_pos (wanted_none _ rfl)]
                refine wp_value (st_move rfl (hm.get 3 19 (by kernel_rfl))) ⟨_, rfl, rfl, Below.refl _ _⟩
            | 5, _, ho => by
                cases ho
                generalize hW : Region.wanted _ _ = W
                obtain rfl : W = (false == false) := hW.symm.trans (wanted_of rfl rfl rfl (show a.eval (.tmp 20) = .bool false from (hm.get 4 20 (by kernel_rfl))))
                clear hW
                rw [if_pos (show (false == false) = true by decide)]
                refine wp_value (st_field rfl ((hs.keeps (by kernel_rfl)).trans rfl) (by kernel_rfl)) ⟨_, rfl, rfl, Below.refl _ _⟩
            | 6, _, ho => by
                cases ho
                generalize hW : Region.wanted _ _ = W
                obtain rfl : W = (false == false) := hW.symm.trans (wanted_of rfl rfl rfl (show a.eval (.tmp 20) = .bool false from (hm.get 4 20 (by kernel_rfl))))
                clear hW
                rw [if_pos (show (false == false) = true by decide)]
                have hx : w.cell? ⟨g5, 1, none⟩ = some (S id) := (HB5.out.step hb).cell 1; refine wp_value (st_load rfl (hm.get 5 21 (by kernel_rfl)) (by go_simp)) ⟨_, rfl, rfl, Below.refl _ _⟩
            | 7, _, ho => by
                cases ho
                generalize hW : Region.wanted _ _ = W
                obtain rfl : W = (false == false) := hW.symm.trans (wanted_of rfl rfl rfl (show a.eval (.tmp 20) = .bool false from (hm.get 4 20 (by kernel_rfl))))
                clear hW
                rw [if_pos (show (false == false) = true by decide)]
                have h1 := eval_getD (hm.get 6 22 (by kernel_rfl)); unfold Oper.wp; simp only [execOp]; go_simp; exact ⟨_, rfl, (show Value.int _ _ = Value.int _ _ by first | rfl | simp), Below.refl _ _⟩
            | 8, _, ho => by
                cases ho
                generalize hW : Region.wanted _ _ = W
                obtain rfl : W = (false == false) := hW.symm.trans (wanted_of rfl rfl rfl (show a.eval (.tmp 20) = .bool false from (hm.get 4 20 (by kernel_rfl))))
                clear hW
                rw [if_pos (show (false == false) = true by decide)]
                have h1 := eval_getD (hm.get 7 23 (by kernel_rfl)); unfold Oper.wp; simp only [execOp]; go_simp; exact ⟨_, rfl, (show Value.bool _ = Value.bool _ by first | rw [H32.out] | (simp; done) | rfl), Below.refl _ _⟩
            | 9, _, ho => by
                cases ho
                rw [if_pos (wanted_none _ rfl)]
                have h1 := eval_getD (hm.get 4 20 (by kernel_rfl)); have h3 := eval_getD (hm.get 8 24 (by kernel_rfl)); unfold Oper.wp; simp only [execOp]; go_simp; exact ⟨_, rfl, rfl, Below.refl _ _⟩
            | 10, _, ho => by
                cases ho
                rw [if_pos (wanted_none _ rfl)]
                refine wp_value (st_move rfl (hm.get 9 25 (by kernel_rfl))) ⟨_, rfl, rfl, Below.refl _ _⟩
            | 11, _, ho => by
                cases ho
                generalize hW : Region.wanted _ _ = W
                obtain rfl : W = (false == false) := hW.symm.trans (wanted_of rfl rfl rfl (show a.eval (.tmp 26) = .bool false from (hm.get 10 26 (by kernel_rfl))))
                clear hW
                rw [if_pos (show (false == false) = true by decide)]
                refine wp_value (st_move rfl ((hs.keeps (by kernel_rfl)).trans rfl)) ⟨_, rfl, rfl, Below.refl _ _⟩
            | 12, _, ho => by
                cases ho
                generalize hW : Region.wanted _ _ = W
                obtain rfl : W = (false == false) := hW.symm.trans (wanted_of rfl rfl rfl (show a.eval (.tmp 26) = .bool false from (hm.get 10 26 (by kernel_rfl))))
                clear hW
                rw [if_pos (show (false == false) = true by decide)]
                have h1 := eval_getD (hm.get 11 27 (by kernel_rfl)); unfold Oper.wp; simp only [execOp]; go_simp; exact ⟨_, rfl, (show Value.bool _ = Value.bool _ by rw [hb0.out]), Below.refl _ _⟩
            | 13, _, ho => by
                cases ho
                generalize hW : Region.wanted _ _ = W
                obtain rfl : W = (false == false) := hW.symm.trans (wanted_of rfl rfl rfl (show a.eval (.tmp 26) = .bool false from (hm.get 10 26 (by kernel_rfl))))
                clear hW
                rw [if_pos (show (false == false) = true by decide)]
                refine wp_value (st_move rfl (hm.get 12 28 (by kernel_rfl))) ⟨_, rfl, rfl, Below.refl _ _⟩
            | 14, _, ho => by
                cases ho
                generalize hW : Region.wanted _ _ = W
                obtain rfl : W = (b0 == true) := hW.symm.trans (wanted_of rfl rfl rfl (show a.eval (.tmp 29) = .bool b0 from (hm.get 13 29 (by kernel_rfl))))
                clear hW
                rcases fls_tru (b0) with hf | hf
                · rw [if_neg (show ¬ (b0 == true) = true by rw [hf]; decide)]; exact fun h => Bool.noConfusion (h.symm.trans hf)
                · rw [if_pos (show (b0 == true) = true by rw [hf]; decide)]
                  refine wp_value (st_move rfl ((hs.keeps (by kernel_rfl)).trans rfl)) ⟨_, rfl, fun _ => rfl, Below.refl _ _⟩
            | 15, _, ho => by
                cases ho
                generalize hW : Region.wanted _ _ = W
                obtain rfl : W = (b0 == true) := hW.symm.trans (wanted_of rfl rfl rfl (show a.eval (.tmp 29) = .bool b0 from (hm.get 13 29 (by kernel_rfl))))
                clear hW
                rcases fls_tru (b0) with hf | hf
                · rw [if_neg (show ¬ (b0 == true) = true by rw [hf]; decide)]; exact fun h => Bool.noConfusion (h.symm.trans hf)
                · rw [if_pos (show (b0 == true) = true by rw [hf]; decide)]
                  refine wp_value (st_move rfl ((hs.keeps (by kernel_rfl)).trans rfl)) ⟨_, rfl, fun _ => rfl, Below.refl _ _⟩
            | 16, _, ho => by
                cases ho
                generalize hW : Region.wanted _ _ = W
                obtain rfl : W = (b0 == true) := hW.symm.trans (wanted_of rfl rfl rfl (show a.eval (.tmp 29) = .bool b0 from (hm.get 13 29 (by kernel_rfl))))
                clear hW
                rcases fls_tru (b0) with hf | hf
                · rw [if_neg (show ¬ (b0 == true) = true by rw [hf]; decide)]; exact fun h => Bool.noConfusion (h.symm.trans hf)
                · rw [if_pos (show (b0 == true) = true by rw [hf]; decide)]
                  have hk1 := Hk1.out hf; have hv : IntKind.i64.wrap ((k : Int) - 1) = ((k - 1 : Nat) : Int) := (by rw [IntWalk.i64_in _ (by omega)]; try omega); have h1 := eval_getD ((hm.get 15 31 (by kernel_rfl)) hf); unfold Oper.wp; simp only [execOp]; go_simp; exact ⟨_, rfl, fun _ => (show Value.int _ _ = Value.int _ _ by first | rfl | rw [hv] | (congr 1; omega)), Below.refl _ _⟩
            | 17, _, ho => by
                cases ho
                generalize hW : Region.wanted _ _ = W
                obtain rfl : W = (b0 == true) := hW.symm.trans (wanted_of rfl rfl rfl (show a.eval (.tmp 29) = .bool b0 from (hm.get 13 29 (by kernel_rfl))))
                clear hW
                rcases fls_tru (b0) with hf | hf
                · rw [if_neg (show ¬ (b0 == true) = true by rw [hf]; decide)]; exact fun h => Bool.noConfusion (h.symm.trans hf)
                · rw [if_pos (show (b0 == true) = true by rw [hf]; decide)]
                  have hk1 := Hk1.out hf; have hlt1 : k - 1 < n := (by omega); have h1 := eval_getD ((hm.get 14 30 (by kernel_rfl)) hf); have h2 := eval_getD ((hm.get 16 32 (by kernel_rfl)) hf); unfold Oper.wp; simp only [execOp]; go_simp; exact ⟨_, rfl, fun _ => rfl, Below.refl _ _⟩
            | 18, _, ho => by
                cases ho
                generalize hW : Region.wanted _ _ = W
                obtain rfl : W = (b0 == true) := hW.symm.trans (wanted_of rfl rfl rfl (show a.eval (.tmp 29) = .bool b0 from (hm.get 13 29 (by kernel_rfl))))
                clear hW
                rcases fls_tru (b0) with hf | hf
                · rw [if_neg (show ¬ (b0 == true) = true by rw [hf]; decide)]; exact fun h => Bool.noConfusion (h.symm.trans hf)
                · rw [if_pos (show (b0 == true) = true by rw [hf]; decide)]
                  have h1 := eval_getD ((hm.get 17 33 (by kernel_rfl)) hf); unfold Oper.wp; simp only [execOp]; go_simp; exact ⟨_, rfl, fun _ => rfl, Below.refl _ _⟩
            | 19, _, ho => by
                cases ho
                generalize hW : Region.wanted _ _ = W
                obtain rfl : W = (b0 == true) := hW.symm.trans (wanted_of rfl rfl rfl (show a.eval (.tmp 29) = .bool b0 from (hm.get 13 29 (by kernel_rfl))))
                clear hW
                rcases fls_tru (b0) with hf | hf
                · rw [if_neg (show ¬ (b0 == true) = true by rw [hf]; decide)]; exact fun h => Bool.noConfusion (h.symm.trans hf)
                · rw [if_pos (show (b0 == true) = true by rw [hf]; decide)]
                  have hx := Hpv.out w hb hf; have h1 := eval_getD ((hm.get 18 34 (by kernel_rfl)) hf); unfold Oper.wp; simp only [execOp]; go_simp; exact ⟨_, rfl, fun _ => rfl, Below.refl _ _⟩
            | 20, _, ho => by
                cases ho
                generalize hW : Region.wanted _ _ = W
                obtain rfl : W = (b0 == true) := hW.symm.trans (wanted_of rfl rfl rfl (show a.eval (.tmp 29) = .bool b0 from (hm.get 13 29 (by kernel_rfl))))
                clear hW
                rcases fls_tru (b0) with hf | hf
                · rw [if_neg (show ¬ (b0 == true) = true by rw [hf]; decide)]; exact fun h => Bool.noConfusion (h.symm.trans hf)
                · rw [if_pos (show (b0 == true) = true by rw [hf]; decide)]
                  refine wp_value (st_field rfl ((hs.keeps (by kernel_rfl)).trans rfl) (by kernel_rfl)) ⟨_, rfl, fun _ => rfl, Below.refl _ _⟩
            | 21, _, ho => by
                cases ho
                generalize hW : Region.wanted _ _ = W
                obtain rfl : W = (b0 == true) := hW.symm.trans (wanted_of rfl rfl rfl (show a.eval (.tmp 29) = .bool b0 from (hm.get 13 29 (by kernel_rfl))))
                clear hW
                rcases fls_tru (b0) with hf | hf
                · rw [if_neg (show ¬ (b0 == true) = true by rw [hf]; decide)]; exact fun h => Bool.noConfusion (h.symm.trans hf)
                · rw [if_pos (show (b0 == true) = true by rw [hf]; decide)]
                  have hx : w.cell? ⟨g5, 0, none⟩ = some (S p) := (HB5.out.step hb).cell 0; refine wp_value (st_load rfl ((hm.get 20 36 (by kernel_rfl)) hf) (by go_simp)) ⟨_, rfl, fun _ => rfl, Below.refl _ _⟩
            | 22, _, ho => by
                cases ho
                generalize hW : Region.wanted _ _ = W
                obtain rfl : W = (b0 == true) := hW.symm.trans (wanted_of rfl rfl rfl (show a.eval (.tmp 29) = .bool b0 from (hm.get 13 29 (by kernel_rfl))))
                clear hW
                rcases fls_tru (b0) with hf | hf
                · rw [if_neg (show ¬ (b0 == true) = true by rw [hf]; decide)]; exact fun h => Bool.noConfusion (h.symm.trans hf)
                · rw [if_pos (show (b0 == true) = true by rw [hf]; decide)]
                  have h1 := eval_getD ((hm.get 19 35 (by kernel_rfl)) hf); have h2 := eval_getD ((hm.get 21 37 (by kernel_rfl)) hf); unfold Oper.wp; simp only [execOp]; go_simp; exact ⟨_, rfl, fun _ => (show Value.bool _ = Value.bool _ by first | rw [Hge.out] | (simp; done) | rfl), Below.refl _ _⟩
            | 23, _, ho => by
                cases ho
                generalize hW : Region.wanted _ _ = W
                obtain rfl : W = (false == false) := hW.symm.trans (wanted_of rfl rfl rfl (show a.eval (.tmp 26) = .bool false from (hm.get 10 26 (by kernel_rfl))))
                clear hW
                rw [if_pos (show (false == false) = true by decide)]
                have h1 := eval_getD (hm.get 13 29 (by kernel_rfl))
                have h2 := (hm.get 22 38 (by kernel_rfl))
                rcases fls_tru (b0) with hg | hg
                · rw [hg] at h1
                  unfold Oper.wp; simp only [execOp]; go_simp
                  exact ⟨_, rfl, (show Value.bool _ = Value.bool _ by first | (rw [hg]; simp) | simp), Below.refl _ _⟩
                · rw [hg] at h1
                  have h3 := eval_getD (h2 hg)
                  unfold Oper.wp; simp only [execOp]; go_simp
                  exact ⟨_, rfl, (show Value.bool _ = Value.bool _ by first | (rw [hg]; simp) | simp), Below.refl _ _⟩
            | (n + 24), hi, _ => absurd hi (by omega)
          · have e1 : a.eval (.tmp 26) = .bool false := by cases ho; exact hm.get 10 26 (by kernel_rfl)
            have e2 : a.eval (.tmp 39) = .bool (b0 && ge) := by cases ho; exact hm.get 23 39 (by kernel_rfl)
            have hfr := hs.frame [16, 17, 18, 19, 20, 21, 22, 23, 24, 25, 26, 27, 28, 29, 30, 31, 32, 33, 34, 35, 36, 37, 38, 39, 40] (by kernel_rfl)
            cases ho
            rw [hfr]
            simp only [List.foldl_cons, List.foldl_nil, e1, e2]
            clear hfr hs hm e1 e2
            generalize a.eval (.tmp 16) = u16
            generalize a.eval (.tmp 17) = u17
            generalize a.eval (.tmp 18) = u18
            generalize a.eval (.tmp 19) = u19
            generalize a.eval (.tmp 20) = u20
            generalize a.eval (.tmp 21) = u21
            generalize a.eval (.tmp 22) = u22
            generalize a.eval (.tmp 23) = u23
            generalize a.eval (.tmp 24) = u24
            generalize a.eval (.tmp 25) = u25
            generalize a.eval (.tmp 27) = u27
            generalize a.eval (.tmp 28) = u28
            generalize a.eval (.tmp 29) = u29
            generalize a.eval (.tmp 30) = u30
            generalize a.eval (.tmp 31) = u31
            generalize a.eval (.tmp 32) = u32
            generalize a.eval (.tmp 33) = u33
            generalize a.eval (.tmp 34) = u34
            generalize a.eval (.tmp 35) = u35
            generalize a.eval (.tmp 36) = u36
            generalize a.eval (.tmp 37) = u37
            generalize a.eval (.tmp 38) = u38
            generalize a.eval (.tmp 40) = u40
            unfold Oper.wp
            simp only [execOp]
            go_simp
            clear a
            have BX := Lib.hid (bstep BW.out hb)
            have HB6 := Lib.hid (HB5.out.step hb)
            have hM6 := HMk.out.step hb
            have hkm : k < maxLen := Nat.lt_of_lt_of_le hlt (Nat.le_trans hn (by decide))
            have HF2 : Hid ((b0 && ge) = false → FineL (l.take (k + 1))) := Lib.hid (fun h => by
              refine fine_snoc hfi.out Hf.out Hnm.out Hi.out ?_
              cases hb1 : b0 with
              | false => exact .inl (Hb0f.out hb1)
              | true =>
                rw [hb1] at h
                obtain ⟨q, hq, hq2⟩ := Hpq.out hb1
                exact .inr ⟨q, hq, by rw [hq2]; exact Hge2.out (by simpa using h)⟩)
            clear Hpv Hk1 C5 hb0 Hpq Hb0f Hge Hge2 Hnm Hi
            cases hz : (b0 && ge) with
            | true =>
              go_wp2
              go_ret
              exact ⟨1, rfl, (fun h => absurd h (by decide)), BX.out⟩
            | false =>
              have HF3 := Lib.hid (HF2.out hz)
              have r5 := HB6.out.cell
              clear HF2
              go_wp2_with (at_mapUpdate; refine wpList_store _ rfl _ _ _ 83 rfl seenC Tryz.underlying83 m k _ rfl hM6 hkm p rfl hgp 1 rfl ?_; intro W2 hm2 hg2; have HX2 := Lib.hid (BX.out.grown hg2 BX.out.size (fun j e => by cases e; have := HMW.out; omega)); have HM2 := Lib.hid hm2; have HB7 := Lib.hid (HB6.out.grown hg2 (fun e => hgm (by cases e; rfl))); have r7 := HB7.out.cell; clear hm2 hg2 r5)
              have hps : (⟨p.toArray⟩ : ByteArray).size = p.length := size_mk p
              go_loopw [2, 6, 7] (fun s2 s6 s7 wr' => ∃ pos, s2 = I 0 ∧ wr' = W2.iter ⟨p.toArray⟩ pos) (fun _ _ _ wr' => p.length - wr'.iterPos W2.heap.size)
              case atStart => exact ⟨0, rfl, rfl⟩
              case round =>
                obtain ⟨pos, rfl, rfl⟩ := hrel
                by_cases hp : pos < p.length
                · have hnx : ∀ ty, (Instr.next (.pointer (some ⟨W2.heap.size, 0, none⟩)) true ty).run Tryz.prog (W2.iter ⟨p.toArray⟩ pos) = _ := fun ty => run_next_any W2 ⟨p.toArray⟩ pos ty (by rw [hps]; exact hp)
                  have hwd := rune_width hp
                  by_cases h47 : (Utf8.decode ⟨p.toArray⟩ pos).1 = 47
                  · have hq : (((Utf8.decode ⟨p.toArray⟩ pos).1 : Int) == 47) = true := beq_iff_eq.2 (congrArg Int.ofNat h47)
                    have he : (⟨p.toArray⟩ : ByteArray).extract 0 pos = ⟨(p.take pos).toArray⟩ := by simpa using extract_mk p 0 pos
                    have hgq : (p.take pos).length ≤ maxLen := by rw [List.length_take]; omega
                    have hM7 : MapIs seenC (W2.iter ⟨p.toArray⟩ (pos + (Utf8.decode ⟨p.toArray⟩ pos).2)) m (k + 1) (upd (known l k) p (some 1)) := HM2.out.alloc _
                    have r8 := (show Blk (W2.iter ⟨p.toArray⟩ (pos + (Utf8.decode ⟨p.toArray⟩ pos).2)) g5 _ _ from HB7.out.alloc _).cell
                    obtain ⟨v, hv⟩ : ∃ v, (upd (known l k) p (some 1) (p.take pos)).getD 0 = v := ⟨_, rfl⟩
                    have hkv : Hid (seenC.vv ((upd (known l k) p (some 1) (p.take pos)).getD 0) = I v) := Lib.hid (by rw [hv]; rfl)
                    cases hd : decide (0 < v) with
                    | false =>
                      clear hv
                      go_wp2_with (at_lookup; refine wpList_lookG _ (by rfl) _ _ 83 rfl seenC Tryz.underlying83 0 (Tryz.zeroI _) m (k + 1) _ rfl hM7 (p.take pos) rfl hgq ?_; rw [hkv.out])
                      go_roundw
                      case rel => exact ⟨pos + (Utf8.decode ⟨p.toArray⟩ pos).2, rfl, rfl⟩
                      case measure => simp; omega
                    | true =>
                      clear hv
                      go_wp2_with (at_lookup; refine wpList_lookG _ (by rfl) _ _ 83 rfl seenC Tryz.underlying83 0 (Tryz.zeroI _) m (k + 1) _ rfl hM7 (p.take pos) rfl hgq ?_; rw [hkv.out])
                      go_ret
                      exact ⟨1, rfl, (fun h => absurd h (by decide)), balloc HX2.out _⟩
                  · have hq : (((Utf8.decode ⟨p.toArray⟩ pos).1 : Int) == 47) = false := beq_eq_false_iff_ne.2 (fun e => h47 (Int.ofNat.inj e))
                    go_wp2
                    go_roundw
                    case rel => exact ⟨pos + (Utf8.decode ⟨p.toArray⟩ pos).2, rfl, rfl⟩
                    case measure => simp; omega
                · have hnx : ∀ ty, (Instr.next (.pointer (some ⟨W2.heap.size, 0, none⟩)) true ty).run Tryz.prog (W2.iter ⟨p.toArray⟩ pos) = _ := fun ty => run_next_end W2 ⟨p.toArray⟩ pos ty (by rw [hps]; exact hp)
                  go_wp2
                  go_roundw
                  case rel => exact ⟨k + 1, rfl, by go_num, Lib.hid hlt, HF3, Lib.hid (by rw [← known_succ Hf.out]; exact HM2.out.alloc _), Lib.hid (balloc HX2.out _)⟩
                  case measure => simp [intOf]; omega
        · have H32 : Hid (((id.length : Int) != 32) = true) := Lib.hid (by simp; omega)
          clear h32
          go_wp2
          rw [← hW]
          simp only [← hg5]
          clear hW hg5 b5
          refine wp_region_guards (by kernel_rfl) 24 (by kernel_rfl) ?_ (ck2Phi g5 p id) ck2Phi_mono (fun i o hi ho a w hb hs hm => ?_) (fun o ho a w hb hs hm => ?_)
          · exact dst_lt9 (n := 66) (by kernel_rfl)
          · exact match i, hi, ho with
            | 0, _, ho => by
                cases ho
                rw [if_pos (wanted_none _ rfl)]
                refine wp_value (st_field rfl ((hs.keeps (by kernel_rfl)).trans rfl) (by kernel_rfl)) ⟨_, rfl, rfl, Below.refl _ _⟩
            | 1, _, ho => by
                cases ho
                rw [if_pos (wanted_none _ rfl)]
                have hx : w.cell? ⟨g5, 0, none⟩ = some (S p) := (HB5.out.step hb).cell 0; refine wp_value (st_load rfl (hm.get 0 16 (by kernel_rfl)) (by go_simp)) ⟨_, rfl, rfl, Below.refl _ _⟩
            | 2, _, ho => by
                cases ho
                rw [if_pos (wanted_none _ rfl)]
                have h1 := eval_getD (hm.get 1 17 (by kernel_rfl)); unfold Oper.wp; simp only [execOp]; go_simp; refine (C5.out w hb).mono ?_; rintro e w' ⟨rfl, hb'⟩; exact ⟨_, rfl, rfl, hb'⟩
            | 3, _, ho => by
                cases ho
                rw [if_pos (wanted_none _ rfl)]
                have h1 := eval_getD (hm.get 2 18 (by kernel_rfl)); unfold Oper.wp; simp only [execOp]; go_simp; exact ⟨_, rfl, rfl, Below.refl _ _⟩
            | 4, _, ho => by
                cases ho
                rw [if_pos (wanted_none _ rfl)]
                refine wp_value (st_move rfl (hm.get 3 19 (by kernel_rfl))) ⟨_, rfl, rfl, Below.refl _ _⟩
            | 5, _, ho => by
                cases ho
                generalize hW : Region.wanted _ _ = W
                obtain rfl : W = (false == false) := hW.symm.trans (wanted_of rfl rfl rfl (show a.eval (.tmp 20) = .bool false from (hm.get 4 20 (by kernel_rfl))))
                clear hW
                rw [if_pos (show (false == false) = true by decide)]
                refine wp_value (st_field rfl ((hs.keeps (by kernel_rfl)).trans rfl) (by kernel_rfl)) ⟨_, rfl, rfl, Below.refl _ _⟩
            | 6, _, ho => by
                cases ho
                generalize hW : Region.wanted _ _ = W
                obtain rfl : W = (false == false) := hW.symm.trans (wanted_of rfl rfl rfl (show a.eval (.tmp 20) = .bool false from (hm.get 4 20 (by kernel_rfl))))
                clear hW
                rw [if_pos (show (false == false) = true by decide)]
                have hx : w.cell? ⟨g5, 1, none⟩ = some (S id) := (HB5.out.step hb).cell 1; refine wp_value (st_load rfl (hm.get 5 21 (by kernel_rfl)) (by go_simp)) ⟨_, rfl, rfl, Below.refl _ _⟩
            | 7, _, ho => by
                cases ho
                generalize hW : Region.wanted _ _ = W
                obtain rfl : W = (false == false) := hW.symm.trans (wanted_of rfl rfl rfl (show a.eval (.tmp 20) = .bool false from (hm.get 4 20 (by kernel_rfl))))
                clear hW
                rw [if_pos (show (false == false) = true by decide)]
                have h1 := eval_getD (hm.get 6 22 (by kernel_rfl)); unfold Oper.wp; simp only [execOp]; go_simp; exact ⟨_, rfl, (show Value.int _ _ = Value.int _ _ by first | rfl | simp), Below.refl _ _⟩
            | 8, _, ho => by
                cases ho
                generalize hW : Region.wanted _ _ = W
                obtain rfl : W = (false == false) := hW.symm.trans (wanted_of rfl rfl rfl (show a.eval (.tmp 20) = .bool false from (hm.get 4 20 (by kernel_rfl))))
                clear hW
                rw [if_pos (show (false == false) = true by decide)]
                have h1 := eval_getD (hm.get 7 23 (by kernel_rfl)); unfold Oper.wp; simp only [execOp]; go_simp; exact ⟨_, rfl, (show Value.bool _ = Value.bool _ by first | rw [H32.out] | (simp; done) | rfl), Below.refl _ _⟩
            | 9, _, ho => by
                cases ho
                rw [if_pos (wanted_none _ rfl)]
                have h1 := eval_getD (hm.get 4 20 (by kernel_rfl)); have h3 := eval_getD (hm.get 8 24 (by kernel_rfl)); unfold Oper.wp; simp only [execOp]; go_simp; exact ⟨_, rfl, rfl, Below.refl _ _⟩
            | 10, _, ho => by
                cases ho
                rw [if_pos (wanted_none _ rfl)]
                refine wp_value (st_move rfl (hm.get 9 25 (by kernel_rfl))) ⟨_, rfl, rfl, Below.refl _ _⟩
            | 11, _, ho => by
                cases ho
                generalize hW : Region.wanted _ _ = W
                obtain rfl : W = (true == false) := hW.symm.trans (wanted_of rfl rfl rfl (show a.eval (.tmp 26) = .bool true from (hm.get 10 26 (by kernel_rfl))))
                clear hW
                rw [if_neg (show ¬ (true == false) = true by decide)]
                exact rfl
            | 12, _, ho => by
                cases ho
                generalize hW : Region.wanted _ _ = W
                obtain rfl : W = (true == false) := hW.symm.trans (wanted_of rfl rfl rfl (show a.eval (.tmp 26) = .bool true from (hm.get 10 26 (by kernel_rfl))))
                clear hW
                rw [if_neg (show ¬ (true == false) = true by decide)]
                exact rfl
            | 13, _, ho => by
                cases ho
                generalize hW : Region.wanted _ _ = W
                obtain rfl : W = (true == false) := hW.symm.trans (wanted_of rfl rfl rfl (show a.eval (.tmp 26) = .bool true from (hm.get 10 26 (by kernel_rfl))))
                clear hW
                rw [if_neg (show ¬ (true == false) = true by decide)]
                exact rfl
            | 14, _, ho => by
                cases ho
                rw [if_neg (show ¬ Region.wanted _ _ = true by rw [wanted_undef rfl rfl rfl (show a.eval (.tmp 29) = undef from (hm.get 13 29 (by kernel_rfl)))]; decide)]
                exact rfl
            | 15, _, ho => by
                cases ho
                rw [if_neg (show ¬ Region.wanted _ _ = true by rw [wanted_undef rfl rfl rfl (show a.eval (.tmp 29) = undef from (hm.get 13 29 (by kernel_rfl)))]; decide)]
                exact rfl
            | 16, _, ho => by
                cases ho
                rw [if_neg (show ¬ Region.wanted _ _ = true by rw [wanted_undef rfl rfl rfl (show a.eval (.tmp 29) = undef from (hm.get 13 29 (by kernel_rfl)))]; decide)]
                exact rfl
            | 17, _, ho => by
                cases ho
                rw [if_neg (show ¬ Region.wanted _ _ = true by rw [wanted_undef rfl rfl rfl (show a.eval (.tmp 29) = undef from (hm.get 13 29 (by kernel_rfl)))]; decide)]
                exact rfl
            | 18, _, ho => by
                cases ho
                rw [if_neg (show ¬ Region.wanted _ _ = true by rw [wanted_undef rfl rfl rfl (show a.eval (.tmp 29) = undef from (hm.get 13 29 (by kernel_rfl)))]; decide)]
                exact rfl
            | 19, _, ho => by
                cases ho
                rw [if_neg (show ¬ Region.wanted _ _ = true by rw [wanted_undef rfl rfl rfl (show a.eval (.tmp 29) = undef from (hm.get 13 29 (by kernel_rfl)))]; decide)]
                exact rfl
            | 20, _, ho => by
                cases ho
                rw [if_neg (show ¬ Region.wanted _ _ = true by rw [wanted_undef rfl rfl rfl (show a.eval (.tmp 29) = undef from (hm.get 13 29 (by kernel_rfl)))]; decide)]
                exact rfl
            | 21, _, ho => by
                cases ho
                rw [if_neg (show ¬ Region.wanted _ _ = true by rw [wanted_undef rfl rfl rfl (show a.eval (.tmp 29) = undef from (hm.get 13 29 (by kernel_rfl)))]; decide)]
                exact rfl
            | 22, _, ho => by
                cases ho
                rw [if_neg (show ¬ Region.wanted _ _ = true by rw [wanted_undef rfl rfl rfl (show a.eval (.tmp 29) = undef from (hm.get 13 29 (by kernel_rfl)))]; decide)]
                exact rfl
            | 23, _, ho => by
                cases ho
                generalize hW : Region.wanted _ _ = W
                obtain rfl : W = (true == false) := hW.symm.trans (wanted_of rfl rfl rfl (show a.eval (.tmp 26) = .bool true from (hm.get 10 26 (by kernel_rfl))))
                clear hW
                rw [if_neg (show ¬ (true == false) = true by decide)]
                exact rfl
            | (n + 24), hi, _ => absurd hi (by omega)
          · have e1 : a.eval (.tmp 26) = .bool true := by cases ho; exact hm.get 10 26 (by kernel_rfl)
            have hfr := hs.frame [16, 17, 18, 19, 20, 21, 22, 23, 24, 25, 26, 27, 28, 29, 30, 31, 32, 33, 34, 35, 36, 37, 38, 39, 40] (by kernel_rfl)
            cases ho
            rw [hfr]
            simp only [List.foldl_cons, List.foldl_nil, e1]
            clear hfr hs hm e1 
            generalize a.eval (.tmp 16) = u16
            generalize a.eval (.tmp 17) = u17
            generalize a.eval (.tmp 18) = u18
            generalize a.eval (.tmp 19) = u19
            generalize a.eval (.tmp 20) = u20
            generalize a.eval (.tmp 21) = u21
            generalize a.eval (.tmp 22) = u22
            generalize a.eval (.tmp 23) = u23
            generalize a.eval (.tmp 24) = u24
            generalize a.eval (.tmp 25) = u25
            generalize a.eval (.tmp 27) = u27
            generalize a.eval (.tmp 28) = u28
            generalize a.eval (.tmp 29) = u29
            generalize a.eval (.tmp 30) = u30
            generalize a.eval (.tmp 31) = u31
            generalize a.eval (.tmp 32) = u32
            generalize a.eval (.tmp 33) = u33
            generalize a.eval (.tmp 34) = u34
            generalize a.eval (.tmp 35) = u35
            generalize a.eval (.tmp 36) = u36
            generalize a.eval (.tmp 37) = u37
            generalize a.eval (.tmp 38) = u38
            generalize a.eval (.tmp 39) = u39
            generalize a.eval (.tmp 40) = u40
            unfold Oper.wp
            simp only [execOp]
            go_simp
            clear a
            have BX := Lib.hid (bstep BW.out hb)
            clear Hpv Hk1 C5 hb0
            go_wp2
            go_ret
            exact ⟨1, rfl, (fun h => absurd h (by decide)), BX.out⟩
    · obtain rfl : k = n := by have := hk.out; omega
      have hfi2 := hfi.out
      rw [List.take_of_length_le (by rw [Hln.out]; exact Nat.le_refl _)] at hfi2
      have HF := Lib.hid hfi2
      clear hfi2 hfi
      go_wp2
      all_goals go_ret
      · exact ⟨1, rfl, (fun h => absurd h (by decide)), hb.out⟩
      · exact ⟨0, rfl, fun _ => HF.out, hb.out⟩
end Go.Proofs.YtkginbfpokbhcaaGreatDoor
