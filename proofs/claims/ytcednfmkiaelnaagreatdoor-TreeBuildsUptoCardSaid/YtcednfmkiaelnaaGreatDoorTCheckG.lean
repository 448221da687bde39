/-
  tree.Check at whatever files: where it answers OK, their paths rise and are rightly named, their ids have 32 bytes. Conditions: the files can be read, no more than 1048576; no path is longer than 2147483648; MaxLen holds an int.
-/
import Derived.Test.YtcednfmkiaelnaaGreatDoorTKitX
import Derived.Test.YtcednfmkiaelnaaGreatDoorTKitW
import Derived.Laws.RangeString
import Derived.Laws.RangeAny
import Derived.Sort.Walk0
import Derived.BigQuiet
namespace Go.Proofs.YtcednfmkiaelnaaGreatDoor
open Go.RowKit
open PathLaw (named under)
def dstAll9 (ops : Array Oper) (n : Nat) : Bool := ops.all (fun o => match o.dst with | some d => decide (d < n) | none => true)
theorem dst_lt9 {ops : Array Oper} {n : Nat} (h : dstAll9 ops n = true) (i : Nat) (o : Oper) (d : Nat) (ho : ops[i]? = some o) (hd : o.dst = some d) : d < n := by
 have h1 := Array.all_eq_true_iff_forall_mem.1 h o (Array.mem_of_getElem? ho)
 rw [hd] at h1
 simpa using h1
theorem wanted_undef {ops : Array Oper} {o p : Oper} {a : Act} {j d : Nat} {b : Bool} (hg : o.guard = some (j, b)) (hp : ops[j]? = some p) (hd : p.dst = some d) (hv : a.eval (.tmp d) = undef) : Region.wanted o (yielded ops a.tmps) = false := by
 have h : ∀ c, a.tmps[d]? ≠ some (.bool c) := by
  intro c hc
  simp only [Act.eval, Array.getD_eq_getD_getElem?] at hv
  rw [hc] at hv
  simp [undef] at hv
 unfold Region.wanted yielded
 rw [hg]
 simp only [hp, hd, Option.bind_some]
 rcases hx : a.tmps[d]? with _ | u
 ·simp
 ·cases u <;> simp_all
def rdI : Value → Option (DataW Unit × List MemPlace)
 | .int .i64 n => some (.lit (.int .i64 n), [])
 | _ => none
theorem lit_inj {a b : List UInt8} (h : Lit.string a = Lit.string b) : a = b := by injection h
def seenC : Coding Tryz.prog 9 3 (List UInt8) Int where
 kv := S
 kl := Lit.string
 vv := I
 vd n := .lit (.int .i64 n)
 R := rdI
 good s := s.length ≤ maxLen
 keyed := Maps.string_keyed Tryz.underlying9
 key s h := by
  have := WideMaps.keyOf_string_mk (P := Tryz.prog) Tryz.underlying9 (s := ⟨s.toArray⟩) (by rw [size_mk]; exact h)
  simpa using this
 inj _ _ _ _ h := lit_inj h
 enc _ := rfl
 dec v a ps h := by
  unfold rdI at h
  split at h
  ·simp only [Option.some.injEq, Prod.mk.injEq, DataW.lit.injEq, Lit.int.injEq, true_and] at h
   rw [h.1]
  ·cases h
theorem Tryz.zeroI (w : World) : (zeroValue 3).run Tryz.prog w = .ok (seenC.vv 0) w := by kernel_rfl
section
variable {P : Program} (w : World) {ops : Array Oper} {rest : List Oper} {o : Oper} {a : Act} {Q : Exit → Act → World → Prop} {k e : TypeId} {κ α : Type}
theorem wpList_lookG (hw : Region.wanted o (yielded ops a.tmps) = true) (m x : Operand) (t : TypeId) (hop : o.op = Op.lookup t m x false) (C : Coding P k e κ α) (ht : P.underlying t = some (.map k e)) (a0 : α) (hz : (zeroValue e).run P w = .ok (C.vv a0) w) (b n : Nat) (f : κ → Option α)
  (hm : a.eval m = .map (some b)) (h : MapIs C w b n f) (key : κ) (hx : a.eval x = C.kv key) (hgd : C.good key) (hK : wpList P ops Q rest (a.put o.dst (C.vv ((f key).getD a0))) w) : wpList P ops Q (o :: rest) a w := by
 refine wpList_step fun K' hK' => ?_
 rw [if_pos hw]
 have hrun := h.run_look ht hz hgd
 unfold Oper.wp
 simp [execOp, hop, hm, hx, hrun, Result.andThen]
 exact hK' _ _ hK
end
theorem rune_slash {p : List UInt8} {pos : Nat} (h : pos < p.length) (hr : (Utf8.decode ⟨p.toArray⟩ pos).1 = 47) : p[pos]? = some 47 := by
 have hs : pos < (⟨p.toArray⟩ : ByteArray).size := by rw [size_mk]; exact h
 rcases Nat.lt_or_ge (((⟨p.toArray⟩ : ByteArray)[pos]'hs).toNat) 128 with ha | ha
 ·rw [decode_ascii _ pos hs ha] at hr
  rw [List.getElem?_eq_getElem h]
  exact congrArg some (UInt8.toNat_inj.1 (show p[pos].toNat = (47 : UInt8).toNat from hr))
 ·have := (decode_high ⟨p.toArray⟩ pos hs ha).1
  omega
theorem rune_width {p : List UInt8} {pos : Nat} (h : pos < p.length) : 1 ≤ (Utf8.decode ⟨p.toArray⟩ pos).2 := by
 have hs : pos < (⟨p.toArray⟩ : ByteArray).size := by rw [size_mk]; exact h
 rcases Nat.lt_or_ge (((⟨p.toArray⟩ : ByteArray)[pos]'hs).toNat) 128 with ha | ha
 ·rw [decode_ascii _ pos hs ha]; exact Nat.le_refl _
 ·exact (decode_high ⟨p.toArray⟩ pos hs ha).2
theorem slash_under {p : List UInt8} {pos : Nat} (h : p[pos]? = some 47) : under p (p.take pos) = true := by
 obtain ⟨hk, hx⟩ := List.getElem?_eq_some_iff.1 h
 refine PathLaw.under_iff.2 ⟨p.drop (pos + 1), ?_⟩
 conv => lhs; rw [← List.take_append_drop pos p, List.drop_eq_getElem_cons hk, hx]
def ck1Phi (g5 : Nat) (p : List UInt8) : Nat → Value → World → Prop
 | 0, v, _ => v = .pointer (some ⟨g5, 0, none⟩)
 | 1, v, _ => v = S p
 | 2, v, _ => v = .bool false
 | 3, v, _ => v = .bool true
 | 4, v, _ => v = .bool true
 | 5, v, _ => v = undef
 | 6, v, _ => v = undef
 | 7, v, _ => v = undef
 | 8, v, _ => v = undef
 | 9, v, _ => v = .bool true
 | 10, v, _ => v = .bool true
 | 11, v, _ => v = undef
 | 12, v, _ => v = undef
 | 13, v, _ => v = undef
 | 14, v, _ => v = undef
 | 15, v, _ => v = undef
 | 16, v, _ => v = undef
 | 17, v, _ => v = undef
 | 18, v, _ => v = undef
 | 19, v, _ => v = undef
 | 20, v, _ => v = undef
 | 21, v, _ => v = undef
 | 22, v, _ => v = undef
 | 23, v, _ => v = undef
 | _, _, _ => True
theorem ck1Phi_mono {g5 : Nat} {p : List UInt8} : ∀ (j : Nat) (v : Value) (w w' : World), ck1Phi g5 p j v w → Below w.heap.size w w' → ck1Phi g5 p j v w' := by
 intro j v w w' h _
 match j, h with
 | 0, h => exact h
 | 1, h => exact h
 | 2, h => exact h
 | 3, h => exact h
 | 4, h => exact h
 | 5, h => exact h
 | 6, h => exact h
 | 7, h => exact h
 | 8, h => exact h
 | 9, h => exact h
 | 10, h => exact h
 | 11, h => exact h
 | 12, h => exact h
 | 13, h => exact h
 | 14, h => exact h
 | 15, h => exact h
 | 16, h => exact h
 | 17, h => exact h
 | 18, h => exact h
 | 19, h => exact h
 | 20, h => exact h
 | 21, h => exact h
 | 22, h => exact h
 | 23, h => exact h
 | (n + 24), _ => trivial
def ck2Phi (g5 : Nat) (p : List UInt8) (id : List UInt8) : Nat → Value → World → Prop
 | 0, v, _ => v = .pointer (some ⟨g5, 0, none⟩)
 | 1, v, _ => v = S p
 | 2, v, _ => v = .bool true
 | 3, v, _ => v = .bool false
 | 4, v, _ => v = .bool false
 | 5, v, _ => v = .pointer (some ⟨g5, 1, none⟩)
 | 6, v, _ => v = S id
 | 7, v, _ => v = I ((id.length : Int))
 | 8, v, _ => v = .bool true
 | 9, v, _ => v = .bool true
 | 10, v, _ => v = .bool true
 | 11, v, _ => v = undef
 | 12, v, _ => v = undef
 | 13, v, _ => v = undef
 | 14, v, _ => v = undef
 | 15, v, _ => v = undef
 | 16, v, _ => v = undef
 | 17, v, _ => v = undef
 | 18, v, _ => v = undef
 | 19, v, _ => v = undef
 | 20, v, _ => v = undef
 | 21, v, _ => v = undef
 | 22, v, _ => v = undef
 | 23, v, _ => v = undef
 | _, _, _ => True
theorem ck2Phi_mono {g5 : Nat} {p : List UInt8} {id : List UInt8} : ∀ (j : Nat) (v : Value) (w w' : World), ck2Phi g5 p id j v w → Below w.heap.size w w' → ck2Phi g5 p id j v w' := by
 intro j v w w' h _
 match j, h with
 | 0, h => exact h
 | 1, h => exact h
 | 2, h => exact h
 | 3, h => exact h
 | 4, h => exact h
 | 5, h => exact h
 | 6, h => exact h
 | 7, h => exact h
 | 8, h => exact h
 | 9, h => exact h
 | 10, h => exact h
 | 11, h => exact h
 | 12, h => exact h
 | 13, h => exact h
 | 14, h => exact h
 | 15, h => exact h
 | 16, h => exact h
 | 17, h => exact h
 | 18, h => exact h
 | 19, h => exact h
 | 20, h => exact h
 | 21, h => exact h
 | 22, h => exact h
 | 23, h => exact h
 | (n + 24), _ => trivial
def ck3Phi (b : Nat) (off : Nat) (n : Nat) (c : Nat) (k : Nat) (g5 : Nat) (p : List UInt8) (id : List UInt8) (prev : List UInt8) (b0 : Bool) (ge : Bool) : Nat → Value → World → Prop
 | 0, v, _ => v = .pointer (some ⟨g5, 0, none⟩)
 | 1, v, _ => v = S p
 | 2, v, _ => v = .bool true
 | 3, v, _ => v = .bool false
 | 4, v, _ => v = .bool false
 | 5, v, _ => v = .pointer (some ⟨g5, 1, none⟩)
 | 6, v, _ => v = S id
 | 7, v, _ => v = I ((id.length : Int))
 | 8, v, _ => v = .bool false
 | 9, v, _ => v = .bool false
 | 10, v, _ => v = .bool false
 | 11, v, _ => v = I ((k : Int))
 | 12, v, _ => v = .bool b0
 | 13, v, _ => v = .bool b0
 | 14, v, _ => (b0 = true → v = .slice (some ⟨b, off, none⟩) n c)
 | 15, v, _ => (b0 = true → v = I ((k : Int)))
 | 16, v, _ => (b0 = true → v = I (((k - 1 : Nat) : Int)))
 | 17, v, _ => (b0 = true → v = .pointer (some ⟨b, off + (k - 1) * 2, none⟩))
 | 18, v, _ => (b0 = true → v = .pointer (some ⟨b, off + (k - 1) * 2, none⟩))
 | 19, v, _ => (b0 = true → v = S prev)
 | 20, v, _ => (b0 = true → v = .pointer (some ⟨g5, 0, none⟩))
 | 21, v, _ => (b0 = true → v = S p)
 | 22, v, _ => (b0 = true → v = .bool ge)
 | 23, v, _ => v = .bool (b0 && ge)
 | _, _, _ => True
theorem ck3Phi_mono {b : Nat} {off : Nat} {n : Nat} {c : Nat} {k : Nat} {g5 : Nat} {p : List UInt8} {id : List UInt8} {prev : List UInt8} {b0 : Bool} {ge : Bool} : ∀ (j : Nat) (v : Value) (w w' : World), ck3Phi b off n c k g5 p id prev b0 ge j v w → Below w.heap.size w w' → ck3Phi b off n c k g5 p id prev b0 ge j v w' := by
 intro j v w w' h _
 match j, h with
 | 0, h => exact h
 | 1, h => exact h
 | 2, h => exact h
 | 3, h => exact h
 | 4, h => exact h
 | 5, h => exact h
 | 6, h => exact h
 | 7, h => exact h
 | 8, h => exact h
 | 9, h => exact h
 | 10, h => exact h
 | 11, h => exact h
 | 12, h => exact h
 | 13, h => exact h
 | 14, h => exact h
 | 15, h => exact h
 | 16, h => exact h
 | 17, h => exact h
 | 18, h => exact h
 | 19, h => exact h
 | 20, h => exact h
 | 21, h => exact h
 | 22, h => exact h
 | 23, h => exact h
 | (n + 24), _ => trivial
def known (l : List Fil) (k : Nat) (s : List UInt8) : Option Int := if s ∈ (l.take k).map (·.1) then some 1 else none
theorem known_succ {l : List Fil} {k : Nat} {p id : List UInt8} (h : l[k]? = some (p, id)) : upd (known l k) p (some 1) = known l (k + 1) := by
 funext s
 unfold upd known
 rw [List.take_add_one, h]
 by_cases hs : s = p <;> simp [hs]
def FineL (l : List Fil) : Prop := (l.map (·.1)).Pairwise (· < ·) ∧ ∀ f ∈ l, named f.1 = true ∧ f.2.length = 32
theorem fine_nil : FineL [] := ⟨List.Pairwise.nil, by simp⟩
theorem fine_snoc {l : List Fil} {k : Nat} {p id : List UInt8} (h : FineL (l.take k)) (hk : l[k]? = some (p, id)) (hn : named p = true) (hi : id.length = 32) (hp : k = 0 ∨ ∃ q, l[k - 1]? = some q ∧ q.1 < p) : FineL (l.take (k + 1)) := by
 have e : l.take (k + 1) = l.take k ++ [(p, id)] := by rw [List.take_add_one, hk]; rfl
 rw [e]
 constructor
 ·rw [List.map_append, List.pairwise_append]
  refine ⟨h.1, List.pairwise_singleton _ _, fun a ha b hb => ?_⟩
  have hb' : b = p := by simpa using hb
  rw [hb']
  rcases hp with h0 | ⟨q, hq, hlt⟩
  ·rw [h0] at ha; simp at ha
  ·have hk0 : k ≠ 0 := fun h0 => by rw [h0] at ha; simp at ha
   obtain ⟨j, hj⟩ : ∃ j, k = j + 1 := ⟨k - 1, by omega⟩
   subst hj
   rw [Nat.add_sub_cancel] at hq
   have e2 : l.take (j + 1) = l.take j ++ [q] := by rw [List.take_add_one, hq]; rfl
   have h1 := h.1
   rw [e2, List.map_append, List.pairwise_append] at h1
   rw [e2, List.map_append] at ha
   rcases List.mem_append.1 ha with ha | ha
   ·exact List.lt_trans (h1.2.2 a ha q.1 (by simp)) hlt
   ·have : a = q.1 := by simpa using ha
    rw [this]
    exact hlt
 ·intro f hf
  rcases List.mem_append.1 hf with hf | hf
  ·exact h.2 f hf
  ·have : f = (p, id) := by simpa using hf
   rw [this]
   exact ⟨hn, hi⟩
end Go.Proofs.YtcednfmkiaelnaaGreatDoor
