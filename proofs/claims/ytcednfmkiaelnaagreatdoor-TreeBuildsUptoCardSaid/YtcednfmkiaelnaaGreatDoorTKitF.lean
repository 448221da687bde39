/-
  append(s, make([]byte, k)...) where s is a row of one's own; an empty row of one's own. Conditions: room in memory.
-/
import Derived.Test.YtcednfmkiaelnaaGreatDoorTKitW
import Derived.Lib.AppendZerosOnto
namespace Go.Proofs.YtcednfmkiaelnaaGreatDoor
open Go.RowKit
theorem own_none (w : World) (t : TypeId) : Ow w (w.alloc (.cells #[] t)) t 1 (some ⟨w.heap.size, 0, none⟩) 0 0 [] :=
 ⟨⟨rfl, .inr ⟨w.heap.size, 0, #[], rfl, Nat.le_refl _, heap_alloc_new w _, Nat.le_refl _, by decide, rfl, rfl⟩⟩, balloc (Below.refl _ w) _⟩
theorem zeroCells_u8 (k : Nat) : (Builtin.zeroCells #[Value.int .u8 0] k).toList = u8s (List.replicate k 0) := by
 apply List.ext_getElem?
 intro i
 unfold Builtin.zeroCells
 simp only [Array.size_singleton, Nat.mul_one, Array.toList_map, Array.toList_range, List.getElem?_map, u8s, List.map_replicate]
 by_cases h : i < k
 ·rw [List.getElem?_range h, List.getElem?_replicate, if_pos h]
  simp [Nat.mod_one]
 ·rw [List.getElem?_eq_none (by simpa using h), List.getElem?_replicate, if_neg h]
  rfl
theorem run_append_room_zeros {P : Program} (w : World) (t tn ty e : TypeId) (i : TypeInfo) (kn : IntKind) (ht : P.underlying t = some (.slice e)) (htn : P.underlying tn = some (.int kn)) (hi : P.info? e = some i) (hz : i.zero = some (.int .u8 0)) (hs : i.size = 1) (hb : i.bytes = 1)
  (g n cap : Nat) (cur : Array Value) (hg : w.heap[g]? = some (.cells cur e (0, 0))) (k : Nat) (h0 : 0 < k) (hk : k ≤ 1000000000) (hroom : n + k ≤ cap) (hcs : cur.size = cap) :
  (Builtin.append_ #[t, tn] ty #[.slice (some ⟨g, 0, none⟩) n cap, .int .i64 (k : Int)]).run P w = .ok (.slice (some ⟨g, 0, none⟩) (n + k) cap) (w.setRow g (cur.toList.take n ++ List.replicate k (U8 0) ++ cur.toList.drop (n + k)).toArray) := by
 have hw : IntKind.i64.wrap (k : Int) = k := by rw [IntKind.wrap_i64]; omega
 have hneg : ¬ ((k : Int) < 0) := by omega
 have hk0 : k ≠ 0 := by omega
 have h48i : ¬ (281474976710656 < (k : Int)) := by omega
 have hst := run_storeCells_at (P := P) g n e (List.replicate k (U8 0)) 0 cur w hg (by simp; omega) (by simp [Value.oneCell'])
 simp only [Nat.add_zero, List.length_replicate] at hst
 have hzc : (Builtin.zeroCells #[Value.int .u8 0] k).toList = List.replicate k (U8 0) := by rw [zeroCells_u8]; simp [u8s]
 have hadd : (⟨g, 0, none⟩ : Addr).add n = ⟨g, n, none⟩   := by
  simp [Addr.add]
  intro h
  exact h.symm
 simp [Builtin.append_, run_underlying ht, run_underlying htn, sizeOf, typeInfo, zeroValue, hi, hz, hs, hb, asInt, asIntOf, hw, hneg, h48i, hk0, hroom, Value.cells, hzc, hadd, hst, -List.append_assoc]
theorem wpList_append_zeros {P : Program} (w : World) {ops : Array Oper} {rest : List Oper} {o : Oper} {a : Act} {Q : Exit → Act → World → Prop} (hgd : o.guard = none) (s x : Operand) (t tn : TypeId)
  (ho : o.op = .call { callee := .builtin .append, args := #[s, x], argTypes := #[t, tn] })
  (w0 : World) (e : TypeId) (i : TypeInfo) (kn : IntKind) (ht : P.underlying t = some (.slice e)) (htn : P.underlying tn = some (.int kn)) (hi : P.info? e = some i) (hz : i.zero = some (.int .u8 0)) (hs1 : i.size = 1) (hb : i.bytes = 1)
  (A : Option Addr) (n c : Nat) (l : List UInt8) (k : Nat) (h0 : 0 < k) (hk : k ≤ 1000000000) (hn : n ≤ 1000000000) (hsv : a.eval s = .slice A n c) (hx : a.eval x = .int .i64 (k : Int)) (hown : Ow w0 w e 1 A n c (u8s l)) (hpos : 0 < n)
  (h : ∀ A' c' w', Ow w0 w' e 1 A' (n + k) c' (u8s (l ++ List.replicate k 0)) → wpList P ops Q rest (a.put o.dst (.slice A' (n + k) c')) w') : wpList P ops Q (o :: rest) a w := by
 have hu : u8s (l ++ List.replicate k 0) = u8s l ++ List.replicate k (U8 0) := by simp [u8s]
 have hll : (u8s l).length = n := by simpa using hown.1.1
 obtain ⟨hb0, h2⟩ := hown
 have hb0' := hb0
 rcases hb0.2 with ⟨_, hz0⟩ | ⟨g, cap, cur, hv, hbg, hg, hnc, hcm, hcs, htake⟩
 ·omega
 ·injection hv with e1 e2 e3
  subst e1 e3
  simp only [Nat.mul_one] at hcs htake
  have hmx : c ≤ 9223372036854775807 := by simp only [maxLen] at hcm; omega
  by_cases hroom : n + k ≤ c
  ·have hr := run_append_room_zeros (P := P) w t tn o.type e i kn ht htn hi hz hs1 hb g n c cur hg k h0 hk hroom hcs
   refine Lib.wpList_append_run w hgd s x t tn ho _ _ hsv hx _ _ hr (h _ _ _ ⟨⟨?_, .inr ⟨g, c, _, rfl, hbg, setRow_heap w g cur _ e _ hg, hroom, hcm, ?_, ?_⟩⟩, ?_⟩)
   ·rw [hu, List.length_append, hll, List.length_replicate, Nat.mul_one]
   ·simp only [List.size_toArray, List.length_append, List.length_take, List.length_drop, Array.length_toList, List.length_replicate]
    omega
   ·rw [hu, htake, Nat.mul_one]
    have : (u8s l ++ List.replicate k (U8 0)).length = n + k := by rw [List.length_append, hll, List.length_replicate]
    rw [← this]
    exact List.take_left
   ·exact h2.grown (row := some g) ⟨rfl, rfl, rfl, by simp, fun j _ hj => setRow_other w g j _ (fun e => hj (by rw [e]))⟩ h2.size (fun j e => by cases e; exact hbg)
  ·have holds := hb0'.cells (g := g) rfl
   have hold : (Builtin.firstCells i.size n (.slice (some ⟨g, 0, none⟩) n c)).run P w.drew = .ok (u8s l).toArray w.drew := run_firstCells_some w.drew i.size n ⟨g, 0, none⟩ n c (u8s l) (by rw [hll, hs1, Nat.mul_one]) holds
   have hr := Lib.run_append_grow_zeros w t tn o.type e i _ .i64 kn ht htn hi hz (some ⟨g, 0, none⟩) n c (u8s l) hold k h0 (by omega) (by omega) (by omega) (by rw [hb]; omega) (growslice_fits (by omega) (by rw [hb]; omega))
   have hge := grownCap_ge w (n + k) c e
   have hle := grownCap_le_maxLen w (n + k) c e (by simp only [maxLen]; omega)
   refine Lib.wpList_append_run w hgd s x t tn ho _ _ hsv hx _ _ hr (h _ _ _ ⟨⟨?_, .inr ⟨w.heap.size, _, _, rfl, h2.size, heap_alloc_new w.drew _, hge, hle, ?_, ?_⟩⟩, ?_⟩)
   ·rw [hu, List.length_append, hll, List.length_replicate, Nat.mul_one]
   ·simp only [Array.size_append, List.size_toArray, hll, Nat.mul_one, size_zeroCells, Value.cells]
    simp
    omega
   ·have hzc : (Builtin.zeroCells (Value.int .u8 0).cells k).toList = List.replicate k (U8 0) := by
     have := zeroCells_u8 k
     rw [show (Value.int IntKind.u8 0).cells = #[Value.int .u8 0] from rfl, this]
     simp [u8s]
    simp only [Array.toList_append, hzc, Nat.mul_one]
    rw [hu]
    have : ((u8s l).toArray.toList ++ List.replicate k (U8 0)).length = n + k := by simp [hll]
    rw [← this]
    exact List.take_left
   ·exact (h2.drew).alloc h2.size _
end Go.Proofs.YtcednfmkiaelnaaGreatDoor
