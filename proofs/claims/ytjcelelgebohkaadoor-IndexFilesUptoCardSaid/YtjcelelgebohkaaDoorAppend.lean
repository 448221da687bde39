/-
  append onto a row of the call's own, from whatever slice: laws for a plain statement and for one that draws its order. Conditions: the room that append asks for.
-/
import Derived.Test.YtjcelelgebohkaaDoorBase
import Derived.Maps.AppendAt
import Derived.RegionTactic
import Derived.Laws.BytesArg
import Derived.OwnWalk
namespace Go.Proofs.YtjcelelgebohkaaDoor
open Go.RowKit

/-- The slice value '.slice A n c' is nil, or owns a row of blocks from w0's end on, which holds xs; below w0's end all is as it was. -/
def Ow (w0 w : World) (e : TypeId) (sz : Nat) (A : Option Addr) (n c : Nat) (xs : List Value) : Prop :=
  w.ownsRow w0.heap.size e sz (.slice A n c) n xs ∧ Below w0.heap.size w0 w

section
variable {w0 w w' : World} {e : TypeId} {sz n c : Nat} {A : Option Addr} {xs : List Value}
theorem Ow.sl (h : Ow w0 w e sz A n c xs) : Sl w sz A n xs := Sl.of_own h.1
theorem Ow.size (h : Ow w0 w e sz A n c xs) : w0.heap.size ≤ w.heap.size := h.2.size
theorem Ow.nil_ (hb : Below w0.heap.size w0 w) : Ow w0 w e sz none 0 0 [] := ⟨World.ownsRow_nil _ _ _ _, hb⟩
theorem Ow.alloc (h : Ow w0 w e sz A n c xs) (o : Obj) : Ow w0 (w.alloc o) e sz A n c xs := ⟨h.1.alloc o, h.2.alloc h.2.size o⟩
theorem Ow.keep (h : Ow w0 w e sz A n c xs) (hb : Below w.heap.size w w') : Ow w0 w' e sz A n c xs := by
  refine ⟨h.1.kept (row := none) ⟨hb.os, hb.tape, hb.output, hb.size, fun k hk _ => hb.block k hk⟩ ?_, h.2.trans (hb.mono h.2.size)⟩
  rcases hv : (Value.slice A n c).ownBlock with _ | g
  · exact .inl rfl
  · exact .inr (by simp)
theorem Ow.drewN (h : Ow w0 w e sz A n c xs) (k : Nat) : Ow w0 (w.drewN k) e sz A n c xs := h.keep (below_drewN (Below.refl _ _) k)
theorem Ow.drew (h : Ow w0 w e sz A n c xs) : Ow w0 w.drew e sz A n c xs := h.keep (Below.refl _ _).drew
theorem Ow.cap (h : Ow w0 w e sz A n c xs) : n ≤ c ∧ c ≤ maxLen := by
  rcases h.1.2 with ⟨hv, h0⟩ | ⟨g, cap, cur, hv, _, _, h1, h2, _, _⟩
  · injection hv with _ h1 h2; subst h2; omega
  · injection hv with _ _ h3; subst h3; exact ⟨h1, h2⟩
theorem Ow.len (h : Ow w0 w e sz A n c xs) : xs.length = n * sz := h.1.1
end

theorem own_shape {w : World} {base sz n : Nat} {e : TypeId} {v : Value} {xs : List Value} (h : w.ownsRow base e sz v n xs) : ∃ A c, v = .slice A n c := by
  rcases h.2 with ⟨rfl, rfl⟩ | ⟨g, cap, cur, rfl, _⟩
  · exact ⟨_, _, rfl⟩
  · exact ⟨_, _, rfl⟩

section
variable {P : Program} (w : World)

theorem run_append_of_nil (base : Nat) (t ty e : TypeId) (i : TypeInfo) (size : Nat) (ht : P.underlying t = some (.slice e)) (hi : P.info? e = some i)
    (v : Value) (n : Nat) (xs : List Value) (hown : w.ownsRow base e size v n xs) (c : Nat) : (Builtin.append_ #[t, t] ty #[v, .slice none 0 c]).run P w = .ok v w := by
  rcases hown.2 with ⟨rfl, rfl⟩ | ⟨g, cap, cur, rfl, _, _, hnc, _⟩
  · simp [Builtin.append_, run_underlying ht, sizeOf, typeInfo, hi, Builtin.lenOf, Builtin.firstCells]
  · simp [Builtin.append_, run_underlying ht, sizeOf, typeInfo, hi, Builtin.lenOf, Builtin.firstCells, hnc, storeCells]

theorem run_append_sl (base : Nat) (t ty e : TypeId) (i : TypeInfo) (z : Value) (size bytes : Nat) (ht : P.underlying t = some (.slice e)) (hi : P.info? e = some i) (hz : i.zero = some z)
    (hsize : i.size = size) (hby : i.bytes = bytes) (hzs : z.cells.size = size) (hsz : 0 < size)
    (v : Value) (n : Nat) (xs : List Value) (hown : w.ownsRow base e size v n xs)
    (A : Option Addr) (m c : Nat) (news : List Value) (hr : Sl w size A m news) (h1 : ∀ u ∈ news, u.oneCell' = true)
    (h63 : n + m ≤ maxLen) (hbytes : (n + m) * bytes ≤ 140737488355328) (hbase : base ≤ w.heap.size) :
    ∃ A' c' w', (Builtin.append_ #[t, t] ty #[v, .slice A m c]).run P w = .ok (.slice A' (n + m) c') w' ∧ w'.ownsRow base e size (.slice A' (n + m) c') (n + m) (xs ++ news) ∧ w.grownBy w' v.ownBlock ∧
      ((Value.slice A' (n + m) c').ownBlock = v.ownBlock ∨ (Value.slice A' (n + m) c').ownBlock = some w.heap.size) := by
  have key : ∃ v' w', (Builtin.append_ #[t, t] ty #[v, .slice A m c]).run P w = .ok v' w' ∧ w'.ownsRow base e size v' (n + m) (xs ++ news) ∧ w.grownBy w' v.ownBlock ∧
      (v'.ownBlock = v.ownBlock ∨ v'.ownBlock = some w.heap.size) := by
    rcases A with _ | ad
    · have hm : m = 0 := by
        rcases Nat.eq_zero_or_pos m with h0 | h0
        · exact h0
        · obtain ⟨_, _, h, _⟩ := hr.2 h0
          cases h
      subst hm
      have hn : news = [] := List.eq_nil_of_length_eq_zero (by simpa using hr.1)
      subst hn
      exact ⟨v, w, run_append_of_nil w base t ty e i size ht hi v n xs hown c, by simpa using hown, World.grownBy.refl w _, .inl rfl⟩
    · have hcells : ∀ j u, news[j]? = some u → w.cell? (ad.add j) = some u := by
        intro j u hu
        have hj := (List.getElem?_eq_some_iff.1 hu).1
        rcases Nat.eq_zero_or_pos m with h0 | h0
        · have := hr.1; rw [h0] at this; omega
        · obtain ⟨b, off, h, _, hc⟩ := hr.2 h0
          injection h with h
          subst h
          rw [← hu, ← hc j (by rw [← hr.1]; exact hj)]
          unfold Addr.add
          split <;> simp_all
      obtain ⟨v', w', hrun, h2, h3, _, h5⟩ := run_append_own_at (P := P) w base t ty e i z size bytes ht hi hz hsize hby hzs hsz v n xs hown ad m c news hr.1 hcells h1 h63 hbytes hbase
      exact ⟨v', w', hrun, h2, h3, h5⟩
  obtain ⟨v', w', hrun, h2, h3, h4⟩ := key
  obtain ⟨A', c', rfl⟩ := own_shape h2
  exact ⟨A', c', w', hrun, h2, h3, h4⟩

theorem wp_append_sl {o : Oper} {a : Act} {K : Act → World → Prop} {Q : Exit → Act → World → Prop} (s x : Operand) (t : TypeId)
    (ho : o.op = .call { callee := .builtin .append, args := #[s, x], argTypes := #[t, t] })
    (w0 : World) (e : TypeId) (i : TypeInfo) (z : Value) (size bytes : Nat) (ht : P.underlying t = some (.slice e)) (hi : P.info? e = some i) (hz : i.zero = some z)
    (hsize : i.size = size) (hby : i.bytes = bytes) (hzs : z.cells.size = size) (hsz : 0 < size)
    (Ad : Option Addr) (n cd : Nat) (xs : List Value) (hs : a.eval s = .slice Ad n cd) (hown : Ow w0 w e size Ad n cd xs)
    (A : Option Addr) (m c : Nat) (news : List Value) (hx : a.eval x = .slice A m c) (hr : Sl w size A m news) (h1 : ∀ u ∈ news, u.oneCell' = true)
    (h63 : n + m ≤ maxLen) (hbytes : (n + m) * bytes ≤ 140737488355328)
    (h : ∀ A' c' w', Ow w0 w' e size A' (n + m) c' (xs ++ news) → w.grownBy w' (Value.slice Ad n cd).ownBlock → ((Value.slice A' (n + m) c').ownBlock = (Value.slice Ad n cd).ownBlock ∨ (Value.slice A' (n + m) c').ownBlock = some w.heap.size) → K (a.put o.dst (.slice A' (n + m) c')) w') : o.wp P a w K Q := by
  obtain ⟨A', c', w', hrun, h2, h3, h4⟩ := run_append_sl (P := P) w w0.heap.size t o.type e i z size bytes ht hi hz hsize hby hzs hsz _ n xs hown.1 A m c news hr h1 h63 hbytes hown.2.size
  unfold Oper.wp execOp
  simp only [ho, resolve, invoke, builtin, Sem.run_bind, Sem.run_pure, Result.andThen_ok, List.map_toArray, List.map_cons, List.map_nil, hs, hx, hrun]
  exact h A' c' w' ⟨h2, hown.2.grown h3 hown.2.size (fun k hk => (hown.1.lt k hk).1)⟩ h3 h4

theorem wpList_append_sl {ops : Array Oper} {rest : List Oper} {o : Oper} {a : Act} {Q : Exit → Act → World → Prop} (hgd : o.guard = none) (s x : Operand) (t : TypeId)
    (ho : o.op = .call { callee := .builtin .append, args := #[s, x], argTypes := #[t, t] })
    (w0 : World) (e : TypeId) (i : TypeInfo) (z : Value) (size bytes : Nat) (ht : P.underlying t = some (.slice e)) (hi : P.info? e = some i) (hz : i.zero = some z)
    (hsize : i.size = size) (hby : i.bytes = bytes) (hzs : z.cells.size = size) (hsz : 0 < size)
    (Ad : Option Addr) (n cd : Nat) (xs : List Value) (hs : a.eval s = .slice Ad n cd) (hown : Ow w0 w e size Ad n cd xs)
    (A : Option Addr) (m c : Nat) (news : List Value) (hx : a.eval x = .slice A m c) (hr : Sl w size A m news) (h1 : ∀ u ∈ news, u.oneCell' = true)
    (h63 : n + m ≤ maxLen) (hbytes : (n + m) * bytes ≤ 140737488355328)
    (h : ∀ A' c' w', Ow w0 w' e size A' (n + m) c' (xs ++ news) → w.grownBy w' (Value.slice Ad n cd).ownBlock → ((Value.slice A' (n + m) c').ownBlock = (Value.slice Ad n cd).ownBlock ∨ (Value.slice A' (n + m) c').ownBlock = some w.heap.size) → wpList P ops Q rest (a.put o.dst (.slice A' (n + m) c')) w') : wpList P ops Q (o :: rest) a w :=
  wpList_plain hgd fun _ hK => wp_append_sl w s x t ho w0 e i z size bytes ht hi hz hsize hby hzs hsz Ad n cd xs hs hown A m c news hx hr h1 h63 hbytes fun A' c' w' h2 h3 h4 => hK _ _ (h A' c' w' h2 h3 h4)

theorem step_append_sl {ops : Array Oper} {o : Oper} {a : Act} {K : Act → World → Prop} {Q : Exit → Act → World → Prop} {E : Prop} (hgd : o.guard = none) (s x : Operand) (t : TypeId)
    (ho : o.op = .call { callee := .builtin .append, args := #[s, x], argTypes := #[t, t] })
    (w0 : World) (e : TypeId) (i : TypeInfo) (z : Value) (size bytes : Nat) (ht : P.underlying t = some (.slice e)) (hi : P.info? e = some i) (hz : i.zero = some z)
    (hsize : i.size = size) (hby : i.bytes = bytes) (hzs : z.cells.size = size) (hsz : 0 < size)
    (Ad : Option Addr) (n cd : Nat) (xs : List Value) (hs : a.eval s = .slice Ad n cd) (hown : Ow w0 w e size Ad n cd xs)
    (A : Option Addr) (m c : Nat) (news : List Value) (hx : a.eval x = .slice A m c) (hr : Sl w size A m news) (h1 : ∀ u ∈ news, u.oneCell' = true)
    (h63 : n + m ≤ maxLen) (hbytes : (n + m) * bytes ≤ 140737488355328)
    (h : ∀ A' c' w', Ow w0 w' e size A' (n + m) c' (xs ++ news) → w.grownBy w' (Value.slice Ad n cd).ownBlock → ((Value.slice A' (n + m) c').ownBlock = (Value.slice Ad n cd).ownBlock ∨ (Value.slice A' (n + m) c').ownBlock = some w.heap.size) → K (a.put o.dst (.slice A' (n + m) c')) w') :
    if Region.wanted o (yielded ops a.tmps) = true then Oper.wp P o a w K Q else E := by
  have hw : Region.wanted o (yielded ops a.tmps) = true := by simp [Region.wanted, hgd]
  rw [if_pos hw]
  exact wp_append_sl w s x t ho w0 e i z size bytes ht hi hz hsize hby hzs hsz Ad n cd xs hs hown A m c news hx hr h1 h63 hbytes h
end

theorem bstep {w0 w w' : World} (h : Below w0.heap.size w0 w) (hb : Below w.heap.size w w') : Below w0.heap.size w0 w' := h.trans (hb.mono h.size)
theorem balloc {w0 w : World} (h : Below w0.heap.size w0 w) (o : Obj) : Below w0.heap.size w0 (w.alloc o) := h.alloc h.size o
theorem own_mono {w : World} {base base' sz n : Nat} {e : TypeId} {v : Value} {xs : List Value} (h : w.ownsRow base e sz v n xs) (hb : base' ≤ base) : w.ownsRow base' e sz v n xs := by
  refine ⟨h.1, ?_⟩
  rcases h.2 with h2 | ⟨g, cap, cur, hv, hg, r⟩
  · exact .inl h2
  · exact .inr ⟨g, cap, cur, hv, Nat.le_trans hb hg, r⟩
/-- owned since a later world, so owned since an earlier one -/
theorem Ow.since {w0 w w' : World} {e : TypeId} {sz n c : Nat} {A : Option Addr} {xs : List Value} (h : Ow w w' e sz A n c xs) (hb : Below w0.heap.size w0 w) : Ow w0 w' e sz A n c xs := ⟨own_mono h.1 hb.size, bstep hb h.2⟩
/-- one value in a block of its own, as 'append(l, x)' lays it -/
theorem sl_one (w : World) (t : TypeId) (v : Value) : Sl (w.alloc (.cells #[v] t)) 1 (some ⟨w.heap.size, 0, none⟩) 1 [v] := by
  refine ⟨rfl, fun _ => ⟨_, _, rfl, by simp, fun k hk => ?_⟩⟩
  obtain rfl : k = 0 := by omega
  simp
theorem one_strs (ss : List (List UInt8)) : ∀ u ∈ strs ss, u.oneCell' = true := by
  intro u hu; obtain ⟨s, _, rfl⟩ := List.mem_map.1 hu; rfl
theorem one_u8s (l : List UInt8) : ∀ u ∈ u8s l, u.oneCell' = true := by
  intro u hu; obtain ⟨s, _, rfl⟩ := List.mem_map.1 hu; rfl
theorem one_one {v : Value} (h : v.oneCell' = true) : ∀ u ∈ [v], u.oneCell' = true := by
  intro u hu; simp at hu; subst hu; exact h

/-- 'string(b)' -/
theorem run_conv_str {P : Program} (w : World) (src dst e : TypeId) (A : Option Addr) (n cap : Nat) (l : List UInt8) (hs : P.underlying src = some (.slice e)) (he : P.underlying e = some (.int .u8)) (hd : P.underlying dst = some .string)
    (h : Sl w 1 A n (u8s l)) : (convert src dst (.slice A n cap)).run P w = .ok (S l) w := by
  have hl : l.length = n := by simpa using h.len
  rcases A with _ | a
  · have hn : n = 0 := by
      rcases Nat.eq_zero_or_pos n with h0 | h0
      · exact h0
      · obtain ⟨_, _, h, _⟩ := h.2 h0
        cases h
    subst hn
    obtain rfl : l = [] := List.eq_nil_of_length_eq_zero hl
    exact run_convert_bytes_nil (P := P) w src e hs he 0 cap dst hd
  · subst hl
    refine run_convert_bytes_back w src dst e a cap l hs he hd (fun j hj => ?_)
    obtain ⟨b, off, x, e1, hx, hc⟩ := h.byte hj
    cases e1
    rw [List.getElem?_eq_getElem hj] at hx
    cases hx
    rw [← hc]
    unfold Addr.add
    split <;> simp_all

theorem Tryd.infoStr : (Tryd.prog.info? 9).map (fun i => (i.zero, i.size, i.bytes)) = some (some (.string ⟨#[]⟩), 1, 16) := by kernel_rfl
theorem Tryd.infoU8 : (Tryd.prog.info? 5).map (fun i => (i.zero, i.size, i.bytes)) = some (some (.int .u8 0), 1, 1) := by kernel_rfl
end Go.Proofs.YtjcelelgebohkaaDoor
