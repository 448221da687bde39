/-
  Texts merged: PressMap, PressLaw, Press1, PressKnow, PressOpen, PressRun, PressLong, Press, PressCopy, PressOpen2. What each law says and asks stands at its head.
-/
import Derived.Test.YtcednfmkiaelnaaGreatDoorTKitW
import Derived.Test.YtcednfmkiaelnaaGreatDoorTKitD
import Derived.DeepKeys4
import Derived.WideKeyEntry
import Derived.Test.YtcednfmkiaelnaaGreatDoorTKitG
import Derived.BigQuiet
import Derived.Laws.Cover3
import Derived.Test.YtcednfmkiaelnaaGreatDoorTKitX
import Derived.RangeFuncOwn
import Derived.Test.YtcednfmkiaelnaaGreatDoorTCheckG
import Derived.Test.YtcednfmkiaelnaaGreatDoorTKitTk
import Derived.Test.YtcednfmkiaelnaaGreatDoorTKitSu
import Derived.Lib.RabinKarpLaws
namespace Go.Proofs.YtcednfmkiaelnaaGreatDoor
open Go.RowKit
abbrev Four := UInt8 × UInt8 × UInt8 × UInt8
abbrev fourV (k : Four) : Value := .agg #[U8 k.1, U8 k.2.1, U8 k.2.2.1, U8 k.2.2.2]
def fourL (k : Four) : Lit := .string (keyBytes [.int .u8 (k.1.toNat : Int), .int .u8 (k.2.1.toNat : Int), .int .u8 (k.2.2.1.toNat : Int), .int .u8 (k.2.2.2.toNat : Int)])
theorem Tryz.fourTyped : Tryz.prog.keyType 345 = true := by kernel_rfl
theorem Tryz.fourCells : Tryz.prog.cellsOf 345 = 4 := by kernel_rfl
theorem Tryz.u8Cells : Tryz.prog.cellsOf 5 = 1 := by kernel_rfl
theorem Tryz.typesSome4 : Tryz.prog.types.size = (Tryz.prog.types.size - 1) + 1 := by kernel_rfl
theorem u8_wf (a : UInt8) : (Lit.int .u8 (a.toNat : Int)).wf = true := by
 have h : ∀ m : Fin 256, (Lit.int .u8 ((m.val : Nat) : Int)).wf = true := by decide +kernel
 exact h ⟨a.toNat, a.toNat_lt⟩
theorem keyLits_u8 (m : Nat) (a : UInt8) : Tryz.prog.keyLits (m + 1) 5 [U8 a] = some [.int .u8 (a.toNat : Int)] := by
 unfold Program.keyLits
 rw [Tryz.underlying5]
 simp only [u8_wf, and_self, if_true]
theorem fourOf (k : Four) : keyOf Tryz.prog 345 (fourV k) = some (fourL k) := by
 obtain ⟨a, b, c, d⟩ := k
 unfold keyOf
 rw [Tryz.underlying345]
 simp only [Tryz.fourTyped, Bool.true_and, Value.formed, Tryz.underlying345, Tryz.fourCells, Value.cells]
 rw [Tryz.typesSome4]
 unfold Program.keyLits
 rw [Tryz.underlying345]
 simp [Tryz.fourCells, Tryz.u8Cells, List.range_succ, keyLits_u8, fourL]
theorem Tryz.law4 : WideMaps.KeyLaw Tryz.prog 345 := deep_law_laid Tryz.laidOut (m := 3) (by decide) (of_decide_eq_true (by kernel_rfl)) (by kernel_rfl) (by kernel_rfl)
theorem Tryz.keyed4 : Maps.Keyed Tryz.prog 345 := Maps.Keyed.of_law Tryz.law4
def placeC : Coding Tryz.prog 345 98 Four Hd where
 kv := fourV
 kl := fourL
 vv := Hd.v
 vd := Hd.d
 R := rdH
 good _ := True
 keyed := Tryz.keyed4
 key x _ := fourOf x
 inj x y _ _ h := by
  have h1 := fourOf x
  have h2 := fourOf y
  rw [h] at h1
  have h3 := Tryz.keyed4.inj h1 h2
  obtain ⟨a, b, c, d⟩ := x
  obtain ⟨a', b', c', d'⟩ := y
  simp only [fourV, Value.agg.injEq, Array.mk.injEq, List.cons.injEq, Value.int.injEq, Int.natCast_inj, true_and, and_true, UInt8.toNat_inj] at h3
  obtain ⟨rfl, rfl, rfl, rfl⟩ := h3
  rfl
 enc h := diskC.enc h
 dec v a ps h := diskC.dec v a ps h
theorem Tryz.zeroP (w : World) : (zeroValue 98).run Tryz.prog w = .ok (placeC.vv ⟨none, 0, 0⟩) w := by kernel_rfl
theorem pw_inj {α β : Type} {g : α → β} : ∀ {l : List α}, l.Pairwise (fun a b => g a ≠ g b) → ∀ {a b : α}, a ∈ l → b ∈ l → g a = g b → a = b
 | [], _, _, _, ha, _, _ => by cases ha
 | c :: l, h, a, b, ha, hb, e => by
  rcases List.mem_cons.1 ha with h1 | ha
  ·rcases List.mem_cons.1 hb with h2 | hb
   ·rw [h1, h2]
   ·rw [h1] at e
    exact absurd e (List.rel_of_pairwise_cons h hb)
  ·rcases List.mem_cons.1 hb with h2 | hb
   ·rw [h2] at e
    exact absurd e.symm (List.rel_of_pairwise_cons h ha)
   ·exact pw_inj h.of_cons ha hb e
section
variable {P : Program} {k e : TypeId} {κ α : Type} {C : Coding P k e κ α} {w : World} {m n : Nat} {f : κ → Option α}
open Go.ChangeMaps (setBlock)
theorem setBlock_at {w : World} {b : Nat} (o : Obj) (h : b < w.heap.size) : (setBlock w b o).heap[b]? = some o := by
 simp [setBlock, h]
theorem setBlock_grown {w : World} {b : Nat} (o : Obj) : w.grownBy (setBlock w b o) (some b) :=
 ⟨rfl, rfl, rfl, by simp [setBlock], fun i hi hne => by
  have : b ≠ i := fun e => hne (by rw [e])
  simp [setBlock, this]⟩
theorem entry_pure {es : Array MapEntry} {clock : Nat} (K : WideMaps.KeyLaw P k) (Kd : Maps.Keyed P k) {R : Value → Option (DataW Unit × List MemPlace)} {t : TypeId} (ht : P.underlying t = some (.map k e)) {z : Value} (hz : ∀ u : World, (zeroValue e).run P u = .ok z u) (F : WideElems.Fit P k R es clock) {key : Value} {kl : Lit} (hkey : keyOf P k key = some kl) :
  ∃ (v : Value) (st : Nat) (es1 : Array MapEntry) (c1 : Nat), ∀ w' : World, w'.heap[m]? = some (.map es clock) → (Instr.mapEntry t (.map (some m)) key).run P w' = .ok (.tuple #[v, goInt st]) (setBlock w' m (.map es1 c1)) := by
 have hone : ∀ a ∈ es.toList, ∀ b ∈ es.toList, a.key = key → b.key = key → a = b := fun a ha b hb e1 e2 => by
  have hpw := List.pairwise_map.1 (Maps.fit_apart Kd F)
  have hk : ∀ y ∈ es.toList, y.key = key → (WideElems.rg P k R y).1 = kl := fun y hy hyk => by
   obtain ⟨q, hq⟩ := F.reads y hy
   have m1 := WideElems.rd_key hq
   rw [hyk, hkey] at m1
   rw [WideElems.rg_of hq]
   exact (Option.some.inj m1).symm
  exact pw_inj hpw ha hb ((hk a ha e1).trans (hk b hb e2).symm)
 by_cases hex : ∃ e0 ∈ es.toList, e0.key = key
 ·obtain ⟨e0, hm0, hk0⟩ := hex
  refine ⟨e0.val, e0.born, es, clock, fun w' hb => ?_⟩
  rcases K.find w' hkey es.toList F.keys with ⟨_, h2⟩ | ⟨j, e1, h1, h2, h3⟩
  ·exact absurd hk0 (h2 e0 hm0)
  ·obtain rfl : e1 = e0 := hone e1 (List.mem_of_getElem? h2) e0 hm0 h3 hk0
   have hj : es[j]? = some e1 := by simpa using h2
   have hsame : es.modify j (fun e => { e with key := key }) = es := by
    apply Array.ext'
    rw [Array.toList_modify, ChangeMaps.modify_eq_set _ _ _ _ h2]
    have : ({ e1 with key := key } : MapEntry) = e1 := by rw [← h3]
    rw [this]
    exact WideElems.set_self _ _ _ h2
   simp [Instr.mapEntry, run_underlying ht, MapKept.run_getObj_map hb, K.check w' false hkey, h1, hj, h3, K.stays w' hkey, hsame, MapKept.run_setObj_map _ hb, Result.andThen, setBlock]
 ·refine ⟨z, clock, es.push ⟨key, z, clock⟩, clock + 1, fun w' hb => ?_⟩
  rcases K.find w' hkey es.toList F.keys with ⟨h1, _⟩ | ⟨j, e1, _, h2, h3⟩
  ·simp [Instr.mapEntry, run_underlying ht, MapKept.run_getObj_map hb, K.check w' false hkey, h1, hz, MapKept.run_setObj_map _ hb, Result.andThen, setBlock]
  ·exact absurd ⟨e1, List.mem_of_getElem? h2, h3⟩ hex
theorem MapIs.run_entry [DecidableEq κ] (h : MapIs C w m n f) (K : WideMaps.KeyLaw P k) {t : TypeId} (ht : P.underlying t = some (.map k e)) {a0 : α} (hz : ∀ u : World, (zeroValue e).run P u = .ok (C.vv a0) u) (hn : n < maxLen) {x : κ} (hx : C.good x) :
  ∃ (st : Nat) (es1 : Array MapEntry) (c1 : Nat), (∀ w' : World, w'.heap[m]? = w.heap[m]? → (Instr.mapEntry t (.map (some m)) (C.kv x)).run P w' = .ok (.tuple #[C.vv ((f x).getD a0), goInt st]) (setBlock w' m (.map es1 c1))) ∧
   ∀ (w2 : World) (a : α), w2.heap[m]? = some (.map es1 c1) → ∃ es' c', (Instr.entryStore t (.map (some m)) (goInt st) (C.vv a)).run P w2 = .ok () (setBlock w2 m (.map es' c')) ∧ MapIs C (setBlock w2 m (.map es' c')) m (n + 1) (upd f x (some a)) := by
 have hl := h.run_look ht (hz w) hx
 have hs := fun a => h.run_store ht hn hx a
 have hlt := h.lt
 obtain ⟨D, ⟨es, clock, hb, F, hsz, rfl⟩, hv⟩ := id h
 obtain ⟨v0, st, es1, c1, hrun, hv0, hst⟩ := WideElems.entry_then_store K ht hz hb F (C.key x hx)
 have hval : v0 = C.vv ((f x).getD a0) := by
  rcases Maps.fit_look false C.keyed ht (hz w) hb F (C.key x hx) with ⟨h1, h2, _⟩ | ⟨e1, y, h1, h2, h3, _⟩
  ·rcases hv0 with ⟨e0, h4, h5, _⟩ | ⟨_, h5⟩
   ·exact absurd h5 (h2 e0 h4)
   ·rw [h1] at hl
    rw [h5]
    simpa using hl
  ·rcases hv0 with ⟨e0, h4, h5, h6⟩ | ⟨h4, _⟩
   ·have hpw := List.pairwise_map.1 (Maps.fit_apart C.keyed F)
    have hk : ∀ z ∈ es.toList, z.key = C.kv x → (WideElems.rg P k C.R z).1 = C.kl x := fun z hz hzk => by
     obtain ⟨y, hy⟩ := F.reads z hz
     have m1 := WideElems.rd_key hy
     rw [hzk, C.key x hx] at m1
     rw [WideElems.rg_of hy]
     exact (Option.some.inj m1).symm
    obtain rfl : e0 = e1 := pw_inj hpw h4 h1 ((hk e0 h4 h5).trans (hk e1 h1 h2).symm)
    rw [h3] at hl
    rw [h6]
    simpa using hl
   ·exact absurd h2 (h4 e1 h1)
 subst hval
 obtain ⟨v8, st8, es8, c8, h8⟩ := entry_pure (m := m) K C.keyed ht hz F (C.key x hx)
 have h9 := h8 w hb
 rw [hrun] at h9
 injection h9 with h10 h11
 simp only [Value.tuple.injEq, Array.mk.injEq, List.cons.injEq, and_true, goInt, Value.int.injEq, Int.natCast_inj, true_and] at h10
 obtain ⟨rfl, rfl⟩ := h10
 have h12 := congrArg (fun W : World => W.heap[m]?) h11
 simp only [setBlock_at _ hlt, Option.some.injEq, Obj.map.injEq] at h12
 obtain ⟨rfl, rfl⟩ := h12
 refine ⟨st, es1, c1, fun w' hw' => h8 w' (hw'.trans hb), fun w2 a hw2 => ?_⟩
 obtain ⟨es', c', hr1, hr2⟩ := hst w2 (C.vv a) hw2
 obtain ⟨w', hr3, hm3, _⟩ := hs a
 have e9 : w' = setBlock w m (.map es' c') := by
  rw [hr2] at hr3
  injection hr3 with _ h9
  exact h9.symm
 subst e9
 have hlt2 : m < w2.heap.size := (Array.getElem?_eq_some_iff.1 hw2).1
 exact ⟨es', c', hr1, hm3.block ((setBlock_at _ hlt2).trans (setBlock_at _ hlt).symm)⟩
end
end Go.Proofs.YtcednfmkiaelnaaGreatDoor
namespace Go.Proofs.YtcednfmkiaelnaaGreatDoor
def copyL (out : List UInt8) (d : Nat) : Nat → List UInt8
 | 0 => out
 | n + 1 => copyL (out ++ [out.getD (out.length - d) 0]) d n
theorem copyL_len (d : Nat) : ∀ (n : Nat) (out : List UInt8), (copyL out d n).length = out.length + n
 | 0, _ => rfl
 | n + 1, out => by rw [copyL, copyL_len d n, List.length_append, List.length_singleton]; omega
theorem take_snoc {b : List UInt8} {i : Nat} (h : i < b.length) : b.take i ++ [b.getD i 0] = b.take (i + 1) := by
 rw [List.take_add_one, List.getD_eq_getElem?_getD, List.getElem?_eq_getElem h]
 rfl
theorem copyL_take {b : List UInt8} {d : Nat} (hd : 1 ≤ d) : ∀ (n i : Nat), d ≤ i → i + n ≤ b.length → (∀ k, k < n → b.getD (i - d + k) 0 = b.getD (i + k) 0) → copyL (b.take i) d n = b.take (i + n)
 | 0, _, _, _, _ => rfl
 | n + 1, i, h1, h2, h3 => by
  have hl : (b.take i).length = i := by rw [List.length_take]; omega
  have e0 : (b.take i).getD (i - d) 0 = b.getD i 0 := by
   have := h3 0 (by omega)
   rw [Nat.add_zero, Nat.add_zero] at this
   rw [← this, List.getD_eq_getElem?_getD, List.getD_eq_getElem?_getD, List.getElem?_take_of_lt (by omega)]
  rw [copyL, hl, e0, take_snoc (by omega), copyL_take hd n (i + 1) (by omega) (by omega) (fun k hk => by
   have := h3 (k + 1) (by omega)
   rw [show i + 1 - d + k = i - d + (k + 1) by omega, show i + 1 + k = i + (k + 1) by omega]
   exact this)]
  congr 1
  omega
inductive Toks (b : List UInt8) : List UInt8 → List UInt8 → Prop
 | done : Toks b b []
 | run {out rest : List UInt8} (seg : List UInt8) (h0 : 0 < seg.length) (h : Toks b (out ++ seg) rest) : Toks b out (putNum (2 * (seg.length - 1)) ++ (seg ++ rest))
 | copy {out rest : List UInt8} (n d : Nat) (h4 : 4 ≤ n) (hn : n ≤ 259) (hd : 1 ≤ d) (hd2 : d ≤ out.length) (hd3 : d ≤ 4096) (h : Toks b (copyL out d n) rest) : Toks b out (putNum (2 * (n - 4) + 1) ++ (putNum d ++ rest))
theorem Toks.len {b out p : List UInt8} (h : Toks b out p) : out.length ≤ b.length := by
 induction h with
 | done => exact Nat.le_refl _
 | run seg h0 h ih => rw [List.length_append] at ih; omega
 | copy n d h4 hn hd hd2 hd3 h ih => rw [copyL_len] at ih; omega
def LaidT (b P out : List UInt8) : Prop := ∀ rest, Toks b out rest → Toks b [] (P ++ rest)
theorem LaidT.nil (b : List UInt8) : LaidT b [] [] := fun _ h => h
theorem LaidT.run {b P out : List UInt8} (h : LaidT b P out) (seg : List UInt8) (h0 : 0 < seg.length) : LaidT b (P ++ putNum (2 * (seg.length - 1)) ++ seg) (out ++ seg) := fun rest hr => by
 have := h _ (Toks.run seg h0 hr)
 simpa [List.append_assoc] using this
theorem LaidT.copy {b P out : List UInt8} (h : LaidT b P out) (n d : Nat) (h4 : 4 ≤ n) (hn : n ≤ 259) (hd : 1 ≤ d) (hd2 : d ≤ out.length) (hd3 : d ≤ 4096) : LaidT b (P ++ putNum (2 * (n - 4) + 1) ++ putNum d) (copyL out d n) := fun rest hr => by
 have := h _ (Toks.copy n d h4 hn hd hd2 hd3 hr)
 simpa [List.append_assoc] using this
theorem LaidT.all {b P : List UInt8} (h : LaidT b P b) : Toks b [] P := by simpa using h [] .done
def Pressed (b p : List UInt8) : Prop := ∃ P, p = putNum b.length ++ P ∧ Toks b [] P
theorem Toks.next {b out p : List UInt8} (h : Toks b out p) : (p = [] ∧ out = b) ∨
  (∃ seg rest, 0 < p.length ∧ 0 < seg.length ∧ p = putNum (2 * (seg.length - 1)) ++ (seg ++ rest) ∧ out.length + seg.length ≤ b.length ∧ Toks b (out ++ seg) rest) ∨
  (∃ n d rest, 0 < p.length ∧ 4 ≤ n ∧ n ≤ 259 ∧ 1 ≤ d ∧ d ≤ out.length ∧ d ≤ 4096 ∧ p = putNum (2 * (n - 4) + 1) ++ (putNum d ++ rest) ∧ out.length + n ≤ b.length ∧ Toks b (copyL out d n) rest) := by
 cases h with
 | done => exact .inl ⟨rfl, rfl⟩
 | run seg h0 h =>
  have h1 := h.len
  rw [List.length_append] at h1
  exact .inr (.inl ⟨seg, _, by have := putNum_len_pos (2 * (seg.length - 1)); rw [List.length_append]; omega, h0, rfl, h1, h⟩)
 | copy n d h4 hn hd hd2 hd3 h =>
  have h1 := h.len
  rw [copyL_len] at h1
  exact .inr (.inr ⟨n, d, _, by have := putNum_len_pos (2 * (n - 4) + 1); rw [List.length_append]; omega, h4, hn, hd, hd2, hd3, rfl, h1, h⟩)
theorem run_cost {m : Nat} (h1 : 1 ≤ m) (h2 : m ≤ 100000000) : 5 * (putNum (2 * (m - 1))).length ≤ m + 4 := by
 rcases Nat.lt_or_ge (2 * (m - 1)) (128 ^ 1) with h | h
 ·have := putNum_len_below 1 _ (by omega) h
  omega
 ·rcases Nat.lt_or_ge (2 * (m - 1)) (128 ^ 2) with h3 | h3
  ·have := putNum_len_below 2 _ (by omega) h3
   omega
  ·have := putNum_len_below 4 (2 * (m - 1)) (by omega) (by omega)
   omega
theorem copy_cost {n d : Nat} (h1 : n ≤ 259) (h2 : d ≤ 4096) : (putNum (2 * (n - 4) + 1)).length + (putNum d).length ≤ 4 := by
 have e1 := putNum_len_below 2 (2 * (n - 4) + 1) (by omega) (by omega)
 have e2 := putNum_len_below 2 d (by omega) (by omega)
 omega
def layT (P : List UInt8) (b : List UInt8) (fr i n d : Nat) : List UInt8 := (if i - fr = 0 then P else P ++ putNum (2 * (i - fr - 1)) ++ (b.drop fr).take (i - fr)) ++ putNum (2 * (n - 4) + 1) ++ putNum d
theorem drop_take_app {b : List UInt8} {fr i : Nat} (h : fr ≤ i) : b.take fr ++ (b.drop fr).take (i - fr) = b.take i := by
 rw [← List.take_append_drop fr (b.take i), List.take_take, List.drop_take, Nat.min_eq_left h]
theorem LaidT.lay {b P : List UInt8} {fr i n d : Nat} (h : LaidT b P (b.take fr)) (hfi : fr ≤ i) (h4 : 4 ≤ n) (hn : n ≤ 259) (hin : i + n ≤ b.length) (hd : 1 ≤ d) (hdi : d ≤ i) (hd3 : d ≤ 4096) (hc : ∀ k, k < n → b.getD (i - d + k) 0 = b.getD (i + k) 0) :
  LaidT b (layT P b fr i n d) (b.take (i + n)) := by
 have h1 : LaidT b (if i - fr = 0 then P else P ++ putNum (2 * (i - fr - 1)) ++ (b.drop fr).take (i - fr)) (b.take i) := by
  by_cases h0 : i - fr = 0
  ·rw [if_pos h0]
   obtain rfl : i = fr := by omega
   exact h
  ·rw [if_neg h0]
   have hl : ((b.drop fr).take (i - fr)).length = i - fr := by rw [List.length_take, List.length_drop]; omega
   have h2 := h.run ((b.drop fr).take (i - fr)) (by omega)
   rw [hl, drop_take_app hfi] at h2
   exact h2
 have h3 := h1.copy n d h4 hn hd (by rw [List.length_take]; omega) hd3
 rw [copyL_take hd n i hdi hin hc] at h3
 exact h3
theorem lay_len {b P : List UInt8} {fr i n d : Nat} (h : 5 * P.length ≤ 6 * fr) (hfi : fr ≤ i) (h4 : 4 ≤ n) (hn : n ≤ 259) (hin : i + n ≤ b.length) (hb : b.length ≤ 100000000) (hd3 : d ≤ 4096) : 5 * (layT P b fr i n d).length ≤ 6 * (i + n) := by
 have hc := copy_cost hn hd3
 unfold layT
 by_cases h0 : i - fr = 0
 ·rw [if_pos h0, List.length_append, List.length_append]
  omega
 ·have hr := run_cost (m := i - fr) (by omega) (by omega)
  rw [if_neg h0]
  simp only [List.length_append, List.length_take, List.length_drop]
  omega
theorem LaidT.fin {b P : List UInt8} {fr : Nat} (h : LaidT b P (b.take fr)) (hf : fr ≤ b.length) : Pressed b (putNum b.length ++ (if b.length - fr = 0 then P else P ++ putNum (2 * (b.length - fr - 1)) ++ b.drop fr)) := by
 refine ⟨_, rfl, ?_⟩
 by_cases h0 : b.length - fr = 0
 ·rw [if_pos h0]
  rw [List.take_of_length_le (by omega)] at h
  exact h.all
 ·rw [if_neg h0]
  have h2 := h.run (b.drop fr) (by rw [List.length_drop]; omega)
  rw [List.length_drop, List.take_append_drop] at h2
  exact h2.all
theorem fin_len {b P : List UInt8} {fr : Nat} (h : 5 * P.length ≤ 6 * fr) (hf : fr ≤ b.length) (hb : b.length ≤ 100000000) : 5 * (putNum b.length ++ (if b.length - fr = 0 then P else P ++ putNum (2 * (b.length - fr - 1)) ++ b.drop fr)).length ≤ 6 * b.length + 40 := by
 have h1 := putNum_len_below 4 b.length (by omega) (by omega)
 by_cases h0 : b.length - fr = 0
 ·rw [if_pos h0, List.length_append]
  omega
 ·have hr := run_cost (m := b.length - fr) (by omega) (by omega)
  rw [if_neg h0]
  simp only [List.length_append, List.length_drop]
  omega
end Go.Proofs.YtcednfmkiaelnaaGreatDoor
namespace Go.Proofs.YtcednfmkiaelnaaGreatDoor
open Go.RowKit
theorem sl_bytes {w : World} {A : Option Addr} {n k : Nat} {l : List UInt8} (h : Sl w 1 A n (u8s l)) (hk : k < n) : ∃ b off, A = some ⟨b, off, none⟩ ∧ b < w.heap.size ∧ ∀ V, Below w.heap.size w V → ∀ j, j < n → V.cell? ⟨b, off + j, none⟩ = some (U8 (l[j]?.getD 0)) := by
 obtain ⟨b, off, rfl, hb, _⟩ := h.2 (by omega)
 refine ⟨b, off, rfl, hb, fun V hV j hj => ?_⟩
 obtain ⟨b', off', x, e', hx, hc⟩ := (h.below hV).byte hj
 cases e'
 rw [hc, hx]
 rfl
set_option maxHeartbeats 4000000 in
/-- how many bytes are the same -/
theorem alike_any (g : Nat) (A : Option Addr) (n c : Nat) (b : List UInt8) (v1 v2 : Value) (k i : Nat) (w : World) (hg : Blk w g 311 #[.slice A n c, v1, v2]) (hA : Sl w 1 A n (u8s b)) (hk : k < i) (hi : i ≤ n) (hn : n ≤ 1000000000) :
  Calls Tryz.prog 281 #[.pointer (some ⟨g, 0, none⟩), I k, I i] w fun e w' => ∃ m : Nat, e = .returned (I m) ∧ m ≤ 259 ∧ i + m ≤ n ∧ (∀ t, t < m → b.getD (k + t) 0 = b.getD (i + t) 0) ∧ ∃ j, w' = w.drewN j := by
 have hG := hg.cell
 have HA := Lib.hid hA
 clear hg
 go_enter Tryz.func281, Tryz.ntmps281
 go_wp2
 go_loopw [7] (fun v wr => ∃ m j : Nat, v = .int .i64 m ∧ m ≤ 259 ∧ i + m ≤ n ∧ wr = w.drewN j ∧ Hid (∀ t, t < m → b.getD (k + t) 0 = b.getD (i + t) 0)) (fun v _ => 300 - (intOf v).toNat)
 case atStart => exact ⟨0, 0, rfl, by omega, by omega, rfl, Lib.hid (fun t ht => absurd ht (by omega))⟩
 case round =>
  obtain ⟨m, j, rfl, hm, him, rfl, HE⟩ := hrel
  have hways : decide ((m : Int) < 259) = false ∨ (decide ((m : Int) < 259) = true ∧ ¬ i + m < n) ∨ (decide ((m : Int) < 259) = true ∧ i + m < n) := by
   by_cases h1 : m < 259
   ·by_cases h2 : i + m < n
    ·exact .inr (.inr ⟨decide_eq_true (by omega), h2⟩)
    ·exact .inr (.inl ⟨decide_eq_true (by omega), h2⟩)
   ·exact .inl (decide_eq_false (by omega))
  rcases hways with d1 | ⟨d1, d2⟩ | ⟨d1, d2⟩
  ·go_wp2
   go_quiet (fail)
   go_wp2
   go_ret
   exact ⟨m, rfl, hm, him, HE.out, _, World.drewN_drewN _ _ _⟩
  ·have d3 : decide ((i : Int) + (m : Int) < (n : Int)) = false := decide_eq_false (by omega)
   go_wp2
   go_quiet (fail)
   go_wp2
   go_ret
   exact ⟨m, rfl, hm, him, HE.out, _, World.drewN_drewN _ _ _⟩
  ·obtain ⟨bb, off, rfl, _, hcl⟩ := sl_bytes (k := 0) HA.out (by omega)
   have y1 := hcl w (Below.refl _ _) (k + m) (by omega)
   have y2 := hcl w (Below.refl _ _) (i + m) (by omega)
   clear hcl
   have d3 : decide ((i : Int) + (m : Int) < (n : Int)) = true := decide_eq_true (by omega)
   rcases Decidable.em (b[k + m]?.getD 0 = b[i + m]?.getD 0) with he | he
   ·have d4 : (((b[k + m]?.getD 0).toNat : Int) == ((b[i + m]?.getD 0).toNat : Int)) = true := by rw [he]; exact beq_self_eq_true _
    clear he
    go_wp2
    go_quiet (fail)
    go_wp2
    go_roundw
    case rel =>
     refine ⟨m + 1, _, by go_num, by have := of_decide_eq_true d1; omega, by omega, rfl, Lib.hid (fun t ht => ?_)⟩
     rcases Nat.lt_or_ge t m with h | h
     ·exact HE.out t h
     ·obtain rfl : t = m := by omega
      have d5 := Int.ofNat.inj (eq_of_beq d4)
      rw [List.getD_eq_getElem?_getD, List.getD_eq_getElem?_getD]
      exact UInt8.toNat_inj.1 d5
    case measure => simp [intOf]; omega
   ·have d4 : (((b[k + m]?.getD 0).toNat : Int) == ((b[i + m]?.getD 0).toNat : Int)) = false := beq_eq_false_iff_ne.2 (fun e => he (UInt8.toNat_inj.1 (Int.ofNat.inj e)))
    clear he
    go_wp2
    go_quiet (fail)
    go_wp2
    go_ret
    exact ⟨m, rfl, hm, him, HE.out, _, World.drewN_drewN _ _ _⟩
set_option maxRecDepth 100000 in
set_option maxHeartbeats 1000000 in
/-- the four bytes at a place -/
theorem pat_any (A : Option Addr) (n c i : Nat) (b : List UInt8) (w : World) (hA : Sl w 1 A n (u8s b)) (hi : i + 4 ≤ n) (hnc : n ≤ c) (hn : n ≤ 1000000000) :
  Calls Tryz.prog 280 #[.slice A n c, I i] w fun e w' => e = .returned (.agg #[U8 (b[i]?.getD 0), U8 (b[i + 1]?.getD 0), U8 (b[i + 2]?.getD 0), U8 (b[i + 3]?.getD 0)]) ∧ Below w.heap.size w w' := by
 obtain ⟨bb, off, rfl, _, hcl⟩ := sl_bytes (k := 0) hA (by omega)
 have HC := Lib.hid hcl
 clear hcl hA
 have z0 := HC.out _ (balloc (Below.refl _ w) (.cells #[.int .u8 0, .int .u8 0, .int .u8 0, .int .u8 0] 345)) i (by omega)
 have z1 := HC.out _ (balloc (Below.refl _ w) (.cells #[.int .u8 0, .int .u8 0, .int .u8 0, .int .u8 0] 345)) (i + 1) (by omega)
 rw [← Nat.add_assoc] at z1
 have z2 := HC.out _ (balloc (Below.refl _ w) (.cells #[.int .u8 0, .int .u8 0, .int .u8 0, .int .u8 0] 345)) (i + 2) (by omega)
 rw [← Nat.add_assoc] at z2
 have z3 := HC.out _ (balloc (Below.refl _ w) (.cells #[.int .u8 0, .int .u8 0, .int .u8 0, .int .u8 0] 345)) (i + 3) (by omega)
 rw [← Nat.add_assoc] at z3
 have ha := run_arrayAt (P := Tryz.prog) (w := w.alloc (.cells #[.int .u8 0, .int .u8 0, .int .u8 0, .int .u8 0] 345)) 345 5 4 (some ⟨bb, off + i, none⟩) 4 (c - i) Tryz.underlying345 (Nat.le_refl _)
 go_enter Tryz.func280, Tryz.ntmps280
 go_wp2
 refine bodyPost_ret (results_cell_row (d := .array 4 5) rfl _ _ w.heap.size 345 #[U8 (b[i]?.getD 0), U8 (b[i + 1]?.getD 0), U8 (b[i + 2]?.getD 0), U8 (b[i + 3]?.getD 0)] (0, 0) rfl (Blk.new w _ _) Tryz.underlying345 rfl (by kernel_rfl)) rfl ⟨rfl, balloc (Below.refl _ w) _⟩
def RetT (w : World) (l : List UInt8) (e : Ending) (w' : World) : Prop := (∃ (A : Option Addr) (n c : Nat), e = .returned (.slice A n c) ∧ SlT (fun _ => True) 5 w' 1 A n (u8s l) ∧ n ≤ c ∧ c ≤ maxLen) ∧ Below w.heap.size w w'
set_option maxRecDepth 100000 in
set_option maxHeartbeats 1000000 in
/-- bytes that were passed over -/
theorem prun_any (A B : Option Addr) (n m c d : Nat) (o s : List UInt8) (w : World) (hA : SlT (fun _ => True) 5 w 1 A n (u8s o)) (hcc : n ≤ c ∧ c ≤ maxLen) (hB : Sl w 1 B m (u8s s)) (hn : n + m + 20 ≤ 100000000000) :
  Calls Tryz.prog 224 #[.slice A n c, .slice B m d] w (RetT w (if m = 0 then o else o ++ putNum (2 * (m - 1)) ++ s)) := by
 obtain ⟨i0, hi0, hz0, hz1, hz2⟩ := info_parts Tryz.infoU8
 have HA := Lib.hid hA
 have HB := Lib.hid hB
 clear hA hB
 go_enter Tryz.func224, Tryz.ntmps224
 rcases Nat.eq_zero_or_pos m with rfl | hm
 ·go_wp2
  go_ret
  have h9 := HA.out
  exact ⟨⟨A, n, c, rfl, h9, hcc⟩, Below.refl _ _⟩
 ·have hz : ((m : Int) == 0) = false := beq_eq_false_iff_ne.2 (by omega)
  have CP := Lib.hid (putNum_nat A n c (2 * (m - 1)) o w HA.out.sl (by omega) (by omega))
  go_wp2_with fail
  rw [show (2 : Int) * ((m : Int) - 1) = ((2 * (m - 1) : Nat) : Int) by omega]
  refine CP.out.mono ?_
  rintro e w1 ⟨A1, m1, c1, rfl, hO1⟩
  have hl1 : m1 ≤ n + 9 := by
   have h1 := ow_len hO1
   have h2 := putNum_len_le (n := 2 * (m - 1)) (by unfold top62; omega)
   have h3 := u8s_len HA.out.sl
   rw [List.length_append] at h1
   omega
  have HO1 := Lib.hid hO1
  have HB1 := Lib.hid (HB.out.below hO1.2)
  have q1 : m1 + m ≤ maxLen := by simp only [maxLen]; omega
  have q2 : (m1 + m) * 1 ≤ 140737488355328 := by omega
  clear hO1 CP hz hl1
  go_wp2_with (at_builtin; refine wpList_append_sl _ rfl (.tmp 14) (.tmp 15) _ rfl w 5 i0 _ 1 1 Tryz.underlying38 hi0 hz0 hz1 hz2 rfl Nat.one_pos A1 m1 c1 _ rfl HO1.out B m d (u8s s) rfl HB1.out (one_u8s s) q1 q2 ?_; intro A4 c4 w4 hO4 hg4 hat4; have HO4 := Lib.hid hO4; clear hO4 hg4 hat4)
  go_ret
  have h9 := HO4.out
  rw [show u8s (o ++ putNum (2 * (m - 1))) ++ u8s s = u8s (o ++ putNum (2 * (m - 1)) ++ s) by simp [u8s]] at h9
  exact ⟨⟨A4, m1 + m, c4, rfl, by rw [← List.append_assoc]; exact h9.slT.weak (fun _ _ _ => trivial), h9.cap⟩, h9.2⟩
end Go.Proofs.YtcednfmkiaelnaaGreatDoor
namespace Go.Proofs.YtcednfmkiaelnaaGreatDoor
open Go.RowKit
open Go.ChangeMaps (setBlock)
theorem Tryz.infoIntP : (Tryz.prog.info? 3).map (fun i => (i.zero, i.size, i.bytes)) = some (some (.int .i64 0), 1, 8) := by kernel_rfl
def intsP (l : List Nat) : List Value := l.map (fun (z : Nat) => I (z : Int))
theorem intsP_app (l : List Nat) (z : Nat) : intsP l ++ [I (z : Int)] = intsP (l ++ [z]) := by simp [intsP]
def baseW (w : World) (B : Nat) : World := { w with heap := w.heap.extract 0 B }
theorem baseW_size {w : World} {B : Nat} (h : B ≤ w.heap.size) : (baseW w B).heap.size = B := by simp [baseW]; omega
theorem ow_of {w : World} {B sz n c : Nat} {A : Option Addr} {e : TypeId} {xs : List Value} (h : w.ownsRow B e sz (.slice A n c) n xs) (hB : B ≤ w.heap.size) : Ow (baseW w B) w e sz A n c xs := by
 refine ⟨by rw [baseW_size hB]; exact h, ?_⟩
 rw [baseW_size hB]
 exact ⟨rfl, rfl, rfl, by rw [baseW_size hB]; exact hB, fun k hk => by
  show w.heap[k]? = (w.heap.extract 0 B)[k]?
  rw [Array.getElem?_extract, if_pos (by omega), Nat.zero_add]⟩
theorem own_stepP {w w' : World} {base sz n : Nat} {e : TypeId} {v : Value} {xs : List Value} (h : w.ownsRow base e sz v n xs) (hb : Below w.heap.size w w') : w'.ownsRow base e sz v n xs :=
 h.kept (row := none) ⟨hb.os, hb.tape, hb.output, hb.size, fun i hi _ => hb.block i hi⟩ (by cases v.ownBlock <;> simp)
structure FindAt (B : Nat) (w : World) (g m cnt : Nat) (A : Option Addr) (n c kn : Nat) (f : Four → Option Hd) : Prop where
 blk : Blk w g 311 #[.slice A n c, .map (some m), I (kn : Int)]
 map : MapIs placeC w m cnt f
 cnt : cnt ≤ kn
 base : B ≤ w.heap.size
 lo : B ≤ g ∧ B ≤ m
 rows : ∀ k h, f k = some h → ∃ zs : List Nat, w.ownsRow B 3 1 h.v h.n (intsP zs) ∧ (∀ z ∈ zs, z < kn) ∧ h.n ≤ kn
 apart : ∀ k k' h h', f k = some h → f k' = some h' → k ≠ k' → h.v.ownBlock = none ∨ h.v.ownBlock ≠ h'.v.ownBlock
section
variable {B g m cnt n c kn : Nat} {w w' : World} {A : Option Addr} {f : Four → Option Hd}
theorem FindAt.step (h : FindAt B w g m cnt A n c kn f) (hb : Below w.heap.size w w') : FindAt B w' g m cnt A n c kn f :=
 ⟨h.blk.step hb, h.map.step hb, h.cnt, Nat.le_trans h.base hb.size, h.lo, fun k hd hk => by
  obtain ⟨zs, h1, h2, h3⟩ := h.rows k hd hk
  exact ⟨zs, own_stepP h1 hb, h2, h3⟩, h.apart⟩
theorem FindAt.ne (h : FindAt B w g m cnt A n c kn f) : m ≠ g := h.map.ne_blk h.blk
end
theorem own_block {w w' : World} {base sz n : Nat} {e : TypeId} {v : Value} {xs : List Value} (h : w.ownsRow base e sz v n xs) (hb : ∀ k, v.ownBlock = some k → w'.heap[k]? = w.heap[k]?) : w'.ownsRow base e sz v n xs := by
 refine ⟨h.1, ?_⟩
 rcases h.2 with h2 | ⟨g, cap, cur, hv, hg, hh, r⟩
 ·exact .inl h2
 ·exact .inr ⟨g, cap, cur, hv, hg, (hb g (by rw [hv]; rfl)).trans hh, r⟩
theorem own_type9 {w : World} {base sz n : Nat} {e t : TypeId} {v : Value} {xs : List Value} (h : w.ownsRow base e sz v n xs) (ht : e ≠ t) {k : Nat} (hk : v.ownBlock = some k) (cs : Array Value) (fr : Nat × Nat) : w.heap[k]? ≠ some (.cells cs t fr) := by
 rcases h.2 with ⟨hv, _⟩ | ⟨g, cap, cur, hv, _, hh, _⟩
 ·rw [hv] at hk; cases hk
 ·rw [hv] at hk
  obtain rfl : g = k := by simpa [Value.ownBlock] using hk
  rw [hh]
  intro e1
  injection e1 with e1
  injection e1 with _ e2 _
  exact ht e2
theorem own_no_blk {w : World} {base sz n g : Nat} {e t : TypeId} {v : Value} {xs : List Value} {cs : Array Value} (h : w.ownsRow base e sz v n xs) (hg : Blk w g t cs) (ht : e ≠ t) : v.ownBlock ≠ some g := fun hk => own_type9 h ht hk cs (0, 0) hg
def keyE (m : Nat) (v : Value) (k : Nat) : Prop := k = m ∨ v.ownBlock = some k
section
variable {B g m cnt n c kn : Nat} {W w9 : World} {A : Option Addr} {f : Four → Option Hd} {key : Four} {hd hd' : Hd} {zs : List Nat} {o o9 : Obj}
theorem FindAt.put (h : FindAt B W g m cnt A n c kn f) (hhd : hd = (f key).getD ⟨none, 0, 0⟩) (hrow : W.ownsRow B 3 1 hd.v hd.n (intsP zs)) (hz : ∀ z ∈ zs, z < kn) (hn : hd.n ≤ kn)
  (hf : Fr (keyE m hd.v) W w9) (hr : w9.ownsRow B 3 1 hd'.v hd'.n (intsP (zs ++ [kn]))) (hn' : hd'.n = hd.n + 1) (ho : hd'.v.ownBlock = hd.v.ownBlock ∨ ∃ gg, hd'.v.ownBlock = some gg ∧ W.heap.size ≤ gg)
  (hm9 : w9.heap[m]? = some o9) (ho9 : o9.isCells = false) (hmap : MapIs placeC (setBlock w9 m o) m (cnt + 1) (upd f key (some hd'))) :
  FindAt B ((setBlock w9 m o).setCell ⟨g, 2, none⟩ (I ((kn + 1 : Nat) : Int))) g m (cnt + 1) A n c (kn + 1) (upd f key (some hd')) ∧ KeepT 5 W ((setBlock w9 m o).setCell ⟨g, 2, none⟩ (I ((kn + 1 : Nat) : Int))) ∧ Below B W ((setBlock w9 m o).setCell ⟨g, 2, none⟩ (I ((kn + 1 : Nat) : Int))) := by
 have hmg := h.ne
 have hgE : ¬ keyE m hd.v g := fun e => by
  rcases e with e | e
  ·exact hmg e.symm
  ·exact own_no_blk hrow h.blk (by decide) e
 have hb9 := hf.blk h.blk hgE
 have hs9 : ∀ k, k ≠ m → (setBlock w9 m o).heap[k]? = w9.heap[k]? := fun k hk => by
  have : m ≠ k := fun e => hk e.symm
  simp [setBlock, this]
 have hsz : (setBlock w9 m o).heap.size = w9.heap.size := by simp [setBlock]
 have hb10 : Blk (setBlock w9 m o) g 311 #[.slice A n c, .map (some m), I (kn : Int)] := (hs9 g (fun e => hmg e.symm)).trans hb9
 obtain ⟨W9, hW9⟩ : ∃ W9, W9 = (setBlock w9 m o).setCell ⟨g, 2, none⟩ (I ((kn + 1 : Nat) : Int)) := ⟨_, rfl⟩
 have hk9 : ∀ k, k ≠ m → k ≠ g → W9.heap[k]? = w9.heap[k]? := fun k h1 h2 => by
  rw [hW9, Below.heap_setCell _ ⟨g, 2, none⟩ _ k h2]
  exact hs9 k h1
 have hz9 : W9.heap.size = w9.heap.size := by rw [hW9, ← hsz]; simp [World.setCell]
 have hlt : ∀ {v : Value} {j : Nat} {xs : List Value} {k : Nat}, W.ownsRow B 3 1 v j xs → v.ownBlock = some k → k < W.heap.size := fun h1 h2 => (h1.lt _ h2).2
 rw [← hW9]
 refine ⟨⟨by rw [hW9]; exact hb10.set_ 2 _, by rw [hW9]; exact hmap.far hmg _, Nat.succ_le_succ h.cnt, by rw [hz9]; exact Nat.le_trans h.base hf.size, h.lo, fun k h' hk => ?_, fun k k' h1 h2 e1 e2 hne => ?_⟩, ?_, ?_⟩
 ·unfold upd at hk
  split at hk
  ·obtain rfl : hd' = h' := Option.some.inj hk
   refine ⟨zs ++ [kn], own_block hr (fun j hj => hk9 j (fun e => ?_) (fun e => ?_)), fun z hzz => ?_, by omega⟩
   ·subst e
    rcases hr.2 with ⟨hv, _⟩ | ⟨g', cap, cur, hv, _, hh, _⟩
    ·rw [hv] at hj; cases hj
    ·rw [hv] at hj
     obtain rfl : g' = j := by simpa [Value.ownBlock] using hj
     rw [hm9] at hh
     cases hh
     cases ho9
   ·subst e
    exact own_no_blk hr hb9 (by decide) hj
   ·rcases List.mem_append.1 hzz with hzz | hzz
    ·have := hz z hzz; omega
    ·simp at hzz; omega
  ·rename_i hkk
   obtain ⟨zs', r1, r2, r3⟩ := h.rows k h' hk
   refine ⟨zs', own_block r1 (fun j hj => ?_), fun z hzz => by have := r2 z hzz; omega, by omega⟩
   have h1 : j ≠ m := fun e => h.map.ne_own r1 (by rw [← e]; exact hj.symm)
   have h2 : j ≠ g := fun e => own_no_blk r1 h.blk (by decide) (by rw [← e]; exact hj)
   rw [hk9 j h1 h2]
   refine hf.block j (hlt r1 hj) (fun e => ?_)
   rcases e with e | e
   ·exact h1 e
   ·rcases hfk : f key with _ | hh
    ·rw [hfk] at hhd
     rw [hhd] at e
     cases e
    ·rw [hfk] at hhd
     obtain rfl : hd = hh := hhd
     rcases h.apart k key h' hd hk hfk hkk with a1 | a1
     ·rw [a1] at hj; cases hj
     ·exact a1 (hj.trans e.symm)
 ·have ap : ∀ {k0 : Four} {h0 : Hd}, f k0 = some h0 → k0 ≠ key → h0.v.ownBlock = none ∨ h0.v.ownBlock ≠ hd'.v.ownBlock := fun {k0 h0} e0 ne0 => by
   obtain ⟨zs', r1, _, _⟩ := h.rows k0 h0 e0
   rcases hob : h0.v.ownBlock with _ | j
   ·exact .inl rfl
   ·right
    intro e
    rcases ho with ho | ⟨gg, ho, hge⟩
    ·rw [ho] at e
     rcases hfk : f key with _ | hh
     ·rw [hfk] at hhd
      rw [hhd] at e
      cases e
     ·rw [hfk] at hhd
      obtain rfl : hd = hh := hhd
      rcases h.apart k0 key h0 hd e0 hfk ne0 with a1 | a1
      ·rw [hob] at a1; cases a1
      ·exact a1 (hob.trans e)
    ·have := hlt r1 hob
     rw [ho] at e
     injection e with e
     omega
  unfold upd at e1 e2
  split at e1
  ·obtain rfl : hd' = h1 := Option.some.inj e1
   split at e2
   ·rename_i a1 a2
    exact absurd (a1.trans a2.symm) hne
   ·rename_i a2
    rcases ap e2 a2 with a3 | a3
    ·right
     rw [a3]
     intro e
     rcases hr.2 with ⟨_, h0⟩ | ⟨g', cap, cur, hv, _⟩
     ·omega
     ·rw [hv] at e; cases e
    ·exact .inr (fun e => a3 e.symm)
  ·rename_i a1
   split at e2
   ·obtain rfl : hd' = h2 := Option.some.inj e2
    exact ap e1 a1
   ·exact h.apart k k' h1 h2 e1 e2 hne
 ·intro k cs fr hk
  have h1 : k ≠ m := fun e => h.map.no_cells cs fr (by rw [← e]; exact hk)
  have h2 : k ≠ g := fun e => Blk.type h.blk (show (311 : TypeId) ≠ 5 by decide) cs fr (by rw [← e]; exact hk)
  rw [hk9 k h1 h2, hf.block k (heap_lt hk) (fun e => ?_)]
  ·exact hk
  ·rcases e with e | e
   ·exact h1 e
   ·exact own_type9 hrow (by decide) e cs fr hk
 ·refine ⟨by rw [hW9]; exact hf.os, by rw [hW9]; exact hf.tape, by rw [hW9]; exact hf.output, by rw [hz9]; exact hf.size, fun k hk => ?_⟩
  have h1 : k ≠ m := fun e => by have := h.lo.2; omega
  have h2 : k ≠ g := fun e => by have := h.lo.1; omega
  rw [hk9 k h1 h2]
  refine hf.block k (Nat.lt_of_lt_of_le hk h.base) (fun e => ?_)
  rcases e with e | e
  ·exact h1 e
  ·have := (hrow.lt k e).1; omega
end
def knownOf (g : Nat) (w : World) : Nat := (intOf ((w.cell? ⟨g, 2, none⟩).getD undef)).toNat
theorem FindAt.known {B g m cnt n c kn : Nat} {w : World} {A : Option Addr} {f : Four → Option Hd} (h : FindAt B w g m cnt A n c kn f) : knownOf g w = kn := by
 have h1 : w.cell? ⟨g, 2, none⟩ = some (I (kn : Int)) := h.blk.cell 2
 unfold knownOf
 rw [h1]
 simp [intOf]
def kwJ (B : Nat) (W : World) (m : Nat) (v : Value) (n st kn : Nat) (es1 : Array MapEntry) (c1 : Nat) (zs : List Nat) : Nat → Value → World → Prop
 | 0, _, w => Below W.heap.size W w
 | 1, u, w => u = .tuple #[v, goInt st] ∧ Fr (fun k => k = m) W w ∧ w.heap[m]? = some (.map es1 c1)
 | _ + 2, u, w => (∃ (A' : Option Addr) (c' : Nat), u = .slice A' (n + 1) c' ∧ w.ownsRow B 3 1 (.slice A' (n + 1) c') (n + 1) (intsP (zs ++ [kn])) ∧ ((Value.slice A' (n + 1) c').ownBlock = v.ownBlock ∨ ∃ gg, (Value.slice A' (n + 1) c').ownBlock = some gg ∧ W.heap.size ≤ gg)) ∧ Fr (keyE m v) W w ∧ w.heap[m]? = some (.map es1 c1)
section
variable {B : Nat} {W : World} {m : Nat} {v : Value} {n st kn : Nat} {es1 : Array MapEntry} {c1 : Nat} {zs : List Nat}
theorem kw_lt {w : World} {o : Obj} (h : w.heap[m]? = some o) : m < w.heap.size := (Array.getElem?_eq_some_iff.1 h).1
theorem kwJ.step : ∀ (k : Nat) (u : Value) (w w' : World), kwJ B W m v n st kn es1 c1 zs k u w → Below w.heap.size w w' → kwJ B W m v n st kn es1 c1 zs k u w'
 | 0, _, _, _, h, hb => bstep h hb
 | 1, _, _, _, ⟨e, hf, hm⟩, hb => ⟨e, hf.step hb, (hb.block m (kw_lt hm)).trans hm⟩
 | _ + 2, _, _, _, ⟨⟨A', c', e, h, ho⟩, hf, hm⟩, hb => ⟨⟨A', c', e, own_stepP h hb, ho⟩, hf.step hb, (hb.block m (kw_lt hm)).trans hm⟩
theorem kwJ.fr : ∀ (k : Nat) (u : Value) (w : World), kwJ B W m v n st kn es1 c1 zs k u w → Fr (keyE m v) W w
 | 0, _, _, h => Fr.of_below h
 | 1, _, _, ⟨_, hf, _⟩ => hf.weak (fun _ e => .inl e)
 | _ + 2, _, _, ⟨_, hf, _⟩ => hf
end
def kw2Phi (N0 g : Nat) (A : Option Addr) (n c kn : Nat) (x0 x1 x2 x3 : UInt8) : Nat → Value → World → Prop
 | 0, v, _ => v = .pointer (some ⟨g, 0, none⟩)
 | 1, v, _ => v = .pointer (some ⟨g, 0, none⟩)
 | 2, v, _ => v = .pointer (some ⟨g, 0, none⟩)
 | 3, v, _ => v = .slice A n c
 | 4, v, _ => v = .pointer (some ⟨g, 0, none⟩)
 | 5, v, _ => v = .pointer (some ⟨g, 0, none⟩)
 | 6, v, _ => v = .pointer (some ⟨g, 2, none⟩)
 | 7, v, _ => v = I ((kn : Int))
 | 8, v, _ => v = .agg #[U8 x0, U8 x1, U8 x2, U8 x3]
 | 9, v, w => ∃ g4 : Nat, v = .pointer (some ⟨g4, 0, none⟩) ∧ N0 ≤ g4 ∧ Blk w g4 345 #[.int .u8 0, .int .u8 0, .int .u8 0, .int .u8 0]
 | _, _, _ => True
theorem kw2Phi_mono {N0 g : Nat} {A : Option Addr} {n c kn : Nat} {x0 x1 x2 x3 : UInt8} : ∀ (j : Nat) (v : Value) (w w' : World), kw2Phi N0 g A n c kn x0 x1 x2 x3 j v w → Below w.heap.size w w' → kw2Phi N0 g A n c kn x0 x1 x2 x3 j v w' := by
 intro j v w w' h hb9
 match j, h with
 | 0, h => exact h
 | 1, h => exact h
 | 2, h => exact h
 | 3, h => exact h
 | 4, h => exact h
 | 5, h => exact h
 | 6, h => exact h
 | 7, h => exact h
 | 8, h => exact h
 | 9, h => obtain ⟨g4, h1, h2, h3⟩ := h; exact ⟨g4, h1, h2, h3.step hb9⟩
 | (n + 10), _ => trivial
def kw3Phi (g m : Nat) (kn st : Nat) (hd : Hd) (x0 x1 x2 x3 : UInt8) : Nat → Value → World → Prop
 | 0, v, _ => v = .pointer (some ⟨g, 0, none⟩)
 | 1, v, _ => v = .pointer (some ⟨g, 0, none⟩)
 | 2, v, _ => v = .pointer (some ⟨g, 1, none⟩)
 | 3, v, _ => v = .map (some m)
 | 4, v, _ => v = .agg #[U8 x0, U8 x1, U8 x2, U8 x3]
 | 5, v, _ => v = .pointer (some ⟨g, 0, none⟩)
 | 6, v, _ => v = .pointer (some ⟨g, 0, none⟩)
 | 7, v, _ => v = .pointer (some ⟨g, 2, none⟩)
 | 8, v, _ => v = I ((kn : Int))
 | 9, v, w => ∃ gb : Nat, v = .slice (some ⟨gb, 0, none⟩) 1 1 ∧ SlF (keyE m hd.v) w 1 (some ⟨gb, 0, none⟩) 1 [I (kn : Int)]
 | 10, v, _ => v = .tuple #[.slice hd.a hd.n hd.c, goInt st]
 | 11, v, _ => v = .slice hd.a hd.n hd.c
 | 12, _, _ => True
 | 13, v, _ => v = goInt st
 | _, _, _ => True
theorem kw3Phi_mono {g m : Nat} {kn st : Nat} {hd : Hd} {x0 x1 x2 x3 : UInt8} : ∀ (j : Nat) (v : Value) (w w' : World), kw3Phi g m kn st hd x0 x1 x2 x3 j v w → Fr (keyE m hd.v) w w' → kw3Phi g m kn st hd x0 x1 x2 x3 j v w' := by
 intro j v w w' h hb9
 match j, h with
 | 0, h => exact h
 | 1, h => exact h
 | 2, h => exact h
 | 3, h => exact h
 | 4, h => exact h
 | 5, h => exact h
 | 6, h => exact h
 | 7, h => exact h
 | 8, h => exact h
 | 9, h => obtain ⟨gb, h1, h2⟩ := h; exact ⟨gb, h1, h2.fr hb9⟩
 | 10, h => exact h
 | 11, h => exact h
 | 12, h => exact trivial
 | 13, h => exact h
 | (n + 14), _ => trivial
set_option maxHeartbeats 8000000 in
set_option maxRecDepth 100000 in
theorem know_any (B g m cnt : Nat) (A : Option Addr) (n c kn i : Nat) (b : List UInt8) (f : Four → Option Hd) (w : World) (hF : FindAt B w g m cnt A n c kn f) (hA : ∀ V, Below B w V → Sl V 1 A n (u8s b)) (hnc : n ≤ c) (hi : i ≤ n) (hkn : kn ≤ i) (hn : n ≤ 100000000) :
  Calls Tryz.prog 279 #[.pointer (some ⟨g, 0, none⟩), I i] w fun e w' => e = .returned (.tuple #[]) ∧ (∃ kn' cnt' f', kn' ≤ i ∧ FindAt B w' g m cnt' A n c kn' f') ∧ KeepT 5 w w' ∧ Below B w w' := by
 obtain ⟨i0, hi0, hz0, hz1, hz2⟩ := info_parts Tryz.infoIntP
 have HF := Lib.hid hF
 have HA := Lib.hid hA
 have Hkn := Lib.hid hkn
 clear hF hA hkn
 go_enter Tryz.func279, Tryz.ntmps279
 go_wp2
 go_loopw [4] (fun _ wr => ∃ (kn cnt : Nat) (f : Four → Option Hd), Hid (FindAt B wr g m cnt A n c kn f) ∧ Hid (kn ≤ i) ∧ Hid (KeepT 5 w wr) ∧ Hid (Below B w wr)) (fun _ wr => 200000000 - knownOf g wr)
 case atStart => exact ⟨kn, cnt, f, HF, Hkn, Lib.hid (KeepT.refl _ _), Lib.hid ⟨rfl, rfl, rfl, Nat.le_refl _, fun _ _ => rfl⟩⟩
 case round =>
  obtain ⟨kn, cnt, f, hF, hk, hK, hB⟩ := hrel
  have rg := hF.out.blk.cell
  have hways : decide (kn < i) = false ∨ (kn < i ∧ decide ((kn : Int) + 4 ≤ (n : Int)) = false) ∨ (kn < i ∧ kn + 4 ≤ n) := by
   by_cases h1 : kn < i
   ·by_cases h2 : kn + 4 ≤ n
    ·exact .inr (.inr ⟨h1, h2⟩)
    ·exact .inr (.inl ⟨h1, decide_eq_false (by omega)⟩)
   ·exact .inl (decide_eq_false (by omega))
  rcases hways with d1 | ⟨d1, d2⟩ | ⟨hlt, h4⟩
  ·go_wp2
   go_quiet (fail)
   go_wp2
   go_end0
   have bb := below_drewN (Below.refl wr.heap.size wr) nq
   exact ⟨rfl, ⟨kn, cnt, f, hk.out, hF.out.step bb⟩, hK.out.step bb, hB.out.trans (bb.mono hF.out.base)⟩
  ·go_wp2
   go_quiet (fail)
   go_wp2
   go_end0
   have bb := below_drewN (Below.refl wr.heap.size wr) nq
   exact ⟨rfl, ⟨kn, cnt, f, hk.out, hF.out.step bb⟩, hK.out.step bb, hB.out.trans (bb.mono hF.out.base)⟩
  ·go_wp2
   go_quiet (fail)
   go_wp2
   obtain ⟨W, hW⟩ : ∃ W, W = wr.drewN nq := ⟨_, rfl⟩
   have bW : Below wr.heap.size wr W := by rw [hW]; exact below_drewN (Below.refl _ _) nq
   have HFW := Lib.hid (hF.out.step bW)
   have HKW := Lib.hid (hK.out.step bW)
   have HBW := Lib.hid (hB.out.trans (bW.mono hF.out.base))
   have HG := Lib.hid HFW.out.blk
   obtain ⟨x0, e0⟩ : ∃ x0, x0 = b[kn]?.getD 0 := ⟨_, rfl⟩
   obtain ⟨x1, e1⟩ : ∃ x1, x1 = b[kn + 1]?.getD 0 := ⟨_, rfl⟩
   obtain ⟨x2, e2⟩ : ∃ x2, x2 = b[kn + 2]?.getD 0 := ⟨_, rfl⟩
   obtain ⟨x3, e3⟩ : ∃ x3, x3 = b[kn + 3]?.getD 0 := ⟨_, rfl⟩
   have CA : Hid (∀ V, Below W.heap.size W V → Calls Tryz.prog 280 #[.slice A n c, I kn] V fun e w' => e = .returned (.agg #[U8 x0, U8 x1, U8 x2, U8 x3]) ∧ Below V.heap.size V w') := Lib.hid (fun V hV => by
    rw [e0, e1, e2, e3]
    exact pat_any A n c kn b V (HA.out V (HBW.out.trans (hV.mono HFW.out.base))) h4 hnc (by omega))
   rw [← hW]
   have Hkw := Lib.hid hF.out.known
   clear e0 e1 e2 e3 hW bW rg hF hK hB
   refine wp_region_guards (by kernel_rfl) 10 (by kernel_rfl) ?_ (kw2Phi W.heap.size g A n c kn x0 x1 x2 x3) kw2Phi_mono (fun i9 o hi ho a w hb hs hm => ?_) (fun o ho a w5 hb hs hm => ?_)
   ·exact dst_ltC2 (n := 54) (by kernel_rfl)
   ·exact match i9, hi, ho with
     | 0, _, ho => by
       cases ho
       rw [if_pos (wanted_none _ rfl)]
       refine wp_value (st_move rfl ((hs.keeps (by kernel_rfl)).trans rfl)) ⟨_, rfl, rfl, Below.refl _ _⟩
     | 1, _, ho => by
       cases ho
       rw [if_pos (wanted_none _ rfl)]
       refine wp_value (st_nil rfl (hm.get 0 31 (by kernel_rfl))) ⟨_, rfl, rfl, Below.refl _ _⟩
     | 2, _, ho => by
       cases ho
       rw [if_pos (wanted_none _ rfl)]
       refine wp_value (st_field rfl (hm.get 1 32 (by kernel_rfl)) (by kernel_rfl)) ⟨_, rfl, rfl, Below.refl _ _⟩
     | 3, _, ho => by
       cases ho
       rw [if_pos (wanted_none _ rfl)]
       have hx : w.cell? ⟨g, 0, none⟩ = some (.slice A n c) := (HG.out.step hb).cell 0; refine wp_value (st_load rfl (hm.get 2 33 (by kernel_rfl)) (by go_simp)) ⟨_, rfl, rfl, Below.refl _ _⟩
     | 4, _, ho => by
       cases ho
       rw [if_pos (wanted_none _ rfl)]
       refine wp_value (st_move rfl ((hs.keeps (by kernel_rfl)).trans rfl)) ⟨_, rfl, rfl, Below.refl _ _⟩
     | 5, _, ho => by
       cases ho
       rw [if_pos (wanted_none _ rfl)]
       refine wp_value (st_nil rfl (hm.get 4 35 (by kernel_rfl))) ⟨_, rfl, rfl, Below.refl _ _⟩
     | 6, _, ho => by
       cases ho
       rw [if_pos (wanted_none _ rfl)]
       refine wp_value (st_field rfl (hm.get 5 36 (by kernel_rfl)) (by kernel_rfl)) ⟨_, rfl, rfl, Below.refl _ _⟩
     | 7, _, ho => by
       cases ho
       rw [if_pos (wanted_none _ rfl)]
       have hx : w.cell? ⟨g, 2, none⟩ = some (I ((kn : Int))) := (HG.out.step hb).cell 2; refine wp_value (st_load rfl (hm.get 6 37 (by kernel_rfl)) (by go_simp)) ⟨_, rfl, rfl, Below.refl _ _⟩
     | 8, _, ho => by
       cases ho
       rw [if_pos (wanted_none _ rfl)]
       have h1 := eval_getD (hm.get 3 34 (by kernel_rfl)); have h2 := eval_getD (hm.get 7 38 (by kernel_rfl)); unfold Oper.wp; simp only [execOp]; go_simp; refine (CA.out w hb).mono ?_; rintro e w6 ⟨rfl, b6⟩; exact ⟨_, rfl, rfl, b6⟩
     | 9, _, ho => by
       cases ho
       rw [if_pos (wanted_none _ rfl)]
       unfold Oper.wp; simp only [execOp]; go_simp; exact ⟨_, rfl, ⟨_, rfl, hb.size, Blk.new w _ _⟩, balloc (Below.refl _ w) _⟩
     | (n + 10), hi, _ => absurd hi (by omega)

   ·refine Exists.elim (show ∃ g4 : Nat, a.eval (.tmp 4) = .pointer (some ⟨g4, 0, none⟩) ∧ W.heap.size ≤ g4 ∧ Blk w5 g4 345 #[.int .u8 0, .int .u8 0, .int .u8 0, .int .u8 0] by cases ho; exact hm.get 9 4 (by kernel_rfl)) fun g4 he => ?_
    have e4 := he.1
    have Hg4 := Lib.hid he.2.1
    have HB4 := Lib.hid he.2.2
    have e39 : a.eval (.tmp 39) = .agg #[U8 x0, U8 x1, U8 x2, U8 x3] := by cases ho; exact hm.get 8 39 (by kernel_rfl)
    have hfr := hs.frame [31, 32, 33, 34, 35, 36, 37, 38, 39, 4] (by kernel_rfl)
    have B5 := Lib.hid hb
    cases ho
    rw [hfr]
    simp only [List.foldl_cons, List.foldl_nil, e4, e39]
    clear hfr hs hm e4 e39 he hb CA
    generalize a.eval (.tmp 31) = u31, a.eval (.tmp 32) = u32, a.eval (.tmp 33) = u33, a.eval (.tmp 34) = u34, a.eval (.tmp 35) = u35, a.eval (.tmp 36) = u36, a.eval (.tmp 37) = u37, a.eval (.tmp 38) = u38
    have y4 := HB4.out.cell
    have fz := HB4.out.frozen
    unfold Oper.wp
    simp only [execOp]
    go_simp
    clear a
    go_wp2
    generalize hW6 : (((w5.setCell ⟨g4, 0, none⟩ (Value.int .u8 (x0.toNat : Int))).setCell ⟨g4, 1, none⟩ (Value.int .u8 (x1.toNat : Int))).setCell ⟨g4, 2, none⟩ (Value.int .u8 (x2.toNat : Int))).setCell ⟨g4, 3, none⟩ (Value.int .u8 (x3.toNat : Int)) = W6
    have HB6 : Hid (Blk W6 g4 345 #[U8 x0, U8 x1, U8 x2, U8 x3]) := Lib.hid (by rw [← hW6]; exact (((HB4.out.set_ 0 (U8 x0)).set_ 1 (U8 x1)).set_ 2 (U8 x2)).set_ 3 (U8 x3))
    have B6 : Hid (Below W.heap.size W W6) := Lib.hid (by rw [← hW6]; exact (((B5.out.setCell (p := ⟨g4, 0, none⟩) Hg4.out _).setCell (p := ⟨g4, 1, none⟩) Hg4.out _).setCell (p := ⟨g4, 2, none⟩) Hg4.out _).setCell (p := ⟨g4, 3, none⟩) Hg4.out _)
    clear y4 fz HB4 hW6
    have HF6 := Lib.hid (HFW.out.step B6.out)
    have HG6 := Lib.hid HF6.out.blk
    have HmL : Hid (m < W6.heap.size) := Lib.hid HF6.out.map.lt
    have hcm : cnt < maxLen := by have := HF6.out.cnt; simp only [maxLen]; omega
    obtain ⟨hd, hhd⟩ : ∃ hd : Hd, hd = (f (x0, x1, x2, x3)).getD ⟨none, 0, 0⟩ := ⟨_, rfl⟩
    have hrows : ∃ zs : List Nat, W6.ownsRow B 3 1 hd.v hd.n (intsP zs) ∧ (∀ z ∈ zs, z < kn) ∧ hd.n ≤ kn ∧ ∀ k, hd.v.ownBlock = some k → k < W.heap.size := by
     rcases hfk : f (x0, x1, x2, x3) with _ | h0
     ·rw [hfk] at hhd
      rw [hhd]
      exact ⟨[], World.ownsRow_nil _ _ _ _, by simp, Nat.zero_le _, fun k e => by cases e⟩
     ·rw [hfk] at hhd
      obtain rfl : hd = h0 := hhd
      obtain ⟨zs, r1, r2, r3⟩ := HFW.out.rows _ hd hfk
      exact ⟨zs, own_stepP r1 B6.out, r2, r3, fun k e => (r1.lt k e).2⟩
    obtain ⟨zs, hrow, hz, hn9, hlow⟩ := hrows
    obtain ⟨st, es1, c1, hpure, hback⟩ := HF6.out.map.run_entry Tryz.law4 Tryz.underlying309 Tryz.zeroP hcm (x := (x0, x1, x2, x3)) trivial
    rw [← hhd] at hpure
    have HPU : Hid (∀ w' : World, w'.heap[m]? = W6.heap[m]? → (Instr.mapEntry 309 (.map (some m)) (.agg #[U8 x0, U8 x1, U8 x2, U8 x3])).run Tryz.prog w' = .ok (.tuple #[.slice hd.a hd.n hd.c, goInt st]) (setBlock w' m (.map es1 c1))) := Lib.hid hpure
    have HBK := Lib.hid hback
    have HhD := Lib.hid hhd
    have HRW := Lib.hid hrow
    have HZ := Lib.hid hz
    have Hn9 := Lib.hid hn9
    have HgE : Hid (¬ keyE m hd.v g) := Lib.hid (fun e => by
     rcases e with e | e
     ·exact HF6.out.ne e.symm
     ·exact own_no_blk hrow HG6.out (by decide) e)
    have Hg4E : Hid (¬ keyE m hd.v g4) := Lib.hid (fun e => by
     have h1 := Hg4.out
     rcases e with e | e
     ·have h2 := HFW.out.map.lt
      omega
     ·have h2 := hlow g4 e
      omega)
    have HnE : Hid (∀ k, W6.heap.size ≤ k → ¬ keyE m hd.v k) := Lib.hid (fun k hk e => by
     rcases e with e | e
     ·have h2 := HF6.out.map.lt
      omega
     ·have h2 := hlow k e
      have h3 := B6.out.size
      omega)
    have q1 : Hid (hd.n + 1 ≤ maxLen) := Lib.hid (by simp only [maxLen]; omega)
    have q2 : Hid ((hd.n + 1) * 8 ≤ 140737488355328) := Lib.hid (by omega)
    have HmO : Hid (some m ≠ hd.v.ownBlock) := Lib.hid (HF6.out.map.ne_own hrow)
    clear hpure hback hhd hrow hz hn9 hlow hcm
    refine wp_region_chain (by kernel_rfl) 14 (by kernel_rfl) ?_ [10, 12] (by kernel_rfl) (fun w w' => Fr (keyE m hd.v) w w') (fun _ _ hb => Fr.of_below hb) (kw3Phi g m kn st hd x0 x1 x2 x3) kw3Phi_mono (kwJ B W6 m hd.v hd.n st kn es1 c1 zs) kwJ.step ⟨undef, below_drewN (Below.refl _ W6) 1⟩ (fun i o hi hiC ho a w k u hj hs hm => ?_) (fun t i o ht ho a w u hj hs hm => ?_) (fun o ho a w9 u hj hu hs hm => ?_)
    ·exact dst_ltC2 (n := 54) (by kernel_rfl)
    ·have hfr := kwJ.fr _ _ _ hj
     exact match i, hi, hiC, ho with
      | 0, _, _, ho => by
        cases ho
        rw [if_pos (wanted_none _ rfl)]
        refine wp_value (st_move rfl ((hs.keeps (by kernel_rfl)).trans rfl)) ⟨_, rfl, rfl, Below.refl _ _⟩
      | 1, _, _, ho => by
        cases ho
        rw [if_pos (wanted_none _ rfl)]
        refine wp_value (st_nil rfl (hm.get 0 40 (by kernel_rfl))) ⟨_, rfl, rfl, Below.refl _ _⟩
      | 2, _, _, ho => by
        cases ho
        rw [if_pos (wanted_none _ rfl)]
        refine wp_value (st_field rfl (hm.get 1 41 (by kernel_rfl)) (by kernel_rfl)) ⟨_, rfl, rfl, Below.refl _ _⟩
      | 3, _, _, ho => by
        cases ho
        rw [if_pos (wanted_none _ rfl)]
        have hx : w.cell? ⟨g, 1, none⟩ = some (.map (some m)) := (hfr.blk HG6.out HgE.out).cell 1; refine wp_value (st_load rfl (hm.get 2 42 (by kernel_rfl)) (by go_simp)) ⟨_, rfl, rfl, Below.refl _ _⟩
      | 4, _, _, ho => by
        cases ho
        rw [if_pos (wanted_none _ rfl)]
        have y := (hfr.blk HB6.out Hg4E.out).cell; have e4 : a.eval (.tmp 4) = .pointer (some ⟨g4, 0, none⟩) := (hs.keeps (by kernel_rfl)).trans rfl; have h1 := eval_getD e4; unfold Oper.wp; simp only [execOp]; go_simp; exact ⟨_, rfl, rfl, Below.refl _ _⟩
      | 5, _, _, ho => by
        cases ho
        rw [if_pos (wanted_none _ rfl)]
        refine wp_value (st_move rfl ((hs.keeps (by kernel_rfl)).trans rfl)) ⟨_, rfl, rfl, Below.refl _ _⟩
      | 6, _, _, ho => by
        cases ho
        rw [if_pos (wanted_none _ rfl)]
        refine wp_value (st_nil rfl (hm.get 5 46 (by kernel_rfl))) ⟨_, rfl, rfl, Below.refl _ _⟩
      | 7, _, _, ho => by
        cases ho
        rw [if_pos (wanted_none _ rfl)]
        refine wp_value (st_field rfl (hm.get 6 47 (by kernel_rfl)) (by kernel_rfl)) ⟨_, rfl, rfl, Below.refl _ _⟩
      | 8, _, _, ho => by
        cases ho
        rw [if_pos (wanted_none _ rfl)]
        have hx : w.cell? ⟨g, 2, none⟩ = some (I ((kn : Int))) := (hfr.blk HG6.out HgE.out).cell 2; refine wp_value (st_load rfl (hm.get 7 48 (by kernel_rfl)) (by go_simp)) ⟨_, rfl, rfl, Below.refl _ _⟩
      | 9, _, _, ho => by
        cases ho
        rw [if_pos (wanted_none _ rfl)]
        have hge := hfr.size; have h1 := eval_getD (hm.get 8 49 (by kernel_rfl)); unfold Oper.wp; simp only [execOp]; go_simp; exact ⟨_, rfl, ⟨w.heap.size, rfl, sl_one w 3 (I (kn : Int)), fun b9 off9 _ e9 => by cases e9; exact HnE.out _ hge⟩, balloc (Below.refl _ w) _⟩
      | 10, _, hiC, _ => absurd (by decide) hiC
      | 11, _, _, ho => by
        cases ho
        rw [if_pos (wanted_none _ rfl)]
        have h1 := eval_getD (hm.get 10 51 (by kernel_rfl)); unfold Oper.wp; simp only [execOp]; go_simp; exact ⟨_, rfl, rfl, Below.refl _ _⟩
      | 12, _, hiC, _ => absurd (by decide) hiC
      | 13, _, _, ho => by
        cases ho
        rw [if_pos (wanted_none _ rfl)]
        have h1 := eval_getD (hm.get 10 51 (by kernel_rfl)); unfold Oper.wp; simp only [execOp]; go_simp; exact ⟨_, rfl, rfl, Below.refl _ _⟩
      | (n + 14), hi, _, _ => absurd hi (by omega)

    ·exact match t, ht, hj with
     | 0, ht, hj => by
       cases ht
       cases ho
       have h1 := eval_getD (hm.get 3 43 (by kernel_rfl))
       have h2 := eval_getD (hm.get 4 44 (by kernel_rfl))
       have hr := HPU.out w (hj.block m HmL.out)
       have hg : w.grownBy (setBlock w m (.map es1 c1)) (some m) := setBlock_grown _
       have hat : (setBlock w m (.map es1 c1)).heap[m]? = some (.map es1 c1) := setBlock_at _ (Nat.lt_of_lt_of_le HmL.out hj.size)
       unfold Oper.wp; simp only [execOp]; go_simp
       exact ⟨_, rfl, rfl, ⟨rfl, (Fr.of_below hj).trans (Fr.of_grown hg (fun k e => (Option.some.inj e).symm)), hat⟩, Fr.of_grown hg (fun k e => .inl (Option.some.inj e).symm)⟩
     | 1, ht, hj => by
       cases ht
       cases ho
       have h1 : a.eval (.tmp 45) = .slice hd.a hd.n hd.c := hm.get 11 45 (by kernel_rfl)
       refine Exists.elim (show ∃ gb : Nat, a.eval (.tmp 50) = .slice (some ⟨gb, 0, none⟩) 1 1 ∧ SlF (keyE m hd.v) w 1 (some ⟨gb, 0, none⟩) 1 [I (kn : Int)] from hm.get 9 50 (by kernel_rfl)) fun gb h50 => ?_
       obtain ⟨rfl, hf1, hm1⟩ := hj
       have hrw : w.ownsRow B 3 1 (.slice hd.a hd.n hd.c) hd.n (intsP zs) := own_block HRW.out (fun j e => hf1.block j ((HRW.out.lt j e).2) (fun e2 => HmO.out (by rw [← e2]; exact e.symm)))
       have hbw : B ≤ w.heap.size := Nat.le_trans HF6.out.base hf1.size
       refine wp_append_sl w (.tmp 45) (.tmp 50) 98 rfl (baseW w B) 3 i0 _ 1 8 Tryz.underlying98 hi0 hz0 hz1 hz2 rfl Nat.one_pos hd.a hd.n hd.c _ h1 (ow_of hrw hbw) _ 1 1 [I (kn : Int)] h50.1 h50.2.1 (one_one rfl) q1.out q2.out (fun A' c' w' h2 h3 h4 => ⟨_, rfl, trivial, ⟨⟨A', c', rfl, ?_, ?_⟩, ?_, ?_⟩, ?_⟩)
       ·have h5 := h2.1
        rw [baseW_size hbw, intsP_app] at h5
        exact h5
       ·rcases h4 with h4 | h4
        ·exact .inl h4
        ·exact .inr ⟨_, h4, hf1.size⟩
       ·exact (hf1.weak (fun _ e => .inl e)).trans (Fr.of_grown h3 (fun k e => .inr e))
       ·exact (h3.block m (kw_lt hm1) HmO.out).trans hm1
       ·exact Fr.of_grown h3 (fun k e => .inr e)
     | (t + 2), ht, _ => by cases ht
    ·obtain ⟨⟨A', c', rfl, hr9, hob⟩, hf9, hm9⟩ := hj
     have e52 : a.eval (.tmp 52) = .slice A' (hd.n + 1) c' := hu 1 12 52 _ rfl rfl rfl rfl
     have e43 : a.eval (.tmp 43) = .map (some m) := by cases ho; exact hm.get 3 43 (by kernel_rfl)
     have e53 : a.eval (.tmp 53) = goInt st := by cases ho; exact hm.get 13 53 (by kernel_rfl)
     have hA' : ∃ g', A' = some ⟨g', 0, none⟩ := by
      rcases hr9.2 with ⟨_, h0⟩ | ⟨g', _, _, hv, _⟩
      ·omega
      ·injection hv with e1
       exact ⟨g', e1⟩
     obtain ⟨g', rfl⟩ := hA'
     obtain ⟨es2, c2, hr2, hmap⟩ := HBK.out w9 ⟨some (g', 0), hd.n + 1, c'⟩ hm9
     have HR2 : Hid ((Instr.entryStore 309 (.map (some m)) (.int .i64 (st : Int)) (.slice (some ⟨g', 0, none⟩) (hd.n + 1) c')).run Tryz.prog w9 = .ok () (setBlock w9 m (.map es2 c2))) := Lib.hid hr2
     have HP := Lib.hid (HF6.out.put HhD.out HRW.out HZ.out Hn9.out hf9 (hd' := ⟨some (g', 0), hd.n + 1, c'⟩) hr9 rfl hob hm9 rfl hmap)
     have HGs : Hid (Blk (setBlock w9 m (.map es2 c2)) g 311 #[.slice A n c, .map (some m), I (kn : Int)]) := Lib.hid (((setBlock_grown (w := w9) (b := m) (.map es2 c2)).block g ((hf9.blk HG6.out HgE.out).lt) (fun e => HF6.out.ne (Option.some.inj e).symm)).trans (hf9.blk HG6.out HgE.out))
     have hfr := hs.frame [40, 41, 42, 43, 44, 46, 47, 48, 49, 50, 51, 45, 52, 53] (by kernel_rfl)
     cases ho
     rw [hfr]
     simp only [List.foldl_cons, List.foldl_nil, e43, e52, e53]
     clear hfr hs hm hu e43 e52 e53 hr9 hob hf9 hm9 hr2 hmap
     generalize a.eval (.tmp 40) = u40, a.eval (.tmp 41) = u41, a.eval (.tmp 42) = u42, a.eval (.tmp 44) = u44, a.eval (.tmp 46) = u46, a.eval (.tmp 47) = u47, a.eval (.tmp 48) = u48, a.eval (.tmp 49) = u49, a.eval (.tmp 50) = u50, a.eval (.tmp 51) = u51, a.eval (.tmp 45) = u45
     have hr2 := HR2.out
     unfold Oper.wp
     simp only [execOp]
     go_simp
     clear a hr2
     have y9 := HGs.out.cell
     have fz9 := HGs.out.frozen
     go_wp2
     go_roundw
     case rel => exact ⟨kn + 1, cnt + 1, _, Lib.hid HP.out.1, Lib.hid hlt, Lib.hid ((HKW.out.trans (KeepT.of_below B6.out)).trans HP.out.2.1), Lib.hid ((HBW.out.trans (B6.out.mono HFW.out.base)).trans HP.out.2.2)⟩
     case measure =>
      have h1 := HP.out.1.known
      have h2 := Hkw.out
      rw [h2]
      have h3 : knownOf g ((setBlock w9 m (Obj.map es2 c2)).setCell ⟨g, 2, none⟩ (Value.int .i64 ((kn : Int) + 1))) = kn + 1 := h1
      rw [h3]
      omega
end Go.Proofs.YtcednfmkiaelnaaGreatDoor
namespace Go.Proofs.YtcednfmkiaelnaaGreatDoor
open Go.RowKit
structure OpAt (B : Nat) (w : World) (o : Nat) (Ap : Option Addr) (np cp : Nat) (p : List UInt8) (Ao : Option Addr) (no co : Nat) (out : List UInt8) (size : Nat) : Prop where
 blk : Blk w o 336 #[.slice Ap np cp, .slice Ao no co, I (size : Int), I 0]
 rest : SlT (fun _ => True) 5 w 1 Ap np (u8s p)
 restc : np ≤ cp
 own : w.ownsRow B 5 1 (.slice Ao no co) no (u8s out)
 base : B ≤ w.heap.size
 lo : B ≤ o
 apart : ∀ b off, 0 < np → Ap = some ⟨b, off, none⟩ → (Value.slice Ao no co).ownBlock ≠ some b
section
variable {B o np cp no co size : Nat} {w w' : World} {Ap Ao : Option Addr} {p out : List UInt8}
theorem OpAt.step (h : OpAt B w o Ap np cp p Ao no co out size) (hb : Below w.heap.size w w') : OpAt B w' o Ap np cp p Ao no co out size :=
 ⟨h.blk.step hb, h.rest.step hb, h.restc, own_stepP h.own hb, Nat.le_trans h.base hb.size, h.lo, h.apart⟩
theorem OpAt.plen (h : OpAt B w o Ap np cp p Ao no co out size) : p.length = np := u8s_len h.rest.sl
theorem OpAt.olen (h : OpAt B w o Ap np cp p Ao no co out size) : out.length = no := by have := h.own.1; simpa [u8s] using this
theorem OpAt.setP {w1 : World} {Ap' : Option Addr} {np' cp' : Nat} {p' : List UInt8} (h : OpAt B w o Ap np cp p Ao no co out size) (hb : Below w.heap.size w w1) (hr : SlT (fun _ => True) 5 w1 1 Ap' np' (u8s p')) (hc : np' ≤ cp')
  (ha : ∀ b off, 0 < np' → Ap' = some ⟨b, off, none⟩ → (Value.slice Ao no co).ownBlock ≠ some b) : OpAt B (w1.setCell ⟨o, 0, none⟩ (.slice Ap' np' cp')) o Ap' np' cp' p' Ao no co out size ∧ Below B w (w1.setCell ⟨o, 0, none⟩ (.slice Ap' np' cp')) := by
 have h1 := h.step hb
 have hf : Fr (fun k => k = o) w1 (w1.setCell ⟨o, 0, none⟩ (.slice Ap' np' cp')) := Fr.setCell (E := fun k => k = o) (Fr.refl _ w1) (p := ⟨o, 0, none⟩) (show o = o from rfl) _
 refine ⟨⟨h1.blk.set_ 0 _, hr.keep (KeepT.of_fr hf (fun k cs fr e => by subst e; exact Blk.type h1.blk (by decide) cs fr)), hc, own_block h1.own (fun k hk => hf.block k (h1.own.lt k hk).2 (fun e => by subst e; exact own_no_blk h1.own h1.blk (by decide) hk)), by simpa [World.setCell] using h1.base, h1.lo, ha⟩, ?_⟩
 exact (hb.mono h.base).trans (hf.below h1.base (fun k e => by rw [e]; exact h.lo))
theorem OpAt.restE (h : OpAt B w o Ap np cp p Ao no co out size) : SlT (fun k => (Value.slice Ao no co).ownBlock ≠ some k) 5 w 1 Ap np (u8s p) :=
 ⟨h.rest.1, fun hn => by
  obtain ⟨b, off, cs, fr, e, _, hb⟩ := h.rest.2 hn
  exact ⟨b, off, cs, fr, e, h.apart b off hn e, hb⟩⟩
theorem OpAt.app {w9 : World} {A' : Option Addr} {n' c' : Nat} {out' : List UInt8} (h : OpAt B w o Ap np cp p Ao no co out size) (hf : Fr (fun k => (Value.slice Ao no co).ownBlock = some k) w w9) (hr : w9.ownsRow B 5 1 (.slice A' n' c') n' (u8s out'))
  (ho : (Value.slice A' n' c').ownBlock = (Value.slice Ao no co).ownBlock ∨ ∃ gg, (Value.slice A' n' c').ownBlock = some gg ∧ w.heap.size ≤ gg) : OpAt B (w9.setCell ⟨o, 1, none⟩ (.slice A' n' c')) o Ap np cp p A' n' c' out' size ∧ Below B w (w9.setCell ⟨o, 1, none⟩ (.slice A' n' c')) := by
 have hoE : ¬ (Value.slice Ao no co).ownBlock = some o := fun e => own_no_blk h.own h.blk (by decide) e
 have hb9 := hf.blk h.blk hoE
 have hf2 : Fr (fun k => k = o) w9 (w9.setCell ⟨o, 1, none⟩ (.slice A' n' c')) := Fr.setCell (E := fun k => k = o) (Fr.refl _ w9) (p := ⟨o, 1, none⟩) (show o = o from rfl) _
 have hB9 : B ≤ w9.heap.size := Nat.le_trans h.base hf.size
 have hr9 := h.restE.fr hf (fun k hk => hk)
 refine ⟨⟨hb9.set_ 1 _, (hr9.weak (fun _ _ _ => trivial)).keep (KeepT.of_fr hf2 (fun k cs fr e => by subst e; exact Blk.type hb9 (by decide) cs fr)), h.restc, own_block hr (fun k hk => hf2.block k (hr.lt k hk).2 (fun e => by subst e; exact own_no_blk hr hb9 (by decide) hk)), by simpa [World.setCell] using hB9, h.lo, fun b off h0 e => ?_⟩, ?_⟩
 ·rcases ho with ho | ⟨gg, ho, hge⟩
  ·rw [ho]
   exact h.apart b off h0 e
  ·rw [ho]
   intro e2
   injection e2 with e2
   obtain ⟨b', off', cs, fr, e3, _, hb⟩ := h.rest.2 h0
   rw [e] at e3
   cases e3
   have := heap_lt hb
   omega
 ·exact (hf.below h.base (fun k e => (h.own.lt k e).1)).trans (hf2.below hB9 (fun k e => by rw [e]; exact h.lo))
theorem OpAt.cutP {k : Nat} (h : OpAt B w o Ap np cp p Ao no co out size) (hk : k ≤ np) : OpAt B (w.setCell ⟨o, 0, none⟩ (.slice (cutA Ap cp k 1) (np - k) (cp - k))) o (cutA Ap cp k 1) (np - k) (cp - k) (p.drop k) Ao no co out size ∧ Below B w (w.setCell ⟨o, 0, none⟩ (.slice (cutA Ap cp k 1) (np - k) (cp - k))) := by
 refine h.setP (Below.refl _ _) (h.rest.drop_ hk h.restc) (by have := h.restc; omega) (fun b off h0 e => ?_)
 obtain ⟨⟨b0, off0, x0⟩, e0, e1⟩ := cutA_blk e
 obtain ⟨b', off', cs, fr, e3, _, _⟩ := h.rest.2 (by omega)
 rw [e0] at e3
 cases e3
 exact fun e2 => h.apart _ _ (by omega) e0 (e2.trans (congrArg some e1))
end
set_option maxHeartbeats 4000000 in
set_option maxRecDepth 100000 in
theorem onext_any (B o np cp no co size : Nat) (Ap Ao : Option Addr) (p out rest : List UInt8) (v : Nat) (w : World) (h : OpAt B w o Ap np cp p Ao no co out size) (hp : takeNum p = some (v, rest)) (hn : np ≤ 100000000) :
  Calls Tryz.prog 262 #[.pointer (some ⟨o, 0, none⟩)] w fun e w' => e = .returned (I (v : Int)) ∧ (∃ (A' : Option Addr) (n' c' : Nat), OpAt B w' o A' n' c' rest Ao no co out size) ∧ Below B w w' := by
 have HO := Lib.hid h
 have C1 := Lib.hid (takeNum_any Ap np cp p w h.rest.sl h.restc (by omega))
 have rg := h.blk.cell
 clear h
 go_enter Tryz.func262, Tryz.ntmps262
 go_wp2_with fail
 refine C1.out.mono ?_
 rintro e w1 (⟨v', rest', A', m', c', ht, rfl, hO1⟩ | ⟨hn0, _⟩)
 ·rw [hp] at ht
  cases ht
  have HO1 := Lib.hid hO1
  have H1 := Lib.hid (HO.out.setP hO1.2 (hO1.slT.weak (fun _ _ _ => trivial)) hO1.cap.1 (fun b off h0 e => by
   subst e
   intro e2
   have h1 := (HO.out.own.lt b e2).2
   obtain ⟨gb, hgb, hlo, _⟩ := hO1.form h0
   cases hgb
   omega))
  have rg1 := (HO.out.step hO1.2).blk.cell
  have fz := (HO.out.step hO1.2).blk.frozen
  clear hO1 rg C1 hp
  go_wp2
  go_ret
  exact ⟨rfl, ⟨_, _, _, H1.out.1⟩, H1.out.2⟩
 ·rw [hp] at hn0
  cases hn0
set_option maxHeartbeats 4000000 in
theorem owant_any (B o np cp no co size : Nat) (Ap Ao : Option Addr) (p out : List UInt8) (w : World) (h : OpAt B w o Ap np cp p Ao no co out size) :
  Calls Tryz.prog 263 #[.pointer (some ⟨o, 0, none⟩), .bool true] w fun e w' => e = .returned (.bool true) ∧ w' = w := by
 have rg := h.blk.cell
 clear h
 go_enter Tryz.func263, Tryz.ntmps263
 go_wp2
 go_ret
 exact ⟨rfl, rfl⟩
def orJ (B : Nat) (W : World) (Ao : Option Addr) (no co k : Nat) (l : List UInt8) : Nat → Value → World → Prop
 | 0, _, w => Below W.heap.size W w
 | _ + 1, u, w => ∃ (A' : Option Addr) (c' : Nat), u = .slice A' (no + k) c' ∧ Fr (fun j => (Value.slice Ao no co).ownBlock = some j) W w ∧ w.ownsRow B 5 1 (.slice A' (no + k) c') (no + k) (u8s l) ∧ ((Value.slice A' (no + k) c').ownBlock = (Value.slice Ao no co).ownBlock ∨ ∃ gg, (Value.slice A' (no + k) c').ownBlock = some gg ∧ W.heap.size ≤ gg)
section
variable {B : Nat} {W : World} {Ao : Option Addr} {no co k : Nat} {l : List UInt8}
theorem orJ.step : ∀ (j : Nat) (u : Value) (w w' : World), orJ B W Ao no co k l j u w → Below w.heap.size w w' → orJ B W Ao no co k l j u w'
 | 0, _, _, _, h, hb => bstep h hb
 | _ + 1, _, _, _, ⟨A', c', e, hf, h, ho⟩, hb => ⟨A', c', e, hf.step hb, own_stepP h hb, ho⟩
theorem orJ.fr : ∀ (j : Nat) (u : Value) (w : World), orJ B W Ao no co k l j u w → Fr (fun j => (Value.slice Ao no co).ownBlock = some j) W w
 | 0, _, _, h => Fr.of_below h
 | _ + 1, _, _, ⟨_, _, _, hf, _⟩ => hf
theorem sl_fr_own {w : World} {Ap : Option Addr} {np : Nat} {l : List UInt8} {E : Nat → Prop} (h : SlT (fun j => ¬ E j) 5 W 1 Ap np (u8s l)) (hf : Fr E W w) : SlF E w 1 Ap np (u8s l) := by
 refine ⟨(h.fr hf (fun j hj => hj)).sl, fun b off hn e => ?_⟩
 obtain ⟨b', off', _, _, e', h1, _⟩ := h.2 hn
 rw [e] at e'
 cases e'
 exact h1
end
def or0Phi (o : Nat) (Ap Ao : Option Addr) (np cp no co size k : Nat) : Nat → Value → World → Prop
 | 0, v, _ => v = .pointer (some ⟨o, 0, none⟩)
 | 1, v, _ => v = I ((k : Int))
 | 2, v, _ => v = .pointer (some ⟨o, 0, none⟩)
 | 3, v, _ => v = .pointer (some ⟨o, 0, none⟩)
 | 4, v, _ => v = .pointer (some ⟨o, 2, none⟩)
 | 5, v, _ => v = I ((size : Int))
 | 6, v, _ => v = .pointer (some ⟨o, 0, none⟩)
 | 7, v, _ => v = .pointer (some ⟨o, 0, none⟩)
 | 8, v, _ => v = .pointer (some ⟨o, 1, none⟩)
 | 9, v, _ => v = .slice Ao no co
 | 10, v, _ => v = I ((no : Int))
 | 11, v, _ => v = I ((size : Int) - (no : Int))
 | 12, v, _ => v = .bool true
 | 13, v, _ => v = .bool true
 | 14, v, _ => v = I ((k : Int))
 | 15, v, _ => v = .pointer (some ⟨o, 0, none⟩)
 | 16, v, _ => v = .pointer (some ⟨o, 0, none⟩)
 | 17, v, _ => v = .pointer (some ⟨o, 0, none⟩)
 | 18, v, _ => v = .slice Ap np cp
 | 19, v, _ => v = I ((np : Int))
 | 20, v, _ => v = .bool true
 | 21, v, _ => v = .bool true
 | _, _, _ => True
theorem or0Phi_mono {o : Nat} {Ap Ao : Option Addr} {np cp no co size k : Nat} : ∀ (j : Nat) (v : Value) (w w' : World), or0Phi o Ap Ao np cp no co size k j v w → Below w.heap.size w w' → or0Phi o Ap Ao np cp no co size k j v w' := by
 intro j v w w' h _
 match j, h with
 | 0, h => exact h
 | 1, h => exact h
 | 2, h => exact h
 | 3, h => exact h
 | 4, h => exact h
 | 5, h => exact h
 | 6, h => exact h
 | 7, h => exact h
 | 8, h => exact h
 | 9, h => exact h
 | 10, h => exact h
 | 11, h => exact h
 | 12, h => exact h
 | 13, h => exact h
 | 14, h => exact h
 | 15, h => exact h
 | 16, h => exact h
 | 17, h => exact h
 | 18, h => exact h
 | 19, h => exact h
 | 20, h => exact h
 | 21, h => exact h
 | (n + 22), _ => trivial
def or1Phi (o : Nat) (Ap Ao : Option Addr) (np cp no co k : Nat) (seg : List UInt8) : Nat → Value → World → Prop
 | 0, v, _ => v = .pointer (some ⟨o, 0, none⟩)
 | 1, v, _ => v = .pointer (some ⟨o, 0, none⟩)
 | 2, v, _ => v = .pointer (some ⟨o, 0, none⟩)
 | 3, v, _ => v = .pointer (some ⟨o, 1, none⟩)
 | 4, v, _ => v = .slice Ao no co
 | 5, v, _ => v = .pointer (some ⟨o, 0, none⟩)
 | 6, v, _ => v = .pointer (some ⟨o, 0, none⟩)
 | 7, v, _ => v = .pointer (some ⟨o, 0, none⟩)
 | 8, v, _ => v = .slice Ap np cp
 | 9, v, _ => v = I ((k : Int))
 | 10, v, w => v = .slice (cutA Ap cp 0 1) k cp ∧ SlF (fun j => (Value.slice Ao no co).ownBlock = some j) w 1 (cutA Ap cp 0 1) k (u8s seg)
 | 11, _, _ => True
 | 12, v, _ => v = .pointer (some ⟨o, 0, none⟩)
 | 13, v, _ => v = .pointer (some ⟨o, 1, none⟩)
 | _, _, _ => True
theorem or1Phi_mono {o : Nat} {Ap Ao : Option Addr} {np cp no co k : Nat} {seg : List UInt8} : ∀ (j : Nat) (v : Value) (w w' : World), or1Phi o Ap Ao np cp no co k seg j v w → Fr (fun j => (Value.slice Ao no co).ownBlock = some j) w w' → or1Phi o Ap Ao np cp no co k seg j v w' := by
 intro j v w w' h hb9
 match j, h with
 | 0, h => exact h
 | 1, h => exact h
 | 2, h => exact h
 | 3, h => exact h
 | 4, h => exact h
 | 5, h => exact h
 | 6, h => exact h
 | 7, h => exact h
 | 8, h => exact h
 | 9, h => exact h
 | 10, h => exact ⟨h.1, h.2.fr hb9⟩
 | 11, h => exact trivial
 | 12, h => exact h
 | 13, h => exact h
 | (n + 14), _ => trivial
set_option maxHeartbeats 8000000 in
set_option maxRecDepth 100000 in
theorem orun_any (B o np cp no co size : Nat) (Ap Ao : Option Addr) (seg rest out : List UInt8) (w : World) (h : OpAt B w o Ap np cp (seg ++ rest) Ao no co out size) (hr : out.length + seg.length ≤ size) (hs : size ≤ 100000000) (h0 : 0 < seg.length) :
  Calls Tryz.prog 264 #[.pointer (some ⟨o, 0, none⟩), I (seg.length : Int)] w fun e w' => e = .returned (.tuple #[]) ∧ (∃ (Ap' : Option Addr) (np' cp' : Nat) (Ao' : Option Addr) (no' co' : Nat), OpAt B w' o Ap' np' cp' rest Ao' no' co' (out ++ seg) size) ∧ Below B w w' := by
 obtain ⟨i0, hi0, hz0, hz1, hz2⟩ := info_parts Tryz.infoU8
 have HO := Lib.hid h
 have hnp : seg.length + rest.length = np := by have := h.plen; rwa [List.length_append] at this
 have hno : out.length = no := h.olen
 have hcp := h.restc
 obtain ⟨k, hk⟩ : ∃ k, k = seg.length := ⟨_, rfl⟩
 have Hk := Lib.hid hk
 rw [← hk] at hr h0 hnp ⊢
 have CW : Hid (∀ V, Below w.heap.size w V → Calls Tryz.prog 263 #[.pointer (some ⟨o, 0, none⟩), .bool true] V fun e w' => e = .returned (.bool true) ∧ w' = V) := Lib.hid (fun V hV => owant_any B o np cp no co size Ap Ao (seg ++ rest) out V (HO.out.step hV))
 have HG := Lib.hid HO.out.blk
 have D1 : Hid (decide ((k : Int) ≤ (size : Int) - (no : Int)) = true) := Lib.hid (decide_eq_true (by omega))
 have D2 : Hid (decide ((k : Int) ≤ (np : Int)) = true) := Lib.hid (decide_eq_true (by omega))
 have Hhd : Hid ((seg ++ rest).take k = seg ∧ (seg ++ rest).drop k = rest) := Lib.hid (by rw [hk]; exact ⟨List.take_left, List.drop_left⟩)
 have hkn : k ≤ np := by omega
 have hnoB : no + k ≤ 100000000 := by omega
 clear h hk hr
 go_enter Tryz.func264, Tryz.ntmps264
 go_wp2
 refine wp_region_guards (by kernel_rfl) 22 (by kernel_rfl) ?_ (or0Phi o Ap Ao np cp no co size k) or0Phi_mono (fun i9 o9 hi ho a w hb hs hm => ?_) (fun o9 ho a w5 hb hs hm => ?_)
 ·exact dst_ltC2 (n := 50) (by kernel_rfl)
 ·exact match i9, hi, ho with
   | 0, _, ho => by
     cases ho
     rw [if_pos (wanted_none _ rfl)]
     refine wp_value (st_move rfl ((hs.keeps (by kernel_rfl)).trans rfl)) ⟨_, rfl, rfl, Below.refl _ _⟩
   | 1, _, ho => by
     cases ho
     rw [if_pos (wanted_none _ rfl)]
     refine wp_value (st_move rfl ((hs.keeps (by kernel_rfl)).trans rfl)) ⟨_, rfl, rfl, Below.refl _ _⟩
   | 2, _, ho => by
     cases ho
     rw [if_pos (wanted_none _ rfl)]
     refine wp_value (st_move rfl ((hs.keeps (by kernel_rfl)).trans rfl)) ⟨_, rfl, rfl, Below.refl _ _⟩
   | 3, _, ho => by
     cases ho
     rw [if_pos (wanted_none _ rfl)]
     refine wp_value (st_nil rfl (hm.get 2 6 (by kernel_rfl))) ⟨_, rfl, rfl, Below.refl _ _⟩
   | 4, _, ho => by
     cases ho
     rw [if_pos (wanted_none _ rfl)]
     refine wp_value (st_field rfl (hm.get 3 7 (by kernel_rfl)) (by kernel_rfl)) ⟨_, rfl, rfl, Below.refl _ _⟩
   | 5, _, ho => by
     cases ho
     rw [if_pos (wanted_none _ rfl)]
     have hx : w.cell? ⟨o, 2, none⟩ = some (I ((size : Int))) := (HG.out.step hb).cell 2; refine wp_value (st_load rfl (hm.get 4 8 (by kernel_rfl)) (by go_simp)) ⟨_, rfl, rfl, Below.refl _ _⟩
   | 6, _, ho => by
     cases ho
     rw [if_pos (wanted_none _ rfl)]
     refine wp_value (st_move rfl ((hs.keeps (by kernel_rfl)).trans rfl)) ⟨_, rfl, rfl, Below.refl _ _⟩
   | 7, _, ho => by
     cases ho
     rw [if_pos (wanted_none _ rfl)]
     refine wp_value (st_nil rfl (hm.get 6 10 (by kernel_rfl))) ⟨_, rfl, rfl, Below.refl _ _⟩
   | 8, _, ho => by
     cases ho
     rw [if_pos (wanted_none _ rfl)]
     refine wp_value (st_field rfl (hm.get 7 11 (by kernel_rfl)) (by kernel_rfl)) ⟨_, rfl, rfl, Below.refl _ _⟩
   | 9, _, ho => by
     cases ho
     rw [if_pos (wanted_none _ rfl)]
     have hx : w.cell? ⟨o, 1, none⟩ = some (.slice Ao no co) := (HG.out.step hb).cell 1; refine wp_value (st_load rfl (hm.get 8 12 (by kernel_rfl)) (by go_simp)) ⟨_, rfl, rfl, Below.refl _ _⟩
   | 10, _, ho => by
     cases ho
     rw [if_pos (wanted_none _ rfl)]
     have h1 := eval_getD (hm.get 9 13 (by kernel_rfl)); unfold Oper.wp; simp only [execOp]; go_simp; exact ⟨_, rfl, rfl, Below.refl _ _⟩
   | 11, _, ho => by
     cases ho
     rw [if_pos (wanted_none _ rfl)]
     have hw : IntKind.i64.wrap ((size : Int) - (no : Int)) = (size : Int) - (no : Int) := IntWalk.i64_in _ (by omega); have h1 := eval_getD (hm.get 5 9 (by kernel_rfl)); have h2 := eval_getD (hm.get 10 14 (by kernel_rfl)); unfold Oper.wp; simp only [execOp]; go_simp; exact ⟨_, rfl, (show Value.int _ _ = Value.int _ _ by first | rfl | rw [hw]), Below.refl _ _⟩
   | 12, _, ho => by
     cases ho
     rw [if_pos (wanted_none _ rfl)]
     have h1 := eval_getD (hm.get 1 5 (by kernel_rfl)); have h2 := eval_getD (hm.get 11 15 (by kernel_rfl)); unfold Oper.wp; simp only [execOp]; go_simp; exact ⟨_, rfl, (show Value.bool _ = Value.bool _ by rw [D1.out]), Below.refl _ _⟩
   | 13, _, ho => by
     cases ho
     rw [if_pos (wanted_none _ rfl)]
     refine wp_value (st_move rfl (hm.get 12 16 (by kernel_rfl))) ⟨_, rfl, rfl, Below.refl _ _⟩
   | 14, _, ho => by
     cases ho
     generalize hW : Region.wanted _ _ = W
     obtain rfl : W = (true == true) := hW.symm.trans (wanted_of rfl rfl rfl (show a.eval (.tmp 17) = .bool true from (hm.get 13 17 (by kernel_rfl))))
     clear hW
     rw [if_pos (show (true == true) = true by decide)]
     refine wp_value (st_move rfl ((hs.keeps (by kernel_rfl)).trans rfl)) ⟨_, rfl, rfl, Below.refl _ _⟩
   | 15, _, ho => by
     cases ho
     generalize hW : Region.wanted _ _ = W
     obtain rfl : W = (true == true) := hW.symm.trans (wanted_of rfl rfl rfl (show a.eval (.tmp 17) = .bool true from (hm.get 13 17 (by kernel_rfl))))
     clear hW
     rw [if_pos (show (true == true) = true by decide)]
     refine wp_value (st_move rfl ((hs.keeps (by kernel_rfl)).trans rfl)) ⟨_, rfl, rfl, Below.refl _ _⟩
   | 16, _, ho => by
     cases ho
     generalize hW : Region.wanted _ _ = W
     obtain rfl : W = (true == true) := hW.symm.trans (wanted_of rfl rfl rfl (show a.eval (.tmp 17) = .bool true from (hm.get 13 17 (by kernel_rfl))))
     clear hW
     rw [if_pos (show (true == true) = true by decide)]
     refine wp_value (st_nil rfl (hm.get 15 19 (by kernel_rfl))) ⟨_, rfl, rfl, Below.refl _ _⟩
   | 17, _, ho => by
     cases ho
     generalize hW : Region.wanted _ _ = W
     obtain rfl : W = (true == true) := hW.symm.trans (wanted_of rfl rfl rfl (show a.eval (.tmp 17) = .bool true from (hm.get 13 17 (by kernel_rfl))))
     clear hW
     rw [if_pos (show (true == true) = true by decide)]
     refine wp_value (st_field rfl (hm.get 16 20 (by kernel_rfl)) (by kernel_rfl)) ⟨_, rfl, rfl, Below.refl _ _⟩
   | 18, _, ho => by
     cases ho
     generalize hW : Region.wanted _ _ = W
     obtain rfl : W = (true == true) := hW.symm.trans (wanted_of rfl rfl rfl (show a.eval (.tmp 17) = .bool true from (hm.get 13 17 (by kernel_rfl))))
     clear hW
     rw [if_pos (show (true == true) = true by decide)]
     have hx : w.cell? ⟨o, 0, none⟩ = some (.slice Ap np cp) := (HG.out.step hb).cell 0; refine wp_value (st_load rfl (hm.get 17 21 (by kernel_rfl)) (by go_simp)) ⟨_, rfl, rfl, Below.refl _ _⟩
   | 19, _, ho => by
     cases ho
     generalize hW : Region.wanted _ _ = W
     obtain rfl : W = (true == true) := hW.symm.trans (wanted_of rfl rfl rfl (show a.eval (.tmp 17) = .bool true from (hm.get 13 17 (by kernel_rfl))))
     clear hW
     rw [if_pos (show (true == true) = true by decide)]
     have h1 := eval_getD (hm.get 18 22 (by kernel_rfl)); unfold Oper.wp; simp only [execOp]; go_simp; exact ⟨_, rfl, rfl, Below.refl _ _⟩
   | 20, _, ho => by
     cases ho
     generalize hW : Region.wanted _ _ = W
     obtain rfl : W = (true == true) := hW.symm.trans (wanted_of rfl rfl rfl (show a.eval (.tmp 17) = .bool true from (hm.get 13 17 (by kernel_rfl))))
     clear hW
     rw [if_pos (show (true == true) = true by decide)]
     have h1 := eval_getD (hm.get 14 18 (by kernel_rfl)); have h2 := eval_getD (hm.get 19 23 (by kernel_rfl)); unfold Oper.wp; simp only [execOp]; go_simp; exact ⟨_, rfl, (show Value.bool _ = Value.bool _ by first | rw [D2.out] | (congr 1 <;> simpa using D2.out)), Below.refl _ _⟩
   | 21, _, ho => by
     cases ho
     rw [if_pos (wanted_none _ rfl)]
     have h1 := eval_getD (hm.get 13 17 (by kernel_rfl)); have h3 := eval_getD (hm.get 20 24 (by kernel_rfl)); unfold Oper.wp; simp only [execOp]; go_simp; exact ⟨_, rfl, rfl, Below.refl _ _⟩
   | (n + 22), hi, _ => absurd hi (by omega)

 ·have e4 : a.eval (.tmp 4) = .pointer (some ⟨o, 0, none⟩) := by cases ho; exact hm.get 0 4 (by kernel_rfl)
  have e25 : a.eval (.tmp 25) = .bool true := by cases ho; exact hm.get 21 25 (by kernel_rfl)
  have hfr := hs.frame [4, 5, 6, 7, 8, 9, 10, 11, 12, 13, 14, 15, 16, 17, 18, 19, 20, 21, 22, 23, 24, 25, 26] (by kernel_rfl)
  have B5 := Lib.hid hb
  cases ho
  rw [hfr]
  simp only [List.foldl_cons, List.foldl_nil, e4, e25]
  clear hfr hs hm e4 e25 hb
  generalize a.eval (.tmp 5) = u5, a.eval (.tmp 6) = u6, a.eval (.tmp 7) = u7, a.eval (.tmp 8) = u8, a.eval (.tmp 9) = u9, a.eval (.tmp 10) = u10, a.eval (.tmp 11) = u11, a.eval (.tmp 12) = u12, a.eval (.tmp 13) = u13, a.eval (.tmp 14) = u14, a.eval (.tmp 15) = u15, a.eval (.tmp 16) = u16, a.eval (.tmp 17) = u17, a.eval (.tmp 18) = u18, a.eval (.tmp 19) = u19, a.eval (.tmp 20) = u20, a.eval (.tmp 21) = u21, a.eval (.tmp 22) = u22, a.eval (.tmp 23) = u23, a.eval (.tmp 24) = u24, a.eval (.tmp 26) = u26
  unfold Oper.wp
  simp only [execOp]
  go_simp
  clear a
  refine (CW.out w5 B5.out).mono ?_
  rintro e W ⟨rfl, hW⟩
  subst hW
  have HO5 := Lib.hid (HO.out.step B5.out)
  have HG5 := Lib.hid HO5.out.blk
  have HoE : Hid (¬ (Value.slice Ao no co).ownBlock = some o) := Lib.hid (fun e => own_no_blk HO5.out.own HG5.out (by decide) e)
  have HSeg : Hid (SlT (fun j => ¬ (Value.slice Ao no co).ownBlock = some j) 5 W 1 (cutA Ap cp 0 1) k (u8s seg)) := Lib.hid (by
   have h1 := HO5.out.restE.take_ hkn hcp
   rw [Hhd.out.1] at h1
   exact h1)
  have HC1 : Hid (∀ V : World, (Instr.slice 38 (.slice Ap np cp) none (some (.int .i64 k)) none).run Tryz.prog V = .ok (.slice (cutA Ap cp 0 1) k cp) V) := Lib.hid (fun V => run_cut_h (P := Tryz.prog) V Tryz.underlying38 Tryz.sizeU8 Ap np cp .i64 k (by omega))
  have HC2 : Hid (∀ V : World, (Instr.slice 38 (.slice Ap np cp) (some (.int .i64 k)) none none).run Tryz.prog V = .ok (.slice (cutA Ap cp k 1) (np - k) (cp - k)) V) := Lib.hid (fun V => run_cut_l (P := Tryz.prog) V Tryz.underlying38 Tryz.sizeU8 Ap np cp .i64 k hkn)
  have q1 : no + k ≤ maxLen := by simp only [maxLen]; omega
  have q2 : (no + k) * 1 ≤ 140737488355328 := by omega
  clear CW HG D1 D2
  go_wp2
  refine wp_region_chain (by kernel_rfl) 14 (by kernel_rfl) ?_ [11] (by kernel_rfl) (fun w w' => Fr (fun j => (Value.slice Ao no co).ownBlock = some j) w w') (fun _ _ hb => Fr.of_below hb) (or1Phi o Ap Ao np cp no co k seg) or1Phi_mono (orJ B W Ao no co k (out ++ seg)) orJ.step ⟨undef, below_drewN (Below.refl _ W) 1⟩ (fun i o9 hi hiC ho a w j u hj hs hm => ?_) (fun t i o9 ht ho a w u hj hs hm => ?_) (fun o9 ho a w9 u hj hu hs hm => ?_)
  ·exact dst_ltC2 (n := 50) (by kernel_rfl)
  ·have hfr := orJ.fr _ _ _ hj
   exact match i, hi, hiC, ho with
    | 0, _, _, ho => by
      cases ho
      rw [if_pos (wanted_none _ rfl)]
      refine wp_value (st_move rfl ((hs.keeps (by kernel_rfl)).trans rfl)) ⟨_, rfl, rfl, Below.refl _ _⟩
    | 1, _, _, ho => by
      cases ho
      rw [if_pos (wanted_none _ rfl)]
      refine wp_value (st_move rfl ((hs.keeps (by kernel_rfl)).trans rfl)) ⟨_, rfl, rfl, Below.refl _ _⟩
    | 2, _, _, ho => by
      cases ho
      rw [if_pos (wanted_none _ rfl)]
      refine wp_value (st_nil rfl (hm.get 1 28 (by kernel_rfl))) ⟨_, rfl, rfl, Below.refl _ _⟩
    | 3, _, _, ho => by
      cases ho
      rw [if_pos (wanted_none _ rfl)]
      refine wp_value (st_field rfl (hm.get 2 29 (by kernel_rfl)) (by kernel_rfl)) ⟨_, rfl, rfl, Below.refl _ _⟩
    | 4, _, _, ho => by
      cases ho
      rw [if_pos (wanted_none _ rfl)]
      have hx : w.cell? ⟨o, 1, none⟩ = some (.slice Ao no co) := (hfr.blk HG5.out HoE.out).cell 1; refine wp_value (st_load rfl (hm.get 3 30 (by kernel_rfl)) (by go_simp)) ⟨_, rfl, rfl, Below.refl _ _⟩
    | 5, _, _, ho => by
      cases ho
      rw [if_pos (wanted_none _ rfl)]
      refine wp_value (st_move rfl ((hs.keeps (by kernel_rfl)).trans rfl)) ⟨_, rfl, rfl, Below.refl _ _⟩
    | 6, _, _, ho => by
      cases ho
      rw [if_pos (wanted_none _ rfl)]
      refine wp_value (st_nil rfl (hm.get 5 32 (by kernel_rfl))) ⟨_, rfl, rfl, Below.refl _ _⟩
    | 7, _, _, ho => by
      cases ho
      rw [if_pos (wanted_none _ rfl)]
      refine wp_value (st_field rfl (hm.get 6 33 (by kernel_rfl)) (by kernel_rfl)) ⟨_, rfl, rfl, Below.refl _ _⟩
    | 8, _, _, ho => by
      cases ho
      rw [if_pos (wanted_none _ rfl)]
      have hx : w.cell? ⟨o, 0, none⟩ = some (.slice Ap np cp) := (hfr.blk HG5.out HoE.out).cell 0; refine wp_value (st_load rfl (hm.get 7 34 (by kernel_rfl)) (by go_simp)) ⟨_, rfl, rfl, Below.refl _ _⟩
    | 9, _, _, ho => by
      cases ho
      rw [if_pos (wanted_none _ rfl)]
      refine wp_value (st_move rfl ((hs.keeps (by kernel_rfl)).trans rfl)) ⟨_, rfl, rfl, Below.refl _ _⟩
    | 10, _, _, ho => by
      cases ho
      rw [if_pos (wanted_none _ rfl)]
      have hc := HC1.out w; have h1 := eval_getD (hm.get 8 35 (by kernel_rfl)); have h2 := eval_getD (hm.get 9 36 (by kernel_rfl)); unfold Oper.wp; simp only [execOp]; go_simp; exact ⟨_, rfl, ⟨rfl, sl_fr_own HSeg.out hfr⟩, Below.refl _ _⟩
    | 11, _, hiC, _ => absurd (by decide) hiC
    | 12, _, _, ho => by
      cases ho
      rw [if_pos (wanted_none _ rfl)]
      refine wp_value (st_nil rfl (hm.get 0 27 (by kernel_rfl))) ⟨_, rfl, rfl, Below.refl _ _⟩
    | 13, _, _, ho => by
      cases ho
      rw [if_pos (wanted_none _ rfl)]
      refine wp_value (st_field rfl (hm.get 12 39 (by kernel_rfl)) (by kernel_rfl)) ⟨_, rfl, rfl, Below.refl _ _⟩
    | (n + 14), hi, _, _ => absurd hi (by omega)

  ·exact match t, ht, hj with
   | 0, ht, hj => by
     cases ht
     cases ho
     have h1 : a.eval (.tmp 31) = .slice Ao no co := hm.get 4 31 (by kernel_rfl)
     have h2 := hm.get 10 37 (by kernel_rfl)
     have hrw : w.ownsRow B 5 1 (.slice Ao no co) no (u8s out) := own_stepP HO5.out.own hj
     have hbw : B ≤ w.heap.size := Nat.le_trans HO5.out.base hj.size
     refine wp_append_sl w (.tmp 31) (.tmp 37) 38 rfl (baseW w B) 5 i0 _ 1 1 Tryz.underlying38 hi0 hz0 hz1 hz2 rfl Nat.one_pos Ao no co _ h1 (ow_of hrw hbw) _ k cp (u8s seg) h2.1 h2.2.1 (one_u8s seg) q1 q2 (fun A' c' w' h3 h4 h5 => ⟨_, rfl, trivial, ⟨A', c', rfl, ?_, ?_, ?_⟩, ?_⟩)
     ·exact (Fr.of_below hj).trans (Fr.of_grown h4 (fun j e => e))
     ·have h6 := h3.1
      rw [baseW_size hbw, show u8s out ++ u8s seg = u8s (out ++ seg) by simp [u8s]] at h6
      exact h6
     ·rcases h5 with h5 | h5
      ·exact .inl h5
      ·exact .inr ⟨_, h5, hj.size⟩
     ·exact Fr.of_grown h4 (fun j e => e)
   | (t + 1), ht, _ => by cases ht
  ·obtain ⟨A', c', rfl, hf9, hr9, ho9⟩ := hj
   have e38 : a.eval (.tmp 38) = .slice A' (no + k) c' := hu 0 11 38 _ rfl rfl rfl rfl
   have e40 : a.eval (.tmp 40) = .pointer (some ⟨o, 1, none⟩) := by cases ho; exact hm.get 13 40 (by kernel_rfl)
   have H9 := Lib.hid (HO5.out.app hf9 hr9 ho9)
   have HG9 := Lib.hid (hf9.blk HG5.out HoE.out)
   have hfr := hs.frame [27, 28, 29, 30, 31, 32, 33, 34, 35, 36, 37, 38, 39, 40] (by kernel_rfl)
   cases ho
   rw [hfr]
   simp only [List.foldl_cons, List.foldl_nil, e38, e40]
   clear hfr hs hm hu e38 e40 hf9 hr9 ho9
   generalize a.eval (.tmp 27) = u27, a.eval (.tmp 28) = u28, a.eval (.tmp 29) = u29, a.eval (.tmp 30) = u30, a.eval (.tmp 31) = u31, a.eval (.tmp 32) = u32, a.eval (.tmp 33) = u33, a.eval (.tmp 34) = u34, a.eval (.tmp 35) = u35, a.eval (.tmp 36) = u36, a.eval (.tmp 37) = u37, a.eval (.tmp 39) = u39
   have y9 := HG9.out.cell
   have f9 := HG9.out.frozen
   unfold Oper.wp
   simp only [execOp]
   go_simp
   clear a
   obtain ⟨W2, hW2⟩ : ∃ W2, W2 = w9.setCell ⟨o, 1, none⟩ (.slice A' (no + k) c') := ⟨_, rfl⟩
   rw [← hW2] at H9 ⊢
   have y2 := H9.out.1.blk.cell
   have f2 := H9.out.1.blk.frozen
   have hc2 := HC2.out
   clear y9 f9 HG9 hW2
   go_wp2
   go_end0
   have H10 := H9.out.1.cutP hkn
   rw [Hhd.out.2] at H10
   exact ⟨rfl, ⟨_, _, _, _, _, _, H10.1⟩, ((B5.out.mono HO.out.base).trans H9.out.2).trans H10.2⟩
def GoodC (b : List UInt8) (i n bn bd : Nat) : Prop := bn ≤ 259 ∧ i + bn ≤ n ∧ (0 < bn → 1 ≤ bd ∧ bd ≤ 4096 ∧ bd ≤ i ∧ ∀ t, t < bn → b.getD (i - bd + t) 0 = b.getD (i + t) 0)
def RetL (b : List UInt8) (i n : Nat) (e : Ending) : Prop := ∃ bn bd : Nat, e = .returned (.tuple #[I bn, I bd]) ∧ GoodC b i n bn bd
def lg5Phi (g m : Nat) (A Ar : Option Addr) (n c i nr cr : Nat) (x0 x1 x2 x3 : UInt8) : Nat → Value → World → Prop
 | 0, v, _ => v = .pointer (some ⟨g, 0, none⟩)
 | 1, v, _ => v = .pointer (some ⟨g, 0, none⟩)
 | 2, v, _ => v = .pointer (some ⟨g, 1, none⟩)
 | 3, v, _ => v = .map (some m)
 | 4, v, _ => v = .pointer (some ⟨g, 0, none⟩)
 | 5, v, _ => v = .pointer (some ⟨g, 0, none⟩)
 | 6, v, _ => v = .pointer (some ⟨g, 0, none⟩)
 | 7, v, _ => v = .slice A n c
 | 8, v, _ => v = I ((i : Int))
 | 9, v, _ => v = .agg #[U8 x0, U8 x1, U8 x2, U8 x3]
 | 10, v, _ => v = .slice Ar nr cr
 | _, _, _ => True
theorem lg5Phi_mono {g m : Nat} {A Ar : Option Addr} {n c i nr cr : Nat} {x0 x1 x2 x3 : UInt8} : ∀ (j : Nat) (v : Value) (w w' : World), lg5Phi g m A Ar n c i nr cr x0 x1 x2 x3 j v w → Below w.heap.size w w' → lg5Phi g m A Ar n c i nr cr x0 x1 x2 x3 j v w' := by
 intro j v w w' h _
 match j, h with
 | 0, h => exact h
 | 1, h => exact h
 | 2, h => exact h
 | 3, h => exact h
 | 4, h => exact h
 | 5, h => exact h
 | 6, h => exact h
 | 7, h => exact h
 | 8, h => exact h
 | 9, h => exact h
 | 10, h => exact h
 | (n + 11), _ => trivial
set_option maxHeartbeats 8000000 in
set_option maxRecDepth 100000 in
theorem longest_any (B g m cnt : Nat) (A : Option Addr) (n c kn i : Nat) (b : List UInt8) (f : Four → Option Hd) (w : World) (hF : FindAt B w g m cnt A n c kn f) (hA : ∀ V, Below B w V → Sl V 1 A n (u8s b)) (hnc : n ≤ c) (hi : i < n) (hkn : kn ≤ i) (hn : n ≤ 100000000) :
  Calls Tryz.prog 223 #[.pointer (some ⟨g, 0, none⟩), I i] w fun e w' => RetL b i n e ∧ (∃ kn' cnt' f', kn' ≤ i ∧ FindAt B w' g m cnt' A n c kn' f') ∧ KeepT 5 w w' ∧ Below B w w' := by
 have HF := Lib.hid hF
 have HA := Lib.hid hA
 have Hkn := Lib.hid hkn
 have CK := Lib.hid (know_any B g m cnt A n c kn i b f w hF hA hnc (by omega) hkn hn)
 have rg := hF.blk.cell
 clear hF hA hkn
 go_enter Tryz.func223, Tryz.ntmps223
 have hways : decide ((n : Int) < (i : Int) + 4) = true ∨ (decide ((n : Int) < (i : Int) + 4) = false ∧ i + 4 ≤ n) := by
  by_cases h : i + 4 ≤ n
  ·exact .inr ⟨decide_eq_false (by omega), h⟩
  ·exact .inl (decide_eq_true (by omega))
 rcases hways with d1 | ⟨d1, h4⟩
 ·go_wp2
  go_ret2
  exact ⟨⟨0, 0, rfl, by omega, by omega, fun h => absurd h (by omega)⟩, ⟨kn, cnt, f, Hkn.out, HF.out⟩, KeepT.refl _ _, ⟨rfl, rfl, rfl, Nat.le_refl _, fun _ _ => rfl⟩⟩
 go_wp2_with fail
 refine CK.out.mono ?_
 rintro e W ⟨rfl, ⟨kn1, cnt1, f1, hkn1, hF1⟩, hK1, hB1⟩
 have HFW := Lib.hid hF1
 have HKW := Lib.hid hK1
 have HBW := Lib.hid hB1
 have Hkn1 := Lib.hid hkn1
 have HG := Lib.hid HFW.out.blk
 clear hkn1 hF1 hK1 hB1 CK HF rg d1
 obtain ⟨x0, e0⟩ : ∃ x0, x0 = b[i]?.getD 0 := ⟨_, rfl⟩
 obtain ⟨x1, e1⟩ : ∃ x1, x1 = b[i + 1]?.getD 0 := ⟨_, rfl⟩
 obtain ⟨x2, e2⟩ : ∃ x2, x2 = b[i + 2]?.getD 0 := ⟨_, rfl⟩
 obtain ⟨x3, e3⟩ : ∃ x3, x3 = b[i + 3]?.getD 0 := ⟨_, rfl⟩
 have CA : Hid (∀ V, Below W.heap.size W V → Calls Tryz.prog 280 #[.slice A n c, I i] V fun e w' => e = .returned (.agg #[U8 x0, U8 x1, U8 x2, U8 x3]) ∧ Below V.heap.size V w') := Lib.hid (fun V hV => by
  rw [e0, e1, e2, e3]
  exact pat_any A n c i b V (HA.out V (HBW.out.trans (hV.mono HFW.out.base))) h4 hnc (by omega))
 obtain ⟨hd, hhd⟩ : ∃ hd : Hd, hd = (f1 (x0, x1, x2, x3)).getD ⟨none, 0, 0⟩ := ⟨_, rfl⟩
 have hrows : ∃ zs : List Nat, W.ownsRow B 3 1 hd.v hd.n (intsP zs) ∧ (∀ z ∈ zs, z < kn1) ∧ hd.n ≤ kn1 := by
  rcases hfk : f1 (x0, x1, x2, x3) with _ | h0
  ·rw [hfk] at hhd
   rw [hhd]
   exact ⟨[], World.ownsRow_nil _ _ _ _, by simp, Nat.zero_le _⟩
  ·rw [hfk] at hhd
   obtain rfl : hd = h0 := hhd
   exact HFW.out.rows _ hd hfk
 have HLk : Hid (∀ V, Below W.heap.size W V → (Instr.lookup 309 (.map (some m)) (.agg #[U8 x0, U8 x1, U8 x2, U8 x3]) false).run Tryz.prog V = .ok (.slice hd.a hd.n hd.c) V) := Lib.hid (fun V hV => by
  have h1 := (HFW.out.step hV).map.run_look Tryz.underlying309 (Tryz.zeroP V) (x := (x0, x1, x2, x3)) trivial
  rw [← hhd] at h1
  exact h1)
 obtain ⟨zs, hrow, hz, hn9⟩ := hrows
 have HS : Hid (Sl W 1 hd.a hd.n (intsP zs)) := Lib.hid (ow_of (c := hd.c) hrow HFW.out.base).sl
 have HZ : Hid (∀ z ∈ zs, z < i) := Lib.hid (fun z h => Nat.lt_of_lt_of_le (hz z h) Hkn1.out)
 have hnr : hd.n ≤ i := Nat.le_trans hn9 Hkn1.out
 clear e0 e1 e2 e3 hhd hrow hz hn9
 obtain ⟨Ar, hAr⟩ : ∃ Ar, Ar = hd.a := ⟨_, rfl⟩
 obtain ⟨nr, hNr⟩ : ∃ nr, nr = hd.n := ⟨_, rfl⟩
 obtain ⟨cr, hCr⟩ : ∃ cr, cr = hd.c := ⟨_, rfl⟩
 rw [← hAr, ← hNr] at HS
 rw [← hAr, ← hNr, ← hCr] at HLk
 rw [← hNr] at hnr
 clear hAr hNr hCr
 go_wp2
 refine wp_region_guards (by kernel_rfl) 11 (by kernel_rfl) ?_ (lg5Phi g m A Ar n c i nr cr x0 x1 x2 x3) lg5Phi_mono (fun i9 o hi ho a w hb hs hm => ?_) (fun o ho a w5 hb hs hm => ?_)
 ·exact dst_ltC2 (n := 72) (by kernel_rfl)
 ·exact match i9, hi, ho with
   | 0, _, ho => by
     cases ho
     rw [if_pos (wanted_none _ rfl)]
     refine wp_value (st_move rfl ((hs.keeps (by kernel_rfl)).trans rfl)) ⟨_, rfl, rfl, Below.refl _ _⟩
   | 1, _, ho => by
     cases ho
     rw [if_pos (wanted_none _ rfl)]
     refine wp_value (st_nil rfl (hm.get 0 22 (by kernel_rfl))) ⟨_, rfl, rfl, Below.refl _ _⟩
   | 2, _, ho => by
     cases ho
     rw [if_pos (wanted_none _ rfl)]
     refine wp_value (st_field rfl (hm.get 1 23 (by kernel_rfl)) (by kernel_rfl)) ⟨_, rfl, rfl, Below.refl _ _⟩
   | 3, _, ho => by
     cases ho
     rw [if_pos (wanted_none _ rfl)]
     have hx : w.cell? ⟨g, 1, none⟩ = some (.map (some m)) := (HG.out.step hb).cell 1; refine wp_value (st_load rfl (hm.get 2 24 (by kernel_rfl)) (by go_simp)) ⟨_, rfl, rfl, Below.refl _ _⟩
   | 4, _, ho => by
     cases ho
     rw [if_pos (wanted_none _ rfl)]
     refine wp_value (st_move rfl ((hs.keeps (by kernel_rfl)).trans rfl)) ⟨_, rfl, rfl, Below.refl _ _⟩
   | 5, _, ho => by
     cases ho
     rw [if_pos (wanted_none _ rfl)]
     refine wp_value (st_nil rfl (hm.get 4 26 (by kernel_rfl))) ⟨_, rfl, rfl, Below.refl _ _⟩
   | 6, _, ho => by
     cases ho
     rw [if_pos (wanted_none _ rfl)]
     refine wp_value (st_field rfl (hm.get 5 27 (by kernel_rfl)) (by kernel_rfl)) ⟨_, rfl, rfl, Below.refl _ _⟩
   | 7, _, ho => by
     cases ho
     rw [if_pos (wanted_none _ rfl)]
     have hx : w.cell? ⟨g, 0, none⟩ = some (.slice A n c) := (HG.out.step hb).cell 0; refine wp_value (st_load rfl (hm.get 6 28 (by kernel_rfl)) (by go_simp)) ⟨_, rfl, rfl, Below.refl _ _⟩
   | 8, _, ho => by
     cases ho
     rw [if_pos (wanted_none _ rfl)]
     refine wp_value (st_move rfl ((hs.keeps (by kernel_rfl)).trans rfl)) ⟨_, rfl, rfl, Below.refl _ _⟩
   | 9, _, ho => by
     cases ho
     rw [if_pos (wanted_none _ rfl)]
     have h1 := eval_getD (hm.get 7 29 (by kernel_rfl)); have h2 := eval_getD (hm.get 8 30 (by kernel_rfl)); unfold Oper.wp; simp only [execOp]; go_simp; refine (CA.out w hb).mono ?_; rintro e w6 ⟨rfl, b6⟩; exact ⟨_, rfl, rfl, b6⟩
   | 10, _, ho => by
     cases ho
     rw [if_pos (wanted_none _ rfl)]
     have hl := HLk.out w hb; have h1 := eval_getD (hm.get 3 25 (by kernel_rfl)); have h2 := eval_getD (hm.get 9 31 (by kernel_rfl)); unfold Oper.wp; simp only [execOp]; go_simp; exact ⟨_, rfl, rfl, Below.refl _ _⟩
   | (n + 11), hi, _ => absurd hi (by omega)

 ·have e32 : a.eval (.tmp 32) = .slice Ar nr cr := by cases ho; exact hm.get 10 32 (by kernel_rfl)
  have hfr := hs.frame [22, 23, 24, 25, 26, 27, 28, 29, 30, 31, 32, 8] (by kernel_rfl)
  have B5 := Lib.hid hb
  cases ho
  rw [hfr]
  simp only [List.foldl_cons, List.foldl_nil, e32]
  clear hfr hs hm e32 hb CA HLk
  generalize a.eval (.tmp 22) = u22, a.eval (.tmp 23) = u23, a.eval (.tmp 24) = u24, a.eval (.tmp 25) = u25, a.eval (.tmp 26) = u26, a.eval (.tmp 27) = u27, a.eval (.tmp 28) = u28, a.eval (.tmp 29) = u29, a.eval (.tmp 30) = u30, a.eval (.tmp 31) = u31
  unfold Oper.wp
  simp only [execOp]
  go_simp
  clear a
  have HF5 := Lib.hid (HFW.out.step B5.out)
  have HS5 := Lib.hid (HS.out.below B5.out)
  have HKW5 := Lib.hid (HKW.out.trans (KeepT.of_below B5.out))
  have HBW5 := Lib.hid (HBW.out.trans (B5.out.mono HFW.out.base))
  go_wp2
  go_loopw [6, 7, 9] (fun bv dv jv wr => ∃ bn bd jj : Nat, bv = I bn ∧ dv = I bd ∧ jv = .int .i64 ((jj : Int) - 1) ∧ jj ≤ nr ∧ Hid (GoodC b i n bn bd) ∧ Hid (Below w5.heap.size w5 wr)) (fun _ _ jv _ => (intOf jv + 1).toNat)
  case atStart => exact ⟨0, 0, nr, rfl, rfl, rfl, Nat.le_refl _, Lib.hid ⟨by omega, by omega, fun h => absurd h (by omega)⟩, Lib.hid (Below.refl _ _)⟩
  case round =>
   obtain ⟨bn, bd, jj, rfl, rfl, rfl, hjj, HC, hB9⟩ := hrel
   rcases Nat.eq_zero_or_pos jj with h0 | h0
   ·subst h0
    go_wp2
    go_ret2
    exact ⟨⟨bn, bd, rfl, HC.out⟩, ⟨kn1, cnt1, f1, Hkn1.out, HF5.out.step hB9.out⟩, HKW5.out.trans (KeepT.of_below hB9.out), HBW5.out.trans (hB9.out.mono HF5.out.base)⟩
   ·obtain ⟨j, rfl⟩ : ∃ j, jj = j + 1 := ⟨jj - 1, by omega⟩
    have hjn : j < nr := by omega
    have hlz : zs.length = nr := by have := HS5.out.1; simpa [intsP] using this
    obtain ⟨bb, off, rfl, _, hcl⟩ := (HS5.out.below hB9.out).2 (by omega)
    obtain ⟨z, hz⟩ : ∃ z, zs[j]? = some z := ⟨zs[j]'(by omega), List.getElem?_eq_getElem _⟩
    have hzi : z < i := HZ.out z (List.mem_of_getElem? hz)
    have y0 : wr.cell? ⟨bb, off + j, none⟩ = some (I (z : Int)) := (hcl j (by simp; omega)).trans (by simp [intsP, hz])
    clear hcl hz hlz
    have Hend : Hid ((∃ kn' cnt' f', kn' ≤ i ∧ FindAt B wr g m cnt' A n c kn' f') ∧ KeepT 5 w wr ∧ Below B w wr) := Lib.hid ⟨⟨kn1, cnt1, f1, Hkn1.out, HF5.out.step hB9.out⟩, HKW5.out.trans (KeepT.of_below hB9.out), HBW5.out.trans (hB9.out.mono HF5.out.base)⟩
    have hways : decide ((i : Int) - (z : Int) ≤ 4096) = false ∨ (decide ((i : Int) - (z : Int) ≤ 4096) = true ∧ decide ((bn : Int) < 259) = false) ∨ (decide ((i : Int) - (z : Int) ≤ 4096) = true ∧ decide ((bn : Int) < 259) = true) := by
     cases decide ((i : Int) - (z : Int) ≤ 4096) <;> cases decide ((bn : Int) < 259) <;> simp
    rcases hways with d1 | ⟨d1, d2⟩ | ⟨d1, d2⟩
    ·go_wp2
     go_ret2
     exact ⟨⟨bn, bd, rfl, HC.out⟩, Hend.out⟩
    ·go_wp2
     go_ret2
     exact ⟨⟨bn, bd, rfl, HC.out⟩, Hend.out⟩
    ·have CL := Lib.hid (alike_any g A n c b (.map (some m)) (I (kn1 : Int)) z i wr (HF5.out.step hB9.out).blk (HA.out wr Hend.out.2.2) hzi (by omega) (by omega))
     go_wp2_with fail
     refine CL.out.mono ?_
     rintro e wz ⟨mm, rfl, m1, m2, m3, q, rfl⟩
     have M3 := Lib.hid m3
     have B9 : Hid (Below w5.heap.size w5 (wr.drewN q)) := Lib.hid (bstep hB9.out (below_drewN (Below.refl _ _) q))
     clear m3 CL
     have hways : decide (bn < mm) = true ∨ decide (bn < mm) = false := by cases decide (bn < mm) <;> simp
     rcases hways with d3 | d3
     ·have hd1 := of_decide_eq_true d1
      go_wp2
      go_quiet (fail)
      go_wp2
      go_roundw
      case rel => exact ⟨mm, i - z, j, rfl, by first | rfl | go_num | (congr 1; omega), by first | rfl | go_num, by omega, Lib.hid ⟨m1, m2, fun _ => ⟨by omega, by omega, by omega, fun t ht => by rw [show i - (i - z) + t = z + t by omega]; exact M3.out t ht⟩⟩, Lib.hid (bstep hB9.out (below_drewN (Below.refl _ _) _))⟩
      case measure => simp [intOf]
     ·go_wp2
      go_roundw
      case rel => exact ⟨bn, bd, j, rfl, rfl, by first | rfl | go_num, by omega, HC, B9⟩
      case measure => simp [intOf]
theorem Tryz.infoFinder : (Tryz.prog.info? 311).map (fun i => (i.zero, i.size, i.bytes)) = some (some (.agg #[.slice none 0 0, .map none, I 0]), 3, 40) := by kernel_rfl
def RetP (b : List UInt8) (w : World) (e : Ending) (w' : World) : Prop := (∃ (A : Option Addr) (n c : Nat) (p : List UInt8), e = .returned (.slice A n c) ∧ SlT (fun _ => True) 5 w' 1 A n (u8s p) ∧ n ≤ c ∧ c ≤ maxLen ∧ Pressed b p ∧ 5 * p.length ≤ 6 * b.length + 40) ∧ Below w.heap.size w w'
set_option maxHeartbeats 8000000 in
set_option maxRecDepth 100000 in
theorem press_any (A : Option Addr) (n c : Nat) (b : List UInt8) (w : World) (hA : Sl w 1 A n (u8s b)) (hnc : n ≤ c) (hn0 : 0 < n) (hn : n ≤ 100000000) :
  Calls Tryz.prog 154 #[.slice A n c] w (RetP b w) := by
 obtain ⟨i0, hi0, hz0, hz1, hz2⟩ := info_parts Tryz.infoFinder
 obtain rfl : b.length = n := u8s_len hA
 have HA := Lib.hid hA
 obtain ⟨bA, oA, hAe, _, _⟩ := hA.2 hn0
 subst hAe
 obtain ⟨m, hm⟩ : ∃ m, m = w.heap.size := ⟨_, rfl⟩
 obtain ⟨w1, hw1⟩ : ∃ w1, w1 = w.alloc (.map #[] 0) := ⟨_, rfl⟩
 obtain ⟨g, hg⟩ : ∃ g, g = w1.heap.size := ⟨_, rfl⟩
 obtain ⟨w2, hw2⟩ : ∃ w2, w2 = w1.alloc (.cells #[.slice (some ⟨bA, oA, none⟩) b.length c, .map (some m), I 0] 311) := ⟨_, rfl⟩
 have hgm : g = m + 1 := by rw [hg, hw1, hm]; simp
 have b1 : Below w.heap.size w w1 := by rw [hw1]; exact balloc (Below.refl _ _) _
 have b2 : Below w.heap.size w w2 := by rw [hw2]; exact balloc b1 _
 have hF2 : FindAt m w2 g m 0 (some ⟨bA, oA, none⟩) b.length c 0 (fun _ => none) := by
  refine ⟨by rw [hw2, hg]; exact Blk.new w1 _ _, ?_, Nat.le_refl _, by rw [hm]; exact b2.size, by omega, (fun k h e => by cases e), (fun k k' h h' e => by cases e)⟩
  have h1 : MapIs placeC w1 m 0 (fun _ => none) := by rw [hw1, hm]; exact MapIs.made placeC w
  rw [hw2]
  exact h1.step (balloc (Below.refl _ _) _)
 have HF2 := Lib.hid hF2
 have B2 := Lib.hid b2
 have HAB : Hid (∀ V, Below m w V → Sl V 1 (some ⟨bA, oA, none⟩) b.length (u8s b)) := Lib.hid (fun V hV => HA.out.below (hV.mono (by rw [hm]; exact Nat.le_refl _)))
 have C0 := Lib.hid (putNum_nat none 0 0 b.length [] w2 Sl.nil_ (by omega) (by omega))
 have hmm := @run_makeMap Tryz.prog
 have Hgs := Lib.hid (show (w.alloc (.map #[] 0)).heap.size = g by rw [hg, hw1])
 have Hm := Lib.hid hm
 have Hw1 := Lib.hid hw1
 have Hw2 := Lib.hid hw2
 have Hgm := Lib.hid hgm
 clear hm hw1 hw2 hg hgm
 clear hF2 b1 b2
 go_enter Tryz.func154, Tryz.ntmps154
 go_wp2_with fail
 simp only [← Hm.out]
 simp only [← Hgm.out]
 rw [← Hw1.out, ← Hw2.out]
 clear Hgs hmm
 refine C0.out.mono ?_
 rintro e w3 ⟨A1, k1, c1, rfl, hO⟩
 have HO1 : Hid (SlT (fun _ => True) 5 w3 1 A1 k1 (u8s (putNum b.length ++ [])) ∧ k1 ≤ c1 ∧ c1 ≤ maxLen) := Lib.hid ⟨by have h1 := hO.slT.weak (G := fun _ => True) (fun _ _ _ => trivial); rw [List.nil_append] at h1; rw [List.append_nil]; exact h1, hO.cap⟩
 have B3 := Lib.hid (bstep B2.out hO.2)
 have HF3 := Lib.hid (HF2.out.step hO.2)
 clear hO C0 HF2
 go_wp2
 go_loopw [4, 5, 6] (fun ov fv iv wr => ∃ (Ao : Option Addr) (ko co fr i : Nat) (P : List UInt8), ov = .slice Ao ko co ∧ fv = .int .i64 fr ∧ iv = .int .i64 i ∧ fr ≤ i ∧ i ≤ b.length ∧ Hid (SlT (fun _ => True) 5 wr 1 Ao ko (u8s (putNum b.length ++ P)) ∧ ko ≤ co ∧ co ≤ maxLen) ∧ Hid (LaidT b P (b.take fr)) ∧ Hid (5 * P.length ≤ 6 * fr) ∧ Hid (∃ kn cnt f, kn ≤ i ∧ FindAt m wr g m cnt (some ⟨bA, oA, none⟩) b.length c kn f) ∧ Hid (Below w.heap.size w wr)) (fun _ _ iv _ => b.length - (intOf iv).toNat)
 case atStart => exact ⟨A1, k1, c1, 0, 0, [], rfl, rfl, rfl, Nat.le_refl _, Nat.zero_le _, HO1, Lib.hid (LaidT.nil b), Lib.hid (by simp), Lib.hid ⟨0, 0, _, Nat.le_refl _, HF3.out⟩, B3⟩
 case round =>
  obtain ⟨Ao, ko, co, fr, i, P, rfl, rfl, rfl, hfi, hib, hO, hT, hL, hFi, hB⟩ := hrel
  by_cases hlt : i < b.length
  ·obtain ⟨kn, cnt, f, hkn, hF⟩ := hFi.out
   have CL := Lib.hid (longest_any m g m cnt (some ⟨bA, oA, none⟩) b.length c kn i b f wr hF (fun V hV => HAB.out V ((hB.out.mono (by rw [Hm.out]; exact Nat.le_refl _)).trans hV)) hnc hlt hkn hn)
   clear hkn hF
   go_wp2_with fail
   refine CL.out.mono ?_
   rintro e w4 ⟨⟨bn, bd, rfl, hG⟩, ⟨kn4, cnt4, f4, hkn4, hF4⟩, hK4, hB4⟩
   have HG := Lib.hid hG
   have HF4 := Lib.hid hF4
   have Hkn4 := Lib.hid hkn4
   have HO4 : Hid (SlT (fun _ => True) 5 w4 1 Ao ko (u8s (putNum b.length ++ P))) := Lib.hid (hO.out.1.keep hK4)
   have B4 : Hid (Below w.heap.size w w4) := Lib.hid (hB.out.trans (hB4.mono (by rw [Hm.out]; exact Nat.le_refl _)))
   clear hG hF4 hkn4 hK4 hB4 CL
   have hways : decide ((bn : Int) < 4) = true ∨ (decide ((bn : Int) < 4) = false ∧ 4 ≤ bn) := by
    by_cases h : bn < 4
    ·exact .inl (decide_eq_true (by omega))
    ·exact .inr ⟨decide_eq_false (by omega), by omega⟩
   rcases hways with d1 | ⟨d1, h4⟩
   ·go_wp2
    go_roundw
    case rel => exact ⟨Ao, ko, co, fr, i + 1, P, rfl, rfl, by go_num, by omega, by omega, Lib.hid ⟨HO4.out, hO.out.2⟩, hT, hL, Lib.hid ⟨kn4, cnt4, f4, by have := Hkn4.out; omega, HF4.out⟩, B4⟩
    case measure => simp [intOf]; omega
   ·obtain ⟨hg1, hg2, hg3⟩ := HG.out
    obtain ⟨hg4, hg5, hg6, hg7⟩ := hg3 (by omega)
    have HT9 := Lib.hid (hT.out.lay hfi h4 hg1 hg2 hg4 hg6 hg5 hg7)
    have HL9 := Lib.hid (lay_len (d := bd) hL.out hfi h4 hg1 hg2 hn hg5)
    have hk0 : ko = (putNum b.length ++ P).length := (u8s_len HO4.out.sl).symm
    have hkl : (putNum b.length ++ P).length ≤ 200000000 := by
     have h1 := putNum_len_below 4 b.length (by omega) (by omega)
     have h2 := hL.out
     rw [List.length_append]
     omega
    obtain ⟨o5, ho5⟩ : ∃ o5, o5 = if i - fr = 0 then putNum b.length ++ P else putNum b.length ++ P ++ putNum (2 * (i - fr - 1)) ++ (b.drop fr).take (i - fr) := ⟨_, rfl⟩
    have hl5 : o5.length ≤ 400000000 := by
     rw [ho5]
     split
     ·omega
     ·have h1 := putNum_len_below 4 (2 * (i - fr - 1)) (by omega) (by omega)
      rw [List.length_append, List.length_append, List.length_take, List.length_drop]
      omega
    have he5 : o5 ++ putNum (2 * (bn - 4) + 1) ++ putNum bd = putNum b.length ++ layT P b fr i bn bd := by
     rw [ho5]
     unfold layT
     split <;> simp [List.append_assoc]
    have hc1 : ∀ V : World, (Instr.slice 38 (.slice (some ⟨bA, oA, none⟩) b.length c) (some (.int .i64 fr)) (some (.int .i64 i)) none).run Tryz.prog V = .ok (.slice (cutA (some ⟨bA, oA, none⟩) c fr 1) (i - fr) (c - fr)) V := fun V => run_cut_lh (P := Tryz.prog) V Tryz.underlying38 Tryz.sizeU8 _ _ c .i64 .i64 fr i hfi (by omega)
    have CR := Lib.hid (prun_any Ao (cutA (some ⟨bA, oA, none⟩) c fr 1) ko (i - fr) co (c - fr) (putNum b.length ++ P) ((b.drop fr).take (i - fr)) w4 HO4.out hO.out.2 ((HA.out.below B4.out).mid_ hfi hib hnc) (by omega))
    rw [← ho5] at CR
    have He5 := Lib.hid he5
    have Hl5 := Lib.hid hl5
    clear hg3 hg7 hk0 hkl ho5 hl5 he5
    go_wp2_with fail
    refine CR.out.mono ?_
    rintro e w5 ⟨⟨A5, k5, c5, rfl, hS5, hcc5⟩, b5⟩
    have hk5 : o5.length = k5 := u8s_len hS5.sl
    have B5 := Lib.hid (bstep B4.out b5)
    have HF5 := Lib.hid (HF4.out.step b5)
    have CN := Lib.hid (putNum_nat A5 k5 c5 (2 * (bn - 4) + 1) o5 w5 hS5.sl (by have := Hl5.out; omega) (by omega))
    clear hc1 CR b5 hS5 hcc5 hk5
    go_wp2_with fail
    rw [show (2 : Int) * ((bn : Int) - 4) + 1 = ((2 * (bn - 4) + 1 : Nat) : Int) by omega]
    refine CN.out.mono ?_
    rintro e w6 ⟨A6, k6, c6, rfl, hO6⟩
    have B6 := Lib.hid (bstep B5.out hO6.2)
    have HF6 := Lib.hid (HF5.out.step hO6.2)
    have CN2 := Lib.hid (putNum_nat A6 k6 c6 bd (o5 ++ putNum (2 * (bn - 4) + 1)) w6 hO6.sl (by
     have h1 := ow_len hO6
     have h2 := putNum_len_below 4 (2 * (bn - 4) + 1) (by omega) (by omega)
     have h3 := Hl5.out
     rw [List.length_append] at h1
     omega) (by omega))
    clear CN hO6
    go_wp2_with fail
    refine CN2.out.mono ?_
    rintro e w7 ⟨A7, k7, c7, rfl, hO7⟩
    have B7 := Lib.hid (bstep B6.out hO7.2)
    have HF7 := Lib.hid (HF6.out.step hO7.2)
    have HO7 : Hid (SlT (fun _ => True) 5 w7 1 A7 k7 (u8s (putNum b.length ++ layT P b fr i bn bd)) ∧ k7 ≤ c7 ∧ c7 ≤ maxLen) := Lib.hid ⟨by
     have h1 := hO7.slT.weak (G := fun _ => True) (fun _ _ _ => trivial)
     rw [He5.out] at h1
     exact h1, hO7.cap⟩
    clear hO7 CN2
    go_wp2
    go_roundw
    case rel => exact ⟨A7, k7, c7, i + bn, i + bn, layT P b fr i bn bd, rfl, by go_num, by go_num, Nat.le_refl _, hg2, HO7, HT9, HL9, Lib.hid ⟨kn4, cnt4, f4, by have := Hkn4.out; omega, HF7.out⟩, B7⟩
    case measure => simp [intOf]; omega
  ·obtain rfl : i = b.length := by omega
   have hkl : ko ≤ 200000000 := by
    have h0 := u8s_len hO.out.1.sl
    have h1 := putNum_len_below 4 b.length (by omega) (by omega)
    have h2 := hL.out
    rw [List.length_append] at h0
    omega
   have hc1 : ∀ V : World, (Instr.slice 38 (.slice (some ⟨bA, oA, none⟩) b.length c) (some (.int .i64 fr)) none none).run Tryz.prog V = .ok (.slice (cutA (some ⟨bA, oA, none⟩) c fr 1) (b.length - fr) (c - fr)) V := fun V => run_cut_l (P := Tryz.prog) V Tryz.underlying38 Tryz.sizeU8 _ _ c .i64 fr hfi
   have CR := Lib.hid (prun_any Ao (cutA (some ⟨bA, oA, none⟩) c fr 1) ko (b.length - fr) co (c - fr) (putNum b.length ++ P) (b.drop fr) wr hO.out.1 hO.out.2 ((HA.out.below hB.out).tail_ hfi hnc) (by omega))
   go_wp2_with fail
   refine CR.out.mono ?_
   rintro e w5 ⟨⟨A5, k5, c5, rfl, hS5, hcc5⟩, b5⟩
   have hp := hT.out.fin hfi
   have hq := fin_len hL.out hfi hn
   have he : (putNum b.length ++ (if b.length - fr = 0 then P else P ++ putNum (2 * (b.length - fr - 1)) ++ b.drop fr)) = if b.length - fr = 0 then putNum b.length ++ P else putNum b.length ++ P ++ putNum (2 * (b.length - fr - 1)) ++ b.drop fr := by
    split <;> simp [List.append_assoc]
   rw [he] at hp hq
   have HX : Hid (RetP b w (.returned (.slice A5 k5 c5)) w5) := Lib.hid ⟨⟨A5, k5, c5, _, rfl, hS5, hcc5.1, hcc5.2, hp, hq⟩, bstep hB.out b5⟩
   clear hp hq he hS5 hcc5 b5 CR hc1
   go_wp2
   go_ret
   exact HX.out
def ocJ (B : Nat) (W : World) (Ao : Option Addr) (no co : Nat) (x : UInt8) (l : List UInt8) : Nat → Value → World → Prop
 | 0, _, w => Below W.heap.size W w
 | 1, u, w => u = U8 x ∧ Below W.heap.size W w
 | _ + 2, u, w => orJ B W Ao no co 1 l 1 u w
section
variable {B : Nat} {W : World} {Ao : Option Addr} {no co : Nat} {x : UInt8} {l : List UInt8}
theorem ocJ.step : ∀ (j : Nat) (u : Value) (w w' : World), ocJ B W Ao no co x l j u w → Below w.heap.size w w' → ocJ B W Ao no co x l j u w'
 | 0, _, _, _, h, hb => bstep h hb
 | 1, _, _, _, ⟨e, h⟩, hb => ⟨e, bstep h hb⟩
 | _ + 2, _, _, _, h, hb => orJ.step 1 _ _ _ h hb
theorem ocJ.fr : ∀ (j : Nat) (u : Value) (w : World), ocJ B W Ao no co x l j u w → Fr (fun j => (Value.slice Ao no co).ownBlock = some j) W w
 | 0, _, _, h => Fr.of_below h
 | 1, _, _, ⟨_, h⟩ => Fr.of_below h
 | _ + 2, _, _, h => orJ.fr 1 _ _ h
end
def pcp1Phi (o : Nat) (Ao : Option Addr) (no co size n d : Nat) : Nat → Value → World → Prop
 | 0, v, _ => v = .pointer (some ⟨o, 0, none⟩)
 | 1, v, _ => v = I ((n : Int))
 | 2, v, _ => v = .pointer (some ⟨o, 0, none⟩)
 | 3, v, _ => v = .pointer (some ⟨o, 0, none⟩)
 | 4, v, _ => v = .pointer (some ⟨o, 2, none⟩)
 | 5, v, _ => v = I ((size : Int))
 | 6, v, _ => v = .pointer (some ⟨o, 0, none⟩)
 | 7, v, _ => v = .pointer (some ⟨o, 0, none⟩)
 | 8, v, _ => v = .pointer (some ⟨o, 1, none⟩)
 | 9, v, _ => v = .slice Ao no co
 | 10, v, _ => v = I ((no : Int))
 | 11, v, _ => v = I ((size : Int) - (no : Int))
 | 12, v, _ => v = .bool true
 | 13, v, _ => v = .bool true
 | 14, v, _ => v = I ((n : Int))
 | 15, v, _ => v = .bool true
 | 16, v, _ => v = .bool true
 | 17, v, _ => v = .bool true
 | 18, v, _ => v = I ((d : Int))
 | 19, v, _ => v = .bool true
 | 20, v, _ => v = .bool true
 | 21, v, _ => v = .bool true
 | 22, v, _ => v = I ((d : Int))
 | 23, v, _ => v = .pointer (some ⟨o, 0, none⟩)
 | 24, v, _ => v = .pointer (some ⟨o, 0, none⟩)
 | 25, v, _ => v = .pointer (some ⟨o, 1, none⟩)
 | 26, v, _ => v = .slice Ao no co
 | 27, v, _ => v = I ((no : Int))
 | 28, v, _ => v = .bool true
 | 29, v, _ => v = .bool true
 | 30, v, _ => v = .bool true
 | 31, v, _ => v = I ((d : Int))
 | 32, v, _ => v = .bool true
 | 33, v, _ => v = .bool true
 | _, _, _ => True
theorem pcp1Phi_mono {o : Nat} {Ao : Option Addr} {no co size n d : Nat} : ∀ (j : Nat) (v : Value) (w w' : World), pcp1Phi o Ao no co size n d j v w → Below w.heap.size w w' → pcp1Phi o Ao no co size n d j v w' := by
 intro j v w w' h _
 match j, h with
 | 0, h => exact h
 | 1, h => exact h
 | 2, h => exact h
 | 3, h => exact h
 | 4, h => exact h
 | 5, h => exact h
 | 6, h => exact h
 | 7, h => exact h
 | 8, h => exact h
 | 9, h => exact h
 | 10, h => exact h
 | 11, h => exact h
 | 12, h => exact h
 | 13, h => exact h
 | 14, h => exact h
 | 15, h => exact h
 | 16, h => exact h
 | 17, h => exact h
 | 18, h => exact h
 | 19, h => exact h
 | 20, h => exact h
 | 21, h => exact h
 | 22, h => exact h
 | 23, h => exact h
 | 24, h => exact h
 | 25, h => exact h
 | 26, h => exact h
 | 27, h => exact h
 | 28, h => exact h
 | 29, h => exact h
 | 30, h => exact h
 | 31, h => exact h
 | 32, h => exact h
 | 33, h => exact h
 | (n + 34), _ => trivial
def pcp4Phi (o bo : Nat) (no co d jx : Nat) (x : UInt8) : Nat → Value → World → Prop
 | 0, v, _ => v = .pointer (some ⟨o, 0, none⟩)
 | 1, v, _ => v = .pointer (some ⟨o, 0, none⟩)
 | 2, v, _ => v = .pointer (some ⟨o, 0, none⟩)
 | 3, v, _ => v = .pointer (some ⟨o, 1, none⟩)
 | 4, v, _ => v = .slice (some ⟨bo, 0, none⟩) no co
 | 5, v, _ => v = .pointer (some ⟨o, 0, none⟩)
 | 6, v, _ => v = .pointer (some ⟨o, 0, none⟩)
 | 7, v, _ => v = .pointer (some ⟨o, 1, none⟩)
 | 8, v, _ => v = .slice (some ⟨bo, 0, none⟩) no co
 | 9, v, _ => v = .pointer (some ⟨o, 0, none⟩)
 | 10, v, _ => v = .pointer (some ⟨o, 0, none⟩)
 | 11, v, _ => v = .pointer (some ⟨o, 1, none⟩)
 | 12, v, _ => v = .slice (some ⟨bo, 0, none⟩) no co
 | 13, v, _ => v = I ((no : Int))
 | 14, v, _ => v = I ((d : Int))
 | 15, v, _ => v = I ((jx : Int))
 | 16, v, _ => v = .pointer (some ⟨bo, jx, none⟩)
 | 17, v, _ => v = U8 x
 | 18, v, w => ∃ gb : Nat, v = .slice (some ⟨gb, 0, none⟩) 1 1 ∧ SlF (fun j => (Value.slice (some ⟨bo, 0, none⟩) no co).ownBlock = some j) w 1 (some ⟨gb, 0, none⟩) 1 (u8s [x])
 | 19, _, _ => True
 | 20, v, _ => v = .pointer (some ⟨o, 0, none⟩)
 | 21, v, _ => v = .pointer (some ⟨o, 1, none⟩)
 | _, _, _ => True
theorem pcp4Phi_mono {o bo : Nat} {no co d jx : Nat} {x : UInt8} : ∀ (j : Nat) (v : Value) (w w' : World), pcp4Phi o bo no co d jx x j v w → Fr (fun j => (Value.slice (some ⟨bo, 0, none⟩) no co).ownBlock = some j) w w' → pcp4Phi o bo no co d jx x j v w' := by
 intro j v w w' h hb9
 match j, h with
 | 0, h => exact h
 | 1, h => exact h
 | 2, h => exact h
 | 3, h => exact h
 | 4, h => exact h
 | 5, h => exact h
 | 6, h => exact h
 | 7, h => exact h
 | 8, h => exact h
 | 9, h => exact h
 | 10, h => exact h
 | 11, h => exact h
 | 12, h => exact h
 | 13, h => exact h
 | 14, h => exact h
 | 15, h => exact h
 | 16, h => exact h
 | 17, h => exact h
 | 18, h => obtain ⟨gb, h1, h2⟩ := h; exact ⟨gb, h1, h2.fr hb9⟩
 | 19, h => exact trivial
 | 20, h => exact h
 | 21, h => exact h
 | (n + 22), _ => trivial
set_option maxHeartbeats 8000000 in
set_option maxRecDepth 100000 in
theorem ocopied_any (B o np cp no co size n d : Nat) (Ap Ao : Option Addr) (rest out : List UInt8) (w : World) (h : OpAt B w o Ap np cp (putNum d ++ rest) Ao no co out size) (hr : out.length + n ≤ size) (hs : size ≤ 100000000) (hnp : np ≤ 100000000) (hn : n ≤ 259) (hd : 1 ≤ d) (hd2 : d ≤ out.length) (hd3 : d ≤ 4096) :
  Calls Tryz.prog 265 #[.pointer (some ⟨o, 0, none⟩), I (n : Int)] w fun e w' => e = .returned (.tuple #[]) ∧ (∃ (Ap' : Option Addr) (np' cp' : Nat) (Ao' : Option Addr) (no' co' : Nat), OpAt B w' o Ap' np' cp' rest Ao' no' co' (copyL out d n) size) ∧ Below B w w' := by
 obtain ⟨i0, hi0, hz0, hz1, hz2⟩ := info_parts Tryz.infoU8
 have HO0 := Lib.hid h
 have hno : out.length = no := h.olen
 have C1 := Lib.hid (onext_any B o np cp no co size Ap Ao (putNum d ++ rest) out rest d w h (take_putN (by unfold top62; omega) rest) hnp)
 clear h
 go_enter Tryz.func265, Tryz.ntmps265
 go_wp2_with fail
 refine C1.out.mono ?_
 rintro e W0 ⟨rfl, ⟨Ap', np', cp', hO⟩, hB0⟩
 have HO := Lib.hid hO
 have HB0 := Lib.hid hB0
 have CW : Hid (∀ V, Below W0.heap.size W0 V → Calls Tryz.prog 263 #[.pointer (some ⟨o, 0, none⟩), .bool true] V fun e w' => e = .returned (.bool true) ∧ w' = V) := Lib.hid (fun V hV => owant_any B o np' cp' no co size Ap' Ao rest out V (HO.out.step hV))
 have HG := Lib.hid HO.out.blk
 have D1 : Hid (decide ((n : Int) ≤ (size : Int) - (no : Int)) = true) := Lib.hid (decide_eq_true (by omega))
 have D2 : Hid (decide ((n : Int) ≤ 259) = true) := Lib.hid (decide_eq_true (by omega))
 have D3 : Hid (decide (1 ≤ (d : Int)) = true) := Lib.hid (decide_eq_true (by omega))
 have D4 : Hid (decide ((d : Int) ≤ (no : Int)) = true) := Lib.hid (decide_eq_true (by omega))
 have D5 : Hid (decide ((d : Int) ≤ 4096) = true) := Lib.hid (decide_eq_true (by omega))
 have hnos : no + n ≤ 100000000 := by omega
 clear hO hB0 C1 HO0
 go_wp2
 refine wp_region_guards (by kernel_rfl) 34 (by kernel_rfl) ?_ (pcp1Phi o Ao no co size n d) pcp1Phi_mono (fun i9 o9 hi ho a w hb hs hm => ?_) (fun o9 ho a w5 hb hs hm => ?_)
 ·exact dst_ltC2 (n := 68) (by kernel_rfl)
 ·exact match i9, hi, ho with
   | 0, _, ho => by
     cases ho
     rw [if_pos (wanted_none _ rfl)]
     refine wp_value (st_move rfl ((hs.keeps (by kernel_rfl)).trans rfl)) ⟨_, rfl, rfl, Below.refl _ _⟩
   | 1, _, ho => by
     cases ho
     rw [if_pos (wanted_none _ rfl)]
     refine wp_value (st_move rfl ((hs.keeps (by kernel_rfl)).trans rfl)) ⟨_, rfl, rfl, Below.refl _ _⟩
   | 2, _, ho => by
     cases ho
     rw [if_pos (wanted_none _ rfl)]
     refine wp_value (st_move rfl ((hs.keeps (by kernel_rfl)).trans rfl)) ⟨_, rfl, rfl, Below.refl _ _⟩
   | 3, _, ho => by
     cases ho
     rw [if_pos (wanted_none _ rfl)]
     refine wp_value (st_nil rfl (hm.get 2 9 (by kernel_rfl))) ⟨_, rfl, rfl, Below.refl _ _⟩
   | 4, _, ho => by
     cases ho
     rw [if_pos (wanted_none _ rfl)]
     refine wp_value (st_field rfl (hm.get 3 10 (by kernel_rfl)) (by kernel_rfl)) ⟨_, rfl, rfl, Below.refl _ _⟩
   | 5, _, ho => by
     cases ho
     rw [if_pos (wanted_none _ rfl)]
     have hx : w.cell? ⟨o, 2, none⟩ = some (I ((size : Int))) := (HG.out.step hb).cell 2; refine wp_value (st_load rfl (hm.get 4 11 (by kernel_rfl)) (by go_simp)) ⟨_, rfl, rfl, Below.refl _ _⟩
   | 6, _, ho => by
     cases ho
     rw [if_pos (wanted_none _ rfl)]
     refine wp_value (st_move rfl ((hs.keeps (by kernel_rfl)).trans rfl)) ⟨_, rfl, rfl, Below.refl _ _⟩
   | 7, _, ho => by
     cases ho
     rw [if_pos (wanted_none _ rfl)]
     refine wp_value (st_nil rfl (hm.get 6 13 (by kernel_rfl))) ⟨_, rfl, rfl, Below.refl _ _⟩
   | 8, _, ho => by
     cases ho
     rw [if_pos (wanted_none _ rfl)]
     refine wp_value (st_field rfl (hm.get 7 14 (by kernel_rfl)) (by kernel_rfl)) ⟨_, rfl, rfl, Below.refl _ _⟩
   | 9, _, ho => by
     cases ho
     rw [if_pos (wanted_none _ rfl)]
     have hx : w.cell? ⟨o, 1, none⟩ = some (.slice Ao no co) := (HG.out.step hb).cell 1; refine wp_value (st_load rfl (hm.get 8 15 (by kernel_rfl)) (by go_simp)) ⟨_, rfl, rfl, Below.refl _ _⟩
   | 10, _, ho => by
     cases ho
     rw [if_pos (wanted_none _ rfl)]
     have h1 := eval_getD (hm.get 9 16 (by kernel_rfl)); unfold Oper.wp; simp only [execOp]; go_simp; exact ⟨_, rfl, rfl, Below.refl _ _⟩
   | 11, _, ho => by
     cases ho
     rw [if_pos (wanted_none _ rfl)]
     have hw : IntKind.i64.wrap ((size : Int) - (no : Int)) = (size : Int) - (no : Int) := IntWalk.i64_in _ (by omega); have h1 := eval_getD (hm.get 5 12 (by kernel_rfl)); have h2 := eval_getD (hm.get 10 17 (by kernel_rfl)); unfold Oper.wp; simp only [execOp]; go_simp; exact ⟨_, rfl, (show Value.int _ _ = Value.int _ _ by first | rfl | rw [hw]), Below.refl _ _⟩
   | 12, _, ho => by
     cases ho
     rw [if_pos (wanted_none _ rfl)]
     have h1 := eval_getD (hm.get 1 8 (by kernel_rfl)); have h2 := eval_getD (hm.get 11 18 (by kernel_rfl)); unfold Oper.wp; simp only [execOp]; go_simp; exact ⟨_, rfl, (show Value.bool _ = Value.bool _ by first | rfl | rw [D1.out] | (congr 1 <;> simpa using D1.out)), Below.refl _ _⟩
   | 13, _, ho => by
     cases ho
     rw [if_pos (wanted_none _ rfl)]
     refine wp_value (st_move rfl (hm.get 12 19 (by kernel_rfl))) ⟨_, rfl, rfl, Below.refl _ _⟩
   | 14, _, ho => by
     cases ho
     generalize hW : Region.wanted _ _ = W
     obtain rfl : W = (true == true) := hW.symm.trans (wanted_of rfl rfl rfl (show a.eval (.tmp 20) = .bool true from (hm.get 13 20 (by kernel_rfl))))
     clear hW
     rw [if_pos (show (true == true) = true by decide)]
     refine wp_value (st_move rfl ((hs.keeps (by kernel_rfl)).trans rfl)) ⟨_, rfl, rfl, Below.refl _ _⟩
   | 15, _, ho => by
     cases ho
     generalize hW : Region.wanted _ _ = W
     obtain rfl : W = (true == true) := hW.symm.trans (wanted_of rfl rfl rfl (show a.eval (.tmp 20) = .bool true from (hm.get 13 20 (by kernel_rfl))))
     clear hW
     rw [if_pos (show (true == true) = true by decide)]
     have h1 := eval_getD (hm.get 14 21 (by kernel_rfl)); unfold Oper.wp; simp only [execOp]; go_simp; exact ⟨_, rfl, (show Value.bool _ = Value.bool _ by first | rfl | rw [D2.out] | (congr 1 <;> simpa using D2.out)), Below.refl _ _⟩
   | 16, _, ho => by
     cases ho
     rw [if_pos (wanted_none _ rfl)]
     have h1 := eval_getD (hm.get 13 20 (by kernel_rfl)); have h3 := eval_getD (hm.get 15 22 (by kernel_rfl)); unfold Oper.wp; simp only [execOp]; go_simp; exact ⟨_, rfl, rfl, Below.refl _ _⟩
   | 17, _, ho => by
     cases ho
     rw [if_pos (wanted_none _ rfl)]
     refine wp_value (st_move rfl (hm.get 16 23 (by kernel_rfl))) ⟨_, rfl, rfl, Below.refl _ _⟩
   | 18, _, ho => by
     cases ho
     generalize hW : Region.wanted _ _ = W
     obtain rfl : W = (true == true) := hW.symm.trans (wanted_of rfl rfl rfl (show a.eval (.tmp 24) = .bool true from (hm.get 17 24 (by kernel_rfl))))
     clear hW
     rw [if_pos (show (true == true) = true by decide)]
     refine wp_value (st_move rfl ((hs.keeps (by kernel_rfl)).trans rfl)) ⟨_, rfl, rfl, Below.refl _ _⟩
   | 19, _, ho => by
     cases ho
     generalize hW : Region.wanted _ _ = W
     obtain rfl : W = (true == true) := hW.symm.trans (wanted_of rfl rfl rfl (show a.eval (.tmp 24) = .bool true from (hm.get 17 24 (by kernel_rfl))))
     clear hW
     rw [if_pos (show (true == true) = true by decide)]
     have h1 := eval_getD (hm.get 18 25 (by kernel_rfl)); unfold Oper.wp; simp only [execOp]; go_simp; exact ⟨_, rfl, (show Value.bool _ = Value.bool _ by first | rfl | rw [D3.out] | (congr 1 <;> simpa using D3.out)), Below.refl _ _⟩
   | 20, _, ho => by
     cases ho
     rw [if_pos (wanted_none _ rfl)]
     have h1 := eval_getD (hm.get 17 24 (by kernel_rfl)); have h3 := eval_getD (hm.get 19 26 (by kernel_rfl)); unfold Oper.wp; simp only [execOp]; go_simp; exact ⟨_, rfl, rfl, Below.refl _ _⟩
   | 21, _, ho => by
     cases ho
     rw [if_pos (wanted_none _ rfl)]
     refine wp_value (st_move rfl (hm.get 20 27 (by kernel_rfl))) ⟨_, rfl, rfl, Below.refl _ _⟩
   | 22, _, ho => by
     cases ho
     generalize hW : Region.wanted _ _ = W
     obtain rfl : W = (true == true) := hW.symm.trans (wanted_of rfl rfl rfl (show a.eval (.tmp 28) = .bool true from (hm.get 21 28 (by kernel_rfl))))
     clear hW
     rw [if_pos (show (true == true) = true by decide)]
     refine wp_value (st_move rfl ((hs.keeps (by kernel_rfl)).trans rfl)) ⟨_, rfl, rfl, Below.refl _ _⟩
   | 23, _, ho => by
     cases ho
     generalize hW : Region.wanted _ _ = W
     obtain rfl : W = (true == true) := hW.symm.trans (wanted_of rfl rfl rfl (show a.eval (.tmp 28) = .bool true from (hm.get 21 28 (by kernel_rfl))))
     clear hW
     rw [if_pos (show (true == true) = true by decide)]
     refine wp_value (st_move rfl ((hs.keeps (by kernel_rfl)).trans rfl)) ⟨_, rfl, rfl, Below.refl _ _⟩
   | 24, _, ho => by
     cases ho
     generalize hW : Region.wanted _ _ = W
     obtain rfl : W = (true == true) := hW.symm.trans (wanted_of rfl rfl rfl (show a.eval (.tmp 28) = .bool true from (hm.get 21 28 (by kernel_rfl))))
     clear hW
     rw [if_pos (show (true == true) = true by decide)]
     refine wp_value (st_nil rfl (hm.get 23 30 (by kernel_rfl))) ⟨_, rfl, rfl, Below.refl _ _⟩
   | 25, _, ho => by
     cases ho
     generalize hW : Region.wanted _ _ = W
     obtain rfl : W = (true == true) := hW.symm.trans (wanted_of rfl rfl rfl (show a.eval (.tmp 28) = .bool true from (hm.get 21 28 (by kernel_rfl))))
     clear hW
     rw [if_pos (show (true == true) = true by decide)]
     refine wp_value (st_field rfl (hm.get 24 31 (by kernel_rfl)) (by kernel_rfl)) ⟨_, rfl, rfl, Below.refl _ _⟩
   | 26, _, ho => by
     cases ho
     generalize hW : Region.wanted _ _ = W
     obtain rfl : W = (true == true) := hW.symm.trans (wanted_of rfl rfl rfl (show a.eval (.tmp 28) = .bool true from (hm.get 21 28 (by kernel_rfl))))
     clear hW
     rw [if_pos (show (true == true) = true by decide)]
     have hx : w.cell? ⟨o, 1, none⟩ = some (.slice Ao no co) := (HG.out.step hb).cell 1; refine wp_value (st_load rfl (hm.get 25 32 (by kernel_rfl)) (by go_simp)) ⟨_, rfl, rfl, Below.refl _ _⟩
   | 27, _, ho => by
     cases ho
     generalize hW : Region.wanted _ _ = W
     obtain rfl : W = (true == true) := hW.symm.trans (wanted_of rfl rfl rfl (show a.eval (.tmp 28) = .bool true from (hm.get 21 28 (by kernel_rfl))))
     clear hW
     rw [if_pos (show (true == true) = true by decide)]
     have h1 := eval_getD (hm.get 26 33 (by kernel_rfl)); unfold Oper.wp; simp only [execOp]; go_simp; exact ⟨_, rfl, rfl, Below.refl _ _⟩
   | 28, _, ho => by
     cases ho
     generalize hW : Region.wanted _ _ = W
     obtain rfl : W = (true == true) := hW.symm.trans (wanted_of rfl rfl rfl (show a.eval (.tmp 28) = .bool true from (hm.get 21 28 (by kernel_rfl))))
     clear hW
     rw [if_pos (show (true == true) = true by decide)]
     have h1 := eval_getD (hm.get 22 29 (by kernel_rfl)); have h2 := eval_getD (hm.get 27 34 (by kernel_rfl)); unfold Oper.wp; simp only [execOp]; go_simp; exact ⟨_, rfl, (show Value.bool _ = Value.bool _ by first | rfl | rw [D4.out] | (congr 1 <;> simpa using D4.out)), Below.refl _ _⟩
   | 29, _, ho => by
     cases ho
     rw [if_pos (wanted_none _ rfl)]
     have h1 := eval_getD (hm.get 21 28 (by kernel_rfl)); have h3 := eval_getD (hm.get 28 35 (by kernel_rfl)); unfold Oper.wp; simp only [execOp]; go_simp; exact ⟨_, rfl, rfl, Below.refl _ _⟩
   | 30, _, ho => by
     cases ho
     rw [if_pos (wanted_none _ rfl)]
     refine wp_value (st_move rfl (hm.get 29 36 (by kernel_rfl))) ⟨_, rfl, rfl, Below.refl _ _⟩
   | 31, _, ho => by
     cases ho
     generalize hW : Region.wanted _ _ = W
     obtain rfl : W = (true == true) := hW.symm.trans (wanted_of rfl rfl rfl (show a.eval (.tmp 37) = .bool true from (hm.get 30 37 (by kernel_rfl))))
     clear hW
     rw [if_pos (show (true == true) = true by decide)]
     refine wp_value (st_move rfl ((hs.keeps (by kernel_rfl)).trans rfl)) ⟨_, rfl, rfl, Below.refl _ _⟩
   | 32, _, ho => by
     cases ho
     generalize hW : Region.wanted _ _ = W
     obtain rfl : W = (true == true) := hW.symm.trans (wanted_of rfl rfl rfl (show a.eval (.tmp 37) = .bool true from (hm.get 30 37 (by kernel_rfl))))
     clear hW
     rw [if_pos (show (true == true) = true by decide)]
     have h1 := eval_getD (hm.get 31 38 (by kernel_rfl)); unfold Oper.wp; simp only [execOp]; go_simp; exact ⟨_, rfl, (show Value.bool _ = Value.bool _ by first | rfl | rw [D5.out] | (congr 1 <;> simpa using D5.out)), Below.refl _ _⟩
   | 33, _, ho => by
     cases ho
     rw [if_pos (wanted_none _ rfl)]
     have h1 := eval_getD (hm.get 30 37 (by kernel_rfl)); have h3 := eval_getD (hm.get 32 39 (by kernel_rfl)); unfold Oper.wp; simp only [execOp]; go_simp; exact ⟨_, rfl, rfl, Below.refl _ _⟩
   | (n + 34), hi, _ => absurd hi (by omega)

 ·have e7 : a.eval (.tmp 7) = .pointer (some ⟨o, 0, none⟩) := by cases ho; exact hm.get 0 7 (by kernel_rfl)
  have e40 : a.eval (.tmp 40) = .bool true := by cases ho; exact hm.get 33 40 (by kernel_rfl)
  have hfr := hs.frame [7, 8, 9, 10, 11, 12, 13, 14, 15, 16, 17, 18, 19, 20, 21, 22, 23, 24, 25, 26, 27, 28, 29, 30, 31, 32, 33, 34, 35, 36, 37, 38, 39, 40, 41] (by kernel_rfl)
  have B5 := Lib.hid hb
  cases ho
  rw [hfr]
  simp only [List.foldl_cons, List.foldl_nil, e7, e40]
  clear hfr hs hm e7 e40 hb
  generalize a.eval (.tmp 8) = u8, a.eval (.tmp 9) = u9, a.eval (.tmp 10) = u10, a.eval (.tmp 11) = u11, a.eval (.tmp 12) = u12, a.eval (.tmp 13) = u13, a.eval (.tmp 14) = u14, a.eval (.tmp 15) = u15, a.eval (.tmp 16) = u16, a.eval (.tmp 17) = u17, a.eval (.tmp 18) = u18, a.eval (.tmp 19) = u19, a.eval (.tmp 20) = u20, a.eval (.tmp 21) = u21, a.eval (.tmp 22) = u22, a.eval (.tmp 23) = u23, a.eval (.tmp 24) = u24, a.eval (.tmp 25) = u25, a.eval (.tmp 26) = u26, a.eval (.tmp 27) = u27, a.eval (.tmp 28) = u28, a.eval (.tmp 29) = u29, a.eval (.tmp 30) = u30, a.eval (.tmp 31) = u31, a.eval (.tmp 32) = u32, a.eval (.tmp 33) = u33, a.eval (.tmp 34) = u34, a.eval (.tmp 35) = u35, a.eval (.tmp 36) = u36, a.eval (.tmp 37) = u37, a.eval (.tmp 38) = u38, a.eval (.tmp 39) = u39, a.eval (.tmp 41) = u41
  unfold Oper.wp
  simp only [execOp]
  go_simp
  clear a
  refine (CW.out w5 B5.out).mono ?_
  rintro e W1 ⟨rfl, hW⟩
  subst hW
  have HO5 := Lib.hid (HO.out.step B5.out)
  have HB5 := Lib.hid (HB0.out.trans (B5.out.mono HO.out.base))
  clear CW HG D1 D2 D3 D4 D5
  go_wp2
  go_loopw [43] (fun iv wr => ∃ (i : Nat) (Ao : Option Addr) (no co : Nat) (out' : List UInt8), iv = .int .i64 i ∧ i ≤ n ∧ Hid (OpAt B wr o Ap' np' cp' rest Ao no co out' size) ∧ Hid (copyL out' d (n - i) = copyL out d n) ∧ Hid (d ≤ no ∧ no + (n - i) ≤ 100000000) ∧ Hid (Below B w wr)) (fun iv _ => n - (intOf iv).toNat)
  case atStart => exact ⟨0, Ao, no, co, out, rfl, Nat.zero_le _, HO5, Lib.hid rfl, Lib.hid ⟨by omega, by omega⟩, HB5⟩
  case round =>
   obtain ⟨i, Ao, no, co, out', rfl, hi, hOr, hC, hL, hBr⟩ := hrel
   by_cases hlt : i < n
   ·have HG5 := Lib.hid hOr.out.blk
    have HoE : Hid (¬ (Value.slice Ao no co).ownBlock = some o) := Lib.hid (fun e => own_no_blk hOr.out.own HG5.out (by decide) e)
    obtain ⟨jx, hj⟩ : ∃ jx, no = jx + d := ⟨no - d, by have := hL.out.1; omega⟩
    have hA : ∃ bo, Ao = some ⟨bo, 0, none⟩ := by
     rcases hOr.out.own.2 with ⟨hv, h0⟩ | ⟨g', _, _, hv, _⟩
     ·omega
     ·injection hv with e1
      exact ⟨g', e1⟩
    obtain ⟨bo, rfl⟩ := hA
    obtain ⟨x, hx⟩ : ∃ x, x = out'.getD jx 0 := ⟨_, rfl⟩
    have HX : Hid (∀ V, Below wr.heap.size wr V → V.cell? ⟨bo, jx, none⟩ = some (U8 x)) := Lib.hid (fun V hV => by
     have h1 := (ow_of (own_stepP hOr.out.own hV) (Nat.le_trans hOr.out.base hV.size)).sl
     obtain ⟨b1, o1, x1, e1, h2, h3⟩ := h1.byte (k := jx) (by omega)
     cases e1
     rw [Nat.zero_add] at h3
     rw [h3, hx, List.getD_eq_getElem?_getD, h2]
     rfl)
    have HW9 : Hid (IntKind.i64.wrap ((no : Int) - (d : Int)) = (jx : Int)) := Lib.hid (by rw [IntWalk.i64_in _ (by have := hL.out.2; omega)]; omega)
    have HJ : Hid ((no : Int) - (d : Int) = (jx : Int)) := Lib.hid (by omega)
    have HWj : Hid (IntKind.i64.wrap (jx : Int) = (jx : Int)) := Lib.hid (IntWalk.i64_in _ (by have := hL.out.2; omega))
    have HlE : Hid (bo < wr.heap.size) := Lib.hid (hOr.out.own.lt bo rfl).2
    have q1 : no + 1 ≤ maxLen := by have := hL.out.2; simp only [maxLen]; omega
    have q2 : (no + 1) * 1 ≤ 140737488355328 := by have := hL.out.2; omega
    have hjn : jx < no := by omega
    have hcs : Hid (copyL (out' ++ [x]) d (n - (i + 1)) = copyL out d n) := Lib.hid (by
     have h1 := hC.out
     rw [show n - i = (n - (i + 1)) + 1 by omega, copyL] at h1
     rw [hx]
     rw [show out'.length - d = jx by have := hOr.out.olen; omega] at h1
     exact h1)
    clear hx hj
    obtain ⟨W, hW⟩ : ∃ W, W = wr := ⟨_, rfl⟩
    subst hW
    go_wp2
    refine wp_region_chain (by kernel_rfl) 22 (by kernel_rfl) ?_ [17, 19] (by kernel_rfl) (fun w w' => Fr (fun j => (Value.slice (some ⟨bo, 0, none⟩) no co).ownBlock = some j) w w') (fun _ _ hb => Fr.of_below hb) (pcp4Phi o bo no co d jx x) pcp4Phi_mono (ocJ B W (some ⟨bo, 0, none⟩) no co x (out' ++ [x])) ocJ.step ⟨undef, below_drewN (Below.refl _ W) 1⟩ (fun i9 o9 hi hiC ho a w jj u hj hs hm => ?_) (fun t i9 o9 ht ho a w u hj hs hm => ?_) (fun o9 ho a w9 u hj hu hs hm => ?_)
    ·exact dst_ltC2 (n := 68) (by kernel_rfl)
    ·have hfr := ocJ.fr _ _ _ hj
     exact match i9, hi, hiC, ho with
      | 0, _, _, ho => by
        cases ho
        rw [if_pos (wanted_none _ rfl)]
        refine wp_value (st_move rfl ((hs.keeps (by kernel_rfl)).trans rfl)) ⟨_, rfl, rfl, Below.refl _ _⟩
      | 1, _, _, ho => by
        cases ho
        rw [if_pos (wanted_none _ rfl)]
        refine wp_value (st_move rfl ((hs.keeps (by kernel_rfl)).trans rfl)) ⟨_, rfl, rfl, Below.refl _ _⟩
      | 2, _, _, ho => by
        cases ho
        rw [if_pos (wanted_none _ rfl)]
        refine wp_value (st_nil rfl (hm.get 1 46 (by kernel_rfl))) ⟨_, rfl, rfl, Below.refl _ _⟩
      | 3, _, _, ho => by
        cases ho
        rw [if_pos (wanted_none _ rfl)]
        refine wp_value (st_field rfl (hm.get 2 47 (by kernel_rfl)) (by kernel_rfl)) ⟨_, rfl, rfl, Below.refl _ _⟩
      | 4, _, _, ho => by
        cases ho
        rw [if_pos (wanted_none _ rfl)]
        have hx : w.cell? ⟨o, 1, none⟩ = some (.slice (some ⟨bo, 0, none⟩) no co) := (hfr.blk HG5.out HoE.out).cell 1; refine wp_value (st_load rfl (hm.get 3 48 (by kernel_rfl)) (by go_simp)) ⟨_, rfl, rfl, Below.refl _ _⟩
      | 5, _, _, ho => by
        cases ho
        rw [if_pos (wanted_none _ rfl)]
        refine wp_value (st_move rfl ((hs.keeps (by kernel_rfl)).trans rfl)) ⟨_, rfl, rfl, Below.refl _ _⟩
      | 6, _, _, ho => by
        cases ho
        rw [if_pos (wanted_none _ rfl)]
        refine wp_value (st_nil rfl (hm.get 5 50 (by kernel_rfl))) ⟨_, rfl, rfl, Below.refl _ _⟩
      | 7, _, _, ho => by
        cases ho
        rw [if_pos (wanted_none _ rfl)]
        refine wp_value (st_field rfl (hm.get 6 51 (by kernel_rfl)) (by kernel_rfl)) ⟨_, rfl, rfl, Below.refl _ _⟩
      | 8, _, _, ho => by
        cases ho
        rw [if_pos (wanted_none _ rfl)]
        have hx : w.cell? ⟨o, 1, none⟩ = some (.slice (some ⟨bo, 0, none⟩) no co) := (hfr.blk HG5.out HoE.out).cell 1; refine wp_value (st_load rfl (hm.get 7 52 (by kernel_rfl)) (by go_simp)) ⟨_, rfl, rfl, Below.refl _ _⟩
      | 9, _, _, ho => by
        cases ho
        rw [if_pos (wanted_none _ rfl)]
        refine wp_value (st_move rfl ((hs.keeps (by kernel_rfl)).trans rfl)) ⟨_, rfl, rfl, Below.refl _ _⟩
      | 10, _, _, ho => by
        cases ho
        rw [if_pos (wanted_none _ rfl)]
        refine wp_value (st_nil rfl (hm.get 9 54 (by kernel_rfl))) ⟨_, rfl, rfl, Below.refl _ _⟩
      | 11, _, _, ho => by
        cases ho
        rw [if_pos (wanted_none _ rfl)]
        refine wp_value (st_field rfl (hm.get 10 55 (by kernel_rfl)) (by kernel_rfl)) ⟨_, rfl, rfl, Below.refl _ _⟩
      | 12, _, _, ho => by
        cases ho
        rw [if_pos (wanted_none _ rfl)]
        have hx : w.cell? ⟨o, 1, none⟩ = some (.slice (some ⟨bo, 0, none⟩) no co) := (hfr.blk HG5.out HoE.out).cell 1; refine wp_value (st_load rfl (hm.get 11 56 (by kernel_rfl)) (by go_simp)) ⟨_, rfl, rfl, Below.refl _ _⟩
      | 13, _, _, ho => by
        cases ho
        rw [if_pos (wanted_none _ rfl)]
        have h1 := eval_getD (hm.get 12 57 (by kernel_rfl)); unfold Oper.wp; simp only [execOp]; go_simp; exact ⟨_, rfl, rfl, Below.refl _ _⟩
      | 14, _, _, ho => by
        cases ho
        rw [if_pos (wanted_none _ rfl)]
        refine wp_value (st_move rfl ((hs.keeps (by kernel_rfl)).trans rfl)) ⟨_, rfl, rfl, Below.refl _ _⟩
      | 15, _, _, ho => by
        cases ho
        rw [if_pos (wanted_none _ rfl)]
        have hw := HW9.out; have hj9 := HJ.out; have hw8 := HWj.out; have h1 := eval_getD (hm.get 13 58 (by kernel_rfl)); have h2 := eval_getD (hm.get 14 59 (by kernel_rfl)); unfold Oper.wp; simp only [execOp]; go_simp; exact ⟨_, rfl, (show Value.int _ _ = Value.int _ _ by first | rfl | rw [hw] | rw [hj9] | rw [hw8]), Below.refl _ _⟩
      | 16, _, _, ho => by
        cases ho
        rw [if_pos (wanted_none _ rfl)]
        have h1 := eval_getD (hm.get 8 53 (by kernel_rfl)); have h2 := eval_getD (hm.get 15 60 (by kernel_rfl)); unfold Oper.wp; simp only [execOp]; go_simp; exact ⟨_, rfl, (by first | rfl | simp), Below.refl _ _⟩
      | 17, _, hiC, _ => absurd (by decide) hiC
      | 18, _, _, ho => by
        cases ho
        rw [if_pos (wanted_none _ rfl)]
        have hge := hfr.size; have h1 := eval_getD (hm.get 17 62 (by kernel_rfl)); unfold Oper.wp; simp only [execOp]; go_simp; exact ⟨_, rfl, ⟨w.heap.size, rfl, sl_one w 5 (U8 x), fun b9 off9 _ e9 => by cases e9; intro e8; have h8 := HlE.out; have e7 : bo = w.heap.size := Option.some.inj e8; omega⟩, balloc (Below.refl _ w) _⟩
      | 19, _, hiC, _ => absurd (by decide) hiC
      | 20, _, _, ho => by
        cases ho
        rw [if_pos (wanted_none _ rfl)]
        refine wp_value (st_nil rfl (hm.get 0 45 (by kernel_rfl))) ⟨_, rfl, rfl, Below.refl _ _⟩
      | 21, _, _, ho => by
        cases ho
        rw [if_pos (wanted_none _ rfl)]
        refine wp_value (st_field rfl (hm.get 20 65 (by kernel_rfl)) (by kernel_rfl)) ⟨_, rfl, rfl, Below.refl _ _⟩
      | (n + 22), hi, _, _ => absurd hi (by omega)

    ·exact match t, ht, hj with
     | 0, ht, hj => by
       cases ht
       cases ho
       have hx := HX.out w hj
       have h1 := eval_getD (hm.get 16 61 (by kernel_rfl))
       unfold Oper.wp; simp only [execOp]; go_simp
       exact ⟨_, rfl, rfl, ⟨rfl, hj⟩, Fr.refl _ _⟩
     | 1, ht, hj => by
       cases ht
       cases ho
       have h1 : a.eval (.tmp 49) = .slice (some ⟨bo, 0, none⟩) no co := hm.get 4 49 (by kernel_rfl)
       refine Exists.elim (show ∃ gb : Nat, a.eval (.tmp 63) = .slice (some ⟨gb, 0, none⟩) 1 1 ∧ SlF (fun j => (Value.slice (some ⟨bo, 0, none⟩) no co).ownBlock = some j) w 1 (some ⟨gb, 0, none⟩) 1 (u8s [x]) from hm.get 18 63 (by kernel_rfl)) fun gb h2 => ?_
       have hrw : w.ownsRow B 5 1 (.slice (some ⟨bo, 0, none⟩) no co) no (u8s out') := own_stepP hOr.out.own hj.2
       have hbw : B ≤ w.heap.size := Nat.le_trans hOr.out.base hj.2.size
       refine wp_append_sl w (.tmp 49) (.tmp 63) 38 rfl (baseW w B) 5 i0 _ 1 1 Tryz.underlying38 hi0 hz0 hz1 hz2 rfl Nat.one_pos (some ⟨bo, 0, none⟩) no co _ h1 (ow_of hrw hbw) _ 1 1 (u8s [x]) h2.1 h2.2.1 (one_u8s [x]) q1 q2 (fun A' c' w' h3 h4 h5 => ⟨_, rfl, trivial, ⟨A', c', rfl, ?_, ?_, ?_⟩, ?_⟩)
       ·exact (Fr.of_below hj.2).trans (Fr.of_grown h4 (fun j e => e))
       ·have h6 := h3.1
        rw [baseW_size hbw, show u8s out' ++ u8s [x] = u8s (out' ++ [x]) by simp [u8s]] at h6
        exact h6
       ·rcases h5 with h5 | h5
        ·exact .inl h5
        ·exact .inr ⟨_, h5, hj.2.size⟩
       ·exact Fr.of_grown h4 (fun j e => e)
     | (t + 2), ht, _ => by cases ht
    ·obtain ⟨A', c', rfl, hf9, hr9, ho9⟩ := hj
     have e64 : a.eval (.tmp 64) = .slice A' (no + 1) c' := hu 1 19 64 _ rfl rfl rfl rfl
     have e66 : a.eval (.tmp 66) = .pointer (some ⟨o, 1, none⟩) := by cases ho; exact hm.get 21 66 (by kernel_rfl)
     have H9 := Lib.hid (hOr.out.app hf9 hr9 ho9)
     have HG9 := Lib.hid (hf9.blk HG5.out HoE.out)
     have hfr := hs.frame [45, 46, 47, 48, 49, 50, 51, 52, 53, 54, 55, 56, 57, 58, 59, 60, 61, 62, 63, 64, 65, 66] (by kernel_rfl)
     cases ho
     rw [hfr]
     simp only [List.foldl_cons, List.foldl_nil, e64, e66]
     clear hfr hs hm hu e64 e66 hf9 hr9 ho9
     generalize a.eval (.tmp 45) = u45, a.eval (.tmp 46) = u46, a.eval (.tmp 47) = u47, a.eval (.tmp 48) = u48, a.eval (.tmp 49) = u49, a.eval (.tmp 50) = u50, a.eval (.tmp 51) = u51, a.eval (.tmp 52) = u52, a.eval (.tmp 53) = u53, a.eval (.tmp 54) = u54, a.eval (.tmp 55) = u55, a.eval (.tmp 56) = u56, a.eval (.tmp 57) = u57, a.eval (.tmp 58) = u58, a.eval (.tmp 59) = u59, a.eval (.tmp 60) = u60, a.eval (.tmp 61) = u61, a.eval (.tmp 62) = u62, a.eval (.tmp 63) = u63, a.eval (.tmp 65) = u65
     have y9 := HG9.out.cell
     have f9 := HG9.out.frozen
     unfold Oper.wp
     simp only [execOp]
     go_simp
     clear a
     go_wp2
     go_roundw
     case rel => exact ⟨i + 1, A', no + 1, c', out' ++ [x], by go_num, hlt, Lib.hid H9.out.1, hcs, Lib.hid ⟨by have := hL.out.1; omega, by have := hL.out.2; omega⟩, Lib.hid (hBr.out.trans H9.out.2)⟩
     case measure => simp [intOf]; omega
   ·obtain rfl : i = n := by omega
    go_wp2
    go_end0
    have h1 := hC.out
    rw [Nat.sub_self] at h1
    have h2 : copyL out d i = out' := h1.symm
    rw [h2]
    exact ⟨rfl, ⟨_, _, _, _, _, _, hOr.out⟩, hBr.out⟩
theorem Tryz.infoOpener : (Tryz.prog.info? 336).map (fun i => (i.zero, i.size, i.bytes)) = some (some (.agg #[.slice none 0 0, .slice none 0 0, I 0, I 0]), 4, 64) := by kernel_rfl
def leftOf (o : Nat) (w : World) : Nat := match w.cell? ⟨o, 0, none⟩ with
 | some (.slice _ n _) => n
 | _ => 0
section
variable {B o np cp no co size : Nat} {w : World} {Ap Ao : Option Addr} {p out : List UInt8}
theorem OpAt.left (h : OpAt B w o Ap np cp p Ao no co out size) : leftOf o w = np := by
 have h1 : w.cell? ⟨o, 0, none⟩ = some (.slice Ap np cp) := h.blk.cell 0
 unfold leftOf
 rw [h1]
theorem OpAt.setSize {s : Nat} (h : OpAt B w o Ap np cp p Ao no co out size) : OpAt B (w.setCell ⟨o, 2, none⟩ (I (s : Int))) o Ap np cp p Ao no co out s ∧ Below B w (w.setCell ⟨o, 2, none⟩ (I (s : Int))) := by
 have hf : Fr (fun k => k = o) w (w.setCell ⟨o, 2, none⟩ (I (s : Int))) := Fr.setCell (E := fun k => k = o) (Fr.refl _ w) (p := ⟨o, 2, none⟩) (show o = o from rfl) _
 refine ⟨⟨h.blk.set_ 2 _, h.rest.keep (KeepT.of_fr hf (fun k cs fr e => by subst e; exact Blk.type h.blk (by decide) cs fr)), h.restc, own_block h.own (fun k hk => hf.block k (h.own.lt k hk).2 (fun e => by subst e; exact own_no_blk h.own h.blk (by decide) hk)), by simpa [World.setCell] using h.base, h.lo, h.apart⟩, hf.below h.base (fun k e => by rw [e]; exact h.lo)⟩
end
def RetO (b : List UInt8) (w : World) (e : Ending) (w' : World) : Prop := (∃ (A : Option Addr) (n c : Nat), e = .returned (.tuple #[.slice A n c, I 0]) ∧ Ow w w' 5 1 A n c (u8s b)) ∧ Below w.heap.size w w'
def po9Phi (o : Nat) (Ao : Option Addr) (no co : Nat) (b : List UInt8) : Nat → Value → World → Prop
 | 0, v, _ => v = .pointer (some ⟨o, 0, none⟩)
 | 1, v, _ => v = .pointer (some ⟨o, 0, none⟩)
 | 2, v, _ => v = .pointer (some ⟨o, 0, none⟩)
 | 3, v, _ => v = .pointer (some ⟨o, 1, none⟩)
 | 4, v, _ => v = .slice Ao no co
 | 5, v, _ => v = I ((no : Int))
 | 6, v, _ => v = .pointer (some ⟨o, 0, none⟩)
 | 7, v, _ => v = .pointer (some ⟨o, 0, none⟩)
 | 8, v, _ => v = .pointer (some ⟨o, 2, none⟩)
 | 9, v, _ => v = I ((b.length : Int))
 | 10, v, _ => v = .bool true
 | 11, v, _ => v = .bool true
 | _, _, _ => True
theorem po9Phi_mono {o : Nat} {Ao : Option Addr} {no co : Nat} {b : List UInt8} : ∀ (j : Nat) (v : Value) (w w' : World), po9Phi o Ao no co b j v w → Below w.heap.size w w' → po9Phi o Ao no co b j v w' := by
 intro j v w w' h _
 match j, h with
 | 0, h => exact h
 | 1, h => exact h
 | 2, h => exact h
 | 3, h => exact h
 | 4, h => exact h
 | 5, h => exact h
 | 6, h => exact h
 | 7, h => exact h
 | 8, h => exact h
 | 9, h => exact h
 | 10, h => exact h
 | 11, h => exact h
 | (n + 12), _ => trivial
set_option maxHeartbeats 8000000 in
set_option maxRecDepth 100000 in
theorem popen_any (A : Option Addr) (n c most : Nat) (p b : List UInt8) (w : World) (hA : SlT (fun _ => True) 5 w 1 A n (u8s p)) (hnc : n ≤ c) (hn : n ≤ 100000000) (hP : Pressed b p) (hb : b.length ≤ most) (hbl : b.length ≤ 100000000) :
  Calls Tryz.prog 200 #[.slice A n c, I (most : Int)] w (RetO b w) := by
 obtain ⟨i0, hi0, hz0, hz1, hz2⟩ := info_parts Tryz.infoOpener
 obtain ⟨P, hpP, hT⟩ := hP
 obtain ⟨o, ho⟩ : ∃ o, o = w.heap.size := ⟨_, rfl⟩
 obtain ⟨w1, hw1⟩ : ∃ w1, w1 = w.alloc (.cells #[.slice A n c, .slice none 0 0, I 0, I 0] 336) := ⟨_, rfl⟩
 have b1 : Below w.heap.size w w1 := by rw [hw1]; exact balloc (Below.refl _ w) _
 have hO1 : OpAt o w1 o A n c p none 0 0 [] 0 := ⟨by rw [hw1, ho]; exact Blk.new w _ _, hA.step b1, hnc, World.ownsRow_nil _ _ _ _, by rw [ho]; exact b1.size, Nat.le_refl _, fun _ _ _ _ => by simp [Value.ownBlock]⟩
 have B1 := Lib.hid b1
 have HT := Lib.hid hT
 have CN := Lib.hid (onext_any o o n c 0 0 0 A none p [] P b.length w1 hO1 (by rw [hpP]; exact take_putN (by unfold top62; omega) P) hn)
 have Ho := Lib.hid ho
 have Hw1 := Lib.hid hw1
 have hPn : P.length ≤ n := by
  have h1 := hO1.plen
  rw [hpP, List.length_append] at h1
  omega
 clear hO1 b1 hT hpP ho hw1 hA
 go_enter Tryz.func200, Tryz.ntmps200
 go_wp2_with fail
 simp only [← Ho.out]
 rw [← Hw1.out]
 refine CN.out.mono ?_
 rintro e w2 ⟨rfl, ⟨A2, n2, c2, hO2⟩, hB2⟩
 have HO2 := Lib.hid hO2
 have B2 := Lib.hid hB2
 have rg2 := hO2.blk.cell
 have fz2 := hO2.blk.frozen
 have H3 := Lib.hid (hO2.setSize (s := b.length))
 obtain ⟨w3, hw3⟩ : ∃ w3, w3 = w2.setCell ⟨o, 2, none⟩ (I (b.length : Int)) := ⟨_, rfl⟩
 rw [← hw3] at H3
 have y3 := H3.out.1.blk.cell
 have C3 := Lib.hid (owant_any o o n2 c2 0 0 b.length A2 none P [] w3 H3.out.1)
 have D3 : decide ((b.length : Int) ≤ (most : Int)) = true := decide_eq_true (by omega)
 clear hO2 hB2 CN
 go_wp2_with fail
 rw [show w2.setCell ⟨o, 2, none⟩ (Value.int .i64 (b.length : Int)) = w3 from hw3.symm]
 refine C3.out.mono ?_
 rintro e w4 ⟨rfl, hw4⟩
 have hw5 := hw4.symm
 subst hw5
 have B3 : Hid (Below o w w3) := Lib.hid (((B1.out.mono (by rw [Ho.out]; exact Nat.le_refl _)).trans B2.out).trans H3.out.2)
 have HN3 : Hid (n2 ≤ 100000000) := Lib.hid (by have h1 := H3.out.1.plen; omega)
 clear hw3 rg2 fz2 y3 D3 C3
 go_wp2
 go_loopw [7] (fun _ wr => ∃ (np cp no co : Nat) (Ap Ao : Option Addr) (rest out : List UInt8), Hid (OpAt o wr o Ap np cp rest Ao no co out b.length) ∧ Hid (Toks b out rest) ∧ Hid (np ≤ 100000000) ∧ Hid (Below o w wr)) (fun _ wr => leftOf o wr)
 case atStart => exact ⟨n2, c2, 0, 0, A2, none, P, [], Lib.hid H3.out.1, HT, HN3, B3⟩
 case round =>
  obtain ⟨np, cp, no, co, Ap, Ao, rest, out, hO, hT, hn9, hB⟩ := hrel
  have rg := hO.out.blk.cell
  have hpl := hO.out.plen
  have Hlf := Lib.hid hO.out.left
  rcases hT.out.next with ⟨e1, e2⟩ | ⟨seg, rest', h0, h1, e1, h3, hT'⟩ | ⟨bn, bd, rest', h0, h4, hn4, hd, hd2, hd3, e1, h5, hT'⟩
  ·subst e1
   have hz : np = 0 := by simpa using hpl.symm
   have d1 : decide (0 < np) = false := decide_eq_false (by omega)
   clear hpl hz
   have HG := Lib.hid hO.out.blk
   have HQ : Hid ((no : Int) = (b.length : Int)) := Lib.hid (by have := hO.out.olen; rw [e2] at this; omega)
   have hO2 := hO.out
   rw [e2] at hO2
   have hO := Lib.hid hO2
   have CW : Hid (∀ V, Below wr.heap.size wr V → Calls Tryz.prog 263 #[.pointer (some ⟨o, 0, none⟩), .bool true] V fun e w' => e = .returned (.bool true) ∧ w' = V) := Lib.hid (fun V hV => owant_any o o np cp no co b.length Ap Ao [] b V (hO.out.step hV))
   clear hO2 e2
   go_wp2
   refine wp_region_guards (by kernel_rfl) 12 (by kernel_rfl) ?_ (po9Phi o Ao no co b) po9Phi_mono (fun i9 o9 hi ho a w hb hs hm => ?_) (fun o9 ho a w5 hb hs hm => ?_)
   ·exact dst_ltC2 (n := 69) (by kernel_rfl)
   ·exact match i9, hi, ho with
     | 0, _, ho => by
       cases ho
       rw [if_pos (wanted_none _ rfl)]
       refine wp_value (st_move rfl ((hs.keeps (by kernel_rfl)).trans rfl)) ⟨_, rfl, rfl, Below.refl _ _⟩
     | 1, _, ho => by
       cases ho
       rw [if_pos (wanted_none _ rfl)]
       refine wp_value (st_move rfl ((hs.keeps (by kernel_rfl)).trans rfl)) ⟨_, rfl, rfl, Below.refl _ _⟩
     | 2, _, ho => by
       cases ho
       rw [if_pos (wanted_none _ rfl)]
       refine wp_value (st_nil rfl (hm.get 1 53 (by kernel_rfl))) ⟨_, rfl, rfl, Below.refl _ _⟩
     | 3, _, ho => by
       cases ho
       rw [if_pos (wanted_none _ rfl)]
       refine wp_value (st_field rfl (hm.get 2 54 (by kernel_rfl)) (by kernel_rfl)) ⟨_, rfl, rfl, Below.refl _ _⟩
     | 4, _, ho => by
       cases ho
       rw [if_pos (wanted_none _ rfl)]
       have hx : w.cell? ⟨o, 1, none⟩ = some (.slice Ao no co) := (HG.out.step hb).cell 1; refine wp_value (st_load rfl (hm.get 3 55 (by kernel_rfl)) (by go_simp)) ⟨_, rfl, rfl, Below.refl _ _⟩
     | 5, _, ho => by
       cases ho
       rw [if_pos (wanted_none _ rfl)]
       have h1 := eval_getD (hm.get 4 56 (by kernel_rfl)); unfold Oper.wp; simp only [execOp]; go_simp; exact ⟨_, rfl, rfl, Below.refl _ _⟩
     | 6, _, ho => by
       cases ho
       rw [if_pos (wanted_none _ rfl)]
       refine wp_value (st_move rfl ((hs.keeps (by kernel_rfl)).trans rfl)) ⟨_, rfl, rfl, Below.refl _ _⟩
     | 7, _, ho => by
       cases ho
       rw [if_pos (wanted_none _ rfl)]
       refine wp_value (st_nil rfl (hm.get 6 58 (by kernel_rfl))) ⟨_, rfl, rfl, Below.refl _ _⟩
     | 8, _, ho => by
       cases ho
       rw [if_pos (wanted_none _ rfl)]
       refine wp_value (st_field rfl (hm.get 7 59 (by kernel_rfl)) (by kernel_rfl)) ⟨_, rfl, rfl, Below.refl _ _⟩
     | 9, _, ho => by
       cases ho
       rw [if_pos (wanted_none _ rfl)]
       have hx : w.cell? ⟨o, 2, none⟩ = some (I ((b.length : Int))) := (HG.out.step hb).cell 2; refine wp_value (st_load rfl (hm.get 8 60 (by kernel_rfl)) (by go_simp)) ⟨_, rfl, rfl, Below.refl _ _⟩
     | 10, _, ho => by
       cases ho
       rw [if_pos (wanted_none _ rfl)]
       have hq := HQ.out; have h1 := eval_getD (hm.get 5 57 (by kernel_rfl)); have h2 := eval_getD (hm.get 9 61 (by kernel_rfl)); unfold Oper.wp; simp only [execOp]; go_simp; exact ⟨_, rfl, (show Value.bool _ = Value.bool _ by first | rfl | (rw [hq]; simp) | simp [hq] | (congr 1; simp; omega)), Below.refl _ _⟩
     | 11, _, ho => by
       cases ho
       rw [if_pos (wanted_none _ rfl)]
       have h1 := eval_getD (hm.get 0 52 (by kernel_rfl)); have h2 := eval_getD (hm.get 10 62 (by kernel_rfl)); unfold Oper.wp; simp only [execOp]; go_simp; refine (CW.out w hb).mono ?_; rintro e w6 ⟨rfl, hw6⟩; have hw7 := hw6.symm; subst hw7; exact ⟨_, rfl, rfl, Below.refl _ _⟩
     | (n + 12), hi, _ => absurd hi (by omega)

   ·have e63 : a.eval (.tmp 63) = .bool true := by cases ho; exact hm.get 11 63 (by kernel_rfl)
    have hfr := hs.frame [52, 53, 54, 55, 56, 57, 58, 59, 60, 61, 62, 63, 64] (by kernel_rfl)
    have B5 := Lib.hid hb
    cases ho
    rw [hfr]
    simp only [List.foldl_cons, List.foldl_nil, e63]
    clear hfr hs hm e63 hb CW rg
    generalize a.eval (.tmp 52) = u52, a.eval (.tmp 53) = u53, a.eval (.tmp 54) = u54, a.eval (.tmp 55) = u55, a.eval (.tmp 56) = u56, a.eval (.tmp 57) = u57, a.eval (.tmp 58) = u58, a.eval (.tmp 59) = u59, a.eval (.tmp 60) = u60, a.eval (.tmp 61) = u61, a.eval (.tmp 62) = u62, a.eval (.tmp 64) = u64
    unfold Oper.wp
    simp only [execOp]
    go_simp
    clear a
    have HO5 := Lib.hid (hO.out.step B5.out)
    have y5 := HO5.out.blk.cell
    have HB5 := Lib.hid (hB.out.trans (B5.out.mono hO.out.base))
    go_wp2
    go_ret2
    have h9 := HO5.out.own
    have h8 := HB5.out
    rw [Ho.out] at h9 h8
    exact ⟨⟨Ao, no, co, rfl, ⟨h9, h8⟩⟩, h8⟩
  ·obtain ⟨k, hk⟩ : ∃ k, k = seg.length := ⟨_, rfl⟩
   obtain ⟨t, ht⟩ : ∃ t, t = 2 * (seg.length - 1) := ⟨_, rfl⟩
   have htb : t < 4611686018427387904 := by omega
   have hO' := hO.out
   rw [e1, ← ht] at hO'
   have CN2 := Lib.hid (onext_any o o np cp no co b.length Ap Ao (putNum t ++ (seg ++ rest')) out (seg ++ rest') t wr hO' (take_putN (by unfold top62; omega) _) hn9.out)
   have ha : bits BinOp.and IntKind.i64 (t : Int) 1 = 0 := by rw [and_one t (by omega)]; omega
   have d1 : decide (0 < np) = true := decide_eq_true (by omega)
   have HT2 := Lib.hid hT'
   have Ht := Lib.hid ht
   have Hpl := Lib.hid hO'.plen
   clear hO' hT' e1 ht hk
   go_wp2_with fail
   refine CN2.out.mono ?_
   rintro e w5 ⟨rfl, ⟨A5, n5, c5, hO5⟩, hB5⟩
   have HO5 := Lib.hid hO5
   have HB5 := Lib.hid hB5
   clear hO5 hB5 CN2
   go_wp2_with fail
   rw [show (t : Int) / 2 + 1 = (seg.length : Int) by have := Ht.out; omega]
   refine (orun_any o o n5 c5 no co b.length A5 Ao seg rest' out w5 HO5.out h3 hbl h1).mono ?_
   rintro e w6 ⟨rfl, ⟨A6, n6, c6, Ao6, no6, co6, hO6⟩, hB6⟩
   have HO6 := Lib.hid hO6
   have hn6 : n6 < np := by
    have h7 := hO6.plen
    have h8 := HO5.out.plen
    have h9 := Hpl.out
    have h10 := putNum_len_pos t
    simp only [List.length_append] at h8 h9
    omega
   have HB6 : Hid (Below o w w6) := Lib.hid ((hB.out.trans HB5.out).trans hB6)
   have HN6 : Hid (n6 ≤ 100000000) := Lib.hid (by have := hn9.out; omega)
   have hlf := hO6.left
   clear hO6 hB6
   go_wp2
   go_roundw
   case rel => exact ⟨n6, c6, no6, co6, A6, Ao6, rest', out ++ seg, HO6, HT2, HN6, HB6⟩
   case measure =>
    rw [hlf, Hlf.out]
    exact hn6
  ·obtain ⟨t, ht⟩ : ∃ t, t = 2 * (bn - 4) + 1 := ⟨_, rfl⟩
   have htb : t < 4611686018427387904 := by omega
   have hO' := hO.out
   rw [e1, ← ht] at hO'
   have CN2 := Lib.hid (onext_any o o np cp no co b.length Ap Ao (putNum t ++ (putNum bd ++ rest')) out (putNum bd ++ rest') t wr hO' (take_putN (by unfold top62; omega) _) hn9.out)
   have ha : bits BinOp.and IntKind.i64 (t : Int) 1 = 1 := by rw [and_one t (by omega)]; omega
   have d1 : decide (0 < np) = true := decide_eq_true (by omega)
   have HT2 := Lib.hid hT'
   have Ht := Lib.hid ht
   have Hpl := Lib.hid hO'.plen
   clear hO' hT' e1 ht
   go_wp2_with fail
   refine CN2.out.mono ?_
   rintro e w5 ⟨rfl, ⟨A5, n5, c5, hO5⟩, hB5⟩
   have HO5 := Lib.hid hO5
   have HB5 := Lib.hid hB5
   have hn5 : n5 ≤ np := by
    have h8 := hO5.plen
    have h9 := Hpl.out
    simp only [List.length_append] at h8 h9
    omega
   clear hO5 hB5 CN2
   go_wp2_with fail
   rw [show (t : Int) / 2 + 4 = (bn : Int) by have := Ht.out; omega]
   refine (ocopied_any o o n5 c5 no co b.length bn bd A5 Ao rest' out w5 HO5.out h5 hbl (by have := hn9.out; omega) hn4 hd hd2 hd3).mono ?_
   rintro e w6 ⟨rfl, ⟨A6, n6, c6, Ao6, no6, co6, hO6⟩, hB6⟩
   have HO6 := Lib.hid hO6
   have hn6 : n6 < np := by
    have h7 := hO6.plen
    have h9 := Hpl.out
    have h10 := putNum_len_pos t
    simp only [List.length_append] at h9
    omega
   have HB6 : Hid (Below o w w6) := Lib.hid ((hB.out.trans HB5.out).trans hB6)
   have HN6 : Hid (n6 ≤ 100000000) := Lib.hid (by have := hn9.out; omega)
   have hlf := hO6.left
   clear hO6 hB6
   go_wp2
   go_roundw
   case rel => exact ⟨n6, c6, no6, co6, A6, Ao6, rest', copyL out bd bn, HO6, HT2, HN6, HB6⟩
   case measure =>
    rw [hlf, Hlf.out]
    exact hn6
end Go.Proofs.YtcednfmkiaelnaaGreatDoor
