/-
  Texts merged: DiskMem, IndexFn, DiskRead, DiskOps, DiskPut, DiskSpend, SafeNeed, Chunks. What each law says and asks stands at its head.
-/
import Derived.Lib.Bytealg
import Derived.Test.YtcednfmkiaelnaaGreatDoorTKitW
import Derived.Test.YtcednfmkiaelnaaGreatDoorTKitX
import Derived.Test.YtcednfmkiaelnaaGreatDoorTKitG
import Derived.Laws.Cover3
import Derived.Laws.LoneSync
import Derived.Shelf.Abstract
import Derived.TacticsInMore
import Derived.LoopNIn
import Derived.LoopIn
namespace Go.Proofs.YtcednfmkiaelnaaGreatDoor
open Go.RowKit
structure Hd where
 A : Option (Nat × Nat)
 n : Nat
 c : Nat
def Hd.a (h : Hd) : Option Addr := h.A.map fun p => ⟨p.1, p.2, none⟩
def Hd.v (h : Hd) : Value := .slice h.a h.n h.c
def Hd.d (h : Hd) : DataW Unit := match h.A with
 | none => .agg [.lit (.int .i64 h.n), .lit (.int .i64 h.c)]
 | some p => .agg [.lit (.int .i64 p.1), .lit (.int .i64 p.2), .lit (.int .i64 h.n), .lit (.int .i64 h.c)]
def rdH : Value → Option (DataW Unit × List MemPlace)
 | .slice none n c => some ((⟨none, n, c⟩ : Hd).d, [])
 | .slice (some ⟨b, off, none⟩) n c => some ((⟨some (b, off), n, c⟩ : Hd).d, [])
 | _ => none
theorem Hd.d_inj {h k : Hd} (e : h.d = k.d) : h = k := by
 obtain ⟨A, n, c⟩ := h
 obtain ⟨B, m, d⟩ := k
 rcases A with _ | ⟨b, o⟩ <;> rcases B with _ | ⟨b', o'⟩ <;> simp [Hd.d] at e
 ·obtain ⟨e1, e2⟩ := e
  obtain rfl : n = m := by omega
  obtain rfl : c = d := by omega
  rfl
 ·obtain ⟨e1, e2, e3, e4⟩ := e
  obtain rfl : b = b' := by omega
  obtain rfl : o = o' := by omega
  obtain rfl : n = m := by omega
  obtain rfl : c = d := by omega
  rfl
def diskC : Coding Tryz.prog 9 38 (List UInt8) Hd where
 kv := S
 kl := Lit.string
 vv := Hd.v
 vd := Hd.d
 R := rdH
 good s := s.length ≤ maxLen
 keyed := Maps.string_keyed Tryz.underlying9
 key s h := by
  have := WideMaps.keyOf_string_mk (P := Tryz.prog) Tryz.underlying9 (s := ⟨s.toArray⟩) (by rw [size_mk]; exact h)
  simpa using this
 inj _ _ _ _ h := by injection h
 enc h := by
  obtain ⟨A, n, c⟩ := h
  rcases A with _ | ⟨b, o⟩ <;> rfl
 dec v a ps h := by
  unfold rdH at h
  split at h
  ·simp only [Option.some.injEq, Prod.mk.injEq] at h
   rw [← Hd.d_inj h.1]
   rfl
  ·simp only [Option.some.injEq, Prod.mk.injEq] at h
   rw [← Hd.d_inj h.1]
   rfl
  ·cases h
theorem Tryz.zeroH (w : World) : (zeroValue 38).run Tryz.prog w = .ok (diskC.vv ⟨none, 0, 0⟩) w := by kernel_rfl
set_option maxRecDepth 100000 in
theorem str_key9 {v : Value} {l : Lit} (h : keyOf Tryz.prog 9 v = some l) : ∃ x : List UInt8, v = S x ∧ x.length ≤ maxLen := by
 have h1 : mapKey Tryz.prog 9 v = some l := by
  unfold keyOf at h
  rw [Tryz.underlying9] at h
  exact h
 unfold mapKey at h1
 rw [Tryz.underlying9] at h1
 cases v with
 | string s =>
  simp only at h1
  split at h1
  ·rename_i hs
   obtain ⟨x, rfl⟩ := str_of s
   exact ⟨x, rfl, by rw [size_mk] at hs; exact hs⟩
  ·cases h1
 | _ => cases h1
theorem diskC_full : diskC.Full where
 invK v l h := str_key9 h
 invV v y h := by
  change rdH v = some y at h
  unfold rdH at h
  split at h
  ·rename_i n c
   exact ⟨⟨none, n, c⟩, rfl⟩
  ·rename_i b off n c
   exact ⟨⟨some (b, off), n, c⟩, rfl⟩
  ·cases h
def okName (s : List UInt8) : Bool := decide (1 ≤ s.length) && (decide (s.length ≤ 200) && decide (Lib.indexByte s 0 < 0))
theorem okName_len {s : List UInt8} (h : okName s = true) : 1 ≤ s.length ∧ s.length ≤ 200 := by
 unfold okName at h
 simp only [Bool.and_eq_true, decide_eq_true_eq] at h
 exact ⟨h.1, h.2.1⟩
abbrev DF := List UInt8 × Hd × List UInt8
def cost1 (x : DF) : Nat := 16 + x.1.length + x.2.2.length
def costs : List DF → Nat
 | [] => 0
 | x :: l => cost1 x + costs l
def keyF (L : List DF) : List (List UInt8 × Hd) := L.map fun x => (x.1, x.2.1)
structure DiskAt (w : World) (p m n : Nat) (cap : Int) (L : List DF) : Prop where
 blk : ∃ ops : Int, Blk w p 118 #[I cap, .map (some m), I (cap - costs L), I ops, I (-1), .bool false]
 map : MapL diskC w m n (keyF L)
 row : ∀ x ∈ L, SlT (fun _ => True) 5 w 1 x.2.1.a x.2.1.n (u8s x.2.2)
 name : ∀ x ∈ L, okName x.1 = true
 small : ∀ x ∈ L, x.2.1.n ≤ 1000000000000
section
variable {w w' : World} {p m n : Nat} {cap : Int} {L : List DF}
theorem DiskAt.keep (h : DiskAt w p m n cap L) (hp : w'.heap[p]? = w.heap[p]?) (hm : w'.heap[m]? = w.heap[m]?) (hk : KeepT 5 w w') : DiskAt w' p m n cap L := by
 obtain ⟨⟨ops, h1⟩, h2, h3, h4, h5⟩ := h
 exact ⟨⟨ops, hp.trans h1⟩, h2.block hm, fun x hx => (h3 x hx).keep hk, h4, h5⟩
theorem DiskAt.lt (h : DiskAt w p m n cap L) : p < w.heap.size := by obtain ⟨⟨ops, h1⟩, _⟩ := h; exact h1.lt
theorem DiskAt.step (h : DiskAt w p m n cap L) (hb : Below w.heap.size w w') : DiskAt w' p m n cap L := h.keep (hb.block p h.lt) (hb.block m h.map.lt) (.of_below hb)
theorem DiskAt.drewN (h : DiskAt w p m n cap L) (k : Nat) : DiskAt (w.drewN k) p m n cap L := h.step (below_drewN (Below.refl _ _) k)
theorem DiskAt.keys (h : DiskAt w p m n cap L) : (L.map (·.1)).Nodup := by
 have := h.map.nodup
 unfold keyF at this
 rwa [List.map_map] at this
def getF (L : List DF) (s : List UInt8) : Option DF := L.find? (fun x => decide (x.1 = s))
theorem getF_lk (L : List DF) (s : List UInt8) : lk (keyF L) s = (getF L s).map (fun x => x.2.1) := by
 unfold lk keyF getF
 rw [List.find?_map]
 simp only [Option.map_map]
 rfl
theorem getF_mem {L : List DF} {s : List UInt8} {x : DF} (h : getF L s = some x) : x ∈ L ∧ x.1 = s := ⟨List.mem_of_find?_eq_some h, by simpa using List.find?_some h⟩
theorem getF_none {L : List DF} {s : List UInt8} : getF L s = none ↔ s ∉ L.map (·.1) := by
 unfold getF
 rw [List.find?_eq_none]
 constructor
 ·intro h hm
  obtain ⟨x, hx, e⟩ := List.mem_map.1 hm
  exact h x hx (decide_eq_true e)
 ·intro h x hx e
  exact h (List.mem_map.2 ⟨x, hx, of_decide_eq_true e⟩)
end
def IsIdx {α : Type} (l : List α) (f : α → Bool) (r : Int) : Prop := (r = -1 ∧ ∀ x ∈ l, f x = false) ∨ ∃ k : Nat, r = k ∧ ∃ x, l[k]? = some x ∧ f x = true ∧ ∀ y ∈ l.take k, f y = false
theorem IsIdx.any {α : Type} {l : List α} {f : α → Bool} {r : Int} (h : IsIdx l f r) : decide (0 ≤ r) = l.any f := by
 rcases h with ⟨rfl, h⟩ | ⟨k, rfl, x, hx, hf, _⟩
 ·rw [List.any_eq_false.2 (fun x hx => by rw [h x hx]; simp)]
  rfl
 ·rw [List.any_eq_true.2 ⟨x, List.mem_of_getElem? hx, hf⟩]
  simp
set_option maxHeartbeats 1000000 in
set_option maxRecDepth 100000 in
theorem indexFnS (g : FuncId) (lb : Array Value) (eg : ∀ args w, (callFunc g args).run Tryz.prog w = .ok (.enter g args) w) (f : (List UInt8) → Bool) (A : Option Addr) (n c : Nat) (l : List (List UInt8)) (w : World) (hA : Sl w 1 A n (strs l)) (hn : n ≤ 1000000000)
  (hF : ∀ x ∈ l, ∀ W, Below w.heap.size w W → Calls Tryz.prog g (#[S x] ++ lb) W fun e w' => e = .returned (.bool (f x)) ∧ Below W.heap.size W w') :
  Calls Tryz.prog 88 #[.slice A n c, .func (.func g) #[] lb] w fun e w' => ∃ r : Int, e = .returned (I r) ∧ IsIdx l f r ∧ Below w.heap.size w w' := by
 have hlen := Lib.hid (strs_count hA)
 have HA := Lib.hid hA
 have HF := Lib.hid hF
 clear hA hF
 go_enter Tryz.func88, Tryz.ntmps88
 go_wp2
 go_loopw [8] (fun i wr => ∃ k : Nat, k ≤ n ∧ i = .int .i64 k ∧ Below w.heap.size w wr ∧ Hid (∀ y ∈ l.take k, f y = false)) (fun i _ => n - (intOf i).toNat)
 case atStart => exact ⟨0, Nat.zero_le _, rfl, Below.refl _ _, Lib.hid (by simp)⟩
 case round =>
  obtain ⟨k, hk, rfl, hb, ha⟩ := hrel
  have Hb := Lib.hid hb
  by_cases hlt' : k < n
  ·obtain ⟨b, off, x, rfl, hx, x0⟩ := (HA.out.below hb).str hlt'
   have Hx := Lib.hid hx
   have C := Lib.hid (HF.out x (List.mem_of_getElem? hx) wr hb)
   clear hx hb
   rcases hd : f x with _ | _
   all_goals
    rw [hd] at C
    have Hd := Lib.hid hd
    clear hd
    go_wp2_with fail
    refine C.out.mono ?_
    rintro e w2 ⟨rfl, b2⟩
    go_wp2
   ·go_roundw
    case rel =>
     refine ⟨k + 1, by omega, by go_num, bstep Hb.out b2, Lib.hid (fun y hy => ?_)⟩
     rw [List.take_add_one, Hx.out] at hy
     rcases List.mem_append.1 hy with hy | hy
     ·exact ha.out y hy
     ·simp at hy
      rw [hy]
      exact Hd.out
    case measure => simp [intOf]; omega
   ·go_ret
    exact ⟨k, rfl, .inr ⟨k, rfl, x, Hx.out, Hd.out, ha.out⟩, bstep Hb.out b2⟩
  ·obtain rfl : k = n := by omega
   rw [List.take_of_length_le (by rw [hlen.out]; exact Nat.le_refl _)] at ha
   clear hb
   go_wp2
   go_ret
   exact ⟨-1, rfl, .inl ⟨rfl, ha.out⟩, Hb.out⟩
theorem containsFnS (g : FuncId) (lb : Array Value) (eg : ∀ args w, (callFunc g args).run Tryz.prog w = .ok (.enter g args) w) (f : (List UInt8) → Bool) (A : Option Addr) (n c : Nat) (l : List (List UInt8)) (w : World) (hA : Sl w 1 A n (strs l)) (hn : n ≤ 1000000000)
  (hF : ∀ x ∈ l, ∀ W, Below w.heap.size w W → Calls Tryz.prog g (#[S x] ++ lb) W fun e w' => e = .returned (.bool (f x)) ∧ Below W.heap.size W w') :
  Calls Tryz.prog 90 #[.slice A n c, .func (.func g) #[] lb] w fun e w' => e = .returned (.bool (l.any f)) ∧ Below w.heap.size w w' := by
 have C := Lib.hid (indexFnS g lb eg f A n c l w hA hn hF)
 clear hA hF
 go_enter Tryz.func90, Tryz.ntmps90
 go_wp2_with (go_at_call 88; refine C.out.mono ?_; rintro e w2 ⟨r, rfl, hr, b2⟩; have HR := Lib.hid hr; clear hr)
 go_ret
 exact ⟨ret_bool HR.out.any, b2⟩
set_option maxHeartbeats 1000000 in
set_option maxRecDepth 100000 in
theorem indexFnF (g : FuncId) (lb : Array Value) (eg : ∀ args w, (callFunc g args).run Tryz.prog w = .ok (.enter g args) w) (f : Fil → Bool) (A : Option Addr) (n c : Nat) (l : List Fil) (w : World) (hA : Sl w 2 A n (fls l)) (hn : n ≤ 1000000000)
  (hF : ∀ x ∈ l, ∀ W, Below w.heap.size w W → Calls Tryz.prog g (#[.agg #[S x.1, S x.2]] ++ lb) W fun e w' => e = .returned (.bool (f x)) ∧ Below W.heap.size W w') :
  Calls Tryz.prog 37 #[.slice A n c, .func (.func g) #[] lb] w fun e w' => ∃ r : Int, e = .returned (I r) ∧ IsIdx l f r ∧ Below w.heap.size w w' := by
 have hlen := Lib.hid (fls_count hA)
 have HA := Lib.hid hA
 have HF := Lib.hid hF
 clear hA hF
 go_enter Tryz.func37, Tryz.ntmps37
 go_wp2
 go_loopw [8] (fun i wr => ∃ k : Nat, k ≤ n ∧ i = .int .i64 k ∧ Below w.heap.size w wr ∧ Hid (∀ y ∈ l.take k, f y = false)) (fun i _ => n - (intOf i).toNat)
 case atStart => exact ⟨0, Nat.zero_le _, rfl, Below.refl _ _, Lib.hid (by simp)⟩
 case round =>
  obtain ⟨k, hk, rfl, hb, ha⟩ := hrel
  have Hb := Lib.hid hb
  by_cases hlt' : k < n
  ·obtain ⟨b, off, x, rfl, _, hx, x0, x1⟩ := (HA.out.below hb).fil hlt'
   have Hx := Lib.hid hx
   have C := Lib.hid (HF.out x (List.mem_of_getElem? hx) wr hb)
   clear hx hb
   rcases hd : f x with _ | _
   all_goals
    rw [hd] at C
    have Hd := Lib.hid hd
    clear hd
    go_wp2_with fail
    refine C.out.mono ?_
    rintro e w2 ⟨rfl, b2⟩
    go_wp2
   ·go_roundw
    case rel =>
     refine ⟨k + 1, by omega, by go_num, bstep Hb.out b2, Lib.hid (fun y hy => ?_)⟩
     rw [List.take_add_one, Hx.out] at hy
     rcases List.mem_append.1 hy with hy | hy
     ·exact ha.out y hy
     ·simp at hy
      rw [hy]
      exact Hd.out
    case measure => simp [intOf]; omega
   ·go_ret
    exact ⟨k, rfl, .inr ⟨k, rfl, x, Hx.out, Hd.out, ha.out⟩, bstep Hb.out b2⟩
  ·obtain rfl : k = n := by omega
   rw [List.take_of_length_le (by rw [hlen.out]; exact Nat.le_refl _)] at ha
   clear hb
   go_wp2
   go_ret
   exact ⟨-1, rfl, .inl ⟨rfl, ha.out⟩, Hb.out⟩
set_option maxRecDepth 100000 in
theorem made_any (w : World) (p m : Nat) (rc : w.cell? ⟨p, 1, none⟩ = some (.map (some m))) :
  Calls Tryz.prog 97 #[.pointer (some ⟨p, 0, none⟩)] w fun e w' => e = .returned (.bool true) ∧ w = w' := by
 have qT : ∀ (w : World) (r : Option Nat), (binOp .neq 111 (.map r) (.map none)).run Tryz.prog w = .ok (.bool (!r.isNone)) w := fun w r => Go.run_neq_map_nil w _ _ _ r Tryz.underlying111
 go_enter Tryz.func97, Tryz.ntmps97
 go_wp2
 go_ret
 exact ⟨rfl, rfl⟩
set_option maxRecDepth 100000 in
theorem named1_any (s : List UInt8) (w : World) :
  Calls Tryz.prog 144 #[S s] w fun e w' => e = .returned (.bool (!okName s)) ∧ Below w.heap.size w w' := by
 have C := Lib.hid (fun W => indexByte_any s 0 W)
 go_enter Tryz.func144, Tryz.ntmps144
 go_wp2_with (go_at_call 75; refine (C.out _).mono ?_; rintro e w' ⟨rfl, rfl⟩)
 all_goals
  go_ret
  refine ⟨ret_bool ?_, Below.refl _ _⟩
  unfold okName
  clear C
  grind
theorem named_all (l : List (List UInt8)) : (!l.any (fun s => !okName s)) = l.all okName := by
 rw [Bool.eq_iff_iff]
 simp
theorem dnamed_any (A : Option Addr) (n c : Nat) (l : List (List UInt8)) (w : World) (hA : Sl w 1 A n (strs l)) (hn : n ≤ 1000000000) :
  Calls Tryz.prog 98 #[.slice A n c] w fun e w' => e = .returned (.bool (l.all okName)) ∧ Below w.heap.size w w' := by
 have C := Lib.hid (containsFnS 144 #[] (enters_of Tryz.func144 (by kernel_rfl) rfl) (fun s => !okName s) A n c l w hA hn (fun x _ W _ => named1_any x W))
 clear hA
 go_enter Tryz.func98, Tryz.ntmps98
 go_wp2_with (go_at_call 90; refine C.out.mono ?_; rintro e w' ⟨rfl, b2⟩)
 go_ret
 exact ⟨ret_bool (by rw [← named_all]), b2⟩
theorem strs_one (w : World) (s : List UInt8) : Sl (w.alloc (.cells #[S s] 9)) 1 (some ⟨w.heap.size, 0, none⟩) 1 (strs [s]) := sl_one w 9 (S s)
theorem okName_good {s : List UInt8} (h : okName s = true) : s.length ≤ maxLen := by have := (okName_len h).2; simp only [maxLen]; omega
set_option maxHeartbeats 1000000 in
set_option maxRecDepth 100000 in
theorem dread_none (w : World) (p m n : Nat) (cap : Int) (L : List DF) (s : List UInt8) (h : DiskAt w p m n cap L) (hs : okName s = true) (hg : getF L s = none) :
  Calls Tryz.prog 56 #[.pointer (some ⟨p, 0, none⟩), S s] w fun e w' => e = .returned (.tuple #[.slice none 0 0, I 3]) ∧ Below w.heap.size w w' := by
 obtain ⟨ops, hB⟩ := h.blk
 have C1 := Lib.hid (fun W hb => made_any W p m hb)
 have C2 := Lib.hid (dnamed_any (some ⟨w.heap.size, 0, none⟩) 1 1 [s] (w.alloc (.cells #[S s] 9)) (strs_one w s) (by omega))
 have e1 : [s].all okName = true := by simp [hs]
 rw [e1] at C2
 have HB := Lib.hid hB
 have Hgd := Lib.hid (show diskC.good s from okName_good hs)
 have E1 : Hid (lk (keyF L) s = none) := Lib.hid (by rw [getF_lk, hg]; rfl)
 have HM := Lib.hid h.map
 clear h hs e1 hB hg
 go_enter Tryz.func56, Tryz.ntmps56
 go_wp2_with (first
  | (go_at_call 97; refine (C1.out _ (HB.out.cell 1)).mono ?_; rintro e w1 ⟨rfl, rfl⟩)
  | (go_at_call 98; refine C2.out.mono ?_; rintro e w2 ⟨rfl, b2⟩; have B2 := Lib.hid (bstep (balloc (Below.refl _ w) _) b2); clear b2; have rc := (HB.out.step B2.out).cell; have hm := (HM.out.step B2.out).is)
  | (at_lookup; refine wpList_look_ok _ rfl _ _ 111 rfl diskC Tryz.underlying111 ⟨none, 0, 0⟩ (Tryz.zeroH _) m n _ rfl hm s rfl Hgd.out ?_; rw [E1.out]))
 go_ret2
 exact ⟨rfl, B2.out⟩
set_option maxHeartbeats 1000000 in
set_option maxRecDepth 100000 in
theorem dread_some (w : World) (p m n : Nat) (cap : Int) (L : List DF) (s : List UInt8) (x : DF) (h : DiskAt w p m n cap L) (hg : getF L s = some x) :
  Calls Tryz.prog 56 #[.pointer (some ⟨p, 0, none⟩), S s] w fun e w' => ∃ A k c, e = .returned (.tuple #[.slice A k c, I 0]) ∧ Ow w w' 5 1 A k c (u8s x.2.2) := by
 obtain ⟨ops, hB⟩ := h.blk
 obtain ⟨hx, rfl⟩ := getF_mem hg
 have hs := h.name x hx
 have C1 := Lib.hid (fun W hb => made_any W p m hb)
 have C2 := Lib.hid (dnamed_any (some ⟨w.heap.size, 0, none⟩) 1 1 [x.1] (w.alloc (.cells #[S x.1] 9)) (strs_one w x.1) (by omega))
 have e1 : [x.1].all okName = true := by simp [hs]
 rw [e1] at C2
 have HB := Lib.hid hB
 have Hgd := Lib.hid (show diskC.good x.1 from okName_good hs)
 have E1 : Hid (lk (keyF L) x.1 = some x.2.1) := Lib.hid (by rw [getF_lk, hg]; rfl)
 have HM := Lib.hid h.map
 have hsm := h.small x hx
 have C3 := Lib.hid (fun W (hb : Below w.heap.size w W) => cloneB_any x.2.1.a x.2.1.n x.2.1.c x.2.2 W ((h.row x hx).step hb).sl (by omega))
 have E2 : Hid (diskC.vv x.2.1 = .slice x.2.1.a x.2.1.n x.2.1.c) := Lib.hid rfl
 clear h hs e1 hB hg hx hsm
 go_enter Tryz.func56, Tryz.ntmps56
 go_wp2_with (first
  | (go_at_call 97; refine (C1.out _ (HB.out.cell 1)).mono ?_; rintro e w1 ⟨rfl, rfl⟩)
  | (go_at_call 98; refine C2.out.mono ?_; rintro e w2 ⟨rfl, b2⟩; have B2 := Lib.hid (bstep (balloc (Below.refl _ w) _) b2); clear b2; have rc := (HB.out.step B2.out).cell; have hm := (HM.out.step B2.out).is)
  | (at_lookup; refine wpList_look_ok _ rfl _ _ 111 rfl diskC Tryz.underlying111 ⟨none, 0, 0⟩ (Tryz.zeroH _) m n _ rfl hm x.1 rfl Hgd.out ?_; rw [E1.out]; simp only [Option.getD_some]; rw [E2.out])
  | (go_at_call 99; refine (C3.out _ B2.out).mono ?_; rintro e w3 ⟨A3, n3, c3, rfl, hO3⟩))
 go_ret2
 exact ⟨A3, n3, c3, rfl, hO3.since B2.out⟩
set_option maxRecDepth 100000 in
theorem dOff_any (w : World) (p m n : Nat) (cap : Int) (L : List DF) (h : DiskAt w p m n cap L) :
  Calls Tryz.prog 213 #[.pointer (some ⟨p, 0, none⟩)] w fun e w' => e = .returned (.bool false) ∧ w' = w := by
 obtain ⟨ops, hB⟩ := h.blk
 have C1 := Lib.hid (made_any w p m (hB.cell 1))
 have rc := hB.cell
 clear h
 go_enter Tryz.func213, Tryz.ntmps213
 go_wp2_with (go_at_call 97; refine C1.out.mono ?_; rintro e w1 ⟨rfl, rfl⟩)
 go_ret
 exact ⟨rfl, rfl⟩
set_option maxRecDepth 100000 in
theorem dFree_any (w : World) (p m n : Nat) (cap : Int) (L : List DF) (h : DiskAt w p m n cap L) :
  Calls Tryz.prog 216 #[.pointer (some ⟨p, 0, none⟩)] w fun e w' => e = .returned (I (cap - costs L)) ∧ w' = w := by
 obtain ⟨ops, hB⟩ := h.blk
 have C1 := Lib.hid (made_any w p m (hB.cell 1))
 have rc := hB.cell
 clear h
 go_enter Tryz.func216, Tryz.ntmps216
 go_wp2_with (go_at_call 97; refine C1.out.mono ?_; rintro e w1 ⟨rfl, rfl⟩)
 go_ret
 exact ⟨rfl, rfl⟩
set_option maxRecDepth 100000 in
theorem dHas_any (w : World) (p m n : Nat) (cap : Int) (L : List DF) (s : List UInt8) (h : DiskAt w p m n cap L) (hs : s.length ≤ maxLen) :
  Calls Tryz.prog 214 #[.pointer (some ⟨p, 0, none⟩), S s] w fun e w' => e = .returned (.bool (getF L s).isSome) ∧ w' = w := by
 obtain ⟨ops, hB⟩ := h.blk
 have C1 := Lib.hid (made_any w p m (hB.cell 1))
 have rc := hB.cell
 have hm := h.map.is
 have Hgd := Lib.hid (show diskC.good s from hs)
 have E1 : Hid ((lk (keyF L) s).isSome = (getF L s).isSome) := Lib.hid (by rw [getF_lk]; simp)
 clear h hs
 rcases hg : lk (keyF L) s with _ | x
 all_goals
  have E2 := Lib.hid hg
  rw [hg] at E1
  clear hg
  go_enter Tryz.func214, Tryz.ntmps214
  go_wp2_with (first
   | (go_at_call 97; refine C1.out.mono ?_; rintro e w1 ⟨rfl, rfl⟩)
   | (at_lookup; refine wpList_look_ok _ rfl _ _ 111 rfl diskC Tryz.underlying111 ⟨none, 0, 0⟩ (Tryz.zeroH _) m n _ rfl hm s rfl Hgd.out ?_; rw [E2.out]))
  go_ret
  exact ⟨by rw [← E1.out]; rfl, rfl⟩
def costOf (L : List DF) (s : List UInt8) : Nat := match getF L s with
 | none => 0
 | some x => cost1 x
set_option maxRecDepth 100000 in
theorem dcost_any (w : World) (p m n : Nat) (cap : Int) (L : List DF) (s : List UInt8) (h : DiskAt w p m n cap L) (hs : s.length ≤ maxLen) :
  Calls Tryz.prog 270 #[.pointer (some ⟨p, 0, none⟩), S s] w fun e w' => e = .returned (I (costOf L s)) ∧ w' = w := by
 obtain ⟨ops, hB⟩ := h.blk
 have rc := hB.cell
 have hm := h.map.is
 have Hgd := Lib.hid (show diskC.good s from hs)
 rcases hg : getF L s with _ | x
 ·have E1 : Hid (lk (keyF L) s = none) := Lib.hid (by rw [getF_lk, hg]; rfl)
  have E2 : Hid (costOf L s = 0) := Lib.hid (by unfold costOf; rw [hg])
  clear h hs hg
  go_enter Tryz.func270, Tryz.ntmps270
  go_wp2_with (at_lookup; refine wpList_look_ok _ rfl _ _ 111 rfl diskC Tryz.underlying111 ⟨none, 0, 0⟩ (Tryz.zeroH _) m n _ rfl hm s rfl Hgd.out ?_; rw [E1.out])
  go_ret
  exact ⟨by rw [E2.out]; rfl, rfl⟩
 ·have E1 : Hid (lk (keyF L) s = some x.2.1) := Lib.hid (by rw [getF_lk, hg]; rfl)
  obtain ⟨hx, hxs⟩ := getF_mem hg
  have hsm := h.small x hx
  have hln : x.2.2.length = x.2.1.n := by have := ((h.row x hx).sl).1; simpa [u8s] using this
  have hk := (okName_len (h.name x hx)).2
  rw [hxs] at hk
  have E3 : Hid (costOf L s = 16 + s.length + x.2.1.n) := Lib.hid (by unfold costOf; rw [hg]; show cost1 x = _; unfold cost1; rw [hxs, hln])
  have E2 : Hid (diskC.vv x.2.1 = .slice x.2.1.a x.2.1.n x.2.1.c) := Lib.hid rfl
  clear h hs hg hx hxs hln
  go_enter Tryz.func270, Tryz.ntmps270
  go_wp2_with (at_lookup; refine wpList_look_ok _ rfl _ _ 111 rfl diskC Tryz.underlying111 ⟨none, 0, 0⟩ (Tryz.zeroH _) m n _ rfl hm s rfl Hgd.out ?_; rw [E1.out]; simp only [Option.getD_some]; rw [E2.out])
  go_ret
  exact ⟨by rw [E3.out]; congr 2, rfl⟩
def readyI (l : List (List UInt8)) : Int := if l.all okName = true then 0 else 1
def thereI (L : List DF) (l : List (List UInt8)) (s : List UInt8) : Int := if (l ++ [s]).all okName = true then (if (getF L s).isSome then 0 else 3) else 1
set_option maxRecDepth 100000 in
theorem dready_any (w : World) (p m n : Nat) (cap : Int) (L : List DF) (A : Option Addr) (k c : Nat) (l : List (List UInt8)) (h : DiskAt w p m n cap L) (hA : Sl w 1 A k (strs l)) (hk : k ≤ 1000) :
  Calls Tryz.prog 273 #[.pointer (some ⟨p, 0, none⟩), .slice A k c] w fun e w' => e = .returned (I (readyI l)) ∧ Below w.heap.size w w' := by
 obtain ⟨ops, hB⟩ := h.blk
 have C1 := Lib.hid (made_any w p m (hB.cell 1))
 have C2 := Lib.hid (dnamed_any A k c l w hA (by omega))
 have HB := Lib.hid hB
 clear h hB hA
 rcases hl : l.all okName with _ | _
 all_goals
  rw [hl] at C2
  have Hl := Lib.hid hl
  clear hl
  go_enter Tryz.func273, Tryz.ntmps273
  go_wp2_with (first
   | (go_at_call 97; refine C1.out.mono ?_; rintro e w1 ⟨rfl, rfl⟩)
   | (go_at_call 98; refine C2.out.mono ?_; rintro e w2 ⟨rfl, b2⟩; have B2 := Lib.hid b2; clear b2; have rc := (HB.out.step B2.out).cell))
  go_ret
  exact ⟨by unfold readyI; rw [Hl.out]; rfl, B2.out⟩
set_option maxHeartbeats 1000000 in
set_option maxRecDepth 100000 in
theorem dthere_any (w0 w : World) (p m n : Nat) (cap : Int) (L : List DF) (s : List UInt8) (A : Option Addr) (k c : Nat) (l : List (List UInt8)) (h : DiskAt w0 p m n cap L) (hA : Ow w0 w 9 1 A k c (strs l)) (hk : k ≤ 100) :
  Calls Tryz.prog 268 #[.pointer (some ⟨p, 0, none⟩), S s, .slice A k c] w fun e w' => e = .returned (I (thereI L l s)) ∧ Below w0.heap.size w0 w' := by
 obtain ⟨j0, hj0, hy0, hy1, hy2⟩ := info_parts Tryz.infoStr
 have HD := Lib.hid h
 have HO1 := Lib.hid (hA.alloc (.cells #[S s] 9))
 have HS1 := Lib.hid (sl_one w 9 (S s))
 have q1 : k + 1 ≤ maxLen := by simp only [maxLen]; omega
 have q2 : (k + 1) * 16 ≤ 140737488355328 := by omega
 clear h hA
 go_enter Tryz.func268, Tryz.ntmps268
 go_wp2_with (at_builtin; refine wpList_append_sl _ rfl (.tmp 11) (.tmp 13) _ rfl w0 9 j0 _ 1 16 Tryz.underlying45 hj0 hy0 hy1 hy2 rfl Nat.one_pos A k c _ rfl HO1.out _ 1 1 [S s] rfl HS1.out (one_strs [s]) q1 q2 ?_; intro A2 c2 w2 hO2 hg2 ha2; have HO2 : Hid (Ow w0 w2 9 1 A2 (k + 1) c2 (strs (l ++ [s]))) := Lib.hid (by rw [show strs (l ++ [s]) = strs l ++ [S s] by simp [strs]]; exact hO2); clear hO2 hg2 ha2)
 refine (dready_any w2 p m n cap L A2 (k + 1) c2 (l ++ [s]) (HD.out.step HO2.out.2) HO2.out.sl (by omega)).mono ?_
 rintro e w3 ⟨rfl, b3⟩
 have B3 := Lib.hid (bstep HO2.out.2 b3)
 have HD3 := HD.out.step B3.out
 obtain ⟨ops, hB⟩ := HD3.blk
 have rc := hB.cell
 have hm := HD3.map.is
 clear b3 HO1 HS1 HD3
 rcases hl : (l ++ [s]).all okName with _ | _
 ·have Hl := Lib.hid hl
  have hr : readyI (l ++ [s]) = 1 := by unfold readyI; rw [hl]; rfl
  rw [hr]
  clear hl hm hr
  go_wp2
  go_ret
  exact ⟨by unfold thereI; rw [Hl.out]; rfl, B3.out⟩
 ·have hs : okName s = true := by simp only [List.all_append, Bool.and_eq_true, List.all_cons, List.all_nil] at hl; exact hl.2.1
  have Hgd := Lib.hid (show diskC.good s from okName_good hs)
  have Hl := Lib.hid hl
  have hr : readyI (l ++ [s]) = 0 := by unfold readyI; rw [hl]; rfl
  rw [hr]
  clear hl hs hr
  rcases hg : getF L s with _ | x
  ·have E2 : Hid (lk (keyF L) s = none) := Lib.hid (by rw [getF_lk, hg]; rfl)
   have Hg := Lib.hid hg
   clear hg
   go_wp2_with (at_lookup; refine wpList_look_ok _ rfl _ _ 111 rfl diskC Tryz.underlying111 ⟨none, 0, 0⟩ (Tryz.zeroH _) m n _ rfl hm s rfl Hgd.out ?_; rw [E2.out])
   go_ret
   exact ⟨by unfold thereI; rw [if_pos Hl.out, Hg.out]; rfl, B3.out⟩
  ·have E2 : Hid (lk (keyF L) s = some x.2.1) := Lib.hid (by rw [getF_lk, hg]; rfl)
   have Hg := Lib.hid hg
   clear hg
   go_wp2_with (at_lookup; refine wpList_look_ok _ rfl _ _ 111 rfl diskC Tryz.underlying111 ⟨none, 0, 0⟩ (Tryz.zeroH _) m n _ rfl hm s rfl Hgd.out ?_; rw [E2.out])
   go_ret
   exact ⟨by unfold thereI; rw [if_pos Hl.out, Hg.out]; rfl, B3.out⟩
def dskC (m : Nat) (cap free ops : Int) : Array Value := #[I cap, .map (some m), I free, I ops, I (-1), .bool false]
def oldH (L : List DF) (s : List UInt8) : Hd := ((getF L s).map (fun x => x.2.1)).getD ⟨none, 0, 0⟩
def oldB (L : List DF) (s : List UInt8) : List UInt8 := ((getF L s).map (fun x => x.2.2)).getD []
def moreA (L : List DF) (s : List UInt8) (k : Nat) : Nat := if (getF L s).isSome then k else k + (16 + s.length)
def dropF (L : List DF) (s : List UInt8) : List DF := L.filter (fun x => !decide (x.1 = s))
def putF (L : List DF) (s : List UInt8) (hd : Hd) (b : List UInt8) : List DF := (s, hd, b) :: dropF L s
theorem getF_cons (x : DF) (L : List DF) (s : List UInt8) : getF (x :: L) s = if x.1 = s then some x else getF L s := by
 unfold getF
 rw [List.find?_cons]
 by_cases h : x.1 = s <;> simp [h]
theorem dropF_cons (x : DF) (L : List DF) (s : List UInt8) : dropF (x :: L) s = if x.1 = s then dropF L s else x :: dropF L s := by
 unfold dropF
 rw [List.filter_cons]
 by_cases h : x.1 = s <;> simp [h]
theorem dropF_none {L : List DF} {s : List UInt8} (h : s ∉ L.map (·.1)) : dropF L s = L := by
 unfold dropF
 rw [List.filter_eq_self]
 intro x hx
 have : x.1 ≠ s := fun e => h (e ▸ List.mem_map_of_mem (f := (·.1)) hx)
 simp [this]
theorem costs_drop : ∀ (L : List DF) (s : List UInt8), (L.map (·.1)).Nodup → costs (dropF L s) + costOf L s = costs L
 | [], s, _ => by simp [dropF, costs, costOf, getF]
 | x :: L, s, h => by
  rw [List.map_cons, List.nodup_cons] at h
  rw [dropF_cons]
  unfold costOf
  rw [getF_cons]
  by_cases hs : x.1 = s
  ·rw [if_pos hs, if_pos hs]
   rw [dropF_none (by rw [← hs]; exact h.1)]
   show costs L + cost1 x = cost1 x + costs L
   omega
  ·rw [if_neg hs, if_neg hs]
   have h1 := costs_drop L s h.2
   unfold costOf at h1
   show cost1 x + costs (dropF L s) + _ = cost1 x + costs L
   omega
theorem keyF_put (L : List DF) (s : List UInt8) (hd : Hd) (b : List UInt8) : keyF (putF L s hd b) = layL (keyF L) s hd := by
 unfold putF layL strike keyF dropF
 rw [List.map_cons, List.filter_map]
 rfl
theorem keyF_drop (L : List DF) (s : List UInt8) : keyF (dropF L s) = strike (keyF L) s := by
 unfold strike keyF dropF
 rw [List.filter_map]
 rfl
theorem costs_app (L : List DF) (s : List UInt8) (hd : Hd) (bs : List UInt8) (h : (L.map (·.1)).Nodup) : costs (putF L s hd (oldB L s ++ bs)) = costs L + moreA L s bs.length := by
 have h1 := costs_drop L s h
 unfold putF
 show cost1 (s, hd, oldB L s ++ bs) + costs (dropF L s) = _
 unfold costOf at h1
 unfold cost1 oldB moreA
 rcases hg : getF L s with _ | x
 ·rw [hg] at h1
  simp only at h1
  simp
  omega
 ·rw [hg] at h1
  have hx := (getF_mem hg).2
  simp only [cost1] at h1
  rw [hx] at h1
  simp
  omega
theorem oldH_row {w : World} {p m n : Nat} {cap : Int} {L : List DF} (h : DiskAt w p m n cap L) (s : List UInt8) : SlT (fun _ => True) 5 w 1 (oldH L s).a (oldH L s).n (u8s (oldB L s)) := by
 unfold oldH oldB
 rcases hg : getF L s with _ | x
 ·exact SlT.nil_
 ·exact h.row x (getF_mem hg).1
theorem oldH_len {w : World} {p m n : Nat} {cap : Int} {L : List DF} (h : DiskAt w p m n cap L) (s : List UInt8) : (oldB L s).length = (oldH L s).n := by
 have := (oldH_row h s).sl.1
 simpa [u8s] using this
theorem DiskAt.map_ne {w : World} {p m n : Nat} {cap : Int} {L : List DF} (h : DiskAt w p m n cap L) : m ≠ p := by
 obtain ⟨ops, hB⟩ := h.blk
 exact h.map.is.ne_blk hB
theorem DiskAt.put {w W w1 w' : World} {p m n : Nat} {cap : Int} {L : List DF} (h : DiskAt w p m n cap L) (hf : Fr (fun k => k = p) w W) {free ops' : Int} (hB : Blk W p 118 (dskC m cap free ops')) {s b : List UInt8} {hd : Hd} (hO : Ow W w1 5 1 hd.a hd.n hd.c (u8s b))
  (hg : w1.grownBy w' (some m)) (hM : MapL diskC w' m (n + 1) (layL (keyF L) s hd)) (hs : okName s = true) (hsm : hd.n ≤ 1000000000000) (hfree : free = cap - costs (putF L s hd b)) :
  DiskAt w' p m (n + 1) cap (putF L s hd b) ∧ Fr (fun k => k = p ∨ k = m) w w' := by
 obtain ⟨ops, hB0⟩ := h.blk
 have hmp := h.map_ne
 have hB1 := hB.step hO.2
 have hB2 := hB1.grown hg (fun e => hmp (Option.some.inj e).symm)
 have hm1 : ∀ (cs : Array Value) (fr : Nat × Nat), w1.heap[m]? ≠ some (.cells cs 5 fr) := by
  intro cs fr
  have hmW := (h.map.block (hf.block m h.map.lt hmp)).step hO.2
  exact hmW.is.no_cells cs fr
 have k1 : KeepT 5 w W := KeepT.of_fr hf (fun k cs fr e => by subst e; exact Blk.type hB0 (by decide) cs fr)
 have k2 : KeepT 5 W w1 := .of_below hO.2
 have k3 : KeepT 5 w1 w' := (KeepT.refl _ w1).grown hg (fun k e => by cases e; exact hm1)
 refine ⟨⟨⟨ops', by rw [hfree] at hB2; exact hB2⟩, by rw [keyF_put]; exact hM, fun x hx => ?_, fun x hx => ?_, fun x hx => ?_⟩, ?_⟩
 ·rcases List.mem_cons.1 hx with rfl | hx
  ·exact (hO.slT.weak (fun _ _ _ => trivial)).keep k3
  ·exact (h.row x (List.mem_filter.1 hx).1).keep (k1.trans (k2.trans k3))
 ·rcases List.mem_cons.1 hx with rfl | hx
  ·exact hs
  ·exact h.name x (List.mem_filter.1 hx).1
 ·rcases List.mem_cons.1 hx with rfl | hx
  ·exact hsm
  ·exact h.small x (List.mem_filter.1 hx).1
 ·exact ((hf.weak (fun k e => .inl e)).trans (.of_below hO.2)).trans (.of_grown hg (fun k e => .inr (Option.some.inj e).symm))
set_option maxRecDepth 100000 in
theorem aadd_any (w : World) (p : Nat) (x : Int) (cs : Array Value) (hB : Blk w p 118 cs) (hc : w.cell? ⟨p, 3, none⟩ = some (I x)) :
  Calls Tryz.prog 295 #[.pointer (some ⟨p, 3, none⟩), I 1] w fun e w' => e = .returned (I (wrap64 (x + 1))) ∧ w' = w.setCell ⟨p, 3, none⟩ (I (wrap64 (x + 1))) := by
 have hz := hB.frozen 3
 have hadd := run_call_add (P := Tryz.prog) Tryz.func299 (by kernel_rfl) (by kernel_rfl) (by kernel_rfl) .i64 (by kernel_rfl) (y := 1) (s := wrap64 (x + 1)) hc hz (by simp [go_sem, wrap64, IntKind.wrap_i64])
 go_enter Tryz.func295, Tryz.ntmps295
 go_wp2
 go_ret
 exact ⟨rfl, rfl⟩
set_option maxHeartbeats 1000000 in
set_option maxRecDepth 100000 in
theorem dspend_any (g : FuncId) (lb : Array Value) (eg : ∀ args w, (callFunc g args).run Tryz.prog w = .ok (.enter g args) w) (w : World) (p m : Nat) (cap free ops more : Int) (hB : Blk w p 118 (dskC m cap free ops)) (h1 : -4000000000000 ≤ more) (h2 : more ≤ 4000000000000) (h3 : 0 ≤ free) (h4 : free ≤ 4000000000000) (Q : World → Prop)
  (hF : ¬ (0 < more ∧ free < more) → ∀ W ops', Fr (fun k => k = p) w W → Blk W p 118 (dskC m cap (free - more) ops') → Calls Tryz.prog g lb W fun e w' => e = .returned (.tuple #[]) ∧ Q w') :
  Calls Tryz.prog 269 #[.pointer (some ⟨p, 0, none⟩), I more, .func (.func g) #[] lb] w fun e w' => (0 < more ∧ free < more ∧ e = .returned (I 4) ∧ w' = w) ∨ (¬ (0 < more ∧ free < more) ∧ e = .returned (I 0) ∧ Q w') := by
 have HF := Lib.hid hF
 have HB := Lib.hid hB
 clear hF hB
 have hways : (decide (0 < more) = true ∧ decide (free < more) = true) ∨ (decide (0 < more) = true ∧ decide (free < more) = false) ∨ decide (0 < more) = false := by
  rcases h : decide (0 < more) with _ | _ <;> rcases k : decide (free < more) with _ | _ <;> simp
 rcases hways with ⟨d1, d2⟩ | ⟨d1, d2⟩ | d1
 ·have rc := HB.out.cell
  have hd1 := Lib.hid (of_decide_eq_true d1)
  have hd2 := Lib.hid (of_decide_eq_true d2)
  simp only [dskC] at rc
  clear HF
  go_enter Tryz.func269, Tryz.ntmps269
  go_wp2
  go_ret
  exact .inl ⟨hd1.out, hd2.out, rfl, rfl⟩
 all_goals
  have hno : ¬ (0 < more ∧ free < more) := fun h => by simp_all
  have Hno := Lib.hid hno
  have hf := HF.out hno
  have HF2 := Lib.hid hf
  have rc := HB.out.cell
  have rf := HB.out.frozen
  simp only [dskC] at rc
  obtain ⟨w1, hw1⟩ : ∃ w1, w1 = w.setCell ⟨p, 2, none⟩ (I (free - more)) := ⟨_, rfl⟩
  have hB1 : Blk w1 p 118 (dskC m cap (free - more) ops) := by rw [hw1]; exact Blk.set_ HB.out 2 _
  have CA := Lib.hid (aadd_any w1 p ops _ hB1 (hB1.cell 3))
  clear HF hf hno
  go_enter Tryz.func269, Tryz.ntmps269
  go_wp2_with fail
  rw [show w.setCell ⟨p, 2, none⟩ (Value.int IntKind.i64 (free - more)) = w1 from hw1.symm]
  refine CA.out.mono ?_
  rintro e w2 ⟨rfl, hw2⟩
  have hB2 : Blk w2 p 118 (dskC m cap (free - more) (wrap64 (ops + 1))) := by rw [hw2]; exact Blk.set_ hB1 3 _
  have hfr : Fr (fun k => k = p) w w2 := by rw [hw2, hw1]; exact ((Fr.refl (fun k => k = p) w).setCell rfl _).setCell rfl _
  have CF := Lib.hid (HF2.out w2 _ hfr hB2)
  clear hw1 hw2 hB1 hB2 hfr rc rf CA HF2
  go_wp2_with fail
  refine CF.out.mono ?_
  rintro e w3 ⟨rfl, hq⟩
  have HQ := Lib.hid hq
  clear hq
  go_wp2
  go_ret
  exact .inr ⟨Hno.out, rfl, HQ.out⟩
set_option maxRecDepth 100000 in
theorem need_any (w : World) (s : List UInt8) (n : Nat) (hs : s.length ≤ 1000000) (hn : n ≤ 1000000000) :
  Calls Tryz.prog 217 #[S s, I n] w fun e w' => e = .returned (I (16 + (s.length + 1) + n)) ∧ w' = w := by
 go_enter Tryz.func217, Tryz.ntmps217
 go_wp2
 go_ret
 exact ⟨by simp, rfl⟩
set_option maxRecDepth 100000 in
theorem chunks_any (w : World) (A : Option Addr) (n c : Nat) :
  Calls Tryz.prog 218 #[.slice A n c] w fun e w' => e = .returned (.func (.func 272) #[] #[.pointer (some ⟨w.heap.size, 0, none⟩)]) ∧ w' = w.alloc (.cells #[.slice A n c] 38) := by
 go_enter Tryz.func218, Tryz.ntmps218
 go_wp2
 go_ret
 exact ⟨rfl, rfl⟩
end Go.Proofs.YtcednfmkiaelnaaGreatDoor
namespace Go.Proofs.YtcednfmkiaelnaaGreatDoor
open Go.RowKit Go.Shelf
attribute [local go_sem] Oper.semAt_some
def encK (g off n c : Nat) (i : Nat) : Array Value := #[.slice (some ⟨g, off + 64 * i, none⟩) (min (n - 64 * i) 64) (c - 64 * i)]
def TK (n : Nat) (xs : List Nat) : Prop := xs = List.range xs.length ∧ 64 * xs.length < n + 64
def SK (n : Nat) (xs : List Nat) : Prop := xs = List.range xs.length ∧ n ≤ 64 * xs.length ∧ 64 * xs.length < n + 64
def lenAt (w : World) (B : Nat) : Nat := match w.cell? ⟨B, 0, none⟩ with
 | some (.slice _ n _) => n
 | _ => 0
theorem lenAt_of {w : World} {B : Nat} {A : Option Addr} {n c : Nat} (h : Blk w B 38 #[.slice A n c]) : lenAt w B = n := by
 unfold lenAt
 rw [h.cell 0]
 rfl
def BoxK (w : World) (B g off n c k : Nat) : Prop := ∃ (A : Option Addr) (c' : Nat), Blk w B 38 #[.slice A (n - 64 * k) c'] ∧ (64 * k < n → A = some ⟨g, off + 64 * k, none⟩ ∧ c' = c - 64 * k)
theorem cutA_at (g o cr j : Nat) (h : cr ≠ j) : cutA (some ⟨g, o, none⟩) cr j 1 = some ⟨g, o + j, none⟩ := by
 unfold cutA
 rw [if_neg h]
 simp [Addr.add]
set_option maxRecDepth 100000 in
set_option maxHeartbeats 2000000 in
theorem chunks1_in (d : Nat) (hd : 1 ≤ d) (l Bn g off n c : Nat) (hn : 0 < n) (hnc : n ≤ c) (_hc : c ≤ maxLen) (J Jx : List Nat → World → Prop)
  (hJS : ∀ s W1 v, J s W1 → J s (W1.setCell ⟨Bn, 0, none⟩ v))
  (hY : ∀ pre x W1, J pre W1 → TK n (pre ++ [x]) → YieldAt Fence.wide (d - 1) Tryz.prog l (encK g off n c x) W1 fun e W' =>
   (e = .returned (.bool true) ∧ J (pre ++ [x]) W' ∧ W'.heap[Bn]? = W1.heap[Bn]?) ∨ (e = .returned (.bool false) ∧ Jx (pre ++ [x]) W'))
  (W : World) (hB : Blk W Bn 38 #[.slice (some ⟨g, off, none⟩) n c]) (h0 : J [] W) :
  CallsIn Fence.wide d Tryz.prog 272 #[.func (.yield l) #[] #[], .pointer (some ⟨Bn, 0, none⟩)] W fun e W' => (∃ v, e = .returned v) ∧ ((∃ zs, SK n zs ∧ J zs W') ∨ (∃ pre : List Nat, True ∧ Jx pre W')) := by
 unfold maxLen at _hc
 have HB := Lib.hid hB
 have HY := Lib.hid hY
 have HJS := Lib.hid hJS
 clear hY hB hJS
 refine callsIn_of_wp Tryz.func272 rfl trivial ?_ rfl
 simp only [Tryz.ntmps272, List.size_toArray, List.length_cons, List.length_nil, Nat.reduceAdd, Nat.reduceSub, Array.replicate_succ, Array.replicate_zero, List.push_toArray, List.append_toArray, List.nil_append, List.cons_append]
 gi_wp2
 gi_loopw [3] (fun i wr => ∃ k : Nat, 64 * k < n + 64 ∧ i = .bool (decide (k = 0)) ∧ J (List.range k) wr ∧ Hid (BoxK wr Bn g off n c k)) (fun _ wr => lenAt wr Bn)
 case atStart => exact ⟨0, by omega, rfl, h0, Lib.hid ⟨_, c, by simpa using HB.out, fun _ => ⟨rfl, rfl⟩⟩⟩
 case round =>
  obtain ⟨k, hk, rfl, hJs, hbx⟩ := hrel
  obtain ⟨A, c', hb, hA⟩ := hbx.out
  have HBk := Lib.hid hb
  have rb := hb.cell
  have rf := hb.frozen
  have HJs := Lib.hid hJs
  clear hb hJs
  by_cases hlt : 64 * k < n
  ·obtain ⟨rfl, rfl⟩ := hA hlt
   obtain ⟨r, hr⟩ : ∃ r, n = 64 * k + r := ⟨n - 64 * k, by omega⟩
   obtain ⟨cr, hcr⟩ : ∃ cr, c = 64 * k + cr := ⟨c - 64 * k, by omega⟩
   have e1 : n - 64 * k = r := by omega
   have e2 : c - 64 * k = cr := by omega
   have hr0 : 0 < r := by omega
   have hT : TK n (List.range k ++ [k]) := ⟨by rw [List.length_append, List.length_range, List.length_singleton, List.range_succ], by simp; omega⟩
   obtain ⟨fn, tmps, assign, body, hy, hR⟩ := HY.out _ k wr HJs.out hT
   dsimp only [encK] at hy
   rw [e1, e2] at hy
   rw [e1, e2] at rb HBk
   have HR := Lib.hid hR
   have hcr0 : cr ≠ 0 := by omega
   obtain ⟨m, hm⟩ : ∃ m, m = min r 64 := ⟨_, rfl⟩
   rw [← hm] at hy
   have hmi : min (r : Int) 64 = (m : Int) := by omega
   have hmr : m ≤ r := by omega
   have hmc : m ≤ cr := by omega
   have Hm := Lib.hid (show 0 < m ∧ (m = r ∧ r ≤ 64 ∨ m = 64 ∧ 64 < r) by omega)
   have Hn := Lib.hid hr
   have Hc := Lib.hid hcr
   have kc := fun V : World => run_cut_h (P := Tryz.prog) V Tryz.underlying38 Tryz.sizeU8 (some ⟨g, off + 64 * k, none⟩) r cr .i64 m hmc
   have kd := fun V : World => run_cut_l (P := Tryz.prog) V Tryz.underlying38 Tryz.sizeU8 (some ⟨g, off + 64 * k, none⟩) r cr .i64 m hmr
   rw [cutA_at _ _ _ _ hcr0, Nat.add_zero] at kc
   have hfr : Blk wr Bn 38 #[.slice (some ⟨g, off + 64 * k, none⟩) r cr] := HBk.out
   have Hfr := Lib.hid hfr
   clear hr hcr e1 e2 hT hR hA hk hbx hm hfr HBk rf
   have hd0 : decide (k = 0) = true ∨ decide (k = 0) = false := by cases decide (k = 0) <;> simp
   rcases hd0 with hd0 | hd0
   all_goals
    gi_wp2
    refine HR.out.mono ?_
    rintro e W3 (⟨rfl, hJ3, hB3⟩ | ⟨rfl, hJx3⟩)
    ·have hb3 : Blk W3 Bn 38 #[.slice (some ⟨g, off + 64 * k, none⟩) r cr] := hB3.trans Hfr.out
     have r3 := hb3.cell
     have f3 := hb3.frozen
     have Hb3 := Lib.hid hb3
     have HJ3 := Lib.hid hJ3
     clear hb3 hB3 hJ3 rb
     gi_wp2
     go_roundw
     case rel =>
      have h1 := HJS.out _ _ (.slice (cutA (some ⟨g, off + 64 * k, none⟩) cr m 1) (r - m) (cr - m)) HJ3.out
      rw [← List.range_succ] at h1
      have h2 := Hm.out
      have h3 := Hn.out
      have h4 := Hc.out
      refine ⟨k + 1, by omega, by simp, h1, Lib.hid ⟨cutA (some ⟨g, off + 64 * k, none⟩) cr m 1, cr - m, ?_, fun h => ?_⟩⟩
      ·have h5 := Hb3.out.set_ 0 (.slice (cutA (some ⟨g, off + 64 * k, none⟩) cr m 1) (r - m) (cr - m))
       rw [show n - 64 * (k + 1) = r - m by omega]
       exact h5
      ·obtain rfl : m = 64 := by omega
       exact ⟨by rw [cutA_at _ _ _ _ (by omega)]; congr 2, by omega⟩
     case measure =>
      rw [lenAt_of Hfr.out, lenAt_of (Hb3.out.set_ 0 _)]
      have h2 := Hm.out
      omega
    ·gi_wp2
     refine bodyPost_ret (results_none rfl _ _ _) rfl ?_
     exact ⟨⟨_, rfl⟩, .inr ⟨_, trivial, hJx3⟩⟩
  ·have hk0 : decide (k = 0) = false := decide_eq_false (by omega)
   have e1 : n - 64 * k = 0 := by omega
   rw [e1] at rb
   have Hk := Lib.hid (show n ≤ 64 * k ∧ 64 * k < n + 64 by omega)
   clear e1 hA hk hlt hbx
   gi_wp2
   go_end0
   exact ⟨⟨_, rfl⟩, .inl ⟨_, ⟨by simp, by simp only [List.length_range]; exact Hk.out⟩, HJs.out⟩⟩
theorem chunks_stops (d : Nat) (hd : 1 ≤ d) (Bn g off n c : Nat) (hn : 0 < n) (hnc : n ≤ c) (hc : c ≤ maxLen) (w : World) (hB : Blk w Bn 38 #[.slice (some ⟨g, off, none⟩) n c]) :
  SeqStopsS Fence.wide d Tryz.prog 272 #[.pointer (some ⟨Bn, 0, none⟩)] (encK g off n c) Bn (TK n) (SK n) (fun _ => True) w :=
 fun l J Jx W hW _ _ hJS hY h0 => chunks1_in d hd l Bn g off n c hn hnc hc J Jx hJS hY W (hB.step hW) h0
end Go.Proofs.YtcednfmkiaelnaaGreatDoor
