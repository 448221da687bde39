/-
  Base texts, merged by a program (mkkit.py): words for slices, blocks, maps, regions that draw their order, the plain law of paths and of an index. Conditions: each lemma's own.
-/
import Derived.Test.YtphnfcgdpdimbaaGreatDoorKitX
import Derived.Test.YtphnfcgdpdimbaaGreatDoorKitW
import Derived.Test.YtphnfcgdpdimbaaGreatDoorKitD
import Derived.Shelf.Abstract
/-
  work.chosen at texts and at changes, whatever closure. Conditions: the list can be read, no more than 2000000; the closure tells a bool of each thing and turns nothing.
-/
namespace Go.Proofs.YtphnfcgdpdimbaaGreatDoor
open Go.RowKit

theorem strs_snoc (l : List (List UInt8)) (x : List UInt8) : strs (l ++ [x]) = strs l ++ strs [x] := by simp [strs]
theorem cgs_snoc (l : List Chg3) (x : Chg3) : cgs (l ++ [x]) = cgs l ++ cgs [x] := cgs_append l [x]
set_option maxHeartbeats 4000000 in
set_option maxRecDepth 100000 in
theorem chosenS_any (g : FuncId) (lb : Array Value) (eg : ∀ args w, (callFunc g args).run Tryz.prog w = .ok (.enter g args) w) (f : (List UInt8) → Bool) (A : Option Addr) (n c : Nat) (l : List (List UInt8)) (w : World) (hA : Sl w 1 A n (strs l)) (hn : n ≤ 2000000)
    (hF : ∀ x ∈ l, ∀ W, Below w.heap.size w W → Calls Tryz.prog g (#[S x] ++ lb) W fun e w' => e = .returned (.bool (f x)) ∧ Below W.heap.size W w') :
    Calls Tryz.prog 69 #[.slice A n c, .func (.func g) #[] lb] w fun e w' => ∃ A1 n1 c1, e = .returned (.slice A1 n1 c1) ∧ n1 = (l.filter f).length ∧ Ow w w' 9 1 A1 n1 c1 (strs (l.filter f)) := by
  obtain ⟨i0, hi0, hz0, hz1, hz2⟩ := info_parts Tryz.infoStr
  have hlen := Lib.hid (strs_count hA)
  have HA := Lib.hid hA
  have HF := Lib.hid hF
  clear hA hF
  go_enter Tryz.func69, Tryz.ntmps69
  go_wp2
  go_loopw [5, 10] (fun s5 s10 wr => ∃ (k n1 c1 : Nat) (A1 : Option Addr), k ≤ n ∧ s10 = .int .i64 k ∧ s5 = .slice A1 n1 c1 ∧ Hid (n1 = ((l.take k).filter f).length) ∧ Hid (Ow w wr 9 1 A1 n1 c1 (strs ((l.take k).filter f)))) (fun _ s10 _ => n - (intOf s10).toNat)
  case atStart => exact ⟨0, 0, 0, none, Nat.zero_le _, rfl, rfl, Lib.hid (by simp), Lib.hid (by simp only [List.take_zero, List.filter_nil]; exact Ow.nil_ (Below.refl _ _))⟩
  case round =>
    obtain ⟨k, n1, c1, A1, hk, rfl, rfl, H1, HO⟩ := hrel
    by_cases hlt : k < n
    · obtain ⟨b, off, x, rfl, hx, x0⟩ := (HA.out.below HO.out.2).str hlt
      have Hx := Lib.hid hx
      have hb1 := HO.out.2
      have HO1 := HO
      have C := Lib.hid (HF.out x (List.mem_of_getElem? hx) _ hb1)
      have hbd1 : n1 ≤ 2000000 := by have := H1.out; have := List.length_filter_le f (l.take k); rw [List.length_take] at this; omega
      clear hx hb1
      rcases hd : f x with _ | _
      · rw [hd] at C
        have HE1 : Hid ((l.take (k + 1)).filter f = (l.take k).filter f) := Lib.hid (by rw [List.take_add_one, Hx.out, List.filter_append]; simp [hd])
        clear hd
        go_wp2_with fail
        refine C.out.mono ?_
        rintro e w2 ⟨rfl, b2⟩
        have HO2 := Lib.hid (HO1.out.keep b2)
        clear b2
        go_wp2
        go_roundw
        case rel => exact ⟨k + 1, n1, c1, A1, hlt, by go_num, rfl, Lib.hid (by rw [HE1.out]; exact H1.out), Lib.hid (by rw [HE1.out]; exact HO2.out)⟩
        case measure => simp [intOf]; omega
      · rw [hd] at C
        have HE1 : Hid ((l.take (k + 1)).filter f = (l.take k).filter f ++ [x]) := Lib.hid (by rw [List.take_add_one, Hx.out, List.filter_append]; simp [hd])
        have q1 := Lib.hid (show n1 + 1 ≤ maxLen by simp only [maxLen]; omega)
        have q2 := Lib.hid (show (n1 + 1) * 16 ≤ 140737488355328 by omega)
        clear hd
        go_wp2_with fail
        refine C.out.mono ?_
        rintro e w2 ⟨rfl, b2⟩
        have HS6 := Lib.hid (sl_one w2 9 (S x))
        have HO2 := Lib.hid ((HO1.out.keep b2).alloc (.cells #[S x] 9))
        clear b2
        go_wp2_with (at_builtin; refine wpList_append_sl _ rfl (.tmp 17) (.tmp 19) _ rfl w 9 i0 _ 1 16 Tryz.underlying52 hi0 hz0 hz1 hz2 rfl (by decide) A1 n1 c1 _ rfl HO2.out _ 1 1 (strs [x]) rfl HS6.out (one_strs _) q1.out q2.out ?_; intro A5 c5 w5 hO5 hg5 hat5; have HO5 := Lib.hid hO5; clear hO5 hg5 hat5)
        go_roundw
        case rel => exact ⟨k + 1, n1 + 1, c5, A5, hlt, by go_num, rfl, Lib.hid (by rw [HE1.out, List.length_append, ← H1.out]; rfl), Lib.hid (by rw [HE1.out, strs_snoc]; exact HO5.out)⟩
        case measure => simp [intOf]; omega
    · obtain rfl : k = n := by omega
      rw [List.take_of_length_le (by rw [hlen.out]; exact Nat.le_refl _)] at H1 HO
      go_wp2
      go_ret
      exact ⟨A1, n1, c1, rfl, H1.out, HO.out⟩
set_option maxHeartbeats 4000000 in
set_option maxRecDepth 100000 in
theorem chosenC_any (g : FuncId) (lb : Array Value) (eg : ∀ args w, (callFunc g args).run Tryz.prog w = .ok (.enter g args) w) (f : Chg3 → Bool) (A : Option Addr) (n c : Nat) (l : List Chg3) (w : World) (hA : Sl w 3 A n (cgs l)) (hn : n ≤ 2000000)
    (hF : ∀ x ∈ l, ∀ W, Below w.heap.size w W → Calls Tryz.prog g (#[.agg #[S x.1, S x.2.1, S x.2.2]] ++ lb) W fun e w' => e = .returned (.bool (f x)) ∧ Below W.heap.size W w') :
    Calls Tryz.prog 73 #[.slice A n c, .func (.func g) #[] lb] w fun e w' => ∃ A1 n1 c1, e = .returned (.slice A1 n1 c1) ∧ n1 = (l.filter f).length ∧ Ow w w' 124 3 A1 n1 c1 (cgs (l.filter f)) := by
  obtain ⟨i0, hi0, hz0, hz1, hz2⟩ := info_parts Tryz.infoChg
  have hlen := Lib.hid (cgs_count hA)
  have HA := Lib.hid hA
  have HF := Lib.hid hF
  clear hA hF
  go_enter Tryz.func73, Tryz.ntmps73
  go_wp2
  go_loopw [5, 10] (fun s5 s10 wr => ∃ (k n1 c1 : Nat) (A1 : Option Addr), k ≤ n ∧ s10 = .int .i64 k ∧ s5 = .slice A1 n1 c1 ∧ Hid (n1 = ((l.take k).filter f).length) ∧ Hid (Ow w wr 124 3 A1 n1 c1 (cgs ((l.take k).filter f)))) (fun _ s10 _ => n - (intOf s10).toNat)
  case atStart => exact ⟨0, 0, 0, none, Nat.zero_le _, rfl, rfl, Lib.hid (by simp), Lib.hid (by simp only [List.take_zero, List.filter_nil]; exact Ow.nil_ (Below.refl _ _))⟩
  case round =>
    obtain ⟨k, n1, c1, A1, hk, rfl, rfl, H1, HO⟩ := hrel
    by_cases hlt : k < n
    · obtain ⟨b, off, x, rfl, _, hx, x0, x1, x2⟩ := (HA.out.below HO.out.2).cg hlt
      have Hx := Lib.hid hx
      have hB := Blk.new wr 124 #[S x.1, S x.2.1, S x.2.2]
      have HB := Lib.hid hB
      have hb1 := balloc (HO.out.2) (.cells #[S x.1, S x.2.1, S x.2.2] 124)
      have HO1 := Lib.hid (HO.out.alloc (.cells #[S x.1, S x.2.1, S x.2.2] 124))
      have C := Lib.hid (HF.out x (List.mem_of_getElem? hx) _ hb1)
      have hbd1 : n1 ≤ 2000000 := by have := H1.out; have := List.length_filter_le f (l.take k); rw [List.length_take] at this; omega
      clear hx hb1 hB
      rcases hd : f x with _ | _
      · rw [hd] at C
        have HE1 : Hid ((l.take (k + 1)).filter f = (l.take k).filter f) := Lib.hid (by rw [List.take_add_one, Hx.out, List.filter_append]; simp [hd])
        clear hd
        go_wp2_with fail
        refine C.out.mono ?_
        rintro e w2 ⟨rfl, b2⟩
        have HO2 := Lib.hid (HO1.out.keep b2)
        clear b2
        go_wp2
        go_roundw
        case rel => exact ⟨k + 1, n1, c1, A1, hlt, by go_num, rfl, Lib.hid (by rw [HE1.out]; exact H1.out), Lib.hid (by rw [HE1.out]; exact HO2.out)⟩
        case measure => simp [intOf]; omega
      · rw [hd] at C
        have HE1 : Hid ((l.take (k + 1)).filter f = (l.take k).filter f ++ [x]) := Lib.hid (by rw [List.take_add_one, Hx.out, List.filter_append]; simp [hd])
        have q1 := Lib.hid (show n1 + 1 ≤ maxLen by simp only [maxLen]; omega)
        have q2 := Lib.hid (show (n1 + 1) * 48 ≤ 140737488355328 by omega)
        clear hd
        go_wp2_with fail
        refine C.out.mono ?_
        rintro e w2 ⟨rfl, b2⟩
        have r2 := (HB.out.step b2).cell
        have HS6 := Lib.hid (sl_cg w2 124 x)
        have HO2 := Lib.hid ((HO1.out.keep b2).alloc (.cells #[S x.1, S x.2.1, S x.2.2] 124))
        clear b2
        go_wp2_with (at_builtin; refine wpList_append_sl _ rfl (.tmp 17) (.tmp 19) _ rfl w 124 i0 _ 3 48 Tryz.underlying59 hi0 hz0 hz1 hz2 rfl (by decide) A1 n1 c1 _ rfl HO2.out _ 1 1 (cgs [x]) rfl HS6.out (one_cgs _) q1.out q2.out ?_; intro A5 c5 w5 hO5 hg5 hat5; have HO5 := Lib.hid hO5; clear hO5 hg5 hat5)
        go_roundw
        case rel => exact ⟨k + 1, n1 + 1, c5, A5, hlt, by go_num, rfl, Lib.hid (by rw [HE1.out, List.length_append, ← H1.out]; rfl), Lib.hid (by rw [HE1.out, cgs_snoc]; exact HO5.out)⟩
        case measure => simp [intOf]; omega
    · obtain rfl : k = n := by omega
      rw [List.take_of_length_le (by rw [hlen.out]; exact Nat.le_refl _)] at H1 HO
      go_wp2
      go_ret
      exact ⟨A1, n1, c1, rfl, H1.out, HO.out⟩
end Go.Proofs.YtphnfcgdpdimbaaGreatDoor

/-
  work.inWay and its closures. Conditions: the changes can be read; paths are no longer than 2147483648 bytes.
-/
namespace Go.Proofs.YtphnfcgdpdimbaaGreatDoor
open Go.RowKit Go.Shelf
open PathLaw (under)

def inWay1 (p : List UInt8) (c : Chg3) : Bool := decide (c.1 = p) || (under c.1 p || under p c.1)
def inWayB (l : List Chg3) (p : List UInt8) : Bool := l.any (inWay1 p)
set_option maxHeartbeats 1000000 in
set_option maxRecDepth 100000 in
theorem inway11_any (x : Chg3) (p : List UInt8) (g : Nat) (w : World) (hg : w.cell? ⟨g, 0, none⟩ = some (S p)) (hp : p.length ≤ 2147483648) (hx : x.1.length ≤ 2147483648) :
    Calls Tryz.prog 143 #[.agg #[S x.1, S x.2.1, S x.2.2], .pointer (some ⟨g, 0, none⟩)] w fun e w' => e = .returned (.bool (inWay1 p x)) ∧ Below w.heap.size w w' := by
  have hlt : g < w.heap.size := World.block_lt_of_cell? _ _ hg
  have hne : w.heap.size ≠ g := by omega
  have C1 := Lib.hid (fun W => under_any x.1 p W hp)
  have C2 := Lib.hid (fun W => under_any p x.1 W hx)
  have hways : (x.1 == p) = true ∨ ((x.1 == p) = false ∧ under x.1 p = true) ∨ ((x.1 == p) = false ∧ under x.1 p = false) := by
    rcases h1 : (x.1 == p) with _ | _ <;> rcases h2 : under x.1 p with _ | _ <;> simp
  rcases hways with d1 | ⟨d1, d2⟩ | ⟨d1, d2⟩
  · have Hd := Lib.hid (beq_iff_eq.1 d1)
    go_enter Tryz.func143, Tryz.ntmps143
    go_wp2
    go_ret
    exact ⟨ret_bool (by unfold inWay1; simp [Hd.out]), balloc (Below.refl _ w) _⟩
  all_goals
    have Hd := Lib.hid (beq_eq_false_iff_ne.1 d1)
    have Hd2 := Lib.hid d2
    rw [d2] at C1
    clear d2
    go_enter Tryz.func143, Tryz.ntmps143
    go_wp2_with fail
    refine (C1.out _).mono ?_
    rintro e w1 ⟨rfl, rfl⟩
  · go_wp2
    go_ret
    exact ⟨ret_bool (by unfold inWay1; simp [Hd2.out]), balloc (Below.refl _ w) _⟩
  · go_wp2_with fail
    refine (C2.out _).mono ?_
    rintro e w1 ⟨rfl, rfl⟩
    go_wp2
    go_ret
    exact ⟨ret_bool (by unfold inWay1; simp [Hd.out, Hd2.out]), balloc (Below.refl _ w) _⟩
set_option maxRecDepth 100000 in
theorem inway1_any (A : Option Addr) (n c : Nat) (l : List Chg3) (p : List UInt8) (g : Nat) (w : World) (hg : w.cell? ⟨g, 0, none⟩ = some (.slice A n c)) (hA : Sl w 3 A n (cgs l)) (hn : n ≤ 1000000000) (hp : p.length ≤ 2147483648) (hl : ∀ x ∈ l, x.1.length ≤ 2147483648) :
    Calls Tryz.prog 141 #[S p, .pointer (some ⟨g, 0, none⟩)] w fun e w' => e = .returned (.bool (inWayB l p)) ∧ Below w.heap.size w w' := by
  have hlt : g < w.heap.size := World.block_lt_of_cell? _ _ hg
  have hB := (Blk.new w 9 #[S p]).cell 0
  have C := Lib.hid (containsFnC 143 #[.pointer (some ⟨w.heap.size, 0, none⟩)] (enters_of Tryz.func143 (by kernel_rfl) rfl) (inWay1 p) A n c l (w.alloc (.cells #[S p] 9)) (hA.alloc _) hn
    (fun x hx W hb => inway11_any x p w.heap.size W ((hb.cell (p := ⟨w.heap.size, 0, none⟩) (by simp)).trans hB) hp (hl x hx)))
  clear hB hA hl
  go_enter Tryz.func141, Tryz.ntmps141
  go_wp2_with fail
  refine C.out.mono ?_
  rintro e w2 ⟨rfl, b2⟩
  have B2 := Lib.hid (bstep (balloc (Below.refl _ w) _) b2)
  clear b2
  go_wp2
  go_ret
  exact ⟨rfl, B2.out⟩
set_option maxRecDepth 100000 in
theorem inway_any (A : Option Addr) (n c : Nat) (w : World) :
    Calls Tryz.prog 68 #[.slice A n c] w fun e w' => e = .returned (.func (.func 141) #[] #[.pointer (some ⟨w.heap.size, 0, none⟩)]) ∧ w' = w.alloc (.cells #[.slice A n c] 59) := by
  go_enter Tryz.func68, Tryz.ntmps68
  go_wp2
  go_ret
  exact ⟨rfl, rfl⟩
end Go.Proofs.YtphnfcgdpdimbaaGreatDoor

/-
  tree.Find: the id of a path's first file. Condition: the files read as a list, no more than 1000000000.
-/
namespace Go.Proofs.YtphnfcgdpdimbaaGreatDoor
open Go.RowKit Go.Shelf
open DiffLaw (fid)

set_option maxRecDepth 100000 in
theorem find1F_any (f : Fil) (path : List UInt8) (B : Nat) (w : World) (hB : w.cell? ⟨B, 0, none⟩ = some (S path)) :
    Calls Tryz.prog 145 #[.agg #[S f.1, S f.2], .pointer (some ⟨B, 0, none⟩)] w fun e w' => e = .returned (.bool (decide (f.1 = path))) ∧ Below w.heap.size w w' := by
  have hlt : B < w.heap.size := World.block_lt_of_cell? _ _ hB
  have hne : w.heap.size ≠ B := by omega
  go_enter Tryz.func145, Tryz.ntmps145
  go_wp2
  go_ret
  refine ⟨ret_bool ?_, balloc (Below.refl _ w) _⟩
  rw [Bool.eq_iff_iff]
  simp
theorem fid_idx {l : List Fil} {p : List UInt8} {r : Int} (h : IsIdx l (fun f => decide (f.1 = p)) r) : (r = -1 ∧ fid l p = []) ∨ ∃ k : Nat, r = k ∧ ∃ x, l[k]? = some x ∧ fid l p = x.2 := by
  rcases h with ⟨h1, h2⟩ | ⟨k, h1, x, hx, hf, hb⟩
  · exact .inl ⟨h1, DiffLaw.fid_none (fun hm => by
      obtain ⟨f, hf, e⟩ := List.mem_map.1 hm
      exact of_decide_eq_false (h2 f hf) e)⟩
  · refine .inr ⟨k, h1, x, hx, ?_⟩
    have e : l = l.take k ++ x :: l.drop (k + 1) := by
      obtain ⟨h3, h4⟩ := List.getElem?_eq_some_iff.1 hx
      rw [← h4, ← List.drop_eq_getElem_cons h3, List.take_append_drop]
    rw [e, DiffLaw.fid_append _ _ _ (fun hm => by
      obtain ⟨f, hf, e⟩ := List.mem_map.1 hm
      exact of_decide_eq_false (hb f hf) e)]
    unfold DiffLaw.fid
    rw [if_pos (of_decide_eq_true hf)]
set_option maxRecDepth 100000 in
set_option maxHeartbeats 1000000 in
theorem treeFind_any (A : Option Addr) (n c : Nat) (l : List Fil) (path : List UInt8) (w : World) (hA : Sl w 2 A n (fls l)) (hn : n ≤ 1000000000) :
    Calls Tryz.prog 71 #[.slice A n c, S path] w fun e w' => e = .returned (S (fid l path)) ∧ Below w.heap.size w w' := by
  have hB := (Blk.new w 9 #[S path]).cell 0
  have HA := Lib.hid hA
  have C := Lib.hid (indexFnF 145 #[.pointer (some ⟨w.heap.size, 0, none⟩)] (enters_of Tryz.func145 (by kernel_rfl) rfl) (fun f => decide (f.1 = path)) A n c l (w.alloc (.cells #[S path] 9)) (hA.alloc _) hn
    (fun x _ W hb => find1F_any x path w.heap.size W ((hb.cell (p := ⟨w.heap.size, 0, none⟩) (by simp)).trans hB)))
  have hl := fls_count hA
  have Hl := Lib.hid hl
  clear hA hB hl
  go_enter Tryz.func71, Tryz.ntmps71
  go_wp2_with fail
  refine C.out.mono ?_
  rintro e w2 ⟨r, rfl, hr, b2⟩
  have B2 := Lib.hid (bstep (balloc (Below.refl _ w) _) b2)
  rcases fid_idx hr with ⟨rfl, hf⟩ | ⟨k, rfl, x, hx, hf⟩ <;> clear hr b2
  · have Hf := Lib.hid hf
    clear hf
    go_wp2
    go_ret
    exact ⟨by rw [Hf.out]; rfl, B2.out⟩
  · have Hf := Lib.hid hf
    have hk : k < n := by rw [← Hl.out]; exact (List.getElem?_eq_some_iff.1 hx).1
    obtain ⟨b, off, y, rfl, _, hy, y0, y1⟩ := (HA.out.below B2.out).fil hk
    obtain rfl : y = x := Option.some.inj (hy.symm.trans hx)
    clear hf hx hy hn
    go_wp2
    go_ret
    exact ⟨by rw [Hf.out]; rfl, B2.out⟩
end Go.Proofs.YtphnfcgdpdimbaaGreatDoor

/-
  The closures of work.Steps. Conditions: changes and files can be read; paths are no longer than 2147483648 bytes.
-/
namespace Go.Proofs.YtphnfcgdpdimbaaGreatDoor
open Go.RowKit
open DiffLaw (fid)

def newB (x : Chg3) : Bool := !decide (x.2.2 = [])
set_option maxRecDepth 100000 in
theorem steps2_any (x : Chg3) (w : World) :
    Calls Tryz.prog 74 #[.agg #[S x.1, S x.2.1, S x.2.2]] w fun e w' => e = .returned (.bool (newB x)) ∧ Below w.heap.size w w' := by
  go_enter Tryz.func74, Tryz.ntmps74
  go_wp2
  go_ret
  refine ⟨ret_bool ?_, balloc (Below.refl _ w) _⟩
  unfold newB
  rw [Bool.eq_iff_iff]
  simp
def goneP (l : List Chg3) (t : List Fil) (p : List UInt8) : Bool := inWayB l p && decide (fid t p = [])
set_option maxHeartbeats 1000000 in
set_option maxRecDepth 100000 in
theorem steps1_any (A : Option Addr) (n c : Nat) (l : List Chg3) (T : Option Addr) (k ct : Nat) (t : List Fil) (p : List UInt8) (g8 g5 g : Nat) (w : World) (h8 : w.cell? ⟨g8, 0, none⟩ = some (.func (.func 141) #[] #[.pointer (some ⟨g, 0, none⟩)])) (h5 : w.cell? ⟨g5, 0, none⟩ = some (.slice T k ct)) (hg : w.cell? ⟨g, 0, none⟩ = some (.slice A n c))
    (hA : Sl w 3 A n (cgs l)) (hn : n ≤ 1000000000) (hT : Sl w 2 T k (fls t)) (hk : k ≤ 1000000000) (hp : p.length ≤ 2147483648) (hl : ∀ x ∈ l, x.1.length ≤ 2147483648) :
    Calls Tryz.prog 72 #[S p, .pointer (some ⟨g8, 0, none⟩), .pointer (some ⟨g5, 0, none⟩)] w fun e w' => e = .returned (.bool (goneP l t p)) ∧ Below w.heap.size w w' := by
  have C1 := inway1_any A n c l p g w hg hA hn hp hl
  have HT := Lib.hid hT
  have l5 : g5 < w.heap.size := World.block_lt_of_cell? _ _ h5
  clear hA hT hg hl
  rcases hd : inWayB l p with _ | _
  all_goals
    rw [hd] at C1
    have Hd := Lib.hid hd
    have C1' := Lib.hid C1
    clear C1 hd
    go_enter Tryz.func72, Tryz.ntmps72
    go_wp2_with fail
    refine C1'.out.mono ?_
    rintro e w1 ⟨rfl, b1⟩
    have B1 := Lib.hid b1
    have r5 := (b1.cell (p := ⟨g5, 0, none⟩) l5).trans h5
    have C2 := Lib.hid (treeFind_any T k ct t p w1 (HT.out.below b1) hk)
    clear b1
  · go_wp2
    go_ret
    exact ⟨ret_bool (by unfold goneP; rw [Hd.out]; rfl), B1.out⟩
  · go_wp2_with fail
    refine C2.out.mono ?_
    rintro e w2 ⟨rfl, b2⟩
    have B2 := Lib.hid (bstep B1.out b2)
    clear b2
    go_wp2
    go_ret
    refine ⟨ret_bool ?_, B2.out⟩
    unfold goneP
    rw [Hd.out, Bool.true_and, Bool.eq_iff_iff]
    simp
end Go.Proofs.YtphnfcgdpdimbaaGreatDoor
